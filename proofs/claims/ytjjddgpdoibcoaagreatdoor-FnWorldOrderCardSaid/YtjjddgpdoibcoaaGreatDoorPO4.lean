/- The plain machine with types: calls: names, views. The plain machine with types: calls. The plain machine with types: calls: what comes back. The plain machine with types: a call. The plain machine with types: a call, put together. The plain machine with types: what an operation looks at. The plain machine with types: one operation. The plain machine with types: one operation, put together. The plain machine with types: one operation is sound. The plain machine with types: regions. The plain machine with types: control. The plain machine with types: what is no more wanted is forgotten. -/
import Derived.Test.YtjjddgpdoibcoaaGreatDoorPO3
set_option linter.unusedSimpArgs false
set_option linter.unusedVariables false
namespace Go.Proofs.YtjjddgpdoibcoaaGreatDoor.Am
open Go Go.RowKit
def ConV (P:Program) (f:FuncId) (vs:List V) (hin:VH) (r:V) (hout:VH):Prop:=Con P f (toDL vs) (toH hin) r.toD (toH hout)
def CallA (P:Program) (f:FuncId) (vs:List V) (hin:VH) (K:V → VH → Prop):Prop:=∃ r hout,ConV P f vs hin r hout ∧ K r hout
def nameO (n:Nat):List Nat → Nat → Nat
 | [],i=>n + i
 | o :: _,0=>o
 | _ :: os,i + 1=>nameO n os i
def gN (os:List Nat) (n k:Nat):Nat:=match k with
 | 0=>0
 | 1=>1
 | 2=>2
 | 3=>3
 | k + 4=>nameO n os k
abbrev gI (g:Nat → Nat):Id → Id:=fun b=>(g b.1,b.2)
def osOK (os:List Nat) (n:Nat):Bool:=nodupN os && (os.all fun o=>Nat.ble 4 o && Nat.blt o n) && Nat.ble 4 n
theorem nameO_lt {n:Nat}:∀ {os:List Nat} {i b:Nat},os[i]? = some b → nameO n os i = b
 | [],i,b,h=>by simp at h
 | o :: os,0,b,h=>by simpa [nameO] using h
 | o :: os,i + 1,b,h=>by simpa [nameO] using nameO_lt (os:=os) (i:=i) (by simpa using h)
theorem nameO_ge {n:Nat}:∀ {os:List Nat} {i:Nat},os.length ≤ i → nameO n os i = n + (i - os.length)
 | [],i,_=>by simp [nameO]
 | o :: os,0,h=>by simp at h
 | o :: os,i + 1,h=>by
  have:=nameO_ge (n:=n) (os:=os) (i:=i) (by simpa using h)
  simp only [nameO,this,List.length_cons]
  omega
theorem gN_low (os:List Nat) (n:Nat) {k:Nat} (hk:k < 4):gN os n k = k:=by
 match k,hk with
 | 0,_ | 1,_ | 2,_ | 3,_=>rfl
theorem gN_high (os:List Nat) (n m:Nat):gN os n (4 + m) = nameO n os m:=by rw [Nat.add_comm];rfl
theorem osOK_ok {os:List Nat} {n:Nat} (h:osOK os n = true):os.Nodup ∧ (∀ o ∈ os,4 ≤ o ∧ o < n) ∧ 4 ≤ n:=by
 unfold osOK at h
 simp only [Bool.and_eq_true,List.all_eq_true] at h
 obtain ⟨⟨h1,h2⟩,h3⟩:=h
 exact ⟨nodupN_ok h1,fun o ho=>⟨Nat.le_of_ble_eq_true (h2 o ho).1,by have:=(h2 o ho).2;simpa [Nat.blt_eq] using this⟩,Nat.le_of_ble_eq_true h3⟩
theorem gN_case (os:List Nat) (n k:Nat):(k < 4 ∧ gN os n k = k) ∨ (∃ m b,k = 4 + m ∧ os[m]? = some b ∧ gN os n k = b) ∨ (∃ m,k = 4 + m ∧ os.length ≤ m ∧ gN os n k = n + (m - os.length)):=by
 by_cases hk:k < 4
 ·exact .inl ⟨hk,gN_low os n hk⟩
 ·obtain ⟨m,rfl⟩:∃ m,k = 4 + m:=⟨k - 4,by omega⟩
  rw [gN_high]
  by_cases hm:m < os.length
  ·exact .inr (.inl ⟨m,os[m],rfl,List.getElem?_eq_getElem hm,nameO_lt (List.getElem?_eq_getElem hm)⟩)
  ·exact .inr (.inr ⟨m,rfl,by omega,nameO_ge (by omega)⟩)
theorem gN_inj {os:List Nat} {n:Nat} (h:osOK os n = true) {a b:Nat} (he:gN os n a = gN os n b):a = b:=by
 obtain ⟨h1,h2,h3⟩:=osOK_ok h
 rcases gN_case os n a with ⟨a1,a2⟩ | ⟨m,x,rfl,a1,a2⟩ | ⟨m,rfl,a1,a2⟩ <;> rcases gN_case os n b with ⟨b1,b2⟩ | ⟨m',y,rfl,b1,b2⟩ | ⟨m',rfl,b1,b2⟩ <;> rw [a2,b2] at he
 ·exact he
 ·have:=h2 y (List.mem_of_getElem? b1);omega
 ·omega
 ·have:=h2 x (List.mem_of_getElem? a1);omega
 ·subst he
  have e1:=(List.getElem?_eq_some_iff.1 a1).1
  have:=(List.getElem?_inj e1 h1).1 (a1.trans b1.symm)
  omega
 ·have:=h2 x (List.mem_of_getElem? a1);omega
 ·omega
 ·have:=h2 y (List.mem_of_getElem? b1);omega
 ·omega
theorem gI_inj {os:List Nat} {n:Nat} (h:osOK os n = true) {a b:Id} (he:gI (gN os n) a = gI (gN os n) b):a = b:=by
 obtain ⟨a1,a2⟩:=a
 obtain ⟨b1,b2⟩:=b
 simp only [gI,Prod.mk.injEq] at he ⊢
 exact ⟨gN_inj h he.1,he.2⟩
def posK (b:Nat):List Nat → Nat → (Option Nat → Prop) → Prop
 | [],_,K=>K none
 | o :: os,i,K=>bif Nat.beq o b then K (some i) else natK (i + 1) fun i=>posK b os i K
theorem posK_ok {b:Nat}:∀ {os:List Nat} {i:Nat} {K:Option Nat → Prop},posK b os i K → ∃ r,(r = none → b ∉ os) ∧ (∀ j,r = some j → ∃ m,j = i + m ∧ os[m]? = some b) ∧ K r
 | [],i,K,hk=>⟨none,by simp,by simp,hk⟩
 | o :: os,i,K,hk=>by
  simp only [posK] at hk
  cases hb:Nat.beq o b with
  | true=>
   rw [hb] at hk
   obtain rfl:=Nat.eq_of_beq_eq_true hb
   exact ⟨some i,by simp,fun j hj=>⟨0,by simpa using hj.symm,rfl⟩,hk⟩
  | false=>
   rw [hb] at hk
   simp only [cond_false] at hk
   have hk:=natK_ok hk
   obtain ⟨r,h1,h2,h3⟩:=posK_ok hk
   refine ⟨r,fun hr hm=>?_,fun j hj=>?_,h3⟩
   ·rcases List.mem_cons.1 hm with rfl | hm
    ·simp at hb
    ·exact h1 hr hm
   ·obtain ⟨m,e1,e2⟩:=h2 j hj
    exact ⟨m + 1,by omega,by simpa using e2⟩
def Ty.fams:Ty → List Nat
 | .hr k | .hp k | .vtxo k | .pplm k | .nod k=>[k]
 | .pplo k k'=>[k,k']
 | _=>[]
def subL (a b:List Nat):Bool:=a.all fun x=>b.contains x
theorem subL_ok {a b:List Nat} (h:subL a b = true):∀ x ∈ a,x ∈ b:=by
 unfold subL at h
 rw [List.all_eq_true] at h
 intro x hx
 simpa using h x hx
mutual
def viewV (os fs:List Nat) (h:VH) (v:V) (K:V → List Nat → Prop):Prop:=
 match v with
 | .ref b=>posK b os 4 fun r=>(match r with
  | some i=>K (.ref i) []
  | none=>(match lookO h b with
   | some (.row _ t xs)=>Chk t.pure (K (.lst t xs) [b])
   | some (.froz t xs)=>K (.lst t xs) [b]
   | _=>False))
 | .ptr b o=>posK b os 4 fun r=>(match r with
  | some i=>K (.ptr i o) []
  | none=>(match lookO h b,o with
   | some (.fvb t x),0=>K (.box t x) [b]
   | _,_=>False))
 | .eptr b j o=>posK b os 4 fun r=>(match r with | some i=>K (.eptr i j o) [] | none=>False)
 | .vref b o m=>posK b os 4 fun r=>(match r with | some i=>K (.vref i o m) [] | none=>False)
 | .aptr b p j=>posK b os 4 fun r=>(match r with | some i=>K (.aptr i p j) [] | none=>False)
 | .fref k i=>Chk (fs.contains k) (K (.fref k i) [])
 | .fptr k i o=>Chk (fs.contains k) (K (.fptr k i o) [])
 | .feptr k i j o=>Chk (fs.contains k) (K (.feptr k i j o) [])
 | .faptr k i p j=>Chk (fs.contains k) (K (.faptr k i p j) [])
 | .hro k o=>(match fs.contains k with
  | true=>K (.hro k o) []
  | false=>Opt o False fun i=>(match lookO h k with
   | some (.frow _ t xss)=>Chk (t.pure && !os.contains k) (Get xss i fun xs=>K (.lst t xs) [k])
   | some (.frowx _ t xss)=>Chk (t.pure && !os.contains k) (Get xss i fun ox=>Opt ox False fun xs=>K (.lst t xs) [k])
   | _=>False))
 | .hpo k o=>Chk (fs.contains k) (K (.hpo k o) [])
 | .agg cs=>viewVs os fs h cs fun cs ws=>K (.agg cs) ws
 | .clo f cs=>viewVs os fs h cs fun cs ws=>K (.clo f cs) ws
 | .ifc T v=>viewV os fs h v fun v ws=>K (.ifc T v) ws
 | .nils=>K (.lst (.int .i64) []) []
 | .int k n=>K (.int k n) []
 | .bool b=>K (.bool b) []
 | .tt=>K .tt []
 | .ff=>K .ff []
 | .str s=>K (.str s) []
 | .lst t xs=>K (.lst t xs) []
 | .box t x=>K (.box t x) []
 | .nilp=>K .nilp []
 | .nilf=>K .nilf []
 | .nili=>K .nili []
 | .gv g=>K (.gv g) []
 | .obo t o=>K (.obo t o) []
 | .junk=>K .junk []
 | _=>False
def viewVs (os fs:List Nat) (h:VH) (l:List V) (K:List V → List Nat → Prop):Prop:=
 match l with
 | []=>K [] []
 | v :: l=>viewV os fs h v fun v ws=>viewVs os fs h l fun l ws'=>K (v :: l) (ws ++ ws')
end
def Rd1 (h:VH) (b:Nat):Prop:=(∃ E t,∃ xs:List (Ty.den t),t.pure = true ∧ look h b = some (.row E t xs)) ∨ (∃ t,∃ xs:List (Ty.den t),look h b = some (.froz t xs)) ∨ ∃ t,∃ x:Ty.den t,look h b = some (.fvb t x)
def RdF (h:VH) (b:Nat):Prop:=(∃ E t,∃ xs:List (List (Ty.den t)),look h b = some (.frow E t xs)) ∨ ∃ E t,∃ xs:List (Option (List (Ty.den t))),look h b = some (.frowx E t xs)
def RdOK (h:VH) (os fs:List Nat) (b:Nat):Prop:=b ∉ os ∧ (Rd1 h b ∨ (b ∉ fs ∧ RdF h b))
def Cov (h:VH) (ws:List Nat) (W:List Id):Prop:=∀ b ∈ ws,∀ i,Live (toH h) (b,i) → (b,i) ∈ W
structure HinOK (os fs:List Nat) (h:VH) (hin:HL):Prop where
 low:∀ k ∈ fs,k < 4
 sgl:∀ m b,os[m]? = some b → Live hin (4 + m,0)
 fam:∀ k ∈ fs,∀ i,Live (toH h) (k,i) → Live hin (k,i)
theorem vlive_sgl {os fs:List Nat} {n:Nat} {h:VH} {hin:HL} (H:HinOK os fs h hin) {m b:Nat} (hb:os[m]? = some b):VLive (toH h) (gI (gN os n)) hin fs (4 + m,0) ∧ gI (gN os n) (4 + m,0) = (b,0):=
 ⟨.inl (H.sgl m b hb),by simp only [gI,gN_high,nameO_lt hb]⟩
theorem vlive_fam {os fs:List Nat} {n:Nat} {h:VH} {hin:HL} (H:HinOK os fs h hin) {k:Nat} (hk:k ∈ fs) (i:Nat):VLive (toH h) (gI (gN os n)) hin fs (k,i) ∧ gI (gN os n) (k,i) = (k,i):=by
 have e:gI (gN os n) (k,i) = (k,i):=by simp only [gI,gN_low os n (H.low k hk)]
 exact ⟨.inr ⟨by rw [e];exact hk,fun hl=>H.fam k hk i (by rw [e] at hl;exact hl)⟩,e⟩
section
variable {os fs:List Nat} {n:Nat} {h:VH} {hin:HL} {W:List Id}
theorem view_ref (H:HinOK os fs h hin) {m b:Nat} (hb:os[m]? = some b):View (toH h) (gI (gN os n)) hin W fs (.ref (b,0)) (.ref (4 + m,0)):=by
 obtain ⟨h1,h2⟩:=vlive_sgl (n:=n) H hb
 have:=View.ref (W:=W) _ h1
 rwa [h2] at this
theorem view_ptr (H:HinOK os fs h hin) {m b:Nat} (hb:os[m]? = some b) (o:Nat):View (toH h) (gI (gN os n)) hin W fs (.ptr (b,0) o) (.ptr (4 + m,0) o):=by
 obtain ⟨h1,h2⟩:=vlive_sgl (n:=n) H hb
 have:=View.ptr (W:=W) _ o h1
 rwa [h2] at this
theorem view_eptr (H:HinOK os fs h hin) {m b:Nat} (hb:os[m]? = some b) (j o:Nat):View (toH h) (gI (gN os n)) hin W fs (.eptr (b,0) j o) (.eptr (4 + m,0) j o):=by
 obtain ⟨h1,h2⟩:=vlive_sgl (n:=n) H hb
 have:=View.eptr (W:=W) _ j o h1
 rwa [h2] at this
theorem view_vref (H:HinOK os fs h hin) {m b:Nat} (hb:os[m]? = some b) (o q:Nat):View (toH h) (gI (gN os n)) hin W fs (.vref (b,0) o q) (.vref (4 + m,0) o q):=by
 obtain ⟨h1,h2⟩:=vlive_sgl (n:=n) H hb
 have:=View.vref (W:=W) _ o q h1
 rwa [h2] at this
theorem view_fref (H:HinOK os fs h hin) {k:Nat} (hk:k ∈ fs) (i:Nat):View (toH h) (gI (gN os n)) hin W fs (.ref (k,i)) (.ref (k,i)):=by
 obtain ⟨h1,h2⟩:=vlive_fam (n:=n) H hk i
 have:=View.ref (W:=W) _ h1
 rwa [h2] at this
theorem view_fptr (H:HinOK os fs h hin) {k:Nat} (hk:k ∈ fs) (i o:Nat):View (toH h) (gI (gN os n)) hin W fs (.ptr (k,i) o) (.ptr (k,i) o):=by
 obtain ⟨h1,h2⟩:=vlive_fam (n:=n) H hk i
 have:=View.ptr (W:=W) _ o h1
 rwa [h2] at this
theorem view_feptr (H:HinOK os fs h hin) {k:Nat} (hk:k ∈ fs) (i j o:Nat):View (toH h) (gI (gN os n)) hin W fs (.eptr (k,i) j o) (.eptr (k,i) j o):=by
 obtain ⟨h1,h2⟩:=vlive_fam (n:=n) H hk i
 have:=View.eptr (W:=W) _ j o h1
 rwa [h2] at this
theorem view_hr (H:HinOK os fs h hin) {k:Nat} (hk:k ∈ fs) (o:Option Nat):View (toH h) (gI (gN os n)) hin W fs (hrD k o) (hrD k o):=by
 cases o with
 | none=>exact .pure 0 _ _ rfl (fun b hb=>by cases hb)
 | some i=>exact view_fref H hk i
theorem view_hp (H:HinOK os fs h hin) {k:Nat} (hk:k ∈ fs) (o:Option Nat):View (toH h) (gI (gN os n)) hin W fs (hpD k o) (hpD k o):=by
 cases o with
 | none=>exact .pure 0 _ _ rfl (fun b hb=>by cases hb)
 | some i=>exact view_fptr H hk i 0
theorem view_leaf {d d':D} {g:Id → Id} {hh:HL} (hd:leaf d = some d'):View hh g hin W fs d d':=.pure 0 _ _ hd (fun b hb=>by cases hb)
theorem view_agg {cs:List D} {g:Id → Id} {hh:HL} (hc:∀ c ∈ cs,View hh g hin W fs c c):View hh g hin W fs (.agg cs) (.agg cs):=.agg cs cs rfl fun i hi=>hc _ (getD_mem hi)
theorem view_enc (H:HinOK os fs h hin) {t:Ty} (ht:∀ k ∈ t.fams,k ∈ fs) (x:t.den):View (toH h) (gI (gN os n)) hin W fs (encD t x) (encD t x):=by
 by_cases hp:t.pure = true
 ·by_cases hag:∃ cs,encD t x = .agg cs
  ·obtain ⟨cs,he⟩:=hag
   have:=pure_leaf hp x
   rw [he] at this ⊢
   exact view_agg fun c hc=>view_leaf (this c hc)
  ·have hc:(encD t x).cells = [encD t x]:=cells_single fun cs hcs=>hag ⟨cs,hcs⟩
   exact view_leaf (pure_leaf hp x _ (by rw [hc];exact List.mem_singleton.2 rfl))
 ·have lf:∀ d:D,leaf d = some d → View (toH h) (gI (gN os n)) hin W fs d d:=fun d hd=>view_leaf hd
  cases t <;> simp only [Ty.pure,not_true_eq_false] at hp
  case hr k=>exact view_hr H (ht k (by simp [Ty.fams])) x
  case hp k=>exact view_hp H (ht k (by simp [Ty.fams])) x
  case vtxo k=>
   refine view_agg fun c hc=>?_
   simp only [List.mem_cons,List.not_mem_nil,or_false] at hc
   rcases hc with rfl | rfl | rfl | rfl
   ·exact lf _ rfl
   ·exact lf _ rfl
   ·exact view_hr H (ht k (by simp [Ty.fams])) _
   ·exact lf _ rfl
  case pplm k=>
   refine view_agg fun c hc=>?_
   simp only [vtxC,List.cons_append,List.nil_append,List.mem_cons,List.not_mem_nil,or_false] at hc
   rcases hc with rfl | rfl | rfl | rfl | rfl
   ·exact lf _ rfl
   ·exact lf _ rfl
   ·exact lf _ rfl
   ·exact lf _ rfl
   ·exact view_hr H (ht k (by simp [Ty.fams])) _
  case pplo k k'=>
   refine view_agg fun c hc=>?_
   simp only [List.mem_cons,List.not_mem_nil,or_false] at hc
   rcases hc with rfl | rfl | rfl | rfl | rfl
   ·exact lf _ rfl
   ·exact lf _ rfl
   ·exact view_hr H (ht k (by simp [Ty.fams])) _
   ·exact lf _ rfl
   ·exact view_hr H (ht k' (by simp [Ty.fams])) _
  case nod k=>
   refine view_agg fun c hc=>?_
   simp only [vtxC,List.cons_append,List.nil_append,List.mem_cons,List.not_mem_nil,or_false] at hc
   rcases hc with rfl | rfl | rfl | rfl | rfl | rfl
   ·exact lf _ rfl
   ·exact lf _ rfl
   ·exact lf _ rfl
   ·exact lf _ rfl
   ·exact lf _ rfl
   ·exact view_hr H (ht k (by simp [Ty.fams])) _
theorem view_rd {b:Nat} (hw:(b,0) ∈ W) {t:Ty} {xs:List t.den} {g:Id → Id} (hb:(∃ E,t.pure = true ∧ look h b = some (.row E t xs)) ∨ look h b = some (.froz t xs)):View (toH h) g hin W fs (.ref (b,0)) (.lst (xs.map (encD t))):=by
 refine .pure 1 _ _ ?_ fun c hc=>?_
 ·rcases hb with ⟨E,hp,hb⟩ | hb
  ·have hl:=look_at (i:=0) hb (d:=.row E (xs.map (encD t))) rfl
   simp only [purD,hl]
   rw [show (fun x=>leaf x) = leaf from rfl,row_pure hp]
   rfl
  ·have hl:=look_at (i:=0) hb (d:=.froz (xs.map (encD t))) rfl
   simp only [purD,hl]
 ·unfold idsD at hc
  rcases List.mem_cons.1 hc with rfl | hc
  ·exact hw
  ·exfalso
   split at hc
   ·rw [List.mem_flatMap] at hc
    obtain ⟨e,_,hc⟩:=hc
    rw [List.mem_flatMap] at hc
    obtain ⟨d,_,hc⟩:=hc
    cases hc
   ·cases hc
theorem view_rdf {b i:Nat} (hw:(b,i) ∈ W) {E:TypeId} {t:Ty} {xs:List t.den} {g:Id → Id} (hp:t.pure = true) (hl:look (toH h) (b,i) = some (.row E (xs.map (encD t)))):View (toH h) g hin W fs (.ref (b,i)) (.lst (xs.map (encD t))):=by
 refine .pure 1 _ _ ?_ fun c hc=>?_
 ·simp only [purD,hl]
  rw [show (fun x=>leaf x) = leaf from rfl,row_pure hp]
  rfl
 ·unfold idsD at hc
  rcases List.mem_cons.1 hc with rfl | hc
  ·exact hw
  ·exfalso
   split at hc
   ·rw [List.mem_flatMap] at hc
    obtain ⟨e,_,hc⟩:=hc
    rw [List.mem_flatMap] at hc
    obtain ⟨d,_,hc⟩:=hc
    cases hc
   ·cases hc
end
end Go.Proofs.YtjjddgpdoibcoaaGreatDoor.Am
namespace Go.Proofs.YtjjddgpdoibcoaaGreatDoor.Am
open Go Go.RowKit
variable {P:Program} {os fs:List Nat} {n:Nat} {h:VH}
def Vw (os fs:List Nat) (n:Nat) (h:VH) (ws:List Nat) (v v':V):Prop:=∀ hin,HinOK os fs h hin → ∀ W:List Id,Cov h ws W → View (toH h) (gI (gN os n)) hin W fs v.toD v'.toD
def Vws (os fs:List Nat) (n:Nat) (h:VH) (ws:List Nat) (l l':List V):Prop:=(toDL l).length = (toDL l').length ∧ ∀ hin,HinOK os fs h hin → ∀ W:List Id,Cov h ws W → ∀ i,i < (toDL l).length → View (toH h) (gI (gN os n)) hin W fs ((toDL l).getD i .undef) ((toDL l').getD i .undef)
theorem vw_leaf {v v':V} {ws:List Nat} (hd:leaf v.toD = some v'.toD):Vw os fs n h ws v v':=fun _ _ _ _=>view_leaf hd
mutual
theorem viewV_ok:∀ {v:V} {K:V → List Nat → Prop},viewV os fs h v K → ∃ v' ws,Vw os fs n h ws v v' ∧ (∀ b ∈ ws,RdOK h os fs b) ∧ K v' ws
 | .ref b,K,hk=>by
  simp only [viewV] at hk
  obtain ⟨r,r1,r2,hk⟩:=posK_ok hk
  split at hk
  ·obtain ⟨m,rfl,hm⟩:=r2 _ rfl
   exact ⟨_,_,fun hin H W _=>view_ref H hm,by simp,hk⟩
  ·split at hk
   ·rename_i E t xs hb
    obtain ⟨c,hk⟩:=hk.ok
    rw [lookO_ok] at hb
    exact ⟨_,_,fun hin H W hW=>view_rd (hW b (by simp) 0 (Live.of_look (look_at (i:=0) hb rfl))) (.inl ⟨E,c,hb⟩),fun b' hb'=>by simp at hb';subst hb';exact ⟨r1 rfl,.inl (.inl ⟨E,t,xs,c,hb⟩)⟩,hk⟩
   ·rename_i t xs hb
    rw [lookO_ok] at hb
    exact ⟨_,_,fun hin H W hW=>view_rd (hW b (by simp) 0 (Live.of_look (look_at (i:=0) hb rfl))) (.inr hb),fun b' hb'=>by simp at hb';subst hb';exact ⟨r1 rfl,.inl (.inr (.inl ⟨t,xs,hb⟩))⟩,hk⟩
   ·exact hk.elim
 | .ptr b o,K,hk=>by
  simp only [viewV] at hk
  obtain ⟨r,r1,r2,hk⟩:=posK_ok hk
  split at hk
  ·obtain ⟨m,rfl,hm⟩:=r2 _ rfl
   exact ⟨_,_,fun hin H W _=>view_ptr H hm o,by simp,hk⟩
  ·split at hk
   ·rename_i t x hb _
    rw [lookO_ok] at hb
    have hl:=look_at (i:=0) hb (d:=.fvar (encD t x).cells) rfl
    refine ⟨_,_,fun hin H W hW=>.pure 1 _ _ (by simp only [V.toD,purD,hl]) fun c hc=>?_,fun b' hb'=>by simp at hb';subst hb';exact ⟨r1 rfl,.inl (.inr (.inr ⟨t,x,hb⟩))⟩,hk⟩
    simp only [V.toD,idsD,hl,List.mem_cons,List.not_mem_nil,or_false] at hc
    subst hc
    exact hW b (by simp) 0 (Live.of_look hl)
   ·exact hk.elim
 | .eptr b j o,K,hk=>by
  simp only [viewV] at hk
  obtain ⟨r,r1,r2,hk⟩:=posK_ok hk
  split at hk
  ·obtain ⟨m,rfl,hm⟩:=r2 _ rfl
   exact ⟨_,_,fun hin H W _=>view_eptr H hm j o,by simp,hk⟩
  ·exact hk.elim
 | .vref b o q,K,hk=>by
  simp only [viewV] at hk
  obtain ⟨r,r1,r2,hk⟩:=posK_ok hk
  split at hk
  ·obtain ⟨m,rfl,hm⟩:=r2 _ rfl
   exact ⟨_,_,fun hin H W _=>view_vref H hm o q,by simp,hk⟩
  ·exact hk.elim
 | .aptr b p j,K,hk=>by
  simp only [viewV] at hk
  obtain ⟨r,r1,r2,hk⟩:=posK_ok hk
  split at hk
  ·obtain ⟨m,rfl,hm⟩:=r2 _ rfl
   exact ⟨_,_,fun hin H W _=>view_ptr H hm (p + j),by simp,hk⟩
  ·exact hk.elim
 | .fref k i,K,hk=>by
  simp only [viewV] at hk
  obtain ⟨c,hk⟩:=hk.ok
  exact ⟨_,_,fun hin H W _=>view_fref H (by simpa using c) i,by simp,hk⟩
 | .fptr k i o,K,hk=>by
  simp only [viewV] at hk
  obtain ⟨c,hk⟩:=hk.ok
  exact ⟨_,_,fun hin H W _=>view_fptr H (by simpa using c) i o,by simp,hk⟩
 | .feptr k i j o,K,hk=>by
  simp only [viewV] at hk
  obtain ⟨c,hk⟩:=hk.ok
  exact ⟨_,_,fun hin H W _=>view_feptr H (by simpa using c) i j o,by simp,hk⟩
 | .faptr k i p j,K,hk=>by
  simp only [viewV] at hk
  obtain ⟨c,hk⟩:=hk.ok
  exact ⟨_,_,fun hin H W _=>view_fptr H (by simpa using c) i (p + j),by simp,hk⟩
 | .hro k o,K,hk=>by
  simp only [viewV] at hk
  split at hk
  ·rename_i c
   exact ⟨_,_,fun hin H W _=>view_hr H (by simpa using c) o,by simp,hk⟩
  ·rename_i c
   have c:k ∉ fs:=by simpa using c
   cases o with
   | none=>exact (hk.1 rfl).elim
   | some i=>
    have hk:=hk.2 i rfl
    split at hk
    ·rename_i E t xss hb
     rw [lookO_ok] at hb
     obtain ⟨c2,xs,hxs,hk⟩:=hk.ok
     simp only [Bool.and_eq_true,Bool.not_eq_true',List.contains_eq_mem,decide_eq_false_iff_not] at c2
     have hl:=look_at (i:=i) hb (d:=.row E (xs.map (encD t))) (by simp only [VB.blks,List.getElem?_map,hxs,Option.map_some])
     exact ⟨_,_,fun hin H W hW=>view_rdf (hW k (by simp) i (Live.of_look hl)) c2.1 hl,fun b' hb'=>by simp at hb';subst hb';exact ⟨c2.2,.inr ⟨c,.inl ⟨E,t,xss,hb⟩⟩⟩,hk⟩
    ·rename_i E t xss hb
     rw [lookO_ok] at hb
     obtain ⟨c2,ox,hxs,hk⟩:=hk.ok
     simp only [Bool.and_eq_true,Bool.not_eq_true',List.contains_eq_mem,decide_eq_false_iff_not] at c2
     cases ox with
     | none=>exact (hk.1 rfl).elim
     | some xs=>
      have hk:=hk.2 xs rfl
      have hl:=look_at (i:=i) hb (d:=.row E (xs.map (encD t))) (by simp only [VB.blks,List.getElem?_map,hxs,Option.map_some,rowX])
      exact ⟨_,_,fun hin H W hW=>view_rdf (hW k (by simp) i (Live.of_look hl)) c2.1 hl,fun b' hb'=>by simp at hb';subst hb';exact ⟨c2.2,.inr ⟨c,.inr ⟨E,t,xss,hb⟩⟩⟩,hk⟩
    ·exact hk.elim
 | .hpo k o,K,hk=>by
  simp only [viewV] at hk
  obtain ⟨c,hk⟩:=hk.ok
  exact ⟨_,_,fun hin H W _=>view_hp H (by simpa using c) o,by simp,hk⟩
 | .agg cs,K,hk=>by
  simp only [viewV] at hk
  obtain ⟨cs',ws,h1,h2,h3⟩:=viewVs_ok hk
  exact ⟨_,ws,fun hin H W hW=>by simp only [V.toD];exact .agg _ _ h1.1 (h1.2 hin H W hW),h2,h3⟩
 | .clo f cs,K,hk=>by
  simp only [viewV] at hk
  obtain ⟨cs',ws,h1,h2,h3⟩:=viewVs_ok hk
  exact ⟨_,ws,fun hin H W hW=>by simp only [V.toD];exact .clo f _ _ h1.1 (h1.2 hin H W hW),h2,h3⟩
 | .ifc T v,K,hk=>by
  simp only [viewV] at hk
  obtain ⟨v',ws,h1,h2,h3⟩:=viewV_ok hk
  exact ⟨_,ws,fun hin H W hW=>by simp only [V.toD];exact .ifc T _ _ (h1 hin H W hW),h2,h3⟩
 | .nils,K,hk=>⟨_,[],vw_leaf (v':=.lst (.int .i64) []) rfl,by simp,by simpa only [viewV] using hk⟩
 | .int k m,K,hk=>⟨_,[],vw_leaf (v':=.int k m) rfl,by simp,by simpa only [viewV] using hk⟩
 | .bool b,K,hk=>⟨_,[],vw_leaf (v':=.bool b) rfl,by simp,by simpa only [viewV] using hk⟩
 | .tt,K,hk=>⟨_,[],vw_leaf (v':=.tt) rfl,by simp,by simpa only [viewV] using hk⟩
 | .ff,K,hk=>⟨_,[],vw_leaf (v':=.ff) rfl,by simp,by simpa only [viewV] using hk⟩
 | .str s,K,hk=>⟨_,[],vw_leaf (v':=.str s) rfl,by simp,by simpa only [viewV] using hk⟩
 | .lst t xs,K,hk=>⟨_,[],vw_leaf (v':=.lst t xs) rfl,by simp,by simpa only [viewV] using hk⟩
 | .box t x,K,hk=>⟨_,[],vw_leaf (v':=.box t x) rfl,by simp,by simpa only [viewV] using hk⟩
 | .nilp,K,hk=>⟨_,[],vw_leaf (v':=.nilp) rfl,by simp,by simpa only [viewV] using hk⟩
 | .nilf,K,hk=>⟨_,[],vw_leaf (v':=.nilf) rfl,by simp,by simpa only [viewV] using hk⟩
 | .nili,K,hk=>⟨_,[],vw_leaf (v':=.nili) rfl,by simp,by simpa only [viewV] using hk⟩
 | .obo t o,K,hk=>⟨_,[],vw_leaf (v':=.obo t o) (by cases o <;> rfl),by simp,by simpa only [viewV] using hk⟩
 | .junk,K,hk=>⟨_,[],fun _ _ _ _=>.junk,by simp,by simpa only [viewV] using hk⟩
 | .gv g,K,hk=>⟨.gv g,[],fun _ _ _ _=>.gv g,by simp,by simpa only [viewV] using hk⟩
 | .tup _,K,hk | .gp _,K,hk | .iptr ..,K,hk | .undef,K,hk=>by simp only [viewV] at hk
theorem viewVs_ok:∀ {l:List V} {K:List V → List Nat → Prop},viewVs os fs h l K → ∃ l' ws,Vws os fs n h ws l l' ∧ (∀ b ∈ ws,RdOK h os fs b) ∧ K l' ws
 | [],K,hk=>⟨[],[],⟨rfl,fun hin H W _ i hi=>by simp [toDL] at hi⟩,by simp,by simpa only [viewVs] using hk⟩
 | v :: l,K,hk=>by
  simp only [viewVs] at hk
  obtain ⟨v',ws,h1,h2,hk⟩:=viewV_ok hk
  obtain ⟨l',ws',h3,h4,hk⟩:=viewVs_ok hk
  refine ⟨v' :: l',ws ++ ws',⟨by simp only [toDL,List.length_cons,h3.1],fun hin H W hW i hi=>?_⟩,fun b hb=>?_,hk⟩
  ·cases i with
   | zero=>simpa [toDL] using h1 hin H W fun b hb=>hW b (List.mem_append_left _ hb)
   | succ i=>
    have:=h3.2 hin H W (fun b hb=>hW b (List.mem_append_right _ hb)) i (by simpa [toDL] using hi)
    simpa [toDL] using this
  ·rcases List.mem_append.1 hb with hb | hb
   ·exact h2 b hb
   ·exact h4 b hb
end
def viewNs (os fs:List Nat) (h:VH):List V → (List V → List Nat → Prop) → Prop
 | [],K=>K [] []
 | .nils :: l,K=>viewNs os fs h l fun l ws=>K (.nils :: l) ws
 | v :: l,K=>viewV os fs h v fun v' ws=>viewNs os fs h l fun l' ws'=>K (v' :: l') (ws ++ ws')
theorem viewNs_ok:∀ {l:List V} {K:List V → List Nat → Prop},viewNs os fs h l K → ∃ l' ws,Vws os fs n h ws l l' ∧ (∀ b ∈ ws,RdOK h os fs b) ∧ K l' ws
 | [],K,hk=>⟨[],[],⟨rfl,fun hin H W _ i hi=>by simp [toDL] at hi⟩,by simp,by simpa only [viewNs] using hk⟩
 | v :: l,K,hk=>by
  have key:∃ v' ws,Vw os fs n h ws v v' ∧ (∀ b ∈ ws,RdOK h os fs b) ∧ viewNs os fs h l fun l' ws'=>K (v' :: l') (ws ++ ws'):=by
   by_cases e:v = .nils
   ·subst e
    exact ⟨.nils,[],fun hin H W _=>.nils,by simp,by simpa only [viewNs,List.nil_append] using hk⟩
   ·have hk':viewV os fs h v fun v' ws=>viewNs os fs h l fun l' ws'=>K (v' :: l') (ws ++ ws'):=by
     cases v <;> first | exact hk | exact absurd rfl e
    obtain ⟨v',ws,h1,h2,hk⟩:=viewV_ok (n:=n) hk'
    exact ⟨v',ws,h1,h2,hk⟩
  obtain ⟨v',ws,h1,h2,hk⟩:=key
  obtain ⟨l',ws',h3,h4,hk⟩:=viewNs_ok hk
  refine ⟨v' :: l',ws ++ ws',⟨by simp only [toDL,List.length_cons,h3.1],fun hin H W hW i hi=>?_⟩,fun b hb=>?_,hk⟩
  ·cases i with
   | zero=>simpa [toDL] using h1 hin H W fun b hb=>hW b (List.mem_append_left _ hb)
   | succ i=>
    have:=h3.2 hin H W (fun b hb=>hW b (List.mem_append_right _ hb)) i (by simpa [toDL] using hi)
    simpa [toDL] using this
  ·rcases List.mem_append.1 hb with hb | hb
   ·exact h2 b hb
   ·exact h4 b hb
def viewBK (os fs:List Nat) (h:VH) (x:VB) (K:VB → List Nat → Prop):Prop:=
 match x with
 | .var T cs=>viewVs os fs h cs fun cs ws=>K (.var T cs) ws
 | .vari T pre m t xs post=>Chk (subL t.fams fs) (viewNs os fs h pre fun pre ws=>viewNs os fs h post fun post ws'=>K (.vari T pre m t xs post) (ws ++ ws'))
 | .row E t xs=>Chk (subL t.fams fs) (K (.row E t xs) [])
 | .lit E vs=>viewVs os fs h vs fun vs ws=>K (.lit E vs) ws
 | _=>False
def VwB (os fs:List Nat) (n:Nat) (h:VH) (ws:List Nat) (x x':VB):Prop:=∃ d d',x.blks = [d] ∧ x'.blks = [d'] ∧ ∀ hin,HinOK os fs h hin → ∀ W:List Id,Cov h ws W → ViewB (toH h) (gI (gN os n)) hin W fs d d'
theorem getD_app1 {A B:List D} {i:Nat} (hi:i < A.length):(A ++ B).getD i .undef = A.getD i .undef:=by simp [List.getD_eq_getElem?_getD,List.getElem?_append_left hi]
theorem getD_app2 {A B:List D} {i:Nat} (hi:A.length ≤ i):(A ++ B).getD i .undef = B.getD (i - A.length) .undef:=by simp [List.getD_eq_getElem?_getD,List.getElem?_append_right hi]
theorem viewBK_ok {x:VB} {K:VB → List Nat → Prop} (hk:viewBK os fs h x K):∃ x' ws,VwB os fs n h ws x x' ∧ (∀ b ∈ ws,RdOK h os fs b) ∧ K x' ws:=by
 unfold viewBK at hk
 split at hk
 ·rename_i T cs
  obtain ⟨cs',ws,h1,h2,hk⟩:=viewVs_ok (n:=n) hk
  exact ⟨_,ws,⟨_,_,rfl,rfl,fun hin H W hW=>.var T _ _ h1.1 (h1.2 hin H W hW)⟩,h2,hk⟩
 ·rename_i T pre m t xs post
  obtain ⟨c,hk⟩:=hk.ok
  obtain ⟨pre',ws,h1,h2,hk⟩:=viewNs_ok (n:=n) hk
  obtain ⟨post',ws',h3,h4,hk⟩:=viewNs_ok (n:=n) hk
  refine ⟨_,ws ++ ws',⟨_,_,rfl,rfl,fun hin H W hW=>.var T _ _ ?_ fun i hi=>?_⟩,fun b hb=>(List.mem_append.1 hb).elim (h2 b) (h4 b),hk⟩
  ·simp only [List.length_append,h1.1,h3.1]
  ·have g1:=h1.2 hin H W (fun b hb=>hW b (List.mem_append_left _ hb))
   have g3:=h3.2 hin H W (fun b hb=>hW b (List.mem_append_right _ hb))
   by_cases c1:i < (toDL pre).length
   ·rw [List.append_assoc,List.append_assoc,getD_app1 (A:=toDL pre) c1,getD_app1 (A:=toDL pre') (by rw [← h1.1];exact c1)]
    exact g1 i c1
   ·rw [List.append_assoc,List.append_assoc,getD_app2 (A:=toDL pre) (by omega),getD_app2 (A:=toDL pre') (by rw [← h1.1];omega),← h1.1]
    simp only [List.length_append] at hi
    by_cases c2:i - (toDL pre).length < (xs.map (encD t)).length
    ·rw [getD_app1 c2,getD_app1 c2]
     obtain ⟨e,he,hee⟩:=List.mem_map.1 (getD_mem c2)
     rw [← hee]
     exact view_enc H (subL_ok c) e
    ·rw [getD_app2 (by omega),getD_app2 (by omega)]
     exact g3 _ (by omega)
 ·rename_i E t xs
  obtain ⟨c,hk⟩:=hk.ok
  refine ⟨_,[],⟨_,_,rfl,rfl,fun hin H W hW=>.row E _ _ rfl fun i hi=>?_⟩,by simp,hk⟩
  obtain ⟨e,he,hee⟩:=List.mem_map.1 (getD_mem hi)
  rw [← hee]
  exact view_enc H (subL_ok c) e
 ·rename_i E cs
  obtain ⟨cs',ws,h1,h2,hk⟩:=viewVs_ok (n:=n) hk
  exact ⟨_,ws,⟨_,_,rfl,rfl,fun hin H W hW=>.row E _ _ h1.1 (h1.2 hin H W hW)⟩,h2,hk⟩
 ·exact hk.elim
def sglsK (os fs:List Nat) (h:VH):List Nat → Nat → (VH → List Nat → Prop) → Prop
 | [],_,K=>K [] []
 | b :: l,i,K=>blkK h b fun x=>viewBK os fs h x fun x' ws=>natK (i + 1) fun j=>sglsK os fs h l j fun r ws'=>K ((i,x') :: r) (ws ++ ws')
theorem sglsK_ok:∀ {l:List Nat} {i:Nat} {K:VH → List Nat → Prop},sglsK os fs h l i K → ∃ hs ws,(∀ k x,look hs k = some x → ∃ m,k = i + m ∧ m < l.length) ∧ (∀ m b,l[m]? = some b → ∃ x x',look h b = some x ∧ look hs (i + m) = some x' ∧ VwB os fs n h ws x x') ∧ (∀ b ∈ ws,RdOK h os fs b) ∧ K hs ws
 | [],i,K,hk=>⟨[],[],(fun k x hx=>by cases hx),by simp,by simp,hk⟩
 | b :: l,i,K,hk=>by
  obtain ⟨x,hx,hk⟩:=blkK_ok hk
  obtain ⟨x',ws,h1,h2,hk⟩:=viewBK_ok (n:=n) hk
  obtain ⟨hs,ws',h3,h4,h5,hk⟩:=sglsK_ok (natK_ok hk)
  refine ⟨(i,x') :: hs,ws ++ ws',fun k y hy=>?_,fun m b' hm=>?_,fun b hb=>(List.mem_append.1 hb).elim (h2 b) (h5 b),hk⟩
  ·simp only [look] at hy
   split at hy
   ·rename_i e;exact ⟨0,by omega,by simp⟩
   ·obtain ⟨m,e1,e2⟩:=h3 k y hy
    exact ⟨m + 1,by omega,by simpa using e2⟩
  ·cases m with
   | zero=>
    simp only [List.getElem?_cons_zero,Option.some.injEq] at hm
    subst hm
    obtain ⟨d,d',e1,e2,e3⟩:=h1
    exact ⟨x,x',hx,by simp [look],d,d',e1,e2,fun hin H W hW=>e3 hin H W fun b hb=>hW b (List.mem_append_left _ hb)⟩
   | succ m=>
    obtain ⟨y,y',q1,q2,d,d',e1,e2,e3⟩:=h4 m b' (by simpa using hm)
    refine ⟨y,y',q1,?_,d,d',e1,e2,fun hin H W hW=>e3 hin H W fun b hb=>hW b (List.mem_append_right _ hb)⟩
    simp only [look]
    rw [if_neg (by omega),show i + (m + 1) = i + 1 + m by omega]
    exact q2
def VB.fams:VB → List Nat
 | .vari _ _ _ t _ _=>t.fams
 | .row _ t _=>t.fams
 | .fvar _ t _=>t.fams
 | .fvari _ _ t _=>t.fams
 | .frow _ t _=>t.fams
 | .frowx _ t _=>t.fams
 | _=>[]
def famsK (fs:List Nat) (h:VH):List Nat → (VH → Prop) → Prop
 | [],K=>K []
 | k :: l,K=>blkK h k fun x=>Chk (!x.sgl && subL x.fams fs) (famsK fs h l fun r=>K ((k,x) :: r))
theorem famsK_ok:∀ {l:List Nat} {K:VH → Prop},famsK fs h l K → ∃ hf,(∀ k x,look hf k = some x → k ∈ l ∧ look h k = some x ∧ x.sgl = false ∧ ∀ j ∈ x.fams,j ∈ fs) ∧ (∀ k ∈ l,∃ x,look hf k = some x) ∧ K hf
 | [],K,hk=>⟨[],(fun k x hx=>by cases hx),by simp,hk⟩
 | k :: l,K,hk=>by
  obtain ⟨x,hx,hk⟩:=blkK_ok hk
  obtain ⟨c,hk⟩:=hk.ok
  simp only [Bool.and_eq_true,Bool.not_eq_true'] at c
  obtain ⟨hf,h1,h2,hk⟩:=famsK_ok hk
  refine ⟨(k,x) :: hf,fun j y hy=>?_,fun j hj=>?_,hk⟩
  ·simp only [look] at hy
   split at hy
   ·rename_i e
    simp only [Option.some.injEq] at hy
    subst hy e
    exact ⟨List.mem_cons_self ..,hx,c.1,subL_ok c.2⟩
   ·obtain ⟨q1,q2⟩:=h1 j y hy
    exact ⟨List.mem_cons_of_mem _ q1,q2⟩
  ·simp only [look]
   by_cases e:j = k
   ·exact ⟨x,by rw [if_pos e]⟩
   ·rw [if_neg e]
    rcases List.mem_cons.1 hj with rfl | hj
    ·exact absurd rfl e
    ·exact h2 j hj
theorem view_fam {x:VB} {hin:HL} {W:List Id} (H:HinOK os fs h hin) (hs:x.sgl = false) (hf:∀ j ∈ x.fams,j ∈ fs):∀ d ∈ x.blks,ViewB (toH h) (gI (gN os n)) hin W fs d d:=by
 intro d hd
 have key:∀ (t:Ty) (xs:List t.den),(∀ k ∈ t.fams,k ∈ fs) → ∀ i,i < (xs.map (encD t)).length → View (toH h) (gI (gN os n)) hin W fs ((xs.map (encD t)).getD i .undef) ((xs.map (encD t)).getD i .undef):=by
  intro t xs ht i hi
  obtain ⟨e,he,hee⟩:=List.mem_map.1 (getD_mem hi)
  rw [← hee]
  exact view_enc H ht e
 cases x <;> simp [VB.sgl] at hs
 ·rename_i T t xs
  obtain ⟨e,_,rfl⟩:=List.mem_map.1 hd
  refine .var T _ _ rfl fun i hi=>?_
  have hv:View (toH h) (gI (gN os n)) hin W fs (encD t e) (encD t e):=view_enc H hf e
  exact (hv.wf (encD_wf t e)).2 i (by rw [← (encD_wf t e).1];exact hi)
 ·rename_i T m t xss
  obtain ⟨xs,_,rfl⟩:=List.mem_map.1 hd
  exact .var T _ _ rfl (key t xs hf)
 ·rename_i E t xss
  obtain ⟨xs,_,rfl⟩:=List.mem_map.1 hd
  exact .row E _ _ rfl (key t xs hf)
 ·rename_i E t xss
  obtain ⟨xs,_,rfl⟩:=List.mem_map.1 hd
  cases xs with
  | none=>exact .gone
  | some xs=>exact .row E _ _ rfl (key t xs hf)
end Go.Proofs.YtjjddgpdoibcoaaGreatDoor.Am
namespace Go.Proofs.YtjjddgpdoibcoaaGreatDoor.Am
open Go Go.RowKit
variable {P:Program} {os fs:List Nat} {n:Nat} {h:VH}
mutual
def noMemV:V → Bool
 | .lst .. | .box .. | .iptr .. | .obo .. | .gp _ | .gv _=>false
 | .agg cs=>noMemVs cs
 | .tup cs=>noMemVs cs
 | .clo _ cs=>noMemVs cs
 | .ifc _ v=>noMemV v
 | _=>true
def noMemVs:List V → Bool
 | []=>true
 | v :: l=>noMemV v && noMemVs l
end
theorem noMem_hr (k:Nat) (o:Option Nat):noMem (hrD k o) = true:=by cases o <;> rfl
theorem noMem_hp (k:Nat) (o:Option Nat):noMem (hpD k o) = true:=by cases o <;> rfl
mutual
theorem noMemV_ok:∀ v:V,noMemV v = true → noMem v.toD = true
 | .agg cs,hv=>by simp only [noMemV] at hv;simp only [V.toD,noMem,noMemVs_ok cs hv]
 | .tup cs,hv=>by simp only [noMemV] at hv;simp only [V.toD,noMem,noMemVs_ok cs hv]
 | .clo f cs,hv=>by simp only [noMemV] at hv;simp only [V.toD,noMem,noMemVs_ok cs hv]
 | .ifc T v,hv=>by simp only [noMemV] at hv;simp only [V.toD,noMem,noMemV_ok v hv]
 | .hro k o,_=>noMem_hr k o
 | .hpo k o,_=>noMem_hp k o
 | .lst ..,hv | .box ..,hv | .iptr ..,hv | .obo ..,hv | .gp _,hv | .gv _,hv=>by simp only [noMemV] at hv;cases hv
 | .int ..,_ | .bool _,_ | .tt,_ | .ff,_ | .str _,_ | .nilp,_ | .nils,_ | .nilf,_ | .nili,_ | .ref _,_ | .ptr ..,_ | .eptr ..,_ | .vref ..,_ | .aptr ..,_ | .fref ..,_ | .fptr ..,_ | .feptr ..,_ | .faptr ..,_ | .undef,_ | .junk,_=>by simp only [V.toD,noMem]
theorem noMemVs_ok:∀ l:List V,noMemVs l = true → noMemL (toDL l) = true
 | [],_=>rfl
 | v :: l,hv=>by
  simp only [noMemVs,Bool.and_eq_true] at hv
  simp only [toDL,noMemL,noMemV_ok v hv.1,noMemVs_ok l hv.2,Bool.and_self]
end
def Ty.flat:Ty → Bool
 | .int _ | .bool | .str | .txn | .slt | .hr _ | .hp _=>true
 | _=>false
theorem flat_noMem {t:Ty} (h:t.flat = true) (x:t.den):(encD t x).cells.all noMem = true:=by
 cases t <;> first | (cases h;done) | rfl | skip
 ·simp only [encD,(hrD_one _ x).2];simp [noMem_hr]
 ·simp only [encD,(hpD_one _ x).2];simp [noMem_hp]
theorem flat_noMem' {t:Ty} (h:t.flat = true) (x:t.den):noMem (encD t x) = true:=by
 cases t <;> first | (cases h;done) | rfl | skip
 ·exact noMem_hr _ x
 ·exact noMem_hp _ x
def noMemVB:VB → Bool
 | .var _ cs=>noMemVs cs
 | .vari _ pre _ t _ post=>noMemVs pre && noMemVs post && t.flat
 | .row _ t _=>t.flat
 | .lit _ vs=>vs.all fun v=>noMemVs v.cells
 | .froz _ _ | .fvb _ _=>false
 | .fvar _ t _=>t.flat
 | .fvari _ _ t _=>t.flat
 | .frow _ t _=>t.flat
 | .frowx _ t _=>t.flat
 | .moved .. | .gone=>true
theorem noMemL_iff (l:List D):noMemL l = true ↔ ∀ d ∈ l,noMem d = true:=by rw [noMemL_all,List.all_eq_true]
theorem noMemVB_ok {x:VB} (h:noMemVB x = true):∀ d ∈ x.blks,noMemB d = true:=by
 intro d hd
 have kc:∀ (t:Ty) (xs:List t.den),t.flat = true → ∀ e ∈ xs.map (encD t),e.cells.all noMem = true:=by
  intro t xs ht e he
  obtain ⟨x,_,rfl⟩:=List.mem_map.1 he
  exact flat_noMem ht x
 have kd:∀ (t:Ty) (xs:List t.den),t.flat = true → ∀ e ∈ xs.map (encD t),noMem e = true:=by
  intro t xs ht e he
  obtain ⟨x,_,rfl⟩:=List.mem_map.1 he
  exact flat_noMem' ht x
 cases x with
 | var T cs=>
  obtain rfl:=List.mem_singleton.1 hd
  simp only [noMemB,← noMemL_all]
  exact noMemVs_ok cs h
 | vari T pre m t xs post=>
  obtain rfl:=List.mem_singleton.1 hd
  simp only [noMemVB,Bool.and_eq_true] at h
  simp only [noMemB,List.all_append,← noMemL_all,noMemVs_ok _ h.1.1,noMemVs_ok _ h.1.2,Bool.true_and,Bool.and_true]
  rw [noMemL_iff]
  exact kd t xs h.2
 | row E t xs=>
  obtain rfl:=List.mem_singleton.1 hd
  simp only [noMemB,List.all_eq_true]
  intro e he
  exact List.all_eq_true.1 (kc t xs h e he)
 | lit E vs=>
  obtain rfl:=List.mem_singleton.1 hd
  simp only [noMemVB,List.all_eq_true] at h
  simp only [noMemB,toDL_eq,List.all_map,List.all_eq_true]
  intro v hv
  have:=noMemVs_ok _ (h v hv)
  rw [noMemL_all] at this
  simp only [Function.comp,toD_cells]
  exact this
 | froz t xs=>cases h
 | fvb t x=>cases h
 | fvar T t xs=>
  obtain ⟨e,_,rfl⟩:=List.mem_map.1 hd
  exact flat_noMem h e
 | fvari T m t xss=>
  obtain ⟨xs,_,rfl⟩:=List.mem_map.1 hd
  simp only [noMemB,List.all_eq_true]
  exact kd t xs h
 | frow E t xss=>
  obtain ⟨xs,_,rfl⟩:=List.mem_map.1 hd
  simp only [noMemB,List.all_eq_true]
  intro e he
  exact List.all_eq_true.1 (kc t xs h e he)
 | frowx E t xss=>
  obtain ⟨xs,_,rfl⟩:=List.mem_map.1 hd
  cases xs with
  | none=>rfl
  | some xs=>
   simp only [rowX,noMemB,List.all_eq_true]
   intro e he
   exact List.all_eq_true.1 (kc t xs h e he)
 | moved k i=>obtain rfl:=List.mem_singleton.1 hd;rfl
 | gone=>obtain rfl:=List.mem_singleton.1 hd;rfl
mutual
def renK (g:Nat → Nat) (v:V) (K:V → Prop):Prop:=
 match v with
 | .ref b=>natK (g b) fun b=>K (.ref b)
 | .vref b o n=>natK (g b) fun b=>K (.vref b o n)
 | .ptr b o=>natK (g b) fun b=>K (.ptr b o)
 | .eptr b i o=>natK (g b) fun b=>K (.eptr b i o)
 | .aptr b p i=>natK (g b) fun b=>K (.aptr b p i)
 | .fref k i=>Chk (Nat.beq (g k) k) (K (.fref k i))
 | .fptr k i o=>Chk (Nat.beq (g k) k) (K (.fptr k i o))
 | .feptr k i j o=>Chk (Nat.beq (g k) k) (K (.feptr k i j o))
 | .faptr k i p j=>Chk (Nat.beq (g k) k) (K (.faptr k i p j))
 | .hro k o=>Chk (Nat.beq (g k) k) (K (.hro k o))
 | .hpo k o=>Chk (Nat.beq (g k) k) (K (.hpo k o))
 | .agg cs=>rensK g cs fun cs=>K (.agg cs)
 | .tup cs=>rensK g cs fun cs=>K (.tup cs)
 | .clo f cs=>rensK g cs fun cs=>K (.clo f cs)
 | .ifc T v=>renK g v fun v=>K (.ifc T v)
 | .int k n=>K (.int k n)
 | .bool b=>K (.bool b)
 | .tt=>K .tt
 | .ff=>K .ff
 | .str s=>K (.str s)
 | .lst t xs=>K (.lst t xs)
 | .box t x=>K (.box t x)
 | .nilp=>K .nilp
 | .nils=>K .nils
 | .nilf=>K .nilf
 | .nili=>K .nili
 | .gp g=>K (.gp g)
 | .gv g=>K (.gv g)
 | .iptr t x o=>K (.iptr t x o)
 | .obo t o=>K (.obo t o)
 | .undef=>K .undef
 | .junk=>K .junk
def rensK (g:Nat → Nat) (l:List V) (K:List V → Prop):Prop:=
 match l with
 | []=>K []
 | v :: l=>renK g v fun v=>rensK g l fun l=>K (v :: l)
end
theorem ren_hr {g:Nat → Nat} {k:Nat} (hk:g k = k) (o:Option Nat):renD (gI g) (hrD k o) = hrD k o:=by
 cases o with
 | none=>rfl
 | some i=>simp [hrD,renD,hk]
theorem ren_hp {g:Nat → Nat} {k:Nat} (hk:g k = k) (o:Option Nat):renD (gI g) (hpD k o) = hpD k o:=by
 cases o with
 | none=>rfl
 | some i=>simp [hpD,renD,hk]
mutual
theorem renK_ok {g:Nat → Nat}:∀ {v:V} {K:V → Prop},renK g v K → ∃ r,renD (gI g) v.toD = r.toD ∧ K r
 | .ref b,K,h=>⟨.ref (g b),rfl,natK_ok (by simpa only [renK] using h)⟩
 | .vref b o n,K,h=>⟨.vref (g b) o n,rfl,natK_ok (by simpa only [renK] using h)⟩
 | .ptr b o,K,h=>⟨.ptr (g b) o,rfl,natK_ok (by simpa only [renK] using h)⟩
 | .eptr b i o,K,h=>⟨.eptr (g b) i o,rfl,natK_ok (by simpa only [renK] using h)⟩
 | .aptr b p i,K,h=>⟨.aptr (g b) p i,rfl,natK_ok (by simpa only [renK] using h)⟩
 | .fref k i,K,h=>by simp only [renK] at h;obtain ⟨c,h⟩:=h.ok;exact ⟨.fref k i,by simp [V.toD,renD,Nat.eq_of_beq_eq_true c],h⟩
 | .fptr k i o,K,h=>by simp only [renK] at h;obtain ⟨c,h⟩:=h.ok;exact ⟨.fptr k i o,by simp [V.toD,renD,Nat.eq_of_beq_eq_true c],h⟩
 | .feptr k i j o,K,h=>by simp only [renK] at h;obtain ⟨c,h⟩:=h.ok;exact ⟨.feptr k i j o,by simp [V.toD,renD,Nat.eq_of_beq_eq_true c],h⟩
 | .faptr k i p j,K,h=>by simp only [renK] at h;obtain ⟨c,h⟩:=h.ok;exact ⟨.faptr k i p j,by simp [V.toD,renD,Nat.eq_of_beq_eq_true c],h⟩
 | .hro k o,K,h=>by simp only [renK] at h;obtain ⟨c,h⟩:=h.ok;exact ⟨.hro k o,ren_hr (Nat.eq_of_beq_eq_true c) o,h⟩
 | .hpo k o,K,h=>by simp only [renK] at h;obtain ⟨c,h⟩:=h.ok;exact ⟨.hpo k o,ren_hp (Nat.eq_of_beq_eq_true c) o,h⟩
 | .agg cs,K,h=>by
  simp only [renK] at h
  obtain ⟨r,h1,h2⟩:=rensK_ok h
  exact ⟨.agg r,by simp only [V.toD,renD,h1],h2⟩
 | .tup cs,K,h=>by
  simp only [renK] at h
  obtain ⟨r,h1,h2⟩:=rensK_ok h
  exact ⟨.tup r,by simp only [V.toD,renD,h1],h2⟩
 | .clo f cs,K,h=>by
  simp only [renK] at h
  obtain ⟨r,h1,h2⟩:=rensK_ok h
  exact ⟨.clo f r,by simp only [V.toD,renD,h1],h2⟩
 | .ifc T v,K,h=>by
  simp only [renK] at h
  obtain ⟨r,h1,h2⟩:=renK_ok h
  exact ⟨.ifc T r,by simp only [V.toD,renD,h1],h2⟩
 | .int k n,K,h=>⟨.int k n,rfl,by simpa only [renK] using h⟩
 | .bool b,K,h=>⟨.bool b,rfl,by simpa only [renK] using h⟩
 | .tt,K,h=>⟨.tt,rfl,by simpa only [renK] using h⟩
 | .ff,K,h=>⟨.ff,rfl,by simpa only [renK] using h⟩
 | .str s,K,h=>⟨.str s,rfl,by simpa only [renK] using h⟩
 | .lst t xs,K,h=>⟨.lst t xs,rfl,by simpa only [renK] using h⟩
 | .box t x,K,h=>⟨.box t x,rfl,by simpa only [renK] using h⟩
 | .nilp,K,h=>⟨.nilp,rfl,by simpa only [renK] using h⟩
 | .nils,K,h=>⟨.nils,rfl,by simpa only [renK] using h⟩
 | .nilf,K,h=>⟨.nilf,rfl,by simpa only [renK] using h⟩
 | .nili,K,h=>⟨.nili,rfl,by simpa only [renK] using h⟩
 | .gp g,K,h=>⟨.gp g,rfl,by simpa only [renK] using h⟩
 | .gv g,K,h=>⟨.gv g,rfl,by simpa only [renK] using h⟩
 | .iptr t x o,K,h=>⟨.iptr t x o,rfl,by simpa only [renK] using h⟩
 | .obo t o,K,h=>⟨.obo t o,by cases o <;> rfl,by simpa only [renK] using h⟩
 | .undef,K,h=>⟨.undef,rfl,by simpa only [renK] using h⟩
 | .junk,K,h=>⟨.junk,rfl,by simpa only [renK] using h⟩
theorem rensK_ok {g:Nat → Nat}:∀ {l:List V} {K:List V → Prop},rensK g l K → ∃ r,renL (gI g) (toDL l) = toDL r ∧ K r
 | [],K,h=>⟨[],rfl,by simpa only [rensK] using h⟩
 | v :: l,K,h=>by
  simp only [rensK] at h
  obtain ⟨v',h1,h2⟩:=renK_ok h
  obtain ⟨l',h3,h4⟩:=rensK_ok h2
  exact ⟨v' :: l',by simp only [toDL,renL,h1,h3],h4⟩
end
def fixB (g:Nat → Nat) (l:List Nat):Bool:=l.all fun k=>Nat.beq (g k) k
theorem fixB_ok {g:Nat → Nat} {l:List Nat} (h:fixB g l = true):∀ k ∈ l,g k = k:=by
 unfold fixB at h
 rw [List.all_eq_true] at h
 exact fun k hk=>Nat.eq_of_beq_eq_true (h k hk)
theorem ren_enc {g:Nat → Nat} {t:Ty} (ht:∀ k ∈ t.fams,g k = k) (x:t.den):renD (gI g) (encD t x) = encD t x:=by
 cases t <;> try rfl
 case ob t=>cases x <;> rfl
 case hr k=>exact ren_hr (ht k (by simp [Ty.fams])) x
 case hp k=>exact ren_hp (ht k (by simp [Ty.fams])) x
 case vtxo k=>simp only [encD,renD,renL,ren_hr (ht k (by simp [Ty.fams]))]
 case pplm k=>simp only [encD,vtxC,List.cons_append,List.nil_append,renD,renL,ren_hr (ht k (by simp [Ty.fams])),intsD]
 case pplo k k'=>simp only [encD,renD,renL,ren_hr (ht k (by simp [Ty.fams])),ren_hr (ht k' (by simp [Ty.fams]))]
 case nod k=>simp only [encD,vtxC,List.cons_append,List.nil_append,renD,renL,ren_hr (ht k (by simp [Ty.fams])),intsD]
def renBK (g:Nat → Nat) (x:VB) (K:VB → Prop):Prop:=
 match x with
 | .var T cs=>rensK g cs fun cs=>K (.var T cs)
 | .vari T pre m t xs post=>Chk (fixB g t.fams) (rensK g pre fun pre=>rensK g post fun post=>K (.vari T pre m t xs post))
 | .row E t xs=>Chk (fixB g t.fams) (K (.row E t xs))
 | .lit E vs=>rensK g vs fun vs=>K (.lit E vs)
 | .froz t xs=>K (.froz t xs)
 | .fvb t x=>K (.fvb t x)
 | .fvar T t xs=>Chk (fixB g t.fams) (K (.fvar T t xs))
 | .fvari T m t xss=>Chk (fixB g t.fams) (K (.fvari T m t xss))
 | .frow E t xss=>Chk (fixB g t.fams) (K (.frow E t xss))
 | .frowx E t xss=>Chk (fixB g t.fams) (K (.frowx E t xss))
 | .moved k i=>natK (g k) fun k=>K (.moved k i)
 | .gone=>K .gone
theorem ren_map {g:Nat → Nat} {t:Ty} (ht:∀ k ∈ t.fams,g k = k) (xs:List t.den):(xs.map (encD t)).map (renD (gI g)) = xs.map (encD t):=by
 rw [List.map_map]
 exact List.map_congr_left fun x _=>ren_enc ht x
theorem renBK_ok {g:Nat → Nat} {x:VB} {K:VB → Prop} (h:renBK g x K):∃ y,y.blks = x.blks.map (renB (gI g)) ∧ K y:=by
 unfold renBK at h
 split at h
 ·obtain ⟨r,h1,h2⟩:=rensK_ok h
  exact ⟨_,by simp only [VB.blks,List.map_cons,List.map_nil,renB,← renL_eq,h1],h2⟩
 ·rename_i T pre m t xs post
  obtain ⟨c,h⟩:=h.ok
  obtain ⟨r,h1,h2⟩:=rensK_ok h
  obtain ⟨r2,h3,h4⟩:=rensK_ok h2
  refine ⟨_,?_,h4⟩
  rw [renL_eq] at h1 h3
  simp only [VB.blks,List.map_cons,List.map_nil,renB,List.map_append,h1,h3,ren_map (fixB_ok c)]
 ·rename_i E t xs
  obtain ⟨c,h⟩:=h.ok
  exact ⟨_,by simp only [VB.blks,List.map_cons,List.map_nil,renB,ren_map (fixB_ok c)],h⟩
 ·obtain ⟨r,h1,h2⟩:=rensK_ok h
  exact ⟨_,by simp only [VB.blks,List.map_cons,List.map_nil,renB,← renL_eq,h1],h2⟩
 ·exact ⟨_,rfl,h⟩
 ·exact ⟨_,rfl,h⟩
 ·rename_i T t xs
  obtain ⟨c,h⟩:=h.ok
  refine ⟨_,?_,h⟩
  simp only [VB.blks,List.map_map]
  refine List.map_congr_left fun x _=>?_
  simp only [Function.comp,renB]
  rw [← renD_cells,ren_enc (fixB_ok c)]
 ·rename_i T m t xss
  obtain ⟨c,h⟩:=h.ok
  refine ⟨_,?_,h⟩
  simp only [VB.blks,List.map_map]
  refine List.map_congr_left fun xs _=>?_
  simp only [Function.comp,renB,ren_map (fixB_ok c)]
 ·rename_i E t xss
  obtain ⟨c,h⟩:=h.ok
  refine ⟨_,?_,h⟩
  simp only [VB.blks,List.map_map]
  refine List.map_congr_left fun xs _=>?_
  simp only [Function.comp,renB,ren_map (fixB_ok c)]
 ·rename_i E t xss
  obtain ⟨c,h⟩:=h.ok
  refine ⟨_,?_,h⟩
  simp only [VB.blks,List.map_map]
  refine List.map_congr_left fun xs _=>?_
  cases xs with
  | none=>rfl
  | some xs=>simp only [Function.comp,rowX,renB,ren_map (fixB_ok c)]
 ·exact ⟨_,rfl,natK_ok h⟩
 ·exact ⟨_,rfl,h⟩
def newsK (g:Nat → Nat):VH → (VH → Prop) → Prop
 | [],K=>K []
 | (k,x) :: l,K=>renBK g x fun y=>natK (g k) fun b=>newsK g l fun u=>K ((b,y) :: u)
inductive RenVH (g:Nat → Nat):VH → VH → Prop where
 | nil:RenVH g [] []
 | cons {k:Nat} {x y:VB} {l u:VH} (hy:y.blks = x.blks.map (renB (gI g))) (hl:RenVH g l u):RenVH g ((k,x) :: l) ((g k,y) :: u)
theorem newsK_ok {g:Nat → Nat}:∀ {l:VH} {K:VH → Prop},newsK g l K → ∃ u,RenVH g l u ∧ K u
 | [],K,h=>⟨[],.nil,h⟩
 | (k,x) :: l,K,h=>by
  obtain ⟨y,h1,h2⟩:=renBK_ok h
  obtain ⟨u,h3,h4⟩:=newsK_ok (natK_ok h2)
  exact ⟨(g k,y) :: u,.cons h1 h3,h4⟩
theorem RenVH.look {g:Nat → Nat} (hg:∀ a b,g a = g b → a = b) {l u:VH} (hr:RenVH g l u):(∀ k,(Am.look l k = none → Am.look u (g k) = none) ∧ ∀ x,Am.look l k = some x → ∃ y,Am.look u (g k) = some y ∧ y.blks = x.blks.map (renB (gI g))) ∧ ∀ b,(∀ k,Am.look l k ≠ none → g k ≠ b) → Am.look u b = none:=by
 induction hr with
 | nil=>exact ⟨fun k=>⟨fun _=>rfl,fun x hx=>by cases hx⟩,fun b _=>rfl⟩
 | @cons k0 x0 y0 l u hy hl ih=>
  refine ⟨fun k=>?_,fun b hb=>?_⟩
  ·by_cases e:k = k0
   ·subst e
    refine ⟨fun hn=>by simp [Am.look] at hn,fun x hx=>⟨y0,by simp [Am.look],?_⟩⟩
    simp [Am.look] at hx
    subst hx
    exact hy
   ·have e':¬ g k = g k0:=fun he=>e (hg _ _ he)
    simp only [Am.look,if_neg e,if_neg e']
    exact ih.1 k
  ·have e':¬ b = g k0:=fun he=>hb k0 (by simp [Am.look]) he.symm
   simp only [Am.look,if_neg e']
   refine ih.2 b fun k hk=>hb k ?_
   simp only [Am.look]
   split
   ·simp
   ·exact hk
theorem RenVH.keys {g:Nat → Nat} {l u:VH} (hr:RenVH g l u):u.map (·.1) = l.map (fun p=>g p.1):=by
 induction hr with
 | nil=>rfl
 | cons hy hl ih=>simp [ih]
end Go.Proofs.YtjjddgpdoibcoaaGreatDoor.Am
namespace Go.Proofs.YtjjddgpdoibcoaaGreatDoor.Am
open Go Go.RowKit
variable {P:Program} {os fs:List Nat} {n:Nat} {h:VH}
theorem nodup_map {α β:Type} {f:α → β} {l:List α} (hf:∀ a b,f a = f b → a = b) (h:l.Nodup):(l.map f).Nodup:=List.pairwise_map.2 (List.Pairwise.imp (fun hne e=>hne (hf _ _ e)) h)
theorem look_puts_nd {κ α:Type} [DecidableEq κ] {us g:List (κ × α)} (hn:(us.map (·.1)).Nodup) (b:κ):look (puts us g) b = match look us b with | some y=>some y | none=>look g b:=by
 cases hl:look us b with
 | some y=>exact look_puts_mem us g b y hn (look_mem hl)
 | none=>
  refine look_puts_other us g b fun x hx he=>?_
  have:=mem_look hn (k:=x.1) (a:=x.2) hx
  rw [he,hl] at this
  cases this
theorem look_puts_congr2 {κ α:Type} [DecidableEq κ] (us:List (κ × α)) {g g':List (κ × α)} (b:κ) (hg:look g b = look g' b):look (puts us g) b = look (puts us g') b:=by
 induction us generalizing g g' with
 | nil=>exact hg
 | cons x us ih=>
  show look (puts us (put x.1 x.2 g)) b = look (puts us (put x.1 x.2 g')) b
  refine ih ?_
  rw [look_put,look_put,hg]
theorem toHx_keys:∀ (s:List Nat) (l:VH),(∀ p ∈ toHx s l,p.1.1 ∉ s) ∧ ((toHx s l).map (·.1)).Nodup
 | s,[]=>⟨by simp [toHx],by simp [toHx]⟩
 | s,(k,x) :: l=>by
  obtain ⟨ih1,ih2⟩:=toHx_keys (k :: s) l
  have hfam:∀ p ∈ fam k x.blks,p.1.1 = k:=by
   intro p hp
   obtain ⟨q,_,rfl⟩:=List.mem_map.1 hp
   rfl
  have hnd:((fam k x.blks).map (·.1)).Nodup:=by
   have e:∀ (l:List Blk) (q:Nat),(((l.zipIdx q).map fun p:Blk × Nat=>(((k,p.2),p.1):Id × Blk)).map (·.1)) = (List.range' q l.length).map fun i=>((k,i):Id):=by
    intro l
    induction l with
    | nil=>intro q;rfl
    | cons y l ih=>intro q;simp only [List.zipIdx_cons,List.map_cons,List.length_cons,List.range'_succ,ih]
   unfold fam
   rw [e]
   exact nodup_map (fun a b hab=>by simpa using hab) List.nodup_range'
  simp only [toHx]
  cases hc:s.contains k with
  | true=>
   simp only [cond_true,List.nil_append]
   exact ⟨fun p hp hs=>ih1 p hp (List.mem_cons_of_mem _ hs),ih2⟩
  | false=>
   have hk:k ∉ s:=by simpa using hc
   simp only [cond_false,List.map_append]
   refine ⟨fun p hp=>?_,List.nodup_append.2 ⟨hnd,ih2,fun a ha b hb he=>?_⟩⟩
   ·rcases List.mem_append.1 hp with hp | hp
    ·rw [hfam p hp];exact hk
    ·exact fun hs=>ih1 p hp (List.mem_cons_of_mem _ hs)
   ·obtain ⟨p,hp,rfl⟩:=List.mem_map.1 ha
    obtain ⟨q,hq,rfl⟩:=List.mem_map.1 hb
    have:=ih1 q hq
    rw [← he,hfam p hp] at this
    exact this (List.mem_cons_self ..)
theorem toH_keys (l:VH):((toH l).map (·.1)).Nodup:=(toHx_keys [] l).2
theorem mem_toH {l:VH} {p:Id × Blk} (hp:p ∈ toH l):∃ x,look l p.1.1 = some x ∧ p.2 ∈ x.blks:=by
 have h1:=mem_look (toH_keys l) (k:=p.1) (a:=p.2) hp
 rw [look_toH] at h1
 obtain ⟨x,h2,h3⟩:=Option.bind_eq_some_iff.1 h1
 exact ⟨x,h2,List.mem_of_getElem? h3⟩
theorem look_renH {g:Id → Id} (hg:∀ a b,g a = g b → a = b):∀ (l:HL),(∀ b,look (renH g l) (g b) = (look l b).map (renB g)) ∧ ∀ c,(∀ b,look l b ≠ none → g b ≠ c) → look (renH g l) c = none
 | []=>⟨fun b=>rfl,fun c _=>rfl⟩
 | (b0,x) :: l=>by
  obtain ⟨h1,h2⟩:=look_renH hg l
  refine ⟨fun b=>?_,fun c hc=>?_⟩
  ·show look ((g b0,renB g x) :: renH g l) (g b) = _
   simp only [look]
   by_cases e:b = b0
   ·subst e;simp
   ·rw [if_neg fun he=>e (hg _ _ he),if_neg e]
    exact h1 b
  ·show look ((g b0,renB g x) :: renH g l) c = none
   simp only [look]
   rw [if_neg fun he=>hc b0 (by simp [look]) he.symm]
   refine h2 c fun b hb=>hc b ?_
   simp only [look]
   split
   ·simp
   ·exact hb
theorem renH_keys {g:Id → Id} (hg:∀ a b,g a = g b → a = b) {l:HL} (hn:(l.map (·.1)).Nodup):((renH g l).map (·.1)).Nodup:=by
 unfold renH
 rw [List.map_map]
 have:(fun x:Id × Blk=>x.1) ∘ (fun p:Id × Blk=>(g p.1,renB g p.2)) = g ∘ (fun x:Id × Blk=>x.1):=rfl
 rw [this,← List.map_map]
 exact nodup_map hg hn
theorem upd_ren {g:Nat → Nat} (hg:∀ a b,g a = g b → a = b) {hout u h0:VH} {H:HL} (hH:∀ b,look H b = look (toH h0) b) (hr:RenVH g hout u) (hn:(hout.map (·.1)).Nodup) (hc:∀ k x,look hout k = some x → ∀ j,x.blks.length ≤ j → look (toH h0) (g k,j) = none) :
  (∀ b,look (puts (renH (gI g) (toH hout)) H) b = look (toH (puts u h0)) b) ∧ ∀ x ∈ renH (gI g) (toH hout),x.1.1 ∈ u.map (·.1):=by
 have hgI:∀ a b:Id,gI g a = gI g b → a = b:=by
  rintro ⟨a1,a2⟩ ⟨b1,b2⟩ he
  simp only [gI,Prod.mk.injEq] at he ⊢
  exact ⟨hg _ _ he.1,he.2⟩
 have hun:(u.map (·.1)).Nodup:=by
  rw [hr.keys]
  have:(fun p:Nat × VB=>g p.1) = g ∘ (fun x:Nat × VB=>x.1):=rfl
  rw [this,← List.map_map]
  exact nodup_map hg hn
 obtain ⟨q1,q2⟩:=look_renH hgI (toH hout)
 obtain ⟨r1,r2⟩:=hr.look hg
 refine ⟨fun b=>?_,fun x hx=>?_⟩
 ·rw [look_puts_nd (renH_keys hgI (toH_keys hout)),look_toH,look_puts_nd hun,hH]
  by_cases hex:∃ k x,look hout k = some x ∧ g k = b.1
  ·obtain ⟨k,x,hk,he⟩:=hex
   obtain ⟨y,y1,y2⟩:=(r1 k).2 x hk
   have e1:b = gI g (k,b.2):=by simp [gI,he]
   rw [← he,y1,he]
   have e2:look (renH (gI g) (toH hout)) b = (x.blks[b.2]?).map (renB (gI g)):=by
    rw [e1,q1,look_toH,hk];rfl
   rw [e2]
   simp only [Option.bind_some,y2,List.getElem?_map]
   cases hx:x.blks[b.2]? with
   | some d=>rfl
   | none=>
    simp only [Option.map_none]
    have:=hc k x hk b.2 (by simpa using hx)
    rw [he] at this
    exact this
  ·have e1:look u b.1 = none:=r2 b.1 fun k hk he=>hex (by
    cases hl:look hout k with
    | none=>exact absurd hl hk
    | some x=>exact ⟨k,x,hl,he⟩)
   have e2:look (renH (gI g) (toH hout)) b = none:=q2 b fun c hcl he=>hex (by
    rw [look_toH] at hcl
    cases hl:look hout c.1 with
    | none=>rw [hl] at hcl;exact absurd rfl hcl
    | some x=>exact ⟨c.1,x,hl,by rw [← he]⟩)
   rw [e1,e2]
   exact look_toH h0 b
 ·obtain ⟨p,hp,rfl⟩:=List.mem_map.1 hx
  obtain ⟨x,h1,_⟩:=mem_toH hp
  obtain ⟨y,h2,_⟩:=(r1 p.1.1).2 x h1
  exact List.mem_map.2 ⟨_,look_mem h2,rfl⟩
def wsK (h:VH):List Nat → (VH → Prop) → Prop
 | [],K=>K []
 | b :: l,K=>wsK h l fun u=>(match lookO h b with
  | some (.row _ t xs)=>K ((b,.froz t xs) :: u)
  | some (.frow ..)=>False
  | some (.frowx ..)=>False
  | _=>K u)
def wsU (h:VH):List Nat → VH
 | []=>[]
 | b :: l=>match lookO h b with
  | some (.row _ t xs)=>(b,.froz t xs) :: wsU h l
  | _=>wsU h l
theorem wsK_ok:∀ {l:List Nat} {K:VH → Prop},wsK h l K → K (wsU h l) ∧ ∀ b ∈ l,¬ RdF h b
 | [],K,hk=>⟨hk,by simp⟩
 | b :: l,K,hk=>by
  obtain ⟨this,h2⟩:=wsK_ok (l:=l) hk
  simp only [wsU]
  have key:K (match lookO h b with
   | some (.row _ t xs)=>(b,.froz t xs) :: wsU h l
   | _=>wsU h l) ∧ ¬ RdF h b:=by
   cases hl:lookO h b with
   | none=>
    rw [hl] at this
    rw [lookO_ok] at hl
    exact ⟨this,fun hf=>by rcases hf with ⟨E,t,xs,hf⟩ | ⟨E,t,xs,hf⟩ <;> rw [hl] at hf <;> cases hf⟩
   | some x=>
    rw [hl] at this
    rw [lookO_ok] at hl
    have hx:(∀ E t xs,x ≠ .frow E t xs) → (∀ E t xs,x ≠ .frowx E t xs) → ¬ RdF h b:=fun h1 h2 hf=>by
     rcases hf with ⟨E,t,xs,hf⟩ | ⟨E,t,xs,hf⟩ <;> rw [hl] at hf <;> cases hf
     ·exact h1 _ _ _ rfl
     ·exact h2 _ _ _ rfl
    cases x <;> first | exact this.elim | exact ⟨this,hx (fun _ _ _ he=>by cases he) (fun _ _ _ he=>by cases he)⟩
  exact ⟨key.1,fun c hc=>(List.mem_cons.1 hc).elim (fun e=>e ▸ key.2) (h2 c)⟩
theorem look_wsU:∀ (ws:List Nat) (g:VH) (b:Nat),look (puts (wsU h ws) g) b = if b ∈ ws then (match look h b with | some (.row _ t xs)=>some (.froz t xs) | _=>look g b) else look g b
 | [],g,b=>by simp [wsU,puts]
 | c :: ws,g,b=>by
  simp only [wsU]
  rw [lookO_ok]
  split
  ·rename_i E t xs hc
   show look (puts (wsU h ws) (put c (.froz t xs) g)) b = _
   rw [look_wsU ws,look_put]
   by_cases hb:b = c
   ·subst hb
    simp only [if_true,List.mem_cons,true_or,hc]
    split
    ·rfl
    ·rfl
   ·by_cases hm:b ∈ ws
    ·simp [hm,hb]
    ·simp [hm,hb]
  ·rename_i hc
   rw [look_wsU ws]
   by_cases hb:b = c
   ·subst hb
    have:(match look h b with | some (VB.row _ t xs)=>some (VB.froz t xs) | _=>look g b) = look g b:=by
     split
     ·rename_i e;exact absurd e (hc _ _ _)
     ·rfl
    simp [this]
   ·simp [hb]
theorem upd_ws {ws:List Nat} (hw:∀ b ∈ ws,Rd1 h b):UpdOK h (frz (toH h) (ws.map fun b=>(b,0))) (wsU h ws) ∧ ∀ b ∈ ws.map (fun b=>((b,0):Id)),∀ x,look (toH h) b = some x → x.mutable = true → (frzB (toH h) b).isSome = true:=by
 have fz:∀ b E t,∀ xs:List (Ty.den t),look h b = some (.row E t xs) → t.pure = true → frzB (toH h) (b,0) = some (.froz (xs.map (encD t))):=by
  intro b E t xs hb hp
  have hl:=look_at (i:=0) hb (d:=.row E (xs.map (encD t))) rfl
  simp [frzB,hl,row_pure hp]
 refine ⟨⟨fun b=>?_,fun x hx=>?_⟩,fun b hb x hx hmu=>?_⟩
 ·obtain ⟨b1,b2⟩:=b
  rw [look_puts_frz,look_toH (puts (wsU h ws) h),look_wsU]
  by_cases hm:b1 ∈ ws
  ·rw [if_pos hm]
   rcases hw b1 hm with ⟨E,t,xs,hp,hb⟩ | ⟨t,xs,hb⟩ | ⟨t,x,hb⟩
   ·rw [hb]
    simp only [Option.bind_some,VB.blks]
    cases b2 with
    | zero=>
     rw [if_pos (List.mem_map.2 ⟨b1,hm,rfl⟩),fz b1 E t xs hb hp]
     rfl
    | succ j=>
     rw [if_neg (by simp)]
     exact only0 hb rfl (j + 1) (by simp)
   ·rw [hb]
    have e:frzB (toH h) (b1,b2) = none:=by
     unfold frzB
     rw [look_toH,hb]
     simp only [Option.bind_some,VB.blks]
     cases b2 <;> simp
    rw [e]
    simp only [ite_self]
    rw [look_toH,hb]
   ·rw [hb]
    have e:frzB (toH h) (b1,b2) = none:=by
     unfold frzB
     rw [look_toH,hb]
     simp only [Option.bind_some,VB.blks]
     cases b2 <;> simp
    rw [e]
    simp only [ite_self]
    rw [look_toH,hb]
  ·rw [if_neg (fun hmem=>by obtain ⟨c,hc,he⟩:=List.mem_map.1 hmem;simp only [Prod.mk.injEq] at he;exact hm (he.1 ▸ hc)),if_neg hm,look_toH]
 ·obtain ⟨c,hc,hcx⟩:=List.mem_filterMap.1 hx
  obtain ⟨y,hy,rfl⟩:=Option.map_eq_some_iff.1 hcx
  obtain ⟨b,hb,rfl⟩:=List.mem_map.1 hc
  show b ∈ (wsU h ws).map (·.1)
  rcases hw b hb with ⟨E,t,xs,hp,hl⟩ | ⟨t,xs,hl⟩ | ⟨t,x,hl⟩
  ·have:look (puts (wsU h ws) []) b = some (.froz t xs):=by rw [look_wsU,if_pos hb,hl]
   rcases Classical.em (b ∈ (wsU h ws).map (·.1)) with h1 | h1
   ·exact h1
   ·rw [look_puts_other _ _ _ fun x hx e=>h1 (List.mem_map.2 ⟨x,hx,e⟩)] at this
    cases this
  ·exfalso
   have:=look_at (i:=0) hl (d:=.froz (xs.map (encD t))) rfl
   simp [frzB,this] at hy
  ·exfalso
   have:=look_at (i:=0) hl (d:=.fvar (encD t x).cells) rfl
   simp [frzB,this] at hy
 ·obtain ⟨c,hc,rfl⟩:=List.mem_map.1 hb
  rcases hw c hc with ⟨E,t,xs,hp,hl⟩ | ⟨t,xs,hl⟩ | ⟨t,x',hl⟩
  ·rw [fz c E t xs hl hp];rfl
  ·have:=look_at (i:=0) hl (d:=.froz (xs.map (encD t))) rfl
   rw [this] at hx;cases hx;cases hmu
  ·have:=look_at (i:=0) hl (d:=.fvar (encD t x').cells) rfl
   rw [this] at hx;cases hx;cases hmu
end Go.Proofs.YtjjddgpdoibcoaaGreatDoor.Am
namespace Go.Proofs.YtjjddgpdoibcoaaGreatDoor.Am
open Go Go.RowKit
variable {P:Program} {os fs:List Nat} {n:Nat} {h:VH}
def famLen:VB → Nat
 | .fvar _ _ xs=>xs.length
 | .fvari _ _ _ xss=>xss.length
 | .frow _ _ xss=>xss.length
 | .frowx _ _ xss=>xss.length
 | _=>1
theorem famLen_ok (x:VB):x.blks.length = famLen x:=by cases x <;> simp [VB.blks,famLen]
def keysV:VH → List Nat
 | []=>[]
 | (k,_) :: l=>k :: keysV l
theorem keysV_ok:∀ l:VH,l.map (·.1) = keysV l
 | []=>rfl
 | (k,x) :: l=>by simp [keysV,keysV_ok l]
def covK (h:VH) (fs:List Nat):VH → Prop → Prop
 | [],K=>K
 | (k,x) :: l,K=>match Nat.blt k 4 with
  | true=>Chk (!x.sgl) (match lookO h k with
   | none=>covK h fs l K
   | some y=>Chk (fs.contains k && !y.sgl) (Need (famLen y ≤ famLen x) (covK h fs l K)))
  | false=>Chk x.sgl (covK h fs l K)
theorem covK_ok {K:Prop}:∀ {l:VH},covK h fs l K → (∀ k x,look l k = some x → (k < 4 ∧ ∀ y,look h k = some y → k ∈ fs ∧ famLen y ≤ famLen x) ∨ (4 ≤ k ∧ x.sgl = true)) ∧ K
 | [],hk=>⟨(fun k x hx=>by cases hx),hk⟩
 | (k0,x0) :: l,hk=>by
  simp only [covK] at hk
  have key:((k0 < 4 ∧ ∀ y,look h k0 = some y → k0 ∈ fs ∧ famLen y ≤ famLen x0) ∨ (4 ≤ k0 ∧ x0.sgl = true)) ∧ covK h fs l K:=by
   split at hk
   ·rename_i hb
    have hlt:k0 < 4:=by simpa [Nat.blt_eq] using hb
    obtain ⟨c,hk⟩:=hk.ok
    split at hk
    ·rename_i hn
     rw [lookO_ok] at hn
     exact ⟨.inl ⟨hlt,fun y hy=>by rw [hn] at hy;cases hy⟩,hk⟩
    ·rename_i y hy
     rw [lookO_ok] at hy
     obtain ⟨c2,hle,hk⟩:=hk.ok
     simp only [Bool.and_eq_true] at c2
     exact ⟨.inl ⟨hlt,fun y' hy'=>by rw [hy] at hy';obtain rfl:=Option.some.inj hy';exact ⟨by simpa using c2.1,hle⟩⟩,hk⟩
   ·rename_i hb
    obtain ⟨c,hk⟩:=hk.ok
    have hge:4 ≤ k0:=by
     rcases Nat.lt_or_ge k0 4 with hlt | hge
     ·have:Nat.blt k0 4 = true:=by simpa [Nat.blt_eq] using hlt
      rw [hb] at this;cases this
     ·exact hge
    exact ⟨.inr ⟨hge,c⟩,hk⟩
  obtain ⟨k1,k2⟩:=key
  obtain ⟨h1,h2⟩:=covK_ok k2
  refine ⟨fun k x hx=>?_,h2⟩
  simp only [look] at hx
  split at hx
  ·rename_i e;cases hx;subst e;exact k1
  ·exact h1 k x hx
def hasB (hout:VH):List Nat → Nat → Bool
 | [],_=>true
 | _ :: l,i=>(lookO hout i).isSome && hasB hout l (i + 1)
theorem hasB_ok {hout:VH}:∀ {l:List Nat} {i:Nat},hasB hout l i = true → ∀ m,m < l.length → ∃ x,look hout (i + m) = some x
 | [],i,_,m,hm=>by simp at hm
 | _ :: l,i,hb,m,hm=>by
  simp only [hasB,Bool.and_eq_true,lookO_ok] at hb
  cases m with
  | zero=>exact Option.isSome_iff_exists.1 hb.1
  | succ m=>
   have:=hasB_ok hb.2 m (by simpa using hm)
   rwa [show i + 1 + m = i + (m + 1) by omega] at this
def noMemVH (l:VH):Bool:=l.all fun p=>noMemVB p.2
def callO (P:Program) (h:VH) (n:Nat) (f:FuncId) (vs:List V) (os fs:List Nat) (K:V → VH → List Nat → Prop):Prop:=
 Chk (osOK os n && fs.all (fun k=>Nat.blt k 4)) (viewVs os fs h vs fun vs' ws=>famsK fs h fs fun hf=>sglsK os fs h os 4 fun hs ws'=>appK hf hs fun hin=>CallA P f vs' hin fun r hout=>
  Chk (nodupN (keysV hout) && fs.all (fun k=>(lookO hout k).isSome) && hasB hout os 4) (covK h fs hout (renK (gN os n) r fun r'=>newsK (gN os n) hout fun u=>
   match noMemV r && noMemVH hout with
   | true=>K r' u ((ws ++ ws') ++ fs ++ keysV u)
   | false=>wsK h (ws ++ ws') fun u0=>K r' (u0 ++ u) ((ws ++ ws') ++ fs ++ keysV u))))
theorem callO_ok {f:FuncId} {vs:List V} {K:V → VH → List Nat → Prop} (hfr:∀ c:Id,n ≤ c.1 → look (toH h) c = none) (hk:callO P h n f vs os fs K) :
  ∃ r u vu gl,(∀ f':List Nat,(∀ k ∈ gl,k ∈ f') → ∃ c:CallOK P f (toH h) n (toDL vs) r.toD u f',∀ b,Live c.hout b → (c.g b).1 ∈ f') ∧ UpdOK h u vu ∧ K r vu gl:=by
 obtain ⟨c0,hk⟩:=hk.ok
 simp only [Bool.and_eq_true,List.all_eq_true] at c0
 obtain ⟨c1,c2⟩:=c0
 have hlow:∀ k ∈ fs,k < 4:=fun k hk=>by simpa [Nat.blt_eq] using c2 k hk
 obtain ⟨o1,o2,o3⟩:=osOK_ok c1
 obtain ⟨vs',ws,v1,v2,hk⟩:=viewVs_ok (n:=n) hk
 obtain ⟨hf,f1,f2,hk⟩:=famsK_ok hk
 obtain ⟨hs,ws',s1,s2,s3,hk⟩:=sglsK_ok (n:=n) hk
 have hk:=appK_ok hk
 obtain ⟨r,hout,hcon,hk⟩:=hk
 obtain ⟨c3,hk⟩:=hk.ok
 simp only [Bool.and_eq_true,List.all_eq_true] at c3
 obtain ⟨⟨c3,c4⟩,c5⟩:=c3
 obtain ⟨cov,hk⟩:=covK_ok hk
 obtain ⟨r',r1,hk⟩:=renK_ok hk
 obtain ⟨u,hr,hk⟩:=newsK_ok hk
 have hg:∀ a b,gN os n a = gN os n b → a = b:=fun a b=>gN_inj c1
 have hgI:∀ a b:Id,gI (gN os n) a = gI (gN os n) b → a = b:=fun a b=>gI_inj c1
 have hin_look:∀ k x,look (hf ++ hs) k = some x → (k ∈ fs ∧ look hf k = some x) ∨ (∃ m b,k = 4 + m ∧ os[m]? = some b ∧ look hs k = some x):=by
  intro k x hx
  rw [look_app] at hx
  cases hl:look hf k with
  | some y=>
   rw [hl] at hx
   obtain rfl:=Option.some.inj hx
   exact .inl ⟨(f1 k _ hl).1,rfl⟩
  | none=>
   rw [hl] at hx
   obtain ⟨m,rfl,hm⟩:=s1 k x hx
   exact .inr ⟨m,os[m],rfl,List.getElem?_eq_getElem hm,hx⟩
 have hf_none:∀ m,look hf (4 + m) = none:=by
  intro m
  cases hl:look hf (4 + m) with
  | none=>rfl
  | some y=>have:=hlow _ (f1 _ _ hl).1;omega
 have hin_sgl:∀ m b,os[m]? = some b → ∃ x x',look h b = some x ∧ look (hf ++ hs) (4 + m) = some x' ∧ VwB os fs n h ws' x x':=by
  intro m b hb
  obtain ⟨x,x',q1,q2,q3⟩:=s2 m b hb
  exact ⟨x,x',q1,by rw [look_app,hf_none];exact q2,q3⟩
 have hin_fam:∀ k ∈ fs,∃ x,look (hf ++ hs) k = some x ∧ look h k = some x ∧ x.sgl = false ∧ ∀ j ∈ x.fams,j ∈ fs:=by
  intro k hk
  obtain ⟨x,hx⟩:=f2 k hk
  obtain ⟨_,q2,q3,q4⟩:=f1 k x hx
  exact ⟨x,by rw [look_app,hx],q2,q3,q4⟩
 have H:HinOK os fs h (toH (hf ++ hs)):=by
  refine ⟨hlow,fun m b hb=>?_,fun k hk i hl=>?_⟩
  ·obtain ⟨x,x',q1,q2,d,d',e1,e2,e3⟩:=hin_sgl m b hb
   exact Live.of_look (look_at q2 (by rw [e2];rfl))
  ·obtain ⟨x,q1,q2,q3,q4⟩:=hin_fam k hk
   unfold Live at hl ⊢
   rw [look_toH,q2] at hl
   rw [look_toH,q1]
   exact hl
 have live_in:∀ b,Live (toH (hf ++ hs)) b → (b.1 ∈ fs ∧ ∃ x,look h b.1 = some x ∧ look (hf ++ hs) b.1 = some x ∧ b.2 < x.blks.length) ∨ ∃ m c,b = (4 + m,0) ∧ os[m]? = some c:=by
  intro b hb
  unfold Live at hb
  rw [look_toH] at hb
  cases hl:look (hf ++ hs) b.1 with
  | none=>rw [hl] at hb;cases hb
  | some x=>
   rw [hl] at hb
   simp only [Option.bind_some] at hb
   rcases hin_look _ _ hl with ⟨g1,g2⟩ | ⟨m,c,e,g1,g2⟩
   ·obtain ⟨_,q2,q3,q4⟩:=f1 _ _ g2
    refine .inl ⟨g1,x,q2,rfl,?_⟩
    rcases Nat.lt_or_ge b.2 x.blks.length with hlt | hge
    ·exact hlt
    ·rw [List.getElem?_eq_none hge] at hb;cases hb
   ·obtain ⟨y,y',q1,q2,d,d',e1,e2,_⟩:=hin_sgl m c g1
    rw [e,q2] at hl
    obtain rfl:=Option.some.inj hl
    rw [e2] at hb
    refine .inr ⟨m,c,?_,g1⟩
    obtain ⟨b1,b2⟩:=b
    simp only at e hb ⊢
    cases b2 with
    | zero=>rw [e]
    | succ j=>simp at hb
 have hcov:∀ k x,look hout k = some x → ∀ j,x.blks.length ≤ j → look (toH h) (gN os n k,j) = none:=by
  intro k x hx j hj
  rcases gN_case os n k with ⟨a1,a2⟩ | ⟨m,b,rfl,a1,a2⟩ | ⟨m,rfl,a1,a2⟩ <;> rw [a2]
  ·rcases cov k x hx with ⟨_,q⟩ | ⟨q,_⟩
   ·rw [look_toH]
    cases hl:look h k with
    | none=>rfl
    | some y=>
     simp only [Option.bind_some]
     rw [List.getElem?_eq_none]
     have:=(q y hl).2
     rw [← famLen_ok,← famLen_ok] at this
     omega
   ·omega
  ·rcases cov _ x hx with ⟨q,_⟩ | ⟨_,q⟩
   ·omega
   ·obtain ⟨d,hd⟩:=VB.sgl_ok q
    rw [hd] at hj
    simp only [List.length_singleton] at hj
    obtain ⟨y,y',q1,q2,e,e',e1,e2,_⟩:=hin_sgl m b a1
    rw [look_toH,q1]
    simp only [Option.bind_some,e1]
    rw [List.getElem?_eq_none]
    simpa using hj
  ·exact hfr _ (by show n ≤ n + _;omega)
 have hW:∀ b ∈ ws ++ ws',RdOK h os fs b:=fun b hb=>(List.mem_append.1 hb).elim (v2 b) (s3 b)
 have hkeys:=toH_keys hout
 have hnd:(hout.map (·.1)).Nodup:=by rw [keysV_ok];exact nodupN_ok c3
 have hukeys:∀ b,Live (toH hout) b → (gI (gN os n) b).1 ∈ keysV u:=by
  intro b hb
  unfold Live at hb
  rw [look_toH] at hb
  cases hl:look hout b.1 with
  | none=>rw [hl] at hb;cases hb
  | some x=>
   obtain ⟨y,y1,_⟩:=((hr.look hg).1 b.1).2 x hl
   rw [← keysV_ok]
   exact List.mem_map.2 ⟨_,look_mem y1,rfl⟩
 have mk:∀ (uu:HL) (W:List Id),Cov h (ws ++ ws') W → (∀ b ∈ W,b.1 ∈ ws ++ ws') → ((noMem r.toD = true ∧ (∀ p ∈ toH hout,noMemB p.2 = true) ∧ uu = renH (gI (gN os n)) (toH hout)) ∨ ((∀ b ∈ W,∀ x,look (toH h) b = some x → x.mutable = true → (frzB (toH h) b).isSome = true) ∧ uu = frz (toH h) W ++ renH (gI (gN os n)) (toH hout))) →
   ∀ f':List Nat,(∀ k ∈ (ws ++ ws') ++ fs ++ keysV u,k ∈ f') → ∃ c:CallOK P f (toH h) n (toDL vs) r'.toD uu f',∀ b,Live c.hout b → (c.g b).1 ∈ f':=by
  intro uu W hcW hWs hupd f' hf'
  refine ⟨⟨gI (gN os n),W,fs,toDL vs',toH (hf ++ hs),r.toD,toH hout,hcon,v1.1,?_,?_,hkeys,fun b b' _ _ he=>hgI b b' he,?_,?_,?_,⟨?_,?_,?_⟩,r1.symm,hupd⟩,?_⟩
  ·exact v1.2 _ H _ fun b hb=>hcW b (List.mem_append_left _ hb)
  ·intro b x' hx
   have hlv:Live (toH (hf ++ hs)) b:=Live.of_look hx
   rcases live_in b hlv with ⟨g1,x,g2,g3,g4⟩ | ⟨m,c,rfl,g1⟩
   ·rw [look_toH,g3] at hx
    refine ⟨x',by simp only [gI,gN_low os n (hlow _ g1)];rw [look_toH,g2];exact hx,?_⟩
    obtain ⟨y,y1,y2,y3,y4⟩:=hin_fam _ g1
    rw [g2] at y2
    obtain rfl:=Option.some.inj y2
    exact view_fam H y3 y4 x' (List.mem_of_getElem? hx)
   ·obtain ⟨y,y',q1,q2,d,d',e1,e2,e3⟩:=hin_sgl m c g1
    rw [look_toH,q2] at hx
    simp only [Option.bind_some,e2,List.getElem?_cons_zero,Option.some.injEq] at hx
    subst hx
    refine ⟨d,?_,e3 _ H _ fun b hb=>hcW b (List.mem_append_right _ hb)⟩
    simp only [gI,gN_high,nameO_lt g1]
    exact look_at q1 (by rw [e1];rfl)
  ·intro b hb
   rcases live_in b hb with ⟨g1,x,g2,g3,g4⟩ | ⟨m,c,rfl,g1⟩
   ·have hl:=c4 _ g1
    rw [lookO_ok] at hl
    obtain ⟨y,hy⟩:=Option.isSome_iff_exists.1 hl
    rcases cov _ _ hy with ⟨_,q⟩ | ⟨q,_⟩
    ·have:=(q x g2).2
     rw [← famLen_ok,← famLen_ok] at this
     unfold Live
     rw [look_toH,hy]
     simp only [Option.bind_some]
     rw [List.getElem?_eq_getElem (by omega)]
     rfl
    ·have:=hlow _ g1;omega
   ·obtain ⟨y,hy⟩:=hasB_ok c5 m (List.getElem?_eq_some_iff.1 g1).1
    rcases cov _ _ hy with ⟨q,_⟩ | ⟨_,q⟩
    ·omega
    ·obtain ⟨d,hd⟩:=VB.sgl_ok q
     exact Live.of_look (look_at hy (by rw [hd];rfl))
  ·intro b hb hnb
   have hb':=hb
   unfold Live at hb
   rw [look_toH] at hb
   cases hl:look hout b.1 with
   | none=>rw [hl] at hb;cases hb
   | some x=>
    rw [hl] at hb
    rcases gN_case os n b.1 with ⟨a1,a2⟩ | ⟨m,c,e,a1,a2⟩ | ⟨m,e,a1,a2⟩ <;> simp only [gI] <;> rw [a2]
    ·cases hh:look h b.1 with
     | none=>rw [look_toH,hh];rfl
     | some y=>
      rcases cov _ _ hl with ⟨_,q⟩ | ⟨q,_⟩
      ·obtain ⟨g1,_⟩:=q y hh
       obtain ⟨z,z1,z2,_⟩:=hin_fam _ g1
       rw [hh] at z2
       obtain rfl:=Option.some.inj z2
       unfold Live at hnb
       rw [look_toH,z1] at hnb
       rw [look_toH,hh]
       simpa using hnb
      ·omega
    ·exfalso
     rcases cov _ _ hl with ⟨q,_⟩ | ⟨_,q⟩
     ·omega
     ·obtain ⟨d,hd⟩:=VB.sgl_ok q
      simp only [Option.bind_some,hd] at hb
      obtain ⟨b1,b2⟩:=b
      simp only at e hb hnb
      cases b2 with
      | zero=>exact hnb (by rw [e];exact H.sgl m c a1)
      | succ j=>simp at hb
    ·exact hfr _ (by show n ≤ n + _;omega)
  ·intro b hb b' hb' he
   obtain ⟨q1,q2⟩:=hW _ (hWs b hb)
   obtain ⟨c,i⟩:=b
   rcases live_in b' hb' with ⟨g1,x,g2,g3,g4⟩ | ⟨m,c',rfl,g1⟩
   ·simp only [gI,gN_low os n (hlow _ g1),Prod.mk.injEq] at he
    obtain ⟨y,y1,y2,y3,_⟩:=hin_fam _ g1
    rw [he.1] at y2
    rcases q2 with (⟨E,t,xs,_,hb⟩ | ⟨t,xs,hb⟩ | ⟨t,x,hb⟩) | ⟨q2,_⟩
    ·rw [y2] at hb;cases hb;cases y3
    ·rw [y2] at hb;cases hb;cases y3
    ·rw [y2] at hb;cases hb;cases y3
    ·exact q2 (he.1 ▸ g1)
   ·simp only [gI,gN_high,nameO_lt g1,Prod.mk.injEq] at he
    obtain ⟨he,_⟩:=he
    subst he
    exact q1 (List.mem_of_getElem? g1)
  ·exact fun b hb=>.inl (hf' _ (List.mem_append_right _ (hukeys b hb)))
  ·exact fun b hb=>hf' _ (List.mem_append_left _ (List.mem_append_left _ (hWs b hb)))
  ·exact fun k hk=>hf' _ (List.mem_append_left _ (List.mem_append_right _ hk))
  ·exact fun b hb=>hf' _ (List.mem_append_right _ (hukeys b hb))
 split at hk
 ·rename_i hm
  simp only [Bool.and_eq_true,noMemVH,List.all_eq_true] at hm
  refine ⟨r',_,u,_,mk _ (((toH h).map (·.1)).filter fun b=>decide (b.1 ∈ ws ++ ws')) (fun b hb i hl=>?_) (fun b hb=>by simpa using (List.mem_filter.1 hb).2) (.inl ⟨noMemV_ok r hm.1,fun p hp=>?_,rfl⟩),upd_ren hg (fun _=>rfl) hr hnd hcov,hk⟩
  ·refine List.mem_filter.2 ⟨?_,by simpa using hb⟩
   obtain ⟨d,hd⟩:=Option.isSome_iff_exists.1 hl
   exact List.mem_map.2 ⟨_,look_mem hd,rfl⟩
  obtain ⟨x,x1,x2⟩:=mem_toH hp
  exact noMemVB_ok (hm.2 _ (look_mem x1)) _ x2
 ·obtain ⟨hk,hnf⟩:=wsK_ok hk
  have hW1:∀ b ∈ ws ++ ws',Rd1 h b:=fun b hb=>(hW b hb).2.elim id fun q=>(hnf b hb q.2).elim
  obtain ⟨w1,w2⟩:=upd_ws hW1
  refine ⟨r',_,_,_,mk _ ((ws ++ ws').map fun b=>(b,0)) (fun b hb i hl=>?_) (fun b hb=>by obtain ⟨c,hc,rfl⟩:=List.mem_map.1 hb;exact hc) (.inr ⟨w2,rfl⟩),?_,hk⟩
  ·have h0:i = 0:=by
    unfold Live at hl
    cases i with
    | zero=>rfl
    | succ j=>
     rcases hW1 b hb with ⟨E,t,xs,_,hx⟩ | ⟨t,xs,hx⟩ | ⟨t,x,hx⟩ <;> rw [only0 hx rfl (j + 1) (by simp)] at hl <;> cases hl
   subst h0
   exact List.mem_map.2 ⟨b,hb,rfl⟩
  have hcov':∀ k x,look hout k = some x → ∀ j,x.blks.length ≤ j → look (toH (puts (wsU h (ws ++ ws')) h)) (gN os n k,j) = none:=by
   intro k x hx j hj
   have h1:=hcov k x hx j hj
   rw [← w1.1,look_puts_frz]
   split
   ·rename_i y hy
    exfalso
    split at hy
    ·obtain ⟨⟨z,z1,_⟩,_⟩:=frzB_old hy
     rw [h1] at z1;cases z1
    ·cases hy
   ·exact h1
  obtain ⟨q1,q2⟩:=upd_ren hg w1.1 hr hnd hcov'
  refine ⟨fun b=>?_,fun x hx=>?_⟩
  ·rw [puts_append,puts_append];exact q1 b
  ·rw [List.map_append]
   rcases List.mem_append.1 hx with hx | hx
   ·exact List.mem_append_left _ (w1.2 x hx)
   ·exact List.mem_append_right _ (q2 x hx)
end Go.Proofs.YtjjddgpdoibcoaaGreatDoor.Am
namespace Go.Proofs.YtjjddgpdoibcoaaGreatDoor.Am
open Go Go.RowKit
variable {P:Program} {N:Nat} {Θ:TT} {t:VT} {h:VH} {n:Nat}
mutual
theorem fwd_ids (g:HL):∀ (d:D),∀ b ∈ allIds (fwd g d),b ∈ allIds d ∨ ∃ c ∈ allIds d,look g c = some (.moved b)
 | .ref c,b,hb=>by
  simp only [fwd] at hb
  split at hb
  ·rename_i c' hc
   simp only [allIds,List.mem_singleton] at hb
   subst hb
   exact .inr ⟨c,by simp [allIds],hc⟩
  ·cases hb
  ·exact .inl hb
 | .ptr c o,b,hb=>by
  simp only [fwd] at hb
  split at hb
  ·rename_i c' hc
   simp only [allIds,List.mem_singleton] at hb
   subst hb
   exact .inr ⟨c,by simp [allIds],hc⟩
  ·split at hb <;> cases hb
  ·exact .inl hb
 | .eptr c i o,b,hb=>by
  simp only [fwd] at hb
  split at hb
  ·rename_i c' hc
   simp only [allIds,List.mem_singleton] at hb
   subst hb
   exact .inr ⟨c,by simp [allIds],hc⟩
  ·exact .inl hb
 | .vref c o q,b,hb=>by
  simp only [fwd] at hb
  split at hb
  ·rename_i c' hc
   simp only [allIds,List.mem_singleton] at hb
   subst hb
   exact .inr ⟨c,by simp [allIds],hc⟩
  ·exact .inl hb
 | .ifc T d,b,hb=>by
  simp only [fwd,allIds] at hb
  rcases fwd_ids g d b hb with h1 | ⟨c,h1,h2⟩
  ·exact .inl (by simpa only [allIds] using h1)
  ·exact .inr ⟨c,by simpa only [allIds] using h1,h2⟩
 | .clo f cs,b,hb=>by
  simp only [fwd,allIds] at hb
  rcases fwdL_ids g cs b hb with h1 | ⟨c,h1,h2⟩
  ·exact .inl (by simpa only [allIds] using h1)
  ·exact .inr ⟨c,by simpa only [allIds] using h1,h2⟩
 | .agg cs,b,hb=>by
  simp only [fwd,allIds] at hb
  rcases fwdL_ids g cs b hb with h1 | ⟨c,h1,h2⟩
  ·exact .inl (by simpa only [allIds] using h1)
  ·exact .inr ⟨c,by simpa only [allIds] using h1,h2⟩
 | .tup cs,b,hb=>by
  simp only [fwd,allIds] at hb
  rcases fwdL_ids g cs b hb with h1 | ⟨c,h1,h2⟩
  ·exact .inl (by simpa only [allIds] using h1)
  ·exact .inr ⟨c,by simpa only [allIds] using h1,h2⟩
 | .int ..,b,hb | .bool _,b,hb | .str _,b,hb | .lst _,b,hb | .box _,b,hb | .nilp,b,hb | .nils,b,hb | .nilf,b,hb | .nili,b,hb | .gp _,b,hb | .gv _,b,hb | .iptr ..,b,hb | .undef,b,hb | .junk,b,hb=>by simp [fwd,allIds] at hb
theorem fwdL_ids (g:HL):∀ (l:List D),∀ b ∈ allIdsL (fwdL g l),b ∈ allIdsL l ∨ ∃ c ∈ allIdsL l,look g c = some (.moved b)
 | [],b,hb=>by simp [fwdL,allIdsL] at hb
 | d :: l,b,hb=>by
  simp only [fwdL,allIdsL,List.mem_append] at hb ⊢
  rcases hb with hb | hb
  ·rcases fwd_ids g d b hb with h1 | ⟨c,h1,h2⟩
   ·exact .inl (.inl h1)
   ·exact .inr ⟨c,.inl h1,h2⟩
  ·rcases fwdL_ids g l b hb with h1 | ⟨c,h1,h2⟩
   ·exact .inl (.inr h1)
   ·exact .inr ⟨c,.inr h1,h2⟩
end
def movV (h:VH):List Nat → List Nat
 | []=>[]
 | b :: l=>match lookO h b with
  | some (.moved k _)=>k :: movV h l
  | _=>movV h l
theorem movV_ok:∀ {l:List Nat} {b k i:Nat},b ∈ l → look h b = some (.moved k i) → k ∈ movV h l
 | c :: l,b,k,i,hb,hl=>by
  simp only [movV]
  rcases List.mem_cons.1 hb with rfl | hb
  ·rw [lookO_ok,hl];simp
  ·have:=movV_ok hb hl
   split
   ·exact List.mem_cons_of_mem _ this
   ·exact this
theorem moved_at {c b:Id} (hc:look (toH h) c = some (.moved b)):look h c.1 = some (.moved b.1 b.2):=by
 rw [look_toH] at hc
 obtain ⟨x,h1,h2⟩:=Option.bind_eq_some_iff.1 hc
 rw [h1]
 have hm:=List.mem_of_getElem? h2
 cases x <;> simp only [VB.blks,List.mem_singleton,List.mem_map,reduceCtorEq,and_false,exists_false,Blk.moved.injEq] at hm
 case frowx=>
  obtain ⟨y,_,e⟩:=hm
  cases y <;> cases e
 rw [hm]
def seeV1 (t:VT) (h:VH) (x:Operand):List Nat:=match x with
 | .tmp k=>(match lookO t k with | some v=>grpsV v ++ movV h (grpsV v) | none=>[])
 | _=>[]
def seeVs (t:VT) (h:VH):List Operand → List Nat
 | []=>[]
 | x :: l=>seeV1 t h x ++ seeVs t h l
theorem ofVal_ids' {v:Value} {d:D} (h:ofVal v = some d) (g:HL):allIds d = [] ∧ allIds (fwd g d) = []:=by
 unfold ofVal at h
 split at h <;> first | (simp only [Option.some.injEq] at h;subst h;exact ⟨by simp [allIds],by simp [fwd,allIds]⟩) | cases h
theorem seeV1_ok (x:Operand):∀ k ∈ seeO (toT t) (toH h) x,k ∈ seeV1 t h x:=by
 intro k hk
 unfold seeO at hk
 cases x with
 | tmp j=>
  simp only [evalD,look_toT] at hk
  simp only [seeV1,lookO_ok]
  cases hl:look t j with
  | none=>rw [hl] at hk;cases hk
  | some v=>
   rw [hl] at hk
   simp only [Option.map_some] at hk
   rcases List.mem_append.1 hk with hk | hk
   ·obtain ⟨b,hb,rfl⟩:=List.mem_map.1 hk
    exact List.mem_append_left _ (grpsV_ok v b hb)
   ·obtain ⟨b,hb,rfl⟩:=List.mem_map.1 hk
    rcases fwd_ids _ _ b hb with h1 | ⟨c,h1,h2⟩
    ·exact List.mem_append_left _ (grpsV_ok v b h1)
    ·exact List.mem_append_right _ (movV_ok (grpsV_ok v c h1) (moved_at h2))
 | const v=>
  simp only [evalD] at hk
  cases hv:ofVal v with
  | none=>rw [hv] at hk;cases hk
  | some d=>
   rw [hv] at hk
   obtain ⟨e1,e2⟩:=ofVal_ids' hv (toH h)
   simp [e1,e2,grp] at hk
 | global g=>
  simp only [evalD] at hk
  by_cases hg:(look Gl g).isSome = true
  ·rw [if_pos hg] at hk
   simp [allIds,fwd,grp] at hk
  ·rw [if_neg hg] at hk
   simp at hk
 | _=>simp [evalD] at hk
theorem seeVs_ok:∀ (l:List Operand),∀ k ∈ seeOs (toT t) (toH h) l,k ∈ seeVs t h l
 | [],k,hk=>by cases hk
 | x :: l,k,hk=>by
  simp only [seeOs,List.flatMap_cons,List.mem_append] at hk
  simp only [seeVs,List.mem_append]
  rcases hk with hk | hk
  ·exact .inl (seeV1_ok x k hk)
  ·exact .inr (seeVs_ok l k hk)
def seeG (t:VT) (h:VH) (op:Op):List Nat:=match looks op with | true=>seeVs t h op.operands.toList | false=>[]
theorem seeG_ok (op:Op):∀ k ∈ see (toT t) (toH h) op,k ∈ seeG t h op:=by
 intro k hk
 unfold see at hk
 unfold seeG
 cases hl:looks op with
 | false=>rw [hl] at hk;cases hk
 | true=>rw [hl] at hk;exact seeVs_ok _ k hk
def StepOK (P:Program) (N:Nat) (o:Oper) (t:VT) (h:VH) (r:V) (vu:VH) (gl:List Nat):Prop:=∃ u,UpdOK h u vu ∧ ∀ f:List Nat,(∀ k ∈ gl,k ∈ f) → OpS P N o (toT t) (toH h) r.toD u f
theorem fresh_id (g:HL):∃ n:Nat,look g (n,0) = none:=by
 have key:∀ (l:HL),∃ m,∀ p ∈ l,p.1.1 < m:=by
  intro l
  induction l with
  | nil=>exact ⟨0,by simp⟩
  | cons p l ih=>
   obtain ⟨m,hm⟩:=ih
   refine ⟨max m (p.1.1 + 1),fun q hq=>?_⟩
   rcases List.mem_cons.1 hq with rfl | hq
   ·omega
   ·have:=hm q hq;omega
 obtain ⟨m,hm⟩:=key g
 refine ⟨m,?_⟩
 cases hl:look g (m,0) with
 | none=>rfl
 | some x=>have:=hm _ (look_mem hl);simp only at this;omega
theorem opS_aop0 {t:List (Nat × D)} {h:HL} {m:Bool} {o:Oper} {d:D} {u:HL} {f:List Nat} (hd:∀ n,aop P m o.op t h n = some (d,u)) (hf:∀ k ∈ see t h o.op,k ∈ f):OpS P N o t h d u f:=by
 intro t' h' ht ha w0 S A ρ a w s
 obtain ⟨n,hn⟩:=fresh_id h'
 refine s.op (m:=m) (n:=n) ?_ hn
 rw [← aop_h (t:=t') (h:=h) (fs:=f) ?_ ha,← aop_t ht]
 ·exact hd n
 ·have:see t' h o.op = see t h o.op:=by
   unfold see
   cases hl:looks o.op with
   | false=>rfl
   | true=>
    simp only [cond_true,seeOs]
    have hx:∀ x ∈ o.op.operands.toList,seeO t' h x = seeO t h x:=fun x hx=>by unfold seeO;rw [ht x (Array.mem_toList_iff.1 hx)]
    generalize o.op.operands.toList = l at hx
    induction l with
    | nil=>rfl
    | cons x l ih=>rw [List.flatMap_cons,List.flatMap_cons,hx x (List.mem_cons_self ..),ih fun y hy=>hx y (List.mem_cons_of_mem _ hy)]
  rw [this]
  exact hf
theorem step0 {m:Bool} {o:Oper} {r:V} {u:HL} {vu:VH} (hd:∀ n,aop P m o.op (toT t) (toH h) n = some (r.toD,u)) (hu:UpdOK h u vu):StepOK P N o t h r vu (seeG t h o.op):=
 ⟨u,hu,fun f hf=>opS_aop0 hd fun k hk=>hf k (seeG_ok _ k hk)⟩
theorem stepN {m:Bool} {o:Oper} {r:V} {u:HL} {vu:VH} (hn:∀ c:Id,n ≤ c.1 → look (toH h) c = none) (hd:aop P m o.op (toT t) (toH h) n = some (r.toD,u)) (hu:UpdOK h u vu):StepOK P N o t h r vu (n :: seeG t h o.op):=
 ⟨u,hu,fun f hf=>opS_aop (hn (n,0) (Nat.le_refl _)) hd (fun k hk=>hf k (List.mem_cons_of_mem _ (seeG_ok _ k hk))) (hf n (List.mem_cons_self ..))⟩
theorem step_pre {o:Oper} {r:V} {u1:HL} {v1 v2:VH} {g1 g2:List Nat} (hp:∀ f:List Nat,(∀ k ∈ g1,k ∈ f) → PreOK P N h u1 v1 f) (hs:StepOK P N o t (puts v1 h) r v2 g2):StepOK P N o t h r (v1 ++ v2) (g1 ++ g2):=by
 obtain ⟨u,h1,h2⟩:=hs
 have p0:=hp g1 fun k hk=>hk
 refine ⟨u1 ++ u,upd_app p0.1 h1,fun f hf=>(hp f fun k hk=>hf k (List.mem_append_left _ hk)).2 _ _ _ _ (opS_congr (fun b=>(p0.1.1 b).symm) (h2 f fun k hk=>hf k (List.mem_append_right _ hk)))⟩
theorem step_mono {o:Oper} {r:V} {vu:VH} {g g':List Nat} (hs:StepOK P N o t h r vu g) (hg:∀ k ∈ g,k ∈ g'):StepOK P N o t h r vu g':=by
 obtain ⟨u,h1,h2⟩:=hs
 exact ⟨u,h1,fun f hf=>h2 f fun k hk=>hf k (hg k hk)⟩
theorem step_call {o:Oper} {f:FuncId} {vs:List V} {os fs:List Nat} {K:V → VH → List Nat → Prop} (hn:∀ c:Id,n ≤ c.1 → look (toH h) c = none) (hc:calls P (toT t) (toH h) o f (toDL vs)) (hk:callO P h n f vs os fs K) :
  ∃ r vu gl,StepOK P N o t h r vu (seeVs t h o.op.operands.toList ++ gl) ∧ K r vu gl:=by
 obtain ⟨r,u,vu,gl,h1,h2,h3⟩:=callO_ok hn hk
 refine ⟨r,vu,gl,⟨u,h2,fun f' hf'=>?_⟩,h3⟩
 obtain ⟨c,hc'⟩:=h1 f' fun k hk=>hf' k (List.mem_append_right _ hk)
 exact opS_call hn hc c (fun k hk=>hf' k (List.mem_append_left _ (seeVs_ok _ k hk))) hc'
end Go.Proofs.YtjjddgpdoibcoaaGreatDoor.Am
namespace Go.Proofs.YtjjddgpdoibcoaaGreatDoor.Am
open Go Go.RowKit
variable {P:Program} {N:Nat} {Θ:TT} {t:VT} {h:VH} {n:Nat}
mutual
def hndV (own:Bool) (h:VH):V → List Nat
 | .ref b=>(match lookO h b with
  | some (.row _ t _)=>bif own || !t.pure then [b] else []
  | some (.lit ..)=>[b]
  | _=>[])
 | .ptr b _=>(match lookO h b with
  | some (.fvb ..)=>[]
  | _=>[b])
 | .agg cs=>hndVs own h cs
 | .tup cs=>hndVs own h cs
 | .clo _ cs=>hndVs own h cs
 | .ifc _ v=>hndV own h v
 | v=>grpV v
def hndVs (own:Bool) (h:VH):List V → List Nat
 | []=>[]
 | v :: l=>hndV own h v ++ hndVs own h l
end
def hndB (own:Bool) (h:VH):VB → List Nat
 | .var _ cs=>hndVs own h cs
 | .vari _ pre _ t _ post=>hndVs own h pre ++ t.fams ++ hndVs own h post
 | .lit _ vs=>hndVs own h vs
 | x=>x.fams
def addN (l:List Nat) (b:Nat):List Nat:=match l.contains b with | true=>l | false=>l ++ [b]
def addsN:List Nat → List Nat → List Nat
 | l,[]=>l
 | l,b :: bs=>addsN (addN l b) bs
def hndAllK (own:Bool) (h:VH):Nat → Nat → List Nat → (List Nat → Prop) → Prop
 | 0,_,l,K=>K l
 | k + 1,i,l,K=>match l[i]? with
  | none=>K l
  | some b=>natsK (addsN l (match lookO h b with | some x=>hndB own h x | none=>[])) fun l=>hndAllK own h k (i + 1) l K
theorem hndAllK_ok {own:Bool}:∀ {k i:Nat} {l:List Nat} {K:List Nat → Prop},hndAllK own h k i l K → ∃ l,K l
 | 0,_,l,_,hk=>⟨l,hk⟩
 | k + 1,i,l,K,hk=>by
  simp only [hndAllK] at hk
  split at hk
  ·exact ⟨_,hk⟩
  ·have hk:=natsK_ok hk
   exact hndAllK_ok hk
def hndK (own:Bool) (h:VH) (vs:List V) (K:List Nat → List Nat → Prop):Prop:=
 natsK (addsN [] (hndVs own h vs)) fun l=>hndAllK own h 60 0 l fun l=>natsK (l.filter fun b=>Nat.ble 4 b) fun os=>natsK (l.filter fun b=>Nat.blt b 4) fun fs=>K os fs
theorem hndK_ok {own:Bool} {vs:List V} {K:List Nat → List Nat → Prop} (hk:hndK own h vs K):∃ os fs,K os fs:=by
 have hk:=natsK_ok hk
 obtain ⟨l,hk⟩:=hndAllK_ok hk
 have hk:=natsK_ok hk
 have hk:=natsK_ok hk
 exact ⟨_,_,hk⟩
def CallM (P:Program) (h:VH) (n:Nat) (f:FuncId) (vs:List V) (K:V → VH → List Nat → Prop):Prop:=∃ os fs,callO P h n f vs os fs K
theorem call_r {f:FuncId} {vs:List V} {K:V → VH → List Nat → Prop} (hk:hndK false h vs fun os fs=>callO P h n f vs os fs K):CallM P h n f vs K:=hndK_ok hk
theorem call_o {f:FuncId} {vs:List V} {K:V → VH → List Nat → Prop} (hk:hndK true h vs fun os fs=>callO P h n f vs os fs K):CallM P h n f vs K:=hndK_ok hk
def rdFam (h:VH) (k:Nat):Bool:=match lookO h k with
 | some (.frow _ t _)=>t.pure
 | some (.frowx _ t _)=>t.pure
 | _=>false
theorem call_v {f:FuncId} {vs:List V} {K:V → VH → List Nat → Prop} (hk:hndK false h vs fun os fs=>natsK (fs.filter fun k=>!rdFam h k) fun fs=>callO P h n f vs os fs K):CallM P h n f vs K:=by
 obtain ⟨os,fs,hk⟩:=hndK_ok hk
 exact ⟨_,_,natsK_ok hk⟩
def builtin0K (Θ:TT) (b:Builtin) (vs:List V) (Ts:List TypeId) (h:VH) (K:V → VH → Prop):Prop:=
 match b,vs,Ts with
 | .len,[v],[T]=>lookK Θ T fun ti=>lenK ti h v fun r=>K r []
 | .copy,[d,e],[T,_]=>lookK Θ T fun ti=>copyK Θ ti h d e K
 | .min,[.int k x,.int k' y],_=>Chk (decide (k = k')) (K (.int k (if y < x then y else x)) [])
 | .max,[.int k x,.int k' y],_=>Chk (decide (k = k')) (K (.int k (if x < y then y else x)) [])
 | _,_,_=>False
theorem builtin0K_ok (hΘ:Θ.ok P) {b:Builtin} {vs:List V} {Ts:List TypeId} {m:Bool} {K:V → VH → Prop} (hk:builtin0K Θ b vs Ts h K):∃ r u vu,(∀ n,aBuiltin P m b (toDL vs) Ts (toH h) n = some (r.toD,u)) ∧ UpdOK h u vu ∧ K r vu:=by
 unfold builtin0K at hk
 split at hk
 ·obtain ⟨ti,l1,hk⟩:=lookK_ok hk
  obtain ⟨r,h1,h2⟩:=lenK_ok (hΘ _ _ l1) hk
  exact ⟨r,[],[],fun n=>by simp only [aBuiltin,toDL,h1,Option.map_some],upd_nil,h2⟩
 ·obtain ⟨ti,l1,hk⟩:=lookK_ok hk
  obtain ⟨r,u,vu,h1,h2,h3⟩:=copyK_ok hΘ (hΘ _ _ l1) hk
  exact ⟨r,u,vu,fun n=>by simp only [aBuiltin,toDL,h1],h2,h3⟩
 ·obtain ⟨c,hk⟩:=hk.ok
  simp only [decide_eq_true_eq] at c
  exact ⟨_,[],[],fun n=>by simp only [aBuiltin,toDL,V.toD,if_pos c],upd_nil,hk⟩
 ·obtain ⟨c,hk⟩:=hk.ok
  simp only [decide_eq_true_eq] at c
  exact ⟨_,[],[],fun n=>by simp only [aBuiltin,toDL,V.toD,if_pos c],upd_nil,hk⟩
 ·exact hk.elim
def fitEs (h:VH) (τ:Ty):List V → (VH → VH → List Nat → Prop) → Prop
 | [],K=>K h [] []
 | v :: l,K=>fitKs h τ.shs v.cells fun h1 vu g=>fitEs h1 τ l fun h2 vu2 g2=>K h2 (vu ++ vu2) (g ++ g2)
theorem fitEs_ok {τ:Ty}:∀ {l:List V} {h:VH} {K:VH → VH → List Nat → Prop},fitEs h τ l K → ∃ u vu g,(∀ f:List Nat,(∀ k ∈ g,k ∈ f) → PreOK P N h u vu f) ∧ K (puts vu h) vu g
 | [],h,K,hk=>⟨[],[],[],fun f _=>pre_nil,hk⟩
 | v :: l,h,K,hk=>by
  obtain ⟨u1,v1,g1,p1,hk⟩:=fitKs_ok (P:=P) (N:=N) hk
  obtain ⟨u2,v2,g2,p2,hk⟩:=fitEs_ok hk
  refine ⟨u1 ++ u2,v1 ++ v2,g1 ++ g2,fun f hf=>pre_app (p1 f fun k hk=>hf k (List.mem_append_left _ hk)) (p2 f fun k hk=>hf k (List.mem_append_right _ hk)),?_⟩
  rw [puts_append]
  exact hk
def decL (t:Ty):List V → Option (List t.den)
 | []=>some []
 | v :: l=>match dec t (decs.nzL v),decL t l with
  | some x,some xs=>some (x :: xs)
  | _,_=>none
theorem decL_ok {t:Ty}:∀ {l:List V} {xs:List t.den},decL t l = some xs → (toDL l).map nzE = xs.map (encD t)
 | [],xs,h=>by simp only [decL,Option.some.injEq] at h;subst h;rfl
 | v :: l,xs,h=>by
  simp only [decL] at h
  split at h
  ·rename_i x xs' h1 h2
   simp only [Option.some.injEq] at h
   subst h
   simp only [toDL,List.map_cons,decL_ok h2]
   rw [← dec_ok h1,nzL_ok]
  ·cases h
def tameLK (h:VH) (b:Nat) (τ:Ty) (K:VH → VH → List Nat → Prop):Prop:=
 match lookO h b with
 | some (.lit _ vs)=>fitEs h τ vs fun h1 vu g=>(match lookO h1 b with
  | some (.lit E vs')=>fwdVs h1 vs' fun vs2=>(match decL τ vs2 with
   | some xs=>putK b (VB.row E τ xs) h1 fun h2=>K h2 (vu ++ [(b,.row E τ xs)]) (g ++ b :: grpsVs vs')
   | none=>False)
  | _=>False)
 | _=>K h [] []
theorem tameLK_ok {b:Nat} {τ:Ty} {K:VH → VH → List Nat → Prop} (hk:tameLK h b τ K):∃ u vu g,(∀ f:List Nat,(∀ k ∈ g,k ∈ f) → PreOK P N h u vu f) ∧ K (puts vu h) vu g:=by
 unfold tameLK at hk
 split at hk
 ·obtain ⟨u1,v1,g1,p1,hk⟩:=fitEs_ok (P:=P) (N:=N) hk
  split at hk
  ·rename_i E vs' hb
   rw [lookO_ok] at hb
   obtain ⟨vs2,f1,hk⟩:=fwdVs_ok hk
   split at hk
   ·rename_i xs hx
    have hk:=putK_ok hk
    have hlast:lastB (toH (puts v1 h)) (.row E (toDL vs')) = .row E (xs.map (encD τ)):=by
     simp only [lastB]
     rw [← decL_ok hx,← f1,fwdL_eq,List.map_map]
     rfl
    refine ⟨u1 ++ [((b,0),lastB (toH (puts v1 h)) (.row E (toDL vs')))],v1 ++ [(b,.row E τ xs)],g1 ++ b :: grpsVs vs',fun f hf=>pre_app (p1 f fun k hk=>hf k (List.mem_append_left _ hk)) (pre_last (y:=.row E τ xs) hb rfl (by rw [hlast];rfl) ⟨hf b (by simp),fun c hc=>hf c.1 ?_⟩),?_⟩
    ·refine List.mem_append_right _ (List.mem_cons_of_mem _ (grpsVs_ok vs' c ?_))
     rw [allIdsL_eq]
     exact hc
    ·rw [puts_append];exact hk
   ·exact hk.elim
  ·exact hk.elim
 ·exact ⟨[],[],[],fun f _=>pre_nil,hk⟩
def kindK (h:VH) (d:V) (o:Option Ty) (K:Ty → Prop):Prop:=
 match d with
 | .ref b=>blkK h b fun x=>(match x with
  | .row _ t _=>K t
  | _=>False)
 | _=>(match o with | some t=>K t | none=>False)
theorem kindK_ok {d:V} {o:Option Ty} {K:Ty → Prop} (hk:kindK h d o K):∃ t,K t:=by
 unfold kindK at hk
 split at hk
 ·obtain ⟨x,_,hk⟩:=blkK_ok hk
  split at hk
  ·exact ⟨_,hk⟩
  ·exact hk.elim
 ·split at hk
  ·exact ⟨_,hk⟩
  ·exact hk.elim
def litB (h:VH) (e:V):Option Nat:=match e with
 | .ref b=>(match lookO h b with | some (.lit ..)=>some b | _=>none)
 | _=>none
def wholeNz (s:Nat) (v:V):Bool:=v.whole && lenB' v.cells s && v.cells.all V.one
def nzP:List (Nat × V) → List V
 | []=>[]
 | (_,v) :: l=>decs.nzL v :: nzP l
theorem nzP_ok:∀ l:List (Nat × V),((toP l).map fun x=>nzE x.2) = toDL (nzP l)
 | []=>rfl
 | (k,v) :: l=>by
  have:=nzP_ok l
  simp only [toP,List.map_cons,List.map_map] at this ⊢
  simp only [nzP,toDL,nzL_ok]
  rw [← this]
def lenK':List (Nat × V) → Nat → Bool
 | [],0=>true
 | _ :: l,n + 1=>lenK' l n
 | _,_=>false
theorem lenK'_ok:∀ {l:List (Nat × V)} {n:Nat},lenK' l n = true → l.length = n
 | [],0,_=>rfl
 | _ :: l,n + 1,h=>by simp [lenK'_ok (l:=l) (n:=n) h]
 | [],_ + 1,h=>by cases h
 | _ :: _,0,h=>by cases h
def buildSK (ei:TI) (E:TypeId) (vs:List (Nat × V)) (n:Nat) (K:V → VH → Prop):Prop:=
 match ei.ty with
 | some τ=>(match decs τ vs with
  | some xs=>Chk (τ.sz == ei.sz) (K (.ref n) [(n,.row E τ xs)])
  | none=>Chk (vs.all fun p=>wholeNz ei.sz p.2) (K (.ref n) [(n,.lit E (nzP vs))]))
 | none=>Chk (vs.all fun p=>wholeNz ei.sz p.2) (K (.ref n) [(n,.lit E (nzP vs))])
theorem encD_wfD (t:Ty) (x:t.den):wfD t.sz (encD t x) = true:=by
 have h1:=encD_wf t x
 have hw:(encD t x).whole = true:=by
  cases t <;> first | rfl | (cases x <;> rfl)
 simp only [wfD,hw,h1.1,h1.2,beq_self_eq_true,Bool.and_self]
theorem buildSK_ok {T E:TypeId} {ei:TI} {len:Nat} {vs:List (Nat × V)} {K:V → VH → Prop} (hu:P.underlying T = some (.slice E)) (he:elemT P E = some (ei.sz,ei.nb)) (hkeys:keysB vs 0 = true) (hlen:lenK' vs len = true) (hb:len * ei.sz ≤ 16777216)
  (hn:∀ c:Id,n ≤ c.1 → look (toH h) c = none) (hk:buildSK ei E vs n K):∃ r u vu,aBuildSlice P (n,0) T len ((toP vs).map fun x=>(x.1,nzE x.2)) = some (V.toD r,u) ∧ UpdOK h u vu ∧ K r vu:=by
 have hmap1:((toP vs).map fun x=>(x.1,nzE x.2)).map (·.1) = List.range' 0 len:=by
  rw [List.map_map]
  have:=keysB_ok hkeys
  rw [lenK'_ok hlen] at this
  exact this
 have hmap2:((toP vs).map fun x=>(x.1,nzE x.2)).map (·.2) = (toP vs).map fun x=>nzE x.2:=by
  rw [List.map_map];rfl
 have lit:(vs.all fun p=>wholeNz ei.sz p.2) = true → aBuildSlice P (n,0) T len ((toP vs).map fun x=>(x.1,nzE x.2)) = some ((V.ref n).toD,[((n,0),.row E (toDL (nzP vs)))]):=by
  intro hw
  unfold aBuildSlice
  simp only [hu,he]
  rw [if_pos,hmap2,nzP_ok]
  ·rfl
  ·refine ⟨hmap1,hb,?_⟩
   rw [hmap2,List.all_eq_true]
   intro e hx
   obtain ⟨p,hp,rfl⟩:=List.mem_map.1 hx
   obtain ⟨q,hq,rfl⟩:=List.mem_map.1 hp
   rw [List.all_eq_true] at hw
   have:=hw q hq
   simp only [wholeNz,Bool.and_eq_true] at this
   obtain ⟨⟨w1,w2⟩,w3⟩:=this
   simp only [wfD,Bool.and_eq_true,beq_iff_eq]
   refine ⟨by rw [nzE_whole,whole_toD];exact w1,?_,nz_one w3⟩
   rw [nzE_V,toDL_len,nzVs_len,lenB_ok' w2]
 unfold buildSK at hk
 split at hk
 ·rename_i τ hτ
  split at hk
  ·rename_i xs hx
   obtain ⟨c,hk⟩:=hk.ok
   simp only [beq_iff_eq] at c
   have hd:=decs_ok hx
   refine ⟨.ref n,[((n,0),.row E (xs.map (encD τ)))],_,?_,upd_new hn rfl,hk⟩
   unfold aBuildSlice
   simp only [hu,he]
   rw [if_pos,hmap2,hd]
   ·rfl
   ·refine ⟨hmap1,hb,?_⟩
    rw [hmap2,hd,List.all_eq_true]
    intro e hx
    obtain ⟨x,_,rfl⟩:=List.mem_map.1 hx
    rw [← c]
    exact encD_wfD τ x
  ·obtain ⟨c,hk⟩:=hk.ok
   exact ⟨_,_,_,lit c,upd_new hn rfl,hk⟩
 ·obtain ⟨c,hk⟩:=hk.ok
  exact ⟨_,_,_,lit c,upd_new hn rfl,hk⟩
def solid (k:TK):Bool:=match k with | .ifc | .func=>false | _=>true
theorem solid_ok {T:TypeId} {k:TK} (h:k.ok P T) (hs:solid k = true):aIfc P T = true:=by
 unfold aIfc
 cases k with
 | struct fs=>
  have:=h.2
  unfold placesT at this
  cases hu:P.underlying T with
  | none=>rw [hu] at this;simp at this
  | some d=>
   rw [hu] at this
   cases d <;> first | rfl | (simp at this)
 | ifc=>cases hs
 | func=>cases hs
 | int k=>rw [show P.underlying T = some (.int k) from h]
 | bool=>rw [show P.underlying T = some .bool from h]
 | str=>rw [show P.underlying T = some .string from h]
 | slice E=>rw [show P.underlying T = some (.slice E) from h]
 | ptr E=>rw [show P.underlying T = some (.pointer E) from h]
 | arr m E=>rw [show P.underlying T = some (.array m E) from h]
def assertK (T:TypeId) (ti:TI) (ok:Bool) (v:V) (K:V → Prop):Prop:=
 Chk (solid ti.k) (match v with
  | .ifc T' e=>(match Nat.beq T' T with
   | true=>(match ok with | true=>K (.tup [e,.tt]) | false=>K e)
   | false=>Chk ok (match ti.z with | some z=>K (.tup [z,.ff]) | none=>False))
  | .nili=>Chk ok (match ti.z with | some z=>K (.tup [z,.ff]) | none=>False)
  | _=>False)
theorem assertK_ok {T:TypeId} {ti:TI} (ht:ti.ok P T) {ok:Bool} {v:V} {K:V → Prop} (hk:assertK T ti ok v K):∃ r,aAssert P T ok v.toD = some (V.toD r) ∧ K r:=by
 obtain ⟨c,hk⟩:=Chk.ok hk
 have hi:=solid_ok ht.und c
 unfold aAssert
 rw [if_pos hi]
 split at hk
 ·rename_i T' e
  simp only [V.toD]
  split at hk
  ·rename_i hb
   rw [if_pos (Nat.eq_of_beq_eq_true hb)]
   cases ok with
   | true=>exact ⟨_,by simp [V.toD,toDL],hk⟩
   | false=>exact ⟨_,by simp,hk⟩
  ·rename_i hb
   obtain ⟨c2,hk⟩:=hk.ok
   rw [if_neg (by rintro rfl;simp at hb)]
   split at hk
   ·rename_i z hz
    refine ⟨_,?_,hk⟩
    rw [if_pos c2,ht.zero z hz]
    simp [V.toD,toDL]
   ·exact hk.elim
 ·obtain ⟨c2,hk⟩:=hk.ok
  split at hk
  ·rename_i z hz
   refine ⟨_,?_,hk⟩
   simp only [V.toD]
   rw [if_pos c2,ht.zero z hz]
   simp [V.toD,toDL]
  ·exact hk.elim
 ·exact hk.elim
theorem aSlice_n {q:Bool} (hq:q = false) {T:TypeId} {H:HL} {m m':Id} {d:D} {lo hi:Option D}:aSlice P H q m T d lo hi = aSlice P H q m' T d lo hi:=by
 subst hq
 unfold aSlice
 simp only [Bool.false_eq_true,if_false]
end Go.Proofs.YtjjddgpdoibcoaaGreatDoor.Am
namespace Go.Proofs.YtjjddgpdoibcoaaGreatDoor.Am
open Go Go.RowKit
variable {P:Program} {N:Nat} {Θ:TT} {t:VT} {h:VH} {n:Nat}
def nzK (τ:Ty) (z:V) (K:τ.den → Prop):Prop:=decK τ (decs.nzL z) K
theorem nzK_ok {τ:Ty} {z:V} {K:τ.den → Prop} (h:nzK τ z K):∃ x,nzE z.toD = encD τ x ∧ K x:=by
 obtain ⟨x,h1,h2⟩:=decK_ok h
 exact ⟨x,by rw [← nzL_ok];exact h1,h2⟩
def callK (P:Program) (h:VH) (n:Nat) (f:FuncId) (vs:List V) (see:List Nat) (K:V → VH → List Nat → Prop):Prop:=CallM P h n f vs fun r vu gl=>K r vu (see ++ gl)
def MethM (P:Program) (T:TypeId) (m:String) (K:FuncId → Bool → Prop):Prop:=∃ f b,methT P T m = some (f,b) ∧ K f b
theorem met_i {P:Program} {T:TypeId} {m:String} {K:FuncId → Bool → Prop} {f:FuncId} {b:Bool} (h:methT P T m = some (f,b)) (k:K f b):MethM P T m K:=⟨f,b,h,k⟩
def recvK (Θ:TT) (h:VH) (T:TypeId) (b:Bool) (v:V) (K:V → Prop):Prop:=
 match b with
 | true=>K v
 | false=>lookK Θ T fun ti=>(match ti.k with
  | .ptr E=>lookK Θ E fun ei=>loadK ei h v K
  | _=>False)
theorem recvK_ok {P:Program} {Θ:TT} {h:VH} (hΘ:Θ.ok P) {T:TypeId} {b:Bool} {v:V} {K:V → Prop} (hk:recvK Θ h T b v K):∃ r,recvT P (toH h) T b v.toD = some (V.toD r) ∧ K r:=by
 unfold recvK at hk
 split at hk
 ·exact ⟨v,by simp [recvT],hk⟩
 ·obtain ⟨ti,l1,hk⟩:=lookK_ok hk
  have hu:=(hΘ _ _ l1).und
  split at hk
  ·rename_i E e
   rw [e] at hu
   have hu:P.underlying T = some (.pointer E):=hu
   obtain ⟨ei,l2,hk⟩:=lookK_ok hk
   obtain ⟨r,h1,h2⟩:=loadK_ok (hΘ _ _ l2) hk
   exact ⟨r,by simp only [recvT,Bool.false_eq_true,if_false,hu,h1],h2⟩
  ·exact hk.elim
def ptrK (v:V) (K:V → Prop):Prop:=
 match v with
 | .ptr b o=>K (.ptr b o)
 | .eptr b i o=>K (.eptr b i o)
 | .aptr b p i=>K (.aptr b p i)
 | .iptr t x o=>K (.iptr t x o)
 | .box t x=>K (.box t x)
 | .fptr k i o=>K (.fptr k i o)
 | .feptr k i j o=>K (.feptr k i j o)
 | .faptr k i p j=>K (.faptr k i p j)
 | .hpo k o=>Opt o False fun i=>K (.fptr k i 0)
 | .obo t o=>Opt o False fun x=>K (.box t x)
 | _=>False
theorem ptrK_ok {v:V} {K:V → Prop} (hk:ptrK v K):∃ r:V,isPtr v.toD = true ∧ r.toD = v.toD ∧ K r:=by
 unfold ptrK at hk
 split at hk <;> try exact ⟨_,rfl,rfl,hk⟩
 ·rename_i k o
  cases o with
  | none=>exact (hk.1 rfl).elim
  | some i=>exact ⟨.fptr k i 0,rfl,rfl,hk.2 i rfl⟩
 ·rename_i t o
  cases o with
  | none=>exact (hk.1 rfl).elim
  | some x=>exact ⟨.box t x,rfl,rfl,hk.2 x rfl⟩
 ·exact hk.elim
def ltV (n:Nat):VH → Bool
 | []=>true
 | (x,_) :: u=>Nat.blt x n && ltV n u
theorem ltV_ok:∀ {u:VH},ltV n u = true → ∀ k ∈ u.map (·.1),k < n
 | [],_,k,hk=>by cases hk
 | (a,b) :: u,h,k,hk=>by
  simp only [ltV,Bool.and_eq_true] at h
  rcases List.mem_cons.1 hk with rfl | hk
  ·simpa [Nat.blt_eq] using h.1
  ·exact ltV_ok h.2 k hk
theorem fresh_upd {u:HL} {vu:VH} (hn:∀ c:Id,n ≤ c.1 → look (toH h) c = none) (hu:UpdOK h u vu) (hl:ltV n vu = true):∀ c:Id,n ≤ c.1 → look (toH (puts vu h)) c = none:=by
 intro c hc
 rw [← hu.1,look_puts_other _ _ _ fun x hx e=>?_]
 ·exact hn c hc
 ·have:=ltV_ok hl _ (hu.2 x hx)
  rw [e] at this
  omega
def stepK (P:Program) (Θ:TT) (op:Op) (t:VT) (h:VH) (n:Nat) (K:V → VH → List Nat → Prop):Prop:=
 match op with
 | .move x=>evO t x fun v=>K v [] []
 | .assign x=>evO t x fun v=>K v [] []
 | .load T x=>evF t h x fun v=>lookK Θ T fun ti=>loadK ti h v fun r=>K r [] (seeVs t h [x])
 | .store T x y=>evF t h x fun d=>evF t h y fun v=>lookK Θ T fun ti=>tgtK h d fun tg=>(match tg with
  | none=>storeRK ti h d v fun r u=>K r u (seeVs t h [x,y])
  | some p=>fitKs h (p.1.shs.drop p.2) v.cells fun h1 vu g=>evF t h1 x fun d=>evF t h1 y fun v=>storeTK ti h1 d v fun r u=>K r (vu ++ u) (g ++ seeVs t h1 [x,y]))
 | .fieldAddr T x f=>evO t x fun v=>lookK Θ T fun ti=>(match ti.k with
  | .struct fs=>nthK fs f fun g=>Chk (decide (0 < g.2.2)) (faK g v fun r=>K r [] [])
  | _=>False)
 | .indexAddr T x i=>evF t h x fun v=>evO t i fun ix=>lookK Θ T fun ti=>(match ix with
  | .int _ j=>iaK Θ ti h v j fun r=>K r [] (seeVs t h [x,i])
  | _=>False)
 | .binOp op T x y _=>evF t h x fun d=>evF t h y fun e=>lookK Θ T fun ti=>(match ti.k with
  | .ifc=>ifcK op (constNil x || constNil y) d e fun r=>K r [] (seeVs t h [x,y])
  | .struct _=>Mk (twoT P T) (strK op d e fun r=>K r [] (seeVs t h [x,y]))
  | .ptr E=>(match d,e with
   | .hpo k o,.hpo k' o'=>peqK P T op h k k' o o' fun r=>K r [] (seeVs t h [x,y])
   | d,e=>binK op (.ptr E) d e fun r=>K r [] (seeVs t h [x,y]))
  | _=>binK op ti.k d e fun r=>K r [] (seeVs t h [x,y]))
 | .unOp op _ x=>evO t x fun d=>unK op d fun r=>K r [] []
 | .call ⟨.builtin b,args,Ts⟩=>(match b with
  | .append=>evFs t h args.toList fun vs=>(match vs,Ts.toList with
   | [d,e],[T,T']=>(match Nat.beq T T' with
    | false=>lookK Θ T fun ti=>lookK Θ T' fun ti'=>appendZK Θ ti ti' h n d e fun r u=>K r u (n :: seeVs t h args.toList)
    | true=>lookK Θ T fun ti=>(match litB h e with
    | none=>appendK Θ ti h n d e fun r u=>K r u (n :: seeVs t h args.toList)
    | some b=>(match ti.k with
     | .slice E=>lookK Θ E fun ei=>kindK h d ei.ty fun τ=>tameLK h b τ fun h1 vu g=>Chk (ltV n vu) (evFs t h1 args.toList fun vs=>(match vs with
      | [d,e]=>appendK Θ ti h1 n d e fun r u=>K r (vu ++ u) (g ++ n :: seeVs t h1 args.toList)
      | _=>False))
     | _=>False)))
   | _,_=>False)
  | b=>evFs t h args.toList fun vs=>builtin0K Θ b vs Ts.toList h fun r u=>K r u (seeVs t h args.toList))
 | .call ⟨.value (.func f),args,_⟩=>evFs t h args.toList fun vs=>callK P h n f vs (seeVs t h (.func f :: args.toList)) K
 | .call ⟨.value (.tmp k),args,_⟩=>evF t h (.tmp k) fun c=>(match c with
  | .clo f cs=>evFs t h args.toList fun vs=>callK P h n f (vs ++ cs) (seeVs t h (.tmp k :: args.toList)) K
  | _=>False)
 | .call ⟨.invoke x m,args,_⟩=>evF t h x fun c=>(match c with
  | .ifc T v=>MethM P T m fun f b=>recvK Θ h T b v fun r=>evFs t h args.toList fun vs=>callK P h n f (r :: vs) (seeVs t h (x :: args.toList)) K
  | _=>False)
 | .pick c x y=>evO t c fun b=>(match b with
  | .tt=>evO t x fun v=>K v [] []
  | .ff=>evO t y fun v=>K v [] []
  | .bool b=>Cnd b (evO t x fun v=>K v [] []) (evO t y fun v=>K v [] [])
  | _=>False)
 | .alloc T=>lookK Θ T fun ti=>(match ti.z with
  | some z=>K (.ptr n 0) [(n,.var T z.cells)] [n]
  | none=>False)
 | .box T x=>evO t x fun v=>Chk v.whole (K (.ptr n 0) [(n,.var T v.cells)] [n])
 | .build T ps=>evPs t ps.toList fun vs=>lookK Θ T fun ti=>(match ti.k,ti.z with
  | .struct fs,some (.agg zs)=>fillK fs zs vs fun cs=>K (.agg cs) [] []
  | .arr _ E,some (.agg zs)=>lookK Θ E fun _=>Chk vs.isEmpty (K (.agg zs) [] [])
  | _,_=>False)
 | .buildSlice T len ps=>evFPs t h ps.toList fun vs=>lookK Θ T fun ti=>(match ti.k with
  | .slice E=>lookK Θ E fun ei=>Chk (ei.z.isSome && decide (0 < ei.sz) && keysB vs 0 && lenK' vs len && decide (len * ei.sz ≤ 16777216)) (buildSK ei E vs n fun r u=>K r u (n :: seeVs t h (ps.toList.map (·.2))))
  | _=>False)
 | .nilCheck x=>evO t x fun v=>ptrK v fun r=>K r [] []
 | .convert S T x=>evF t h x fun v=>lookK Θ T fun ti=>lookK Θ S fun si=>convK Θ ti si h v fun r=>K r [] (seeVs t h [x])
 | .makeInterface T x=>evO t x fun v=>lookK Θ T fun ti=>Chk (solid ti.k) (K (.ifc T v) [] [])
 | .makeFunc (.func f) first captured=>Chk (Nat.beq first.size 0) (evOs t captured.toList fun vs=>K (.clo f vs) [] [])
 | .typeAssert x _ T ok=>evO t x fun v=>lookK Θ T fun ti=>assertK T ti ok v fun r=>K r [] []
 | .makeSlice T l c=>evO t l fun a=>evO t c fun b=>lookK Θ T fun ti=>(match ti.k,a,b with
  | .slice E,.int _ a,.int _ b=>lookK Θ E fun ei=>(match ei.z,ei.ty with
   | some z,some τ=>Chk (decide (0 < ei.sz) && τ.sz == ei.sz && z.cells.all V.pure0) (nzK τ z fun x=>Need (0 ≤ a ∧ a = b) (Need (fits ei.nb a.toNat) (K (.ref n) [(n,.row E τ (List.replicate a.toNat x))] [n])))
   | _,_=>False)
  | _,_,_=>False)
 | .slice T x lo hi none=>evF t h x fun v=>evOpt t lo fun l=>evOpt t hi fun r=>lookK Θ T fun ti=>sliceK Θ ti h n v l r fun q r u=>(match q with
  | true=>K r u (n :: seeG t h op)
  | false=>K r u (seeG t h op))
 | .field T x f=>evO t x fun v=>lookK Θ T fun ti=>(match ti.k,v with
  | .struct fs,.agg cs=>nthK fs f fun g=>lookK Θ g.1 fun gi=>takeK gi cs g.2.1 fun r=>K r [] []
  | _,_=>False)
 | .index T x i=>evO t x fun v=>evO t i fun i=>lookK Θ T fun ti=>(match ti.k,v,i with
  | .str,.str s,.int _ i=>Need (0 ≤ i ∧ i < (s.size:Nat)) (K (.int .u8 ((s.data.toList.getD i.toNat 0).toNat:Nat)) [] [])
  | .arr m E,.agg cs,.int _ i=>lookK Θ E fun ei=>Need (0 ≤ i ∧ i < (m:Nat)) (takeK ei cs (i.toNat * ei.sz) fun r=>K r [] [])
  | _,_,_=>False)
 | .extract x i=>evO t x fun v=>(match v with
  | .tup cs=>nthK cs i fun r=>K r [] []
  | _=>False)
 | _=>False
def Steps' (P:Program) (N:Nat) (o:Oper) (t:VT) (h:VH) (K:V → VH → List Nat → Prop):Prop:=∃ r vu gl,StepOK P N o t h r vu gl ∧ K r vu gl
theorem st0 {m:Bool} {o:Oper} {r:V} {u:HL} {vu:VH} {gl:List Nat} {K:V → VH → List Nat → Prop} (hd:∀ n,aop P m o.op (toT t) (toH h) n = some (r.toD,u)) (hu:UpdOK h u vu) (hg:∀ k ∈ seeG t h o.op,k ∈ gl) (hk:K r vu gl):Steps' P N o t h K:=⟨r,vu,gl,step_mono (step0 hd hu) hg,hk⟩
theorem stN {m:Bool} {o:Oper} {r:V} {u:HL} {vu:VH} {gl:List Nat} {K:V → VH → List Nat → Prop} (hn:∀ c:Id,n ≤ c.1 → look (toH h) c = none) (hd:aop P m o.op (toT t) (toH h) n = some (r.toD,u)) (hu:UpdOK h u vu) (hg:∀ k ∈ n :: seeG t h o.op,k ∈ gl) (hk:K r vu gl):Steps' P N o t h K:=⟨r,vu,gl,step_mono (stepN hn hd hu) hg,hk⟩
theorem seeG_l {op:Op} {l:List Operand} (hl:looks op = true) (ho:op.operands.toList = l):∀ k ∈ seeG t h op,k ∈ seeVs t h l:=by
 intro k hk
 unfold seeG at hk
 rw [hl] at hk
 rw [ho] at hk
 exact hk
theorem seeG_n {op:Op} (hl:looks op = false) (gl:List Nat):∀ k ∈ seeG t h op,k ∈ gl:=by
 intro k hk
 unfold seeG at hk
 rw [hl] at hk
 cases hk
end Go.Proofs.YtjjddgpdoibcoaaGreatDoor.Am
namespace Go.Proofs.YtjjddgpdoibcoaaGreatDoor.Am
open Go Go.RowKit
variable {P:Program} {N:Nat} {Θ:TT} {t:VT} {h:VH} {n:Nat}
set_option maxHeartbeats 1600000 in
theorem stepK_ok (hΘ:Θ.ok P) {o:Oper} (hn:∀ c:Id,n ≤ c.1 → look (toH h) c = none) {K:V → VH → List Nat → Prop} (hk:stepK P Θ o.op t h n K):Steps' P N o t h K:=by
 obtain ⟨dst,op,ty,pos,after,guard⟩:=o
 simp only at hk
 unfold stepK at hk
 split at hk
 ·obtain ⟨v,h1,h2⟩:=evO_ok hk
  exact st0 (m:=false) (fun n=>by simp only [aop,h1,Option.map_some]) upd_nil (seeG_n rfl _) h2
 ·obtain ⟨v,h1,h2⟩:=evO_ok hk
  exact st0 (m:=false) (fun n=>by simp only [aop,h1,Option.map_some]) upd_nil (seeG_n rfl _) h2
 ·obtain ⟨v,h1,h2⟩:=evF_ok hk
  obtain ⟨ti,l1,h2⟩:=lookK_ok h2
  obtain ⟨r,h3,h4⟩:=loadK_ok (hΘ _ _ l1) h2
  exact st0 (m:=false) (fun n=>by simp only [aop,h1,Option.bind_some,h3,Option.map_some]) upd_nil (seeG_l rfl (by simp [Op.operands])) h4
 ·rename_i T x y
  obtain ⟨d,h1,h2⟩:=evF_ok hk
  obtain ⟨v,h3,h2⟩:=evF_ok h2
  obtain ⟨ti,l1,h2⟩:=lookK_ok h2
  obtain ⟨tg,h2⟩:=tgtK_ok h2
  split at h2
  ·obtain ⟨u,vu,h5,h6,h7⟩:=storeRK_ok (hΘ _ _ l1) h2
   exact st0 (m:=false) (fun n=>by
    simp only [aop,h1,h3,Option.bind_some,Bool.not_false,nzM,if_true,h5,Option.map_some];rfl) h6 (seeG_l rfl (by simp [Op.operands])) h7
  ·obtain ⟨u1,v1,g1,p1,h2⟩:=fitKs_ok (P:=P) (N:=N) h2
   obtain ⟨d,h1,h2⟩:=evF_ok h2
   obtain ⟨v,h3,h2⟩:=evF_ok h2
   obtain ⟨u,vu,h5,h6,h7⟩:=storeTK_ok (hΘ _ _ l1) h2
   refine ⟨.undef,_,_,step_pre p1 (step_mono (step0 (m:=true) (fun n=>?_) h6) (seeG_l rfl (by simp [Op.operands]))),h7⟩
   simp only [aop,h1,h3,Option.bind_some,Bool.not_true,nzM,Bool.false_eq_true,if_false,h5,Option.map_some];rfl
 ·rename_i T x f
  obtain ⟨v,h1,h2⟩:=evO_ok hk
  obtain ⟨ti,l1,h2⟩:=lookK_ok h2
  have hu:=(hΘ _ _ l1).und
  split at h2
  ·rename_i fs e
   rw [e] at hu
   obtain ⟨g,g1,h2⟩:=nthK_ok h2
   obtain ⟨c,h2⟩:=h2.ok
   simp only [decide_eq_true_eq] at c
   obtain ⟨r,h3,h4⟩:=faK_ok (P:=P) (T:=T) (i:=f) ((hu.1 f g.1 g.2.1 g.2.2 g1).2 c) h2
   exact st0 (m:=false) (fun n=>by simp only [aop,h1,Option.bind_some,h3,Option.map_some]) upd_nil (seeG_n rfl _) h4
  ·exact h2.elim
 ·obtain ⟨v,h1,h2⟩:=evF_ok hk
  obtain ⟨i,h3,h4⟩:=evO_ok h2
  obtain ⟨ti,l1,h4⟩:=lookK_ok h4
  split at h4
  ·rename_i k j _
   obtain ⟨r,h5,h6⟩:=iaK_ok hΘ (hΘ _ _ l1) (k:=k) h4
   exact st0 (m:=false) (fun n=>by
    have h3':evalD (toT t) _ = some (.int k j):=h3
    simp only [aop,h1,h3',Option.bind_some,h5,Option.map_some]) upd_nil (seeG_l rfl (by simp [Op.operands])) h6
  ·exact h4.elim
 ·rename_i op T x y yT
  obtain ⟨d,h1,h2⟩:=evF_ok hk
  obtain ⟨e,h3,h4⟩:=evF_ok h2
  obtain ⟨ti,l1,h4⟩:=lookK_ok h4
  have hu:=(hΘ _ _ l1).und
  have fin:∀ {tk:TK},tk.ok P T → binK op tk d e (fun r=>K r [] (seeVs t h [x,y])) → ∃ r:V,(∀ n,aop P false (.binOp op T x y yT) (toT t) (toH h) n = some (r.toD,[])) ∧ K r [] (seeVs t h [x,y]):=fun hu h4=>by
   obtain ⟨r,h5,h6⟩:=binK_ok (P:=P) hu h4
   refine ⟨r,fun n=>?_,h6⟩
   simp only [aop,h1,h3,Option.bind_some]
   unfold aBinA at h5
   split at h5
   ·rename_i r' hr
    rw [hr]
    simp only [Option.some.injEq] at h5
    rw [h5]
   ·rename_i hr
    rw [hr]
    split at h5
    ·rename_i r' hr'
     simp only [Option.some.injEq] at h5
     simp only [hr',h5]
    ·rename_i hr'
     simp only [hr',h5]
  split at h4
  ·rename_i hi
   rw [hi] at hu
   obtain ⟨r,h5,h6,h7,h8,h9⟩:=ifcK_ok (P:=P) hu h4
   refine st0 (m:=false) (u:=[]) (fun n=>?_) upd_nil (seeG_l rfl (by simp [Op.operands])) h9
   simp only [aop,h1,h3,Option.bind_some,h5,h6,h7,h8]
  ·obtain ⟨hm,h4⟩:=h4
   obtain ⟨r,h5,h6,h7,h8,h9,h10⟩:=strK_ok (P:=P) hm h4
   refine st0 (m:=false) (u:=[]) (fun n=>?_) upd_nil (seeG_l rfl (by simp [Op.operands])) h10
   simp only [aop,h1,h3,Option.bind_some,h5,h6,h7,h8,h9]
  ·rename_i E hi
   rw [hi] at hu
   split at h4
   ·obtain ⟨r,h5,h6,h7,h8,h9,h10,h11⟩:=peqK_ok h4
    refine st0 (m:=false) (u:=[]) (fun n=>?_) upd_nil (seeG_l rfl (by simp [Op.operands])) h11
    simp only [aop,h1,h3,Option.bind_some,h5,h6,h7,h8,h9,h10,Option.map_some]
   ·obtain ⟨r,h5,h6⟩:=fin hu h4
    exact st0 (m:=false) (u:=[]) h5 upd_nil (seeG_l rfl (by simp [Op.operands])) h6
  ·obtain ⟨r,h5,h6⟩:=fin hu h4
   exact st0 (m:=false) (u:=[]) h5 upd_nil (seeG_l rfl (by simp [Op.operands])) h6
 ·obtain ⟨d,h1,h2⟩:=evO_ok hk
  obtain ⟨r,h5,h6⟩:=unK_ok h2
  exact st0 (m:=false) (fun n=>by simp only [aop,h1,Option.bind_some,h5,Option.map_some]) upd_nil (seeG_n rfl _) h6
 ·rename_i b args Ts
  split at hk
  ·obtain ⟨vs,h1,h2⟩:=evFs_ok hk
   split at h2
   ·rename_i d e T T' eT
    split at h2
    ·rename_i c
     have hne:T ≠ T':=by rintro rfl;simp at c
     obtain ⟨ti,l1,h3⟩:=lookK_ok h2
     obtain ⟨ti',l1',h3⟩:=lookK_ok h3
     obtain ⟨r,u,vu,h5,h6,h7⟩:=appendZK_ok hΘ (hΘ _ _ l1) (hΘ _ _ l1') hn h3
     refine stN (m:=false) hn ?_ h6 (fun k hk=>?_) h7
     ·simp only [aop,h1,Option.bind_some,eT,toDL,aBuiltin,hne,if_false,h5]
     ·rcases List.mem_cons.1 hk with rfl | hk
      ·exact List.mem_cons_self ..
      ·refine List.mem_cons_of_mem _ (seeG_l (l:=args.toList) rfl (by simp [Op.operands,Call.operands]) k hk)
    ·rename_i c
     obtain rfl:=Nat.eq_of_beq_eq_true c
     obtain ⟨ti,l1,h3⟩:=lookK_ok h2
     split at h3
     ·obtain ⟨r,u,vu,h5,h6,h7⟩:=appendK_ok hΘ (hΘ _ _ l1) hn h3
      refine stN (m:=false) hn ?_ h6 (fun k hk=>?_) h7
      ·simp only [aop,h1,Option.bind_some,eT,toDL,aBuiltin,if_true,h5]
      ·rcases List.mem_cons.1 hk with rfl | hk
       ·exact List.mem_cons_self ..
       ·refine List.mem_cons_of_mem _ (seeG_l (l:=args.toList) rfl (by simp [Op.operands,Call.operands]) k hk)
     ·split at h3
      ·obtain ⟨ei,l2,h3⟩:=lookK_ok h3
       obtain ⟨τ,h3⟩:=kindK_ok h3
       obtain ⟨u1,v1,g1,p1,h3⟩:=tameLK_ok (P:=P) (N:=N) h3
       obtain ⟨cl,h3⟩:=h3.ok
       obtain ⟨vs,h1,h3⟩:=evFs_ok h3
       split at h3
       ·rename_i d e
        have p0:=(p1 g1 fun k hk=>hk).1
        have hn':=fresh_upd hn p0 cl
        obtain ⟨r,u,vu,h5,h6,h7⟩:=appendK_ok hΘ (hΘ _ _ l1) hn' h3
        refine ⟨r,_,_,step_pre p1 (step_mono (stepN (m:=false) hn' ?_ h6) (fun k hk=>?_)),h7⟩
        ·simp only [aop,h1,Option.bind_some,eT,toDL,aBuiltin,if_true,h5]
        ·rcases List.mem_cons.1 hk with rfl | hk
         ·exact List.mem_cons_self ..
         ·refine List.mem_cons_of_mem _ (seeG_l (l:=args.toList) rfl (by simp [Op.operands,Call.operands]) k hk)
       ·exact h3.elim
      ·exact h3.elim
   ·exact h2.elim
  ·obtain ⟨vs,h1,h2⟩:=evFs_ok hk
   obtain ⟨r,u,vu,h5,h6,h7⟩:=builtin0K_ok (m:=false) hΘ h2
   exact st0 (m:=false) (fun n=>by simp only [aop,h1,Option.bind_some,h5]) h6 (seeG_l rfl (by simp [Op.operands,Call.operands])) h7
 ·rename_i f args Ts
  obtain ⟨vs,h1,h2⟩:=evFs_ok hk
  obtain ⟨os,fs,h2⟩:=h2
  obtain ⟨r,vu,gl,h3,h4⟩:=step_call (N:=N) (o:=⟨dst,.call ⟨.value (.func f),args,Ts⟩,ty,pos,after,guard⟩) hn ⟨args,Ts,.inl ⟨rfl,h1⟩⟩ h2
  refine ⟨r,vu,_,step_mono h3 (fun k hk=>?_),h4⟩
  simpa [Op.operands,Call.operands] using hk
 ·rename_i k args Ts
  obtain ⟨c,h1,h2⟩:=evF_ok hk
  split at h2
  ·rename_i f cs
   obtain ⟨vs,h3,h2⟩:=evFs_ok h2
   obtain ⟨os,fs,h2⟩:=h2
   obtain ⟨r,vu,gl,h3,h4⟩:=step_call (N:=N) (o:=⟨dst,.call ⟨.value (.tmp k),args,Ts⟩,ty,pos,after,guard⟩) hn ⟨args,Ts,.inr (.inl ⟨k,toDL cs,toDL vs,rfl,h1,h3,by simp [toDL_eq]⟩)⟩ h2
   refine ⟨r,vu,_,step_mono h3 (fun k hk=>?_),h4⟩
   simpa [Op.operands,Call.operands] using hk
  ·exact h2.elim
 ·rename_i x m args Ts
  obtain ⟨c,h1,h2⟩:=evF_ok hk
  split at h2
  ·rename_i T v
   obtain ⟨f,b,hm,h2⟩:=h2
   obtain ⟨r0,hr,h2⟩:=recvK_ok hΘ h2
   obtain ⟨vs,h3,h2⟩:=evFs_ok h2
   obtain ⟨os,fs,h2⟩:=h2
   obtain ⟨r,vu,gl,h4,h5⟩:=step_call (N:=N) (o:=⟨dst,.call ⟨.invoke x m,args,Ts⟩,ty,pos,after,guard⟩) hn ⟨args,Ts,.inr (.inr ⟨x,m,T,v.toD,r0.toD,b,toDL vs,rfl,h1,hm,hr,h3,rfl⟩)⟩ h2
   refine ⟨r,vu,_,step_mono h4 (fun k hk=>?_),h5⟩
   simpa [Op.operands,Call.operands] using hk
  ·exact h2.elim
 ·obtain ⟨b,h1,h2⟩:=evO_ok hk
  split at h2
  ·obtain ⟨r,h3,h4⟩:=evO_ok h2
   have h1':evalD (toT t) _ = some (.bool true):=h1
   exact st0 (m:=false) (fun n=>by simp only [aop,h1',h3,Option.map_some]) upd_nil (seeG_n rfl _) h4
  ·obtain ⟨r,h3,h4⟩:=evO_ok h2
   have h1':evalD (toT t) _ = some (.bool false):=h1
   exact st0 (m:=false) (fun n=>by simp only [aop,h1',h3,Option.map_some]) upd_nil (seeG_n rfl _) h4
  ·rename_i b
   cases b with
   | true=>
    obtain ⟨r,h3,h4⟩:=evO_ok (h2.1 rfl)
    have h1':evalD (toT t) _ = some (.bool true):=h1
    exact st0 (m:=false) (fun n=>by simp only [aop,h1',h3,Option.map_some]) upd_nil (seeG_n rfl _) h4
   | false=>
    obtain ⟨r,h3,h4⟩:=evO_ok (h2.2 rfl)
    have h1':evalD (toT t) _ = some (.bool false):=h1
    exact st0 (m:=false) (fun n=>by simp only [aop,h1',h3,Option.map_some]) upd_nil (seeG_n rfl _) h4
  ·exact h2.elim
 ·obtain ⟨ti,l1,h2⟩:=lookK_ok hk
  split at h2
  ·rename_i z hz
   refine stN (m:=false) (u:=[((n,0),.var _ (toDL z.cells))]) hn ?_ (upd_new hn rfl) (fun k hk=>?_) h2
   ·simp only [aop,(hΘ _ _ l1).zero z hz,Option.map_some,toD_cells];rfl
   ·rcases List.mem_cons.1 hk with rfl | hk
    ·exact List.mem_cons_self ..
    ·exact seeG_n rfl _ k hk
  ·exact h2.elim
 ·obtain ⟨v,h1,h2⟩:=evO_ok hk
  obtain ⟨c,h3⟩:=h2.ok
  refine stN (m:=false) (u:=[((n,0),.var _ (toDL v.cells))]) hn ?_ (upd_new hn rfl) (fun k hk=>?_) h3
  ·simp only [aop,h1,Option.bind_some,whole_toD,c,if_true,toD_cells];rfl
  ·rcases List.mem_cons.1 hk with rfl | hk
   ·exact List.mem_cons_self ..
   ·exact seeG_n rfl _ k hk
 ·rename_i T ps
  obtain ⟨vs,h1,h2⟩:=evPs_ok hk
  obtain ⟨ti,l1,h2⟩:=lookK_ok h2
  have hu:=(hΘ _ _ l1).und
  have hz:=(hΘ _ _ l1).zero
  split at h2
  ·rename_i fs zs e ez
   rw [e] at hu
   obtain ⟨cs,h3,h4⟩:=fillK_ok h2
   have hz':=hz _ ez
   simp only [V.toD] at hz'
   exact st0 (m:=false) (fun n=>by simp only [aop,h1,Option.bind_some,aBuild,hu.2,hz',h3,Option.map_some];rfl) upd_nil (seeG_n rfl _) h4
  ·rename_i M E zs e ez
   rw [e] at hu
   obtain ⟨ei,l2,h2⟩:=lookK_ok h2
   obtain ⟨c,h4⟩:=h2.ok
   have hz':=hz _ ez
   simp only [V.toD] at hz'
   have hv:vs = []:=List.isEmpty_iff.1 c
   subst hv
   have hpl:placesT P T = some []:=by
    have hs:=(hΘ _ _ l2).size
    unfold sizeT at hs
    obtain ⟨i,hi,_⟩:=Option.map_eq_some_iff.1 hs
    unfold placesT
    rw [show P.underlying T = some (.array M E) from hu]
    simp only [hi,Option.map_some]
   exact st0 (m:=false) (fun n=>by simp only [aop,h1,Option.bind_some,aBuild,hpl,hz',toP,dfill,Option.map_some];rfl) upd_nil (seeG_n rfl _) h4
  ·exact h2.elim
 ·rename_i T len ps
  obtain ⟨vs,h1,h2⟩:=evFPs_ok hk
  obtain ⟨ti,l1,h2⟩:=lookK_ok h2
  have hu:=(hΘ _ _ l1).und
  split at h2
  ·rename_i E e
   rw [e] at hu
   obtain ⟨ei,l2,h2⟩:=lookK_ok h2
   have hei:=hΘ _ _ l2
   obtain ⟨c,h2⟩:=h2.ok
   simp only [Bool.and_eq_true,decide_eq_true_eq] at c
   obtain ⟨⟨⟨⟨c1,c2⟩,c3⟩,c4⟩,c5⟩:=c
   obtain ⟨r,u,vu,h5,h6,h7⟩:=buildSK_ok (show P.underlying T = some (.slice E) from hu) (hei.elem c1 c2) c3 c4 c5 hn h2
   refine stN (m:=false) hn (by simp only [aop,h1,Option.bind_some,h5]) h6 (fun k hk=>?_) h7
   rcases List.mem_cons.1 hk with rfl | hk
   ·exact List.mem_cons_self ..
   ·exact List.mem_cons_of_mem _ (seeG_l rfl (by simp [Op.operands]) k hk)
  ·exact h2.elim
 ·obtain ⟨v,h1,h2⟩:=evO_ok hk
  obtain ⟨r,h3,h4,h5⟩:=ptrK_ok h2
  exact st0 (m:=false) (fun n=>by simp only [aop,h1,Option.bind_some,h3,if_true,h4]) upd_nil (seeG_n rfl _) h5
 ·obtain ⟨v,h1,h2⟩:=evF_ok hk
  obtain ⟨ti,l1,h2⟩:=lookK_ok h2
  obtain ⟨si,l2,h2⟩:=lookK_ok h2
  obtain ⟨r,h3,h4⟩:=convK_ok hΘ (hΘ _ _ l1) (hΘ _ _ l2) h2
  exact st0 (m:=false) (fun n=>by simp only [aop,h1,Option.bind_some,h3,Option.map_some]) upd_nil (seeG_l rfl (by simp [Op.operands])) h4
 ·obtain ⟨v,h1,h2⟩:=evO_ok hk
  obtain ⟨ti,l1,h2⟩:=lookK_ok h2
  obtain ⟨c,h2⟩:=h2.ok
  exact st0 (m:=false) (fun n=>by simp only [aop,h1,Option.bind_some,solid_ok (hΘ _ _ l1).und c,if_true];rfl) upd_nil (seeG_n rfl _) h2
 ·rename_i f first captured
  obtain ⟨c,h2⟩:=hk.ok
  obtain ⟨vs,h1,h2⟩:=evOs_ok h2
  exact st0 (m:=false) (fun n=>by simp only [aop,Nat.eq_of_beq_eq_true c,if_true,h1,Option.map_some];rfl) upd_nil (seeG_n rfl _) h2
 ·obtain ⟨v,h1,h2⟩:=evO_ok hk
  obtain ⟨ti,l1,h2⟩:=lookK_ok h2
  obtain ⟨r,h3,h4⟩:=assertK_ok (hΘ _ _ l1) h2
  exact st0 (m:=false) (fun n=>by simp only [aop,h1,Option.bind_some,h3,Option.map_some]) upd_nil (seeG_n rfl _) h4
 ·obtain ⟨a,h1,h2⟩:=evO_ok hk
  obtain ⟨b,h3,h4⟩:=evO_ok h2
  obtain ⟨ti,l1,h4⟩:=lookK_ok h4
  have hu:=(hΘ _ _ l1).und
  split at h4
  ·rename_i E k1 a k2 b e _
   rw [e] at hu
   obtain ⟨ei,l2,h4⟩:=lookK_ok h4
   have hei:=hΘ _ _ l2
   split at h4
   ·rename_i z τ hz hτ
    obtain ⟨c,h4⟩:=h4.ok
    simp only [Bool.and_eq_true,beq_iff_eq,decide_eq_true_eq] at c
    obtain ⟨⟨c1,c2⟩,c3⟩:=c
    obtain ⟨x,hx,h5⟩:=nzK_ok h4
    obtain ⟨h6,h7,h8⟩:=h5
    refine stN (m:=false) (u:=[((n,0),.row E ((List.replicate a.toNat x).map (encD τ)))]) hn ?_ (upd_new hn rfl) (fun k hk=>?_) h8
    ·have h1':evalD (toT t) _ = some (.int k1 a):=h1
     have h3':evalD (toT t) _ = some (.int k2 b):=h3
     simp only [aop,h1',h3',Option.bind_some,aMake,show P.underlying _ = some (.slice E) from hu,hei.elem (by rw [hz];rfl) c1,hei.zero z hz]
     rw [if_pos]
     ·simp only [nzM,Bool.false_eq_true,if_false,hx,List.map_replicate];rfl
     ·refine ⟨h6.1,h6.2,h7,?_⟩
      simp only [wfB,Bool.and_eq_true,beq_iff_eq]
      refine ⟨?_,by rw [toD_cells];exact all_pure0 _ c3⟩
      have h9:=congrArg (fun d:D=>d.cells.length) hx
      simp only [nzE_cells,List.length_map,(encD_wf τ x).1] at h9
      omega
    ·rcases List.mem_cons.1 hk with rfl | hk
     ·exact List.mem_cons_self ..
     ·exact seeG_n rfl _ k hk
   ·exact h4.elim
  ·exact h4.elim
 ·rename_i T x lo hi
  obtain ⟨v,h1,h2⟩:=evF_ok hk
  obtain ⟨lo',h3,h4⟩:=evOpt_ok h2
  obtain ⟨hi',h5,h6⟩:=evOpt_ok h4
  obtain ⟨ti,l1,h6⟩:=lookK_ok h6
  obtain ⟨q,r,u,vu,h7,h8,h9⟩:=sliceK_ok hΘ (hΘ _ _ l1) hn h6
  cases q with
  | true=>
   exact stN (m:=true) hn (by simp only [aop,h1,h3,h5,Option.bind_some,h7]) h8 (fun k hk=>hk) h9
  | false=>
   exact st0 (m:=false) (fun n'=>by
    simp only [aop,h1,h3,h5,Option.bind_some]
    rw [aSlice_n rfl (m':=(n,0))]
    exact h7) h8 (fun k hk=>hk) h9
 ·rename_i T x f
  obtain ⟨v,h1,h2⟩:=evO_ok hk
  obtain ⟨ti,l1,h2⟩:=lookK_ok h2
  have hu:=(hΘ _ _ l1).und
  split at h2
  ·rename_i fs cs e _
   rw [e] at hu
   obtain ⟨g,g1,h2⟩:=nthK_ok h2
   obtain ⟨gi,l2,h2⟩:=lookK_ok h2
   obtain ⟨r,h3,h4⟩:=takeK_ok (hΘ _ _ l2) h2
   exact st0 (m:=false) (fun n=>by
    have h1':evalD (toT t) _ = some (.agg (toDL cs)):=h1
    simp only [aop,h1',Option.bind_some,aPart,(hu.1 f g.1 g.2.1 g.2.2 g1).1,h3,Option.map_some]) upd_nil (seeG_n rfl _) h4
  ·exact h2.elim
 ·obtain ⟨v,h1,h2⟩:=evO_ok hk
  obtain ⟨i,h3,h4⟩:=evO_ok h2
  obtain ⟨ti,l1,h4⟩:=lookK_ok h4
  have hu:=(hΘ _ _ l1).und
  split at h4
  ·rename_i s k i e _
   rw [e] at hu
   refine st0 (m:=false) (u:=[]) (fun n=>?_) upd_nil (seeG_n rfl _) h4.2
   have h1':evalD (toT t) _ = some (.str s):=h1
   have h3':evalD (toT t) _ = some (.int k i):=h3
   simp only [aop,h1',h3',Option.bind_some,aIndex,show P.underlying _ = some .string from hu]
   rw [if_pos h4.1]
   rfl
  ·rename_i m E cs k i e _
   rw [e] at hu
   obtain ⟨ei,l2,h4⟩:=lookK_ok h4
   obtain ⟨r,h5,h6⟩:=takeK_ok (hΘ _ _ l2) h4.2
   refine st0 (m:=false) (u:=[]) (fun n=>?_) upd_nil (seeG_n rfl _) h6
   have h1':evalD (toT t) _ = some (.agg (toDL cs)):=h1
   have h3':evalD (toT t) _ = some (.int k i):=h3
   simp only [aop,h1',h3',Option.bind_some,aIndex,show P.underlying _ = some (.array m E) from hu,(hΘ _ _ l2).size]
   rw [if_pos h4.1,h5]
   rfl
  ·exact h4.elim
 ·obtain ⟨v,h1,h2⟩:=evO_ok hk
  split at h2
  ·rename_i cs
   obtain ⟨r,h3,h4⟩:=nthK_ok h2
   exact st0 (m:=false) (fun n=>by
    have h1':evalD (toT t) _ = some (.tup (toDL cs)):=h1
    simp only [aop,h1',Option.bind_some,aExtract,toDL_eq,List.getElem?_map,h3,Option.map_some]) upd_nil (seeG_n rfl _) h4
  ·exact h2.elim
 ·exact hk.elim
end Go.Proofs.YtjjddgpdoibcoaaGreatDoor.Am
namespace Go.Proofs.YtjjddgpdoibcoaaGreatDoor.Am
open Go Go.RowKit
variable {P:Program} {N:Nat}
def disj (a b:List Nat):Bool:=a.all fun x=>!b.contains x
abbrev Fws:=List (Nat × List Nat × List Nat)
def confB (dep:List Nat) (fws:Fws) (f ws:List Nat):Bool:=
 fws.all fun x=>(disj x.2.2 f && disj x.2.2 ws && disj ws x.2.1) || dep.contains x.1
def conf1 (fws:Fws) (f ws:List Nat):Bool:=fws.all fun x=>disj x.2.2 f && disj x.2.2 ws && disj ws x.2.1
theorem conf1_ok {dep:List Nat} {fws:Fws} {f ws:List Nat} (h:conf1 fws f ws = true):confB dep fws f ws = true:=by
 unfold conf1 at h
 unfold confB
 rw [List.all_eq_true] at h ⊢
 intro x hx
 rw [h x hx]
 rfl
theorem conf_nil {dep:List Nat} {fws:Fws}:confB dep fws [] [] = true:=by
 unfold confB
 rw [List.all_eq_true]
 intro x hx
 simp [disj]
def confK (dep:Unit → List Nat) (fws:Fws) (f ws:List Nat) (K:Prop):Prop:=
 match conf1 fws f ws with
 | true=>K
 | false=>Mk (confB (dep ()) fws f ws) K
theorem confK_ok {dep:Unit → List Nat} {fws:Fws} {f ws:List Nat} {K:Prop} (h:confK dep fws f ws K):confB (dep ()) fws f ws = true ∧ K:=by
 unfold confK at h
 split at h
 ·rename_i e;exact ⟨conf1_ok e,h⟩
 ·exact h
def dstLt (N:Nat) (dst:Option Tmp):Bool:=match dst with | some d=>Nat.blt d N | none=>true
def putV (dst:Option Nat) (v:V) (t:VT):VT:=match dst with | some k=>(k,v) :: t | none=>t
theorem putV_ok (dst:Option Nat) (v:V) (t:VT):toT (putV dst v t) = putD dst v.toD (toT t):=by cases dst <;> rfl
def cntN (n:Nat):VH → Nat
 | []=>0
 | (x,_) :: u=>bif Nat.ble n x then cntN n u + 1 else cntN n u
def putVK (dst:Option Nat) (v:V) (t:VT) (K:VT → Prop):Prop:=match dst with | some k=>K ((k,v) :: t) | none=>K t
theorem putVK_ok {dst:Option Nat} {v:V} {t:VT} {K:VT → Prop} (h:putVK dst v t K):K (putV dst v t):=by cases dst <;> exact h
theorem addN_mem {l:List Nat} {b x:Nat}:x ∈ addN l b ↔ x ∈ l ∨ x = b:=by
 unfold addN
 split
 ·rename_i h
  refine ⟨.inl,fun h'=>h'.elim id fun e=>?_⟩
  subst e
  simpa using h
 ·simp
theorem addsN_mem:∀ {bs l:List Nat} {x:Nat},x ∈ addsN l bs ↔ x ∈ l ∨ x ∈ bs
 | [],l,x=>by simp [addsN]
 | b :: bs,l,x=>by
  simp only [addsN,addsN_mem,addN_mem,List.mem_cons]
  exact or_assoc
def Unch (y x:VB) (A B:Prop):Prop:=(y = x ∧ A) ∨ B
def sameK (h:VH):VH → (VH → List Nat → Prop) → Prop
 | [],K=>K [] []
 | (k,x) :: u,K=>match lookO h k with
  | some y=>Unch y x (sameK h u fun r ds=>K r (k :: ds)) (sameK h u fun r ds=>K ((k,x) :: r) ds)
  | none=>sameK h u fun r ds=>K ((k,x) :: r) ds
def samesK (h u:VH) (K:VH → List Nat → Prop):Prop:=match nodupN (keysV u) with
 | true=>sameK h u K
 | false=>K u []
structure SameOK (h u u':VH) (ds:List Nat):Prop where
 sub:∀ k ∈ keysV u',k ∈ keysV u
 out:∀ k ∈ ds,k ∉ keysV u'
 rest:∀ k ∈ keysV u,k ∉ ds → k ∈ keysV u'
 new:∀ g:VH,∀ k,k ∉ ds → look (puts u' g) k = look (puts u g) k
 old:∀ g:VH,∀ k ∈ ds,look (puts u g) k = look h k
theorem same_refl (h u:VH):SameOK h u u []:=⟨fun _ h=>h,(by simp),fun _ h _=>h,fun _ _ _=>rfl,(by simp)⟩
theorem keysV_cons (k:Nat) (x:VB) (u:VH):keysV ((k,x) :: u) = k :: keysV u:=rfl
theorem keys_not {u:VH} {k:Nat} (h:k ∉ keysV u):∀ x ∈ u,x.1 ≠ k:=fun x hx e=>h (by rw [← keysV_ok];exact List.mem_map.2 ⟨x,hx,e⟩)
theorem sameK_ok {h:VH}:∀ {u:VH} {K:VH → List Nat → Prop},(keysV u).Nodup → sameK h u K → ∃ u' ds,SameOK h u u' ds ∧ (∀ k ∈ ds,k ∈ keysV u) ∧ K u' ds
 | [],K,_,hk=>⟨[],[],same_refl h [],by simp,hk⟩
 | (k,x) :: u,K,hn,hk=>by
  rw [keysV_cons,List.nodup_cons] at hn
  have keep:(sameK h u fun r ds=>K ((k,x) :: r) ds) → ∃ u' ds,SameOK h ((k,x) :: u) u' ds ∧ (∀ j ∈ ds,j ∈ keysV ((k,x) :: u)) ∧ K u' ds:=by
   intro hk
   obtain ⟨u',ds,s,hd,hk⟩:=sameK_ok hn.2 hk
   refine ⟨_,ds,⟨fun j hj=>?_,fun j hj hc=>?_,fun j hj hne=>?_,fun g j hj=>s.new _ j hj,fun g j hj=>s.old _ j hj⟩,fun j hj=>by rw [keysV_cons];exact List.mem_cons_of_mem _ (hd j hj),hk⟩
   ·rw [keysV_cons] at hj ⊢
    rcases List.mem_cons.1 hj with e | hj
    ·rw [e];exact List.mem_cons_self ..
    ·exact List.mem_cons_of_mem _ (s.sub j hj)
   ·rw [keysV_cons] at hc
    rcases List.mem_cons.1 hc with e | hc
    ·exact hn.1 (e ▸ hd j hj)
    ·exact s.out j hj hc
   ·rw [keysV_cons] at hj ⊢
    rcases List.mem_cons.1 hj with e | hj
    ·rw [e];exact List.mem_cons_self ..
    ·exact List.mem_cons_of_mem _ (s.rest j hj hne)
  simp only [sameK] at hk
  split at hk
  ·rename_i y hy
   rw [lookO_ok] at hy
   rcases hk with ⟨e,hk⟩ | hk
   ·subst e
    obtain ⟨u',ds,s,hd,hk⟩:=sameK_ok hn.2 hk
    refine ⟨u',k :: ds,⟨fun j hj=>by rw [keysV_cons];exact List.mem_cons_of_mem _ (s.sub j hj),fun j hj hc=>?_,fun j hj hne=>?_,fun g j hj=>?_,fun g j hj=>?_⟩,fun j hj=>?_,hk⟩
    ·rcases List.mem_cons.1 hj with e | hj
     ·exact hn.1 (e ▸ s.sub j hc)
     ·exact s.out j hj hc
    ·rw [keysV_cons] at hj
     rcases List.mem_cons.1 hj with e | hj
     ·exact absurd (e ▸ List.mem_cons_self ..) hne
     ·exact s.rest j hj fun h=>hne (List.mem_cons_of_mem _ h)
    ·have hjk:j ≠ k:=fun e=>hj (e ▸ List.mem_cons_self ..)
     show _ = look (puts u (put k y g)) j
     rw [s.new g j fun h=>hj (List.mem_cons_of_mem _ h)]
     exact look_puts_congr2 u j (by rw [look_put,if_neg hjk])
    ·show look (puts u (put k y g)) j = _
     rcases List.mem_cons.1 hj with e | hj
     ·subst e
      rw [look_puts_other _ _ _ (keys_not hn.1),look_put,if_pos rfl,hy]
     ·exact s.old _ j hj
    ·rw [keysV_cons]
     rcases List.mem_cons.1 hj with e | hj
     ·rw [e];exact List.mem_cons_self ..
     ·exact List.mem_cons_of_mem _ (hd j hj)
   ·exact keep hk
  ·exact keep hk
theorem samesK_ok {h u:VH} {K:VH → List Nat → Prop} (hk:samesK h u K):∃ u' ds,SameOK h u u' ds ∧ K u' ds:=by
 unfold samesK at hk
 split at hk
 ·rename_i e
  obtain ⟨u',ds,s,_,hk⟩:=sameK_ok (nodupN_ok e) hk
  exact ⟨u',ds,s,hk⟩
 ·exact ⟨u,[],same_refl h u,hk⟩
theorem look_filter {u:HL} {p:Id → Bool}:∀ {g:HL} {b:Id},p b = true → look (puts (u.filter fun x=>p x.1) g) b = look (puts u g) b:=by
 induction u with
 | nil=>intro g b _;rfl
 | cons x u ih=>
  intro g b hp
  by_cases hx:p x.1 = true
  ·rw [List.filter_cons_of_pos (by exact hx)]
   exact ih hp
  ·rw [List.filter_cons_of_neg (by exact hx),ih hp]
   have hne:b ≠ x.1:=fun e=>hx (e ▸ hp)
   exact look_puts_congr (u:=u) (by rw [look_put,if_neg hne])
theorem StepOK.same {o:Oper} {t:VT} {h u u':VH} {r:V} {gl ds:List Nat} (hs:StepOK P N o t h r u gl) (s:SameOK h u u' ds):StepOK P N o t h r u' (gl ++ ds):=by
 obtain ⟨uu,hU,hS⟩:=hs
 have hin:∀ b:Id,b.1 ∈ ds → look (toH (puts u h)) b = look (toH h) b:=fun b hb=>by rw [look_toH,look_toH,s.old h b.1 hb]
 have hout:∀ (g:HL) (b:Id),b.1 ∈ ds → look (puts (uu.filter fun x=>!ds.contains x.1.1) g) b = look g b:=fun g b hb=>look_puts_other _ _ _ fun x hx e=>by
  have:=(List.mem_filter.1 hx).2
  rw [e] at this
  simp [hb] at this
 have hnew:∀ (g:HL) (b:Id),b.1 ∉ ds → look (puts (uu.filter fun x=>!ds.contains x.1.1) g) b = look (puts uu g) b:=fun g b hb=>look_filter (p:=fun b=>!ds.contains b.1) (by simp [hb])
 refine ⟨uu.filter fun x=>!ds.contains x.1.1,⟨fun b=>?_,fun x hx=>?_⟩,fun f hf t' h' ht ha w0 S A ρ a w hsim=>?_⟩
 ·by_cases hb:b.1 ∈ ds
  ·rw [hout _ b hb,look_toH,look_toH,look_puts_other _ _ _ (keys_not (s.out _ hb))]
  ·rw [hnew _ b hb,hU.1 b,look_toH,look_toH,s.new h b.1 hb]
 ·obtain ⟨h1,h2⟩:=List.mem_filter.1 hx
  have h3:=hU.2 x h1
  rw [keysV_ok] at h3 ⊢
  exact s.rest _ h3 (by simpa using h2)
 ·have hw:=hS f (fun k hk=>hf k (List.mem_append_left _ hk)) t' h' ht ha w0 S A ρ a w hsim
  refine Reg.wp_exit_mono (K:=Done P w0 S A N ρ t' h' (puts uu h') a o.dst r.toD) ?_ hw
  rintro a' w' ⟨v,ρ',rfl,hex,q1,q2⟩
  have he:∀ b:Id,look (puts (uu.filter fun x=>!ds.contains x.1.1) h') b = look (puts uu h') b:=by
   intro b
   by_cases hb:b.1 ∈ ds
   ·have e1:look (toH h) b = look h' b:=ha b (hf _ (List.mem_append_right _ hb))
    rw [hout _ b hb,← e1,← hin b hb,← hU.1 b]
    exact look_puts_congr e1
   ·exact hnew _ b hb
  have hL:Live (puts (uu.filter fun x=>!ds.contains x.1.1) h') = Live (puts uu h'):=funext fun b=>by simp only [Live,he]
  have hO:okOf A ρ' (puts (uu.filter fun x=>!ds.contains x.1.1) h') w' = okOf A ρ' (puts uu h') w':=funext fun k=>by simp only [okOf,he]
  refine ⟨v,ρ',rfl,hex,q1.congr (fun _=>rfl) he,?_⟩
  rw [hL,hO]
  exact q2
def vrun (P:Program) (Θ:TT) (dep:Nat → List Nat) (chk:Bool) (N:Nat) (o:Oper) (k:Nat) (fws:Fws) (t:VT) (h:VH) (n:Nat) (K:Fws → VSt → Prop):Prop:=
 Chk (dstLt N o.dst) (stepK P Θ o.op t h n fun d u gl=>putVK o.dst d t fun t'=>match u with
  | []=>(match chk with
   | false=>K fws ⟨t',h,n⟩
   | true=>natsK (addsN [] gl) fun f=>(match f with
    | []=>K fws ⟨t',h,n⟩
    | f=>confK (fun _=>dep k) fws f [] (K ((k,f,[]) :: fws) ⟨t',h,n⟩)))
  | u=>natK (n + cntN n u) fun n'=>match chk with
   | false=>Chk (ltV n' u) (putsK u h fun h'=>K fws ⟨t',h',n'⟩)
   | true=>samesK h u fun u ds=>Chk (ltV n' u) (putsK u h fun h'=>natsK (addsN [] (gl ++ ds)) fun f=>natsK (keysV u) fun ws=>confK (fun _=>dep k) fws f ws (K ((k,f,ws) :: fws) ⟨t',h',n'⟩)))
def vskip (N:Nat) (o:Oper) (t:VT) (h:VH) (n:Nat) (K:VSt → Prop):Prop:=Chk (dstLt N o.dst) (putVK o.dst (.tup []) t fun t'=>K ⟨t',h,n⟩)
def vops (P:Program) (Θ:TT) (ops:Array Oper) (dep:Nat → List Nat) (chk:Bool) (N:Nat):List Oper → Nat → Fws → VSt → (VSt → Prop) → Prop
 | [],_,_,σ,K=>K σ
 | o :: l,k,fws,⟨t,h,n⟩,K=>match o.guard with
  | none=>vrun P Θ dep chk N o k fws t h n fun fws' σ'=>vops P Θ ops dep chk N l (k + 1) fws' σ' K
  | some (g,want)=>(match (ops[g]?).bind (·.dst) with
   | some s=>lookK t s fun v=>(match v with
    | .tt=>(match want with
      | true=>vrun P Θ dep chk N o k fws t h n fun fws' σ'=>vops P Θ ops dep chk N l (k + 1) fws' σ' K
      | false=>vskip N o t h n fun σ'=>vops P Θ ops dep chk N l (k + 1) fws σ' K)
    | .ff=>(match want with
      | false=>vrun P Θ dep chk N o k fws t h n fun fws' σ'=>vops P Θ ops dep chk N l (k + 1) fws' σ' K
      | true=>vskip N o t h n fun σ'=>vops P Θ ops dep chk N l (k + 1) fws σ' K)
    | .bool b=>Cnd b
     (match want with
      | true=>vrun P Θ dep chk N o k fws ((s,.tt) :: t) h n fun fws' σ'=>vops P Θ ops dep chk N l (k + 1) fws' σ' K
      | false=>vskip N o ((s,.tt) :: t) h n fun σ'=>vops P Θ ops dep chk N l (k + 1) fws σ' K)
     (match want with
      | false=>vrun P Θ dep chk N o k fws ((s,.ff) :: t) h n fun fws' σ'=>vops P Θ ops dep chk N l (k + 1) fws' σ' K
      | true=>vskip N o ((s,.ff) :: t) h n fun σ'=>vops P Θ ops dep chk N l (k + 1) fws σ' K)
    | .tup []=>vskip N o t h n fun σ'=>vops P Θ ops dep chk N l (k + 1) fws σ' K
    | _=>False)
   | none=>False)
theorem OpS.congr {o:Oper} {t t':List (Nat × D)} {h h':HL} {d:D} {u:HL} {f:List Nat} (ht:∀ x,look t x = look t' x) (hh:∀ b,look h b = look h' b) (hd:OpS P N o t h d u f):OpS P N o t' h' d u f:=
 fun t2 h2 e1 e2=>hd t2 h2 (fun x hx=>(evalD_look fun k _=>ht k).trans (e1 x hx)) fun b hb=>(hh b).trans (e2 b hb)
theorem TRun.congr {ops:Array Oper}:∀ {L:List (Oper × Rc)} {t t':List (Nat × D)} {h h':HL} {n:Nat},(∀ x,look t x = look t' x) → (∀ b,look h b = look h' b) → TRun P ops N t h n L → TRun P ops N t' h' n L
 | [],_,_,_,_,_,_,_,_=>trivial
 | (o,r) :: L,t,t',h,h',n,he,hh,⟨h1,h2,h3⟩=>by
  refine ⟨h1,?_,TRun.congr (fun x=>?_) (fun b=>look_puts_congr (hh b)) h3⟩
  ·have hg:guardB ops t o = guardB ops t' o:=guardB_congr fun k _=>he k
   rcases h2 with ⟨g1,g2⟩ | ⟨g1,g2⟩
   ·exact .inl ⟨hg ▸ g1,g2.congr he hh⟩
   ·exact .inr ⟨hg ▸ g1,g2⟩
  ·rw [look_putD,look_putD,he x]
def FwsOf (k:Nat) (pre:List (Oper × Rc)) (fws:Fws):Prop:=
 pre.length = k ∧ ∀ i o r,pre[i]? = some (o,r) → (r.u ≠ [] ∨ r.f ≠ []) → ∃ f ws,(i,f,ws) ∈ fws ∧ (∀ x ∈ r.u,x.1.1 ∈ ws) ∧ ∀ x ∈ r.f,x ∈ f
theorem stT_shift:∀ (k k':Nat) (l:List (Oper × Rc)) (t:List (Nat × D)),stT (fun _=>true) k l t = stT (fun _=>true) k' l t
 | _,_,[],_=>rfl
 | k,k',(o,r) :: l,t=>stT_shift (k + 1) (k' + 1) l _
theorem stH_shift:∀ (k k':Nat) (l:List (Oper × Rc)) (t:HL),stH (fun _=>true) k l t = stH (fun _=>true) k' l t
 | _,_,[],_=>rfl
 | k,k',(o,r) :: l,t=>stH_shift (k + 1) (k' + 1) l _
def Fresh (σ:VSt):Prop:=∀ c:Id,σ.n ≤ c.1 → look (toH σ.h) c = none
def Runs (P:Program) (N:Nat) (ops:Array Oper) (dep:Nat → List Nat) (chk:Bool) (l:List Oper) (k:Nat) (fws:Fws) (σ σ':VSt):Prop:=
 ∀ pre:List (Oper × Rc),(chk = true → FwsOf k pre fws) → ∃ L:List (Oper × Rc),L.map (·.1) = l ∧ TRun P ops N (toT σ.t) (toH σ.h) σ.n L ∧
  (∀ x,look (toT σ'.t) x = look (stT (fun _=>true) 0 L (toT σ.t)) x) ∧ (∀ x,look (toH σ'.h) x = look (stH (fun _=>true) 0 L (toH σ.h)) x) ∧
  Fresh σ' ∧
  (chk = true → ∀ i j oi ri oj rj,i < k + j → (pre ++ L)[i]? = some (oi,ri) → L[j]? = some (oj,rj) → (dep (k + j)).contains i = false → (∀ x ∈ ri.u,x.1.1 ∉ rj.f ∧ ∀ y ∈ rj.u,x.1.1 ≠ y.1.1) ∧ (∀ x ∈ rj.u,x.1.1 ∉ ri.f))
variable {ops:Array Oper} {dep:Nat → List Nat} {chk:Bool}
theorem Runs.nil {k:Nat} {fws:Fws} {σ:VSt} (hn:Fresh σ):Runs P N ops dep chk [] k fws σ σ:=fun pre _=>
 ⟨[],rfl,trivial,fun _=>rfl,fun _=>rfl,hn,fun _ i j oi ri oj rj _ _ hj=>by simp at hj⟩
theorem Runs.congr {l:List Oper} {k:Nat} {fws:Fws} {σ τ σ':VSt} (h:Runs P N ops dep chk l k fws τ σ') (ht:∀ x,look (toT τ.t) x = look (toT σ.t) x) (hh:τ.h = σ.h) (hn:τ.n = σ.n):Runs P N ops dep chk l k fws σ σ':=by
 intro pre hpre
 obtain ⟨L,h1,h2,h3,h4,h5,h6⟩:=h pre hpre
 rw [hh] at h2 h4
 rw [hn] at h2
 exact ⟨L,h1,h2.congr ht (fun _=>rfl),fun x=>by rw [h3];exact stT_start _ L 0 _ _ x (ht x),h4,h5,h6⟩
theorem disj_ok {a b:List Nat} (h:disj a b = true):∀ x ∈ a,x ∉ b:=by
 intro x hx
 unfold disj at h
 rw [List.all_eq_true] at h
 simpa using h x hx
theorem Runs.step {o:Oper} {l:List Oper} {k:Nat} {fws:Fws} {σ σ':VSt} {d:V} {u:VH} {gl:List Nat} {n':Nat} (hg:guardB ops (toT σ.t) o = some true) (hd:dstLt N o.dst = true) (ha:StepOK P N o σ.t σ.h d u gl) (hn:σ.n ≤ n') (hu:ltV n' u = true)
  (hc:chk = true → confB (dep k) fws gl (keysV u) = true) {fws':Fws} (hf:chk = true → fws' = (k,gl,keysV u) :: fws ∨ (fws' = fws ∧ gl = [] ∧ u = [])) (h:Runs P N ops dep chk l (k + 1) fws' ⟨putV o.dst d σ.t,puts u σ.h,n'⟩ σ'):Runs P N ops dep chk (o :: l) k fws σ σ':=by
 intro pre hpre
 obtain ⟨uu,hU,hS⟩:=ha
 have hS:=hS gl fun k hk=>hk
 let r:Rc:=⟨d.toD,uu,gl,σ.n,n'⟩
 have huk:∀ x ∈ uu,x.1.1 ∈ keysV u:=fun x hx=>by rw [← keysV_ok];exact hU.2 x hx
 obtain ⟨L,h1,h2,h3,h4,h5,h6⟩:=h (pre ++ [(o,r)]) (fun hchk=>by
  obtain ⟨q1,q2⟩:=hpre hchk
  refine ⟨by simp [q1],fun i o' r' hi hne=>?_⟩
  have hmono:∀ x ∈ fws,x ∈ fws':=by
   intro x hx
   rcases hf hchk with e | ⟨e,_⟩
   ·rw [e];exact List.mem_cons_of_mem _ hx
   ·rw [e];exact hx
  rcases Nat.lt_or_ge i pre.length with hlt | hge
  ·rw [List.getElem?_append_left hlt] at hi
   obtain ⟨f,ws,a1,a2⟩:=q2 i o' r' hi hne
   exact ⟨f,ws,hmono _ a1,a2⟩
  ·rw [List.getElem?_append_right hge] at hi
   have:i - pre.length = 0:=by
    have:=(List.getElem?_eq_some_iff.1 hi).1
    simpa using this
   rw [this] at hi
   simp only [List.getElem?_cons_zero,Option.some.injEq,Prod.mk.injEq] at hi
   obtain ⟨rfl,rfl⟩:=hi
   have hik:i = k:=by omega
   rcases hf hchk with e | ⟨_,e1,e2⟩
   ·rw [hik,e]
    exact ⟨gl,keysV u,List.mem_cons_self ..,huk,fun x hx=>hx⟩
   ·exfalso
    rcases hne with hne | hne
    ·refine hne ?_
     show uu = []
     cases huu:uu with
     | nil=>rfl
     | cons x l=>have:=huk x (by rw [huu];exact List.mem_cons_self ..);rw [e2] at this;cases this
    ·exact hne e1)
 have hdst:∀ x,o.dst = some x → x < N:=by
  intro x hx
  simpa [dstLt,hx,Nat.blt_eq] using hd
 rw [putV_ok] at h2
 have h2':=h2.congr (fun _=>rfl) (fun b=>(hU.1 b).symm)
 refine ⟨(o,r) :: L,by simp [h1],⟨⟨rfl,hn,fun x hx=>ltV_ok hu _ (hU.2 x hx),hdst⟩,.inl ⟨hg,hS⟩,h2'⟩,fun x=>(h3 x).trans ?_,fun x=>(h4 x).trans ?_,h5,fun hchk i j oi ri oj rj hij hi hj hdp=>?_⟩
 ·show look (stT _ 0 L (toT (putV o.dst d σ.t))) x = look (stT _ 1 L (if (fun _=>true) 0 = true then _ else _)) x
  simp only [if_true,putV_ok]
  rw [stT_shift 0 1]
 ·show look (stH _ 0 L (toH (puts u σ.h))) x = look (stH _ 1 L (if (fun _=>true) 0 = true then _ else _)) x
  simp only [if_true]
  rw [stH_shift 0 1]
  exact stH_start _ L 1 _ _ x (hU.1 x).symm
 ·cases j with
  | zero=>
   simp only [List.getElem?_cons_zero,Option.some.injEq,Prod.mk.injEq] at hj
   obtain ⟨rfl,rfl⟩:=hj
   obtain ⟨q1,q2⟩:=hpre hchk
   rw [List.getElem?_append_left (by omega)] at hi
   by_cases hne:ri.u ≠ [] ∨ ri.f ≠ []
   ·obtain ⟨f0,ws0,hm,m1,m2⟩:=q2 i oi ri hi hne
    have hcf:=hc hchk
    unfold confB at hcf
    rw [List.all_eq_true] at hcf
    have:=hcf _ hm
    simp only [Nat.add_zero] at hdp
    simp only [hdp,Bool.or_false,Bool.and_eq_true] at this
    obtain ⟨⟨c1,c2⟩,c3⟩:=this
    exact ⟨fun x hx=>⟨disj_ok c1 _ (m1 x hx),fun y hy he=>disj_ok c2 _ (m1 x hx) (he ▸ huk y hy)⟩,fun x hx hxf=>disj_ok c3 _ (huk x hx) (m2 _ hxf)⟩
   ·have e1:ri.u = []:=by
     rcases Classical.em (ri.u = []) with h | h
     ·exact h
     ·exact absurd (.inl h) hne
    have e2:ri.f = []:=by
     rcases Classical.em (ri.f = []) with h | h
     ·exact h
     ·exact absurd (.inr h) hne
    rw [e1,e2]
    exact ⟨fun x hx=>(by cases hx),fun x hx h=>(by cases h)⟩
  | succ j=>
   refine h6 hchk i j oi ri oj rj (by omega) (by simpa using hi) (by simpa using hj) (by rw [show k + 1 + j = k + (j + 1) by omega];exact hdp)
theorem Runs.skip {o:Oper} {l:List Oper} {k:Nat} {fws:Fws} {σ σ':VSt} (hg:guardB ops (toT σ.t) o = some false) (hd:dstLt N o.dst = true) (h:Runs P N ops dep chk l (k + 1) fws ⟨putV o.dst (.tup []) σ.t,σ.h,σ.n⟩ σ'):Runs P N ops dep chk (o :: l) k fws σ σ':=by
 intro pre hpre
 let r:Rc:=⟨.tup [],[],[],σ.n,σ.n⟩
 obtain ⟨L,h1,h2,h3,h4,h5,h6⟩:=h (pre ++ [(o,r)]) (fun hchk=>by
  obtain ⟨q1,q2⟩:=hpre hchk
  refine ⟨by simp [q1],fun i o' r' hi hne=>?_⟩
  rcases Nat.lt_or_ge i pre.length with hlt | hge
  ·rw [List.getElem?_append_left hlt] at hi
   exact q2 i o' r' hi hne
  ·rw [List.getElem?_append_right hge] at hi
   have:i - pre.length = 0:=by
    have:=(List.getElem?_eq_some_iff.1 hi).1
    simpa using this
   rw [this] at hi
   simp only [List.getElem?_cons_zero,Option.some.injEq,Prod.mk.injEq] at hi
   obtain ⟨rfl,rfl⟩:=hi
   simp [r] at hne)
 have hdst:∀ x,o.dst = some x → x < N:=by
  intro x hx
  simpa [dstLt,hx,Nat.blt_eq] using hd
 rw [putV_ok] at h2
 refine ⟨(o,r) :: L,by simp [h1],⟨⟨rfl,Nat.le_refl _,by simp [r],hdst⟩,.inr ⟨hg,rfl,rfl,rfl⟩,h2⟩,fun x=>(h3 x).trans ?_,fun x=>(h4 x).trans ?_,h5,fun hchk i j oi ri oj rj hij hi hj hdp=>?_⟩
 ·show look (stT _ 0 L (toT (putV o.dst (.tup []) σ.t))) x = look (stT _ 1 L (if (fun _=>true) 0 = true then _ else _)) x
  simp only [if_true,putV_ok]
  rw [stT_shift 0 1]
  rfl
 ·show look (stH _ 0 L (toH σ.h)) x = look (stH _ 1 L (if (fun _=>true) 0 = true then _ else _)) x
  simp only [if_true]
  rw [stH_shift 0 1]
  rfl
 ·cases j with
  | zero=>
   simp only [List.getElem?_cons_zero,Option.some.injEq,Prod.mk.injEq] at hj
   obtain ⟨rfl,rfl⟩:=hj
   refine ⟨fun x hx=>⟨by simp [r],by simp [r]⟩,by simp [r]⟩
  | succ j=>
   refine h6 hchk i j oi ri oj rj (by omega) (by simpa using hi) (by simpa using hj) (by rw [show k + 1 + j = k + (j + 1) by omega];exact hdp)
theorem addsN_ok {gl:List Nat} {o:Oper} {t:VT} {h:VH} {r:V} {u:VH} (hs:StepOK P N o t h r u gl):StepOK P N o t h r u (addsN [] gl):=step_mono hs fun k hk=>addsN_mem.2 (.inr hk)
theorem vrun_ok {Θ:TT} (hΘ:Θ.ok P) {o:Oper} {k:Nat} {fws:Fws} {σ:VSt} (hfr:Fresh σ) {K:Fws → VSt → Prop} (h:vrun P Θ dep chk N o k fws σ.t σ.h σ.n K) :
  ∃ (d:V) (u:VH) (gl:List Nat) (n':Nat) (fws':Fws),dstLt N o.dst = true ∧ StepOK P N o σ.t σ.h d u gl ∧ σ.n ≤ n' ∧ ltV n' u = true ∧ (chk = true → confB (dep k) fws gl (keysV u) = true) ∧
   (chk = true → fws' = (k,gl,keysV u) :: fws ∨ (fws' = fws ∧ gl = [] ∧ u = [])) ∧ K fws' ⟨putV o.dst d σ.t,puts u σ.h,n'⟩:=by
 obtain ⟨hd,h1⟩:=Chk.ok h
 obtain ⟨d,u,gl,ha0,h2⟩:=stepK_ok (N:=N) hΘ hfr h1
 have ha:=addsN_ok ha0
 have h3:=putVK_ok h2
 split at h3
 ·split at h3
  ·exact ⟨d,[],_,σ.n,fws,hd,ha,Nat.le_refl _,rfl,fun hc=>(by cases hc),fun hc=>(by cases hc),h3⟩
  ·have h4:=natsK_ok h3
   split at h4
   ·rename_i e
    exact ⟨d,[],_,σ.n,fws,hd,ha,Nat.le_refl _,rfl,fun _=>by rw [e];exact conf_nil,fun _=>.inr ⟨rfl,e,rfl⟩,h4⟩
   ·obtain ⟨h5,h6⟩:=confK_ok h4
    exact ⟨d,[],_,σ.n,_,hd,ha,Nat.le_refl _,rfl,fun _=>h5,fun _=>.inl rfl,h6⟩
 ·have h4:=natK_ok h3
  split at h4
  ·obtain ⟨hl,h5⟩:=h4.ok
   have h6:=putsK_ok h5
   exact ⟨d,_,_,_,fws,hd,ha,Nat.le_add_right _ _,hl,fun hc=>(by cases hc),fun hc=>(by cases hc),h6⟩
  ·obtain ⟨u',ds,s,h5⟩:=samesK_ok h4
   obtain ⟨hl,h5⟩:=h5.ok
   have h6:=putsK_ok h5
   have ha2:=addsN_ok (ha0.same s)
   obtain ⟨h7,h8⟩:=confK_ok (natsK_ok (natsK_ok h6))
   exact ⟨d,_,_,_,_,hd,ha2,Nat.le_add_right _ _,hl,fun _=>h7,fun _=>.inl rfl,h8⟩
theorem fresh_step {o:Oper} {t:VT} {h:VH} {n n':Nat} {d:V} {u:VH} {gl:List Nat} (hn:∀ c:Id,n ≤ c.1 → look (toH h) c = none) (hle:n ≤ n') (ha:StepOK P N o t h d u gl) (hu:ltV n' u = true) {t':VT}:Fresh ⟨t',puts u h,n'⟩:=by
 obtain ⟨uu,hU,_⟩:=ha
 exact fresh_upd (n:=n') (fun c hc=>hn c (Nat.le_trans hle hc)) hU hu
theorem guardB_of {o:Oper} {t:VT} {g s:Nat} {want b:Bool} {v:V} (h1:o.guard = some (g,want)) (h2:(ops[g]?).bind (·.dst) = some s) (h3:look t s = some v) (hv:v.toD = .bool b):guardB ops (toT t) o = some (b == want):=by
 unfold guardB
 rw [h1]
 simp only [h2,look_toT,h3,Option.map_some,hv]
theorem look_shadow {t:VT} {s:Nat} {v v':V} (h:look t s = some v) (he:v'.toD = v.toD) (x:Nat):look (toT ((s,v') :: t)) x = look (toT t) x:=by
 rw [look_toT,look_toT]
 show Option.map _ (if x = s then _ else _) = _
 split
 ·rename_i e;subst e;rw [h];simp [he]
 ·rfl
theorem vops_ok {Θ:TT} (hΘ:Θ.ok P):∀ {l:List Oper} {k:Nat} {fws:Fws} {σ:VSt} {K:VSt → Prop},Fresh σ → vops P Θ ops dep chk N l k fws σ K → ∃ σ',K σ' ∧ Runs P N ops dep chk l k fws σ σ'
 | [],k,fws,σ,K,hn,h=>⟨σ,h,Runs.nil hn⟩
 | o :: l,k,fws,σ,K,hn,h=>by
  have run:∀ σ:VSt,Fresh σ → guardB ops (toT σ.t) o = some true → (vrun P Θ dep chk N o k fws σ.t σ.h σ.n fun fws' σ'=>vops P Θ ops dep chk N l (k + 1) fws' σ' K) → ∃ σ',K σ' ∧ Runs P N ops dep chk (o :: l) k fws σ σ':=by
   intro σ hn hg h
   obtain ⟨d,u,gl,n',fws',h1,h2,h3,h4,h5,h6,h7⟩:=vrun_ok hΘ hn h
   obtain ⟨σ',h9,h10⟩:=vops_ok hΘ (fresh_step hn h3 h2 h4) h7
   exact ⟨σ',h9,Runs.step hg h1 h2 h3 h4 h5 h6 h10⟩
  have skip:∀ σ:VSt,Fresh σ → guardB ops (toT σ.t) o = some false → (vskip N o σ.t σ.h σ.n fun σ'=>vops P Θ ops dep chk N l (k + 1) fws σ' K) → ∃ σ',K σ' ∧ Runs P N ops dep chk (o :: l) k fws σ σ':=by
   intro σ hn hg h
   obtain ⟨hd,h7⟩:=Chk.ok h
   have h7:=putVK_ok h7
   obtain ⟨σ',h8,h9⟩:=vops_ok (σ:=⟨putV o.dst (.tup []) σ.t,σ.h,σ.n⟩) hΘ hn h7
   exact ⟨σ',h8,Runs.skip hg hd h9⟩
  obtain ⟨st,sh,sn⟩:=σ
  unfold vops at h
  split at h
  ·rename_i e
   exact run ⟨st,sh,sn⟩ hn (by unfold guardB;rw [e]) h
  ·rename_i g want e
   split at h
   ·rename_i s es
    obtain ⟨v,h1,h2⟩:=lookK_ok h
    split at h2
    ·cases want with
     | true=>exact run ⟨st,sh,sn⟩ hn (guardB_of e es (b:=true) h1 rfl) h2
     | false=>exact skip ⟨st,sh,sn⟩ hn (guardB_of e es (b:=true) h1 rfl) h2
    ·cases want with
     | true=>exact skip ⟨st,sh,sn⟩ hn (guardB_of e es (b:=false) h1 rfl) h2
     | false=>exact run ⟨st,sh,sn⟩ hn (guardB_of e es (b:=false) h1 rfl) h2
    ·rename_i b
     cases b with
     | true=>
      have h3:=h2.1 rfl
      have hsh:∀ x,look (toT ((s,.tt) :: st)) x = look (toT st) x:=look_shadow h1 rfl
      cases want with
      | true=>
       obtain ⟨σ',k1,k2⟩:=run ⟨(s,.tt) :: st,sh,sn⟩ hn (guardB_of e es (b:=true) (v:=.tt) (by simp [look]) rfl) h3
       exact ⟨σ',k1,k2.congr hsh rfl rfl⟩
      | false=>
       obtain ⟨σ',k1,k2⟩:=skip ⟨(s,.tt) :: st,sh,sn⟩ hn (guardB_of e es (b:=true) (v:=.tt) (by simp [look]) rfl) h3
       exact ⟨σ',k1,k2.congr hsh rfl rfl⟩
     | false=>
      have h3:=h2.2 rfl
      have hsh:∀ x,look (toT ((s,.ff) :: st)) x = look (toT st) x:=look_shadow h1 rfl
      cases want with
      | true=>
       obtain ⟨σ',k1,k2⟩:=skip ⟨(s,.ff) :: st,sh,sn⟩ hn (guardB_of e es (b:=false) (v:=.ff) (by simp [look]) rfl) h3
       exact ⟨σ',k1,k2.congr hsh rfl rfl⟩
      | false=>
       obtain ⟨σ',k1,k2⟩:=run ⟨(s,.ff) :: st,sh,sn⟩ hn (guardB_of e es (b:=false) (v:=.ff) (by simp [look]) rfl) h3
       exact ⟨σ',k1,k2.congr hsh rfl rfl⟩
    ·refine skip ⟨st,sh,sn⟩ hn ?_ h2
     unfold guardB
     rw [e]
     simp only [es,look_toT,h1,Option.map_some,V.toD,toDL]
    ·exact h2.elim
   ·exact h.elim
end Go.Proofs.YtjjddgpdoibcoaaGreatDoor.Am
namespace Go.Proofs.YtjjddgpdoibcoaaGreatDoor.Am
open Go Go.RowKit
variable {P:Program} {N:Nat} {K:Id → Prop}
def At (P:Program) (N:Nat) (K:Id → Prop) (c:Code) (Q:Exit → VSt → Prop) (σ:VSt):Prop:=∃ e σ',Brings P N K c σ.toD e σ'.toD ∧ (RealS P N K σ'.toD → Q e σ')
theorem brings_unreal {c:Code} {σ:St} (h:¬ RealS P N K σ) (e:Exit) (σ':St):Brings P N K c σ e σ':=fun w0 S A ρ0 a w hs=>absurd ⟨w0,S,A,ρ0,a,w,hs⟩ h
variable {Q:Exit → VSt → Prop} {σ:VSt}
theorem At.real {c:Code} (h:RealS P N K σ.toD → At P N K c Q σ):At P N K c Q σ:=by
 rcases Classical.em (RealS P N K σ.toD) with hr | hr
 ·exact h hr
 ·exact ⟨.normal,σ,brings_unreal hr _ _,fun h=>absurd h hr⟩
theorem At.mono {c:Code} {Q':Exit → VSt → Prop} (h:At P N K c Q σ) (hq:∀ e σ,Q e σ → Q' e σ):At P N K c Q' σ:=by
 obtain ⟨e,σ',h1,h2⟩:=h
 exact ⟨e,σ',h1,fun hr=>hq _ _ (h2 hr)⟩
def thenQ (next:VSt → Prop) (Q:Exit → VSt → Prop):Exit → VSt → Prop
 | .normal,σ=>next σ
 | e,σ=>Q e σ
def blockQ (id:Nat) (Q:Exit → VSt → Prop):Exit → VSt → Prop
 | .exit id',σ=>bif Nat.beq id' id then Q .normal σ else Q (.exit id') σ
 | e,σ=>Q e σ
theorem at_skip (h:Q .normal σ):At P N K .skip Q σ:=⟨.normal,σ,.skip,fun _=>h⟩
theorem at_ret (h:Q .ret σ):At P N K .ret Q σ:=⟨.ret,σ,.ret,fun _=>h⟩
theorem at_exit {id:Nat} (h:Q (.exit id) σ):At P N K (.exit id) Q σ:=⟨.exit id,σ,.exit,fun _=>h⟩
theorem at_seq {x y:Code} (h:At P N K x (thenQ (At P N K y Q) Q) σ):At P N K (.seq x y) Q σ:=by
 obtain ⟨e,σ1,h1,h2⟩:=h
 rcases Classical.em (RealS P N K σ1.toD) with hr | hr
 ·cases e with
  | normal=>
   obtain ⟨e2,σ2,h3,h4⟩:=h2 hr
   exact ⟨e2,σ2,.seqN h1 h3,h4⟩
  | _=>exact ⟨_,σ1,.seqX (by simp) h1,fun hr=>h2 hr⟩
 ·cases e with
  | normal=>exact ⟨.normal,σ1,.seqN h1 (brings_unreal hr _ _),fun h=>absurd h hr⟩
  | _=>exact ⟨_,σ1,.seqX (by simp) h1,fun h=>absurd h hr⟩
theorem at_block {id:Nat} {c:Code} (h:At P N K c (blockQ id Q) σ):At P N K (.block id c) Q σ:=by
 obtain ⟨e,σ1,h1,h2⟩:=h
 cases e with
 | exit id'=>
  by_cases hid:id' = id
  ·subst hid
   exact ⟨.normal,σ1,.blockE h1,fun hr=>by have:=h2 hr;simpa only [blockQ,Nat.beq_refl,cond_true] using this⟩
  ·refine ⟨.exit id',σ1,.blockX (by simp [hid]) h1,fun hr=>?_⟩
   have hb:Nat.beq id' id = false:=by
    cases hb:Nat.beq id' id with
    | false=>rfl
    | true=>exact absurd (Nat.eq_of_beq_eq_true hb) hid
   have:=h2 hr
   simpa only [blockQ,hb,cond_false] using this
 | _=>exact ⟨_,σ1,.blockX (by simp) h1,h2⟩
def condK (c:Operand) (σ:VSt) (A B:VSt → Prop):Prop:=
 match c,σ with
 | .tmp s,⟨t,h,n⟩=>lookK t s fun v=>(match v with
  | .tt=>A ⟨t,h,n⟩
  | .ff=>B ⟨t,h,n⟩
  | .bool b=>Cnd b (A ⟨(s,.tt) :: t,h,n⟩) (B ⟨(s,.ff) :: t,h,n⟩)
  | _=>False)
 | .const (.bool true),σ=>A σ
 | .const (.bool false),σ=>B σ
 | _,_=>False
theorem SimS.congr {w0:World} {S:SD} {A:Nat → Prop} {ρ0:Id → Pl} {a:Act} {w:World} {σ σ':St} (h:SimS P w0 S A N ρ0 K σ a w) (ht:∀ x,look σ'.t x = look σ.t x) (hh:∀ x,look σ'.h x = look σ.h x) (hn:σ'.n = σ.n):SimS P w0 S A N ρ0 K σ' a w:=by
 obtain ⟨h1,h2,ρ,h3,h4⟩:=h
 refine ⟨fun b hb=>by rw [hh];exact h1 b (by omega),fun b hb=>?_,ρ,h3,h4.congr ht hh⟩
 have:=h2 b hb
 unfold Live at this ⊢
 rw [hh]
 exact this
theorem weak_shadow {s:Nat} {v v':V} (h:look σ.t s = some v) (he:v'.toD = v.toD):Weak P N K σ.toD (VSt.toD ⟨(s,v') :: σ.t,σ.h,σ.n⟩):=
 fun _ _ _ _ _ _ hs=>hs.congr (fun x=>look_shadow h he x) (fun _=>rfl) rfl
theorem at_cond {c:Operand} {x y:Code} (h:condK c σ (At P N K x Q) (At P N K y Q)):At P N K (.cond c x y) Q σ:=by
 unfold condK at h
 split at h
 ·rename_i s st sh sn
  obtain ⟨v,h1,h2⟩:=lookK_ok h
  split at h2
  ·obtain ⟨e,σ1,h3,h4⟩:=h2
   exact ⟨e,σ1,.condT (by simp only [evalD,VSt.toD,look_toT,h1,Option.map_some,V.toD]) h3,h4⟩
  ·obtain ⟨e,σ1,h3,h4⟩:=h2
   exact ⟨e,σ1,.condF (by simp only [evalD,VSt.toD,look_toT,h1,Option.map_some,V.toD]) h3,h4⟩
  ·rename_i b
   have hev:evalD (VSt.toD ⟨st,sh,sn⟩).t (.tmp s) = some (.bool b):=by simp only [evalD,VSt.toD,look_toT,h1,Option.map_some,V.toD]
   cases b with
   | true=>
    obtain ⟨e,σ1,h3,h4⟩:=h2.1 rfl
    exact ⟨e,σ1,.condT hev (.pre (weak_shadow (σ:=⟨st,sh,sn⟩) h1 rfl) h3),h4⟩
   | false=>
    obtain ⟨e,σ1,h3,h4⟩:=h2.2 rfl
    exact ⟨e,σ1,.condF hev (.pre (weak_shadow (σ:=⟨st,sh,sn⟩) h1 rfl) h3),h4⟩
  ·exact h2.elim
 ·obtain ⟨e,σ1,h3,h4⟩:=h
  exact ⟨e,σ1,.condT rfl h3,h4⟩
 ·obtain ⟨e,σ1,h3,h4⟩:=h
  exact ⟨e,σ1,.condF rfl h3,h4⟩
 ·exact h.elim
theorem at_fresh {c:Code} (h:Fresh σ → At P N K c Q σ):At P N K c Q σ:=by
 rcases Classical.em (Fresh σ) with hr | hr
 ·exact h hr
 ·refine At.real fun ⟨w0,S,A,ρ0,a,w,hs⟩=>absurd hs.1 hr
theorem at_regS {Θ:TT} (hΘ:Θ.ok P) {id:Nat} {ops:Array Oper} (h:vops P Θ ops (fun _=>[]) false N ops.toList 0 [] σ (Q .normal)):At P N K (.region id ops false) Q σ:=by
 refine at_fresh fun hn=>?_
 obtain ⟨σ',h1,h2⟩:=vops_ok hΘ hn h
 obtain ⟨L,l1,l2,l3,l4,l5,_⟩:=h2 [] fun h=>by cases h
 exact ⟨.normal,σ',.regionS l1 l2 l3 l4 fun _=>l5,fun _=>h1⟩
def aftM (o:Oper):Nat:=o.after.toList.foldl (fun m e=>bif Region.binds .any e then m ||| (1 <<< e.on) else m) 0
def ancM (ops:List Oper):Nat → Nat → Nat
 | 0,m=>m
 | j + 1,m=>match m.testBit j with
  | true=>ancM ops j (m ||| (match ops[j]? with | some o=>aftM o | none=>0))
  | false=>ancM ops j m
def depV (ops:Array Oper) (k:Nat):List Nat:=
 match ops.toList[k]? with
 | some o=>(List.range k).filter fun i=>(ancM ops.toList k (aftM o)).testBit i
 | none=>[]
theorem at_regD {Θ:TT} (hΘ:Θ.ok P) (hm:P.follows .mixedOrders = true) {id:Nat} {ops:Array Oper} (hok:Reg.okB ops (depV ops) = true) (h:vops P Θ ops (depV ops) true N ops.toList 0 [] σ (Q .normal)):At P N K (.region id ops true) Q σ:=by
 refine at_fresh fun hn=>?_
 obtain ⟨σ',h1,h2⟩:=vops_ok hΘ hn h
 obtain ⟨L,l1,l2,l3,l4,l5,l6⟩:=h2 [] fun _=>⟨rfl,fun i o r hi=>by simp at hi⟩
 refine ⟨.normal,σ',(.regionD (depV ops) hm hok l1 l2 ?_ l3 l4 fun _=>l5),fun _=>h1⟩
 intro i j oi ri oj rj hij hi hj hdp
 exact l6 rfl i j oi ri oj rj (by omega) (by simpa using hi) hj (by simpa using hdp)
end Go.Proofs.YtjjddgpdoibcoaaGreatDoor.Am
namespace Go.Proofs.YtjjddgpdoibcoaaGreatDoor.Am
open Go Go.RowKit
variable {P:Program} {N:Nat} {K:Id → Prop} {os:List Nat} {n:Nat} {h:VH}
def livV (h:VH) (b:Nat):Bool:=match lookO h b with
 | some (.row ..) | some (.lit ..) | some (.var ..) | some (.vari ..)=>true
 | _=>false
def liv4 (h:VH):List Nat → List Nat
 | []=>[]
 | b :: l=>match Nat.ble 4 b && livV h b with | true=>b :: liv4 h l | false=>liv4 h l
def grpsB:VB → List Nat
 | .var _ cs=>grpsVs cs
 | .vari _ pre _ _ _ post=>grpsVs pre ++ grpsVs post
 | .lit _ vs=>grpsVs vs
 | _=>[]
def gcAllK (h:VH):Nat → Nat → List Nat → (List Nat → Prop) → Prop
 | 0,_,l,K=>K l
 | k + 1,i,l,K=>match l[i]? with
  | none=>K l
  | some b=>natsK (addsN l (liv4 h (match lookO h b with | some x=>grpsB x | none=>[]))) fun l=>gcAllK h k (i + 1) l K
theorem gcAllK_ok {h:VH}:∀ {k i:Nat} {l:List Nat} {K:List Nat → Prop},gcAllK h k i l K → ∃ l,K l
 | 0,_,l,_,hk=>⟨l,hk⟩
 | k + 1,i,l,K,hk=>by
  simp only [gcAllK] at hk
  split at hk
  ·exact ⟨_,hk⟩
  ·have hk:=natsK_ok hk
   exact gcAllK_ok hk
def gcFromK (h:VH) (l:List Nat) (K:List Nat → Prop):Prop:=natsK l fun l=>gcAllK h 60 0 l K
theorem gcFromK_ok {h:VH} {l:List Nat} {K:List Nat → Prop} (hk:gcFromK h l K):∃ l,K l:=gcAllK_ok (natsK_ok hk)
def grpsT:VT → List Nat
 | []=>[]
 | (_,v) :: l=>grpsV v ++ grpsT l
mutual
def backV (os:List Nat) (v:V) (K:V → Prop):Prop:=
 match v with
 | .ref b=>posK b os 4 fun r=>(match r with | some i=>K (.ref i) | none=>False)
 | .ptr b o=>posK b os 4 fun r=>(match r with | some i=>K (.ptr i o) | none=>False)
 | .eptr b j o=>posK b os 4 fun r=>(match r with | some i=>K (.eptr i j o) | none=>False)
 | .vref b o q=>posK b os 4 fun r=>(match r with | some i=>K (.vref i o q) | none=>False)
 | .aptr b p j=>posK b os 4 fun r=>(match r with | some i=>K (.aptr i p j) | none=>False)
 | .fref k i=>Chk (Nat.blt k 4) (K (.fref k i))
 | .fptr k i o=>Chk (Nat.blt k 4) (K (.fptr k i o))
 | .feptr k i j o=>Chk (Nat.blt k 4) (K (.feptr k i j o))
 | .faptr k i p j=>Chk (Nat.blt k 4) (K (.faptr k i p j))
 | .hro k o=>Chk (Nat.blt k 4) (K (.hro k o))
 | .hpo k o=>Chk (Nat.blt k 4) (K (.hpo k o))
 | .agg cs=>backVs os cs fun cs=>K (.agg cs)
 | .tup cs=>backVs os cs fun cs=>K (.tup cs)
 | .clo f cs=>backVs os cs fun cs=>K (.clo f cs)
 | .ifc T v=>backV os v fun v=>K (.ifc T v)
 | .int k n=>K (.int k n)
 | .bool b=>K (.bool b)
 | .tt=>K (.bool true)
 | .ff=>K (.bool false)
 | .str s=>K (.str s)
 | .lst t xs=>K (.lst t xs)
 | .box t x=>K (.box t x)
 | .nilp=>K .nilp
 | .nils=>K .nils
 | .nilf=>K .nilf
 | .nili=>K .nili
 | .gv g=>K (.gv g)
 | .gp _=>False
 | .iptr t x o=>K (.iptr t x o)
 | .obo t o=>K (.obo t o)
 | .undef=>K .undef
 | .junk=>K .junk
def backVs (os:List Nat) (l:List V) (K:List V → Prop):Prop:=
 match l with
 | []=>K []
 | v :: l=>backV os v fun v=>backVs os l fun l=>K (v :: l)
end
structure KeepOK (os:List Nat) (h h':VH):Prop where
 sgl:∀ m b,os[m]? = some b → Live (toH h) (b,0) → Live (toH h') (4 + m,0)
 fam:∀ k,k < 4 → ∀ i,Live (toH h) (k,i) → Live (toH h') (k,i)
section
variable {h':VH}
theorem rn_ref (H:KeepOK os h h') {m b:Nat} (hb:os[m]? = some b):Rn (toH h) (gI (gN os n)) (toH h') (.ref (b,0)) (.ref (4 + m,0)):=by
 have e:gI (gN os n) (4 + m,0) = (b,0):=by simp only [gI,gN_high,nameO_lt hb]
 have:=Rn.ref (h:=toH h) (g:=gI (gN os n)) (h':=toH h') (4 + m,0) fun hl=>H.sgl m b hb (by rw [e] at hl;exact hl)
 rwa [e] at this
theorem rn_ptr (H:KeepOK os h h') {m b:Nat} (hb:os[m]? = some b) (o:Nat):Rn (toH h) (gI (gN os n)) (toH h') (.ptr (b,0) o) (.ptr (4 + m,0) o):=by
 have e:gI (gN os n) (4 + m,0) = (b,0):=by simp only [gI,gN_high,nameO_lt hb]
 have:=Rn.ptr (h:=toH h) (g:=gI (gN os n)) (h':=toH h') (4 + m,0) o fun hl=>H.sgl m b hb (by rw [e] at hl;exact hl)
 rwa [e] at this
theorem rn_eptr (H:KeepOK os h h') {m b:Nat} (hb:os[m]? = some b) (j o:Nat):Rn (toH h) (gI (gN os n)) (toH h') (.eptr (b,0) j o) (.eptr (4 + m,0) j o):=by
 have e:gI (gN os n) (4 + m,0) = (b,0):=by simp only [gI,gN_high,nameO_lt hb]
 have:=Rn.eptr (h:=toH h) (g:=gI (gN os n)) (h':=toH h') (4 + m,0) j o fun hl=>H.sgl m b hb (by rw [e] at hl;exact hl)
 rwa [e] at this
theorem rn_vref (H:KeepOK os h h') {m b:Nat} (hb:os[m]? = some b) (o q:Nat):Rn (toH h) (gI (gN os n)) (toH h') (.vref (b,0) o q) (.vref (4 + m,0) o q):=by
 have e:gI (gN os n) (4 + m,0) = (b,0):=by simp only [gI,gN_high,nameO_lt hb]
 have:=Rn.vref (h:=toH h) (g:=gI (gN os n)) (h':=toH h') (4 + m,0) o q fun hl=>H.sgl m b hb (by rw [e] at hl;exact hl)
 rwa [e] at this
theorem gI_low {k:Nat} (hk:k < 4) (i:Nat):gI (gN os n) (k,i) = (k,i):=by simp only [gI,gN_low os n hk]
theorem rn_fref (H:KeepOK os h h') {k:Nat} (hk:k < 4) (i:Nat):Rn (toH h) (gI (gN os n)) (toH h') (.ref (k,i)) (.ref (k,i)):=by
 have e:gI (gN os n) (k,i) = (k,i):=gI_low hk i
 have:=Rn.ref (h:=toH h) (g:=gI (gN os n)) (h':=toH h') (k,i) fun hl=>H.fam k hk i (by rw [e] at hl;exact hl)
 rwa [e] at this
theorem rn_fptr (H:KeepOK os h h') {k:Nat} (hk:k < 4) (i o:Nat):Rn (toH h) (gI (gN os n)) (toH h') (.ptr (k,i) o) (.ptr (k,i) o):=by
 have e:gI (gN os n) (k,i) = (k,i):=gI_low hk i
 have:=Rn.ptr (h:=toH h) (g:=gI (gN os n)) (h':=toH h') (k,i) o fun hl=>H.fam k hk i (by rw [e] at hl;exact hl)
 rwa [e] at this
theorem rn_feptr (H:KeepOK os h h') {k:Nat} (hk:k < 4) (i j o:Nat):Rn (toH h) (gI (gN os n)) (toH h') (.eptr (k,i) j o) (.eptr (k,i) j o):=by
 have e:gI (gN os n) (k,i) = (k,i):=gI_low hk i
 have:=Rn.eptr (h:=toH h) (g:=gI (gN os n)) (h':=toH h') (k,i) j o fun hl=>H.fam k hk i (by rw [e] at hl;exact hl)
 rwa [e] at this
theorem rn_hr (H:KeepOK os h h') {k:Nat} (hk:k < 4) (o:Option Nat):Rn (toH h) (gI (gN os n)) (toH h') (hrD k o) (hrD k o):=by
 cases o with
 | none=>exact .pure _ rfl
 | some i=>exact rn_fref H hk i
theorem rn_hp (H:KeepOK os h h') {k:Nat} (hk:k < 4) (o:Option Nat):Rn (toH h) (gI (gN os n)) (toH h') (hpD k o) (hpD k o):=by
 cases o with
 | none=>exact .pure _ rfl
 | some i=>exact rn_fptr H hk i 0
theorem blt_ok {a b:Nat} (h:Nat.blt a b = true):a < b:=by simpa [Nat.blt_eq] using h
mutual
theorem backV_ok:∀ {v:V} {K:V → Prop},backV os v K → ∃ r:V,(∀ h',KeepOK os h h' → Rn (toH h) (gI (gN os n)) (toH h') v.toD r.toD) ∧ r.one = v.one ∧ K r
 | .ref b,K,hk=>by
  simp only [backV] at hk
  obtain ⟨r,r1,r2,hk⟩:=posK_ok hk
  split at hk
  ·obtain ⟨m,rfl,hm⟩:=r2 _ rfl
   exact ⟨.ref (4 + m),fun h' H=>rn_ref H hm,rfl,hk⟩
  ·exact hk.elim
 | .ptr b o,K,hk=>by
  simp only [backV] at hk
  obtain ⟨r,r1,r2,hk⟩:=posK_ok hk
  split at hk
  ·obtain ⟨m,rfl,hm⟩:=r2 _ rfl
   exact ⟨.ptr (4 + m) o,fun h' H=>rn_ptr H hm o,rfl,hk⟩
  ·exact hk.elim
 | .eptr b j o,K,hk=>by
  simp only [backV] at hk
  obtain ⟨r,r1,r2,hk⟩:=posK_ok hk
  split at hk
  ·obtain ⟨m,rfl,hm⟩:=r2 _ rfl
   exact ⟨.eptr (4 + m) j o,fun h' H=>rn_eptr H hm j o,rfl,hk⟩
  ·exact hk.elim
 | .vref b o q,K,hk=>by
  simp only [backV] at hk
  obtain ⟨r,r1,r2,hk⟩:=posK_ok hk
  split at hk
  ·obtain ⟨m,rfl,hm⟩:=r2 _ rfl
   exact ⟨.vref (4 + m) o q,fun h' H=>rn_vref H hm o q,rfl,hk⟩
  ·exact hk.elim
 | .aptr b p j,K,hk=>by
  simp only [backV] at hk
  obtain ⟨r,r1,r2,hk⟩:=posK_ok hk
  split at hk
  ·obtain ⟨m,rfl,hm⟩:=r2 _ rfl
   exact ⟨.aptr (4 + m) p j,fun h' H=>rn_ptr H hm (p + j),rfl,hk⟩
  ·exact hk.elim
 | .fref k i,K,hk=>by simp only [backV] at hk;obtain ⟨c,hk⟩:=hk.ok;exact ⟨.fref k i,fun h' H=>rn_fref H (blt_ok c) i,rfl,hk⟩
 | .fptr k i o,K,hk=>by simp only [backV] at hk;obtain ⟨c,hk⟩:=hk.ok;exact ⟨.fptr k i o,fun h' H=>rn_fptr H (blt_ok c) i o,rfl,hk⟩
 | .feptr k i j o,K,hk=>by simp only [backV] at hk;obtain ⟨c,hk⟩:=hk.ok;exact ⟨.feptr k i j o,fun h' H=>rn_feptr H (blt_ok c) i j o,rfl,hk⟩
 | .faptr k i p j,K,hk=>by simp only [backV] at hk;obtain ⟨c,hk⟩:=hk.ok;exact ⟨.faptr k i p j,fun h' H=>rn_fptr H (blt_ok c) i (p + j),rfl,hk⟩
 | .hro k o,K,hk=>by simp only [backV] at hk;obtain ⟨c,hk⟩:=hk.ok;exact ⟨.hro k o,fun h' H=>rn_hr H (blt_ok c) o,rfl,hk⟩
 | .hpo k o,K,hk=>by simp only [backV] at hk;obtain ⟨c,hk⟩:=hk.ok;exact ⟨.hpo k o,fun h' H=>rn_hp H (blt_ok c) o,rfl,hk⟩
 | .agg cs,K,hk=>by
  simp only [backV] at hk
  obtain ⟨r,h1,h2,h3,hk⟩:=backVs_ok hk
  exact ⟨.agg r,fun h' H=>by simp only [V.toD];exact .agg _ _ h1 (h2 h' H),rfl,hk⟩
 | .tup cs,K,hk=>by
  simp only [backV] at hk
  obtain ⟨r,h1,h2,h3,hk⟩:=backVs_ok hk
  exact ⟨.tup r,fun h' H=>by simp only [V.toD];exact .tup _ _ h1 (h2 h' H),rfl,hk⟩
 | .clo f cs,K,hk=>by
  simp only [backV] at hk
  obtain ⟨r,h1,h2,h3,hk⟩:=backVs_ok hk
  exact ⟨.clo f r,fun h' H=>by simp only [V.toD];exact .clo f _ _ h1 (h2 h' H),rfl,hk⟩
 | .ifc T v,K,hk=>by
  simp only [backV] at hk
  obtain ⟨r,h1,h2,hk⟩:=backV_ok hk
  exact ⟨.ifc T r,fun h' H=>by simp only [V.toD];exact .ifc T _ _ (h1 h' H),rfl,hk⟩
 | .int k m,K,hk=>⟨.int k m,fun h' H=>.pure _ rfl,rfl,by simpa only [backV] using hk⟩
 | .bool b,K,hk=>⟨.bool b,fun h' H=>.pure _ rfl,rfl,by simpa only [backV] using hk⟩
 | .tt,K,hk=>⟨.bool true,fun h' H=>.pure _ rfl,rfl,by simpa only [backV] using hk⟩
 | .ff,K,hk=>⟨.bool false,fun h' H=>.pure _ rfl,rfl,by simpa only [backV] using hk⟩
 | .str s,K,hk=>⟨.str s,fun h' H=>.pure _ rfl,rfl,by simpa only [backV] using hk⟩
 | .lst t xs,K,hk=>⟨.lst t xs,fun h' H=>.pure _ rfl,rfl,by simpa only [backV] using hk⟩
 | .box t x,K,hk=>⟨.box t x,fun h' H=>.pure _ rfl,rfl,by simpa only [backV] using hk⟩
 | .nilp,K,hk=>⟨.nilp,fun h' H=>.pure _ rfl,rfl,by simpa only [backV] using hk⟩
 | .nils,K,hk=>⟨.nils,fun h' H=>.pure _ rfl,rfl,by simpa only [backV] using hk⟩
 | .nilf,K,hk=>⟨.nilf,fun h' H=>.pure _ rfl,rfl,by simpa only [backV] using hk⟩
 | .nili,K,hk=>⟨.nili,fun h' H=>.pure _ rfl,rfl,by simpa only [backV] using hk⟩
 | .gv g,K,hk=>⟨.gv g,fun h' H=>.gv g,rfl,by simpa only [backV] using hk⟩
 | .gp _,K,hk=>by simp only [backV] at hk
 | .iptr t x o,K,hk=>⟨.iptr t x o,fun h' H=>.iptr _ _,rfl,by simpa only [backV] using hk⟩
 | .obo t o,K,hk=>⟨.obo t o,fun h' H=>.pure _ (by cases o <;> rfl),rfl,by simpa only [backV] using hk⟩
 | .undef,K,hk=>⟨.undef,fun h' H=>.undef _,rfl,by simpa only [backV] using hk⟩
 | .junk,K,hk=>⟨.junk,fun h' H=>.junk,rfl,by simpa only [backV] using hk⟩
theorem backVs_ok:∀ {l:List V} {K:List V → Prop},backVs os l K → ∃ r:List V,(toDL l).length = (toDL r).length ∧ (∀ h',KeepOK os h h' → ∀ i,i < (toDL l).length → Rn (toH h) (gI (gN os n)) (toH h') ((toDL l).getD i .undef) ((toDL r).getD i .undef)) ∧ (l.all V.one = r.all V.one) ∧ K r
 | [],K,hk=>⟨[],rfl,fun h' H i hi=>by simp [toDL] at hi,rfl,by simpa only [backVs] using hk⟩
 | v :: l,K,hk=>by
  simp only [backVs] at hk
  obtain ⟨v',h1,h2,hk⟩:=backV_ok hk
  obtain ⟨r,h3,h4,h5,hk⟩:=backVs_ok hk
  refine ⟨v' :: r,by simp only [toDL,List.length_cons,h3],fun h' H i hi=>?_,by simp only [List.all_cons,h2,h5],hk⟩
  cases i with
  | zero=>simpa [toDL] using h1 h' H
  | succ i=>simpa [toDL] using h4 h' H i (by simpa [toDL] using hi)
end
def gcVs (os:List Nat) (h:VH) (l:List V) (K:List V → Prop):Prop:=fwdVs h l fun l=>backVs os l K
theorem fwdL_get (g:HL) (l:List D) {i:Nat} (hi:i < l.length):(fwdL g l).getD i .undef = fwd g (l.getD i .undef):=by
 rw [fwdL_eq,List.getD_eq_getElem?_getD,List.getElem?_map,List.getElem?_eq_getElem hi,List.getD_eq_getElem?_getD,List.getElem?_eq_getElem hi]
 rfl
theorem gcVs_ok {l:List V} {K:List V → Prop} (hk:gcVs os h l K):∃ r:List V,(toDL l).length = (toDL r).length ∧ (∀ h',KeepOK os h h' → ∀ i,i < (toDL l).length → Rn (toH h) (gI (gN os n)) (toH h') ((toDL l).getD i .undef) ((toDL r).getD i .undef)) ∧ ((toDL l).all D.one = true → (toDL r).all D.one = true) ∧ K r:=by
 obtain ⟨l',h1,hk⟩:=fwdVs_ok hk
 obtain ⟨r,h2,h3,h4,hk⟩:=backVs_ok (h:=h) (n:=n) hk
 have hlen:(toDL l).length = (toDL l').length:=by rw [← h1,fwdL_eq,List.length_map]
 refine ⟨r,hlen.trans h2,fun h' H i hi=>.fwd _ _ ?_,fun ha=>?_,hk⟩
 ·rw [← fwdL_get _ _ hi,h1]
  exact h3 h' H i (by rw [← hlen];exact hi)
 ·refine all_one _ ?_
  rw [← h4]
  have e:(toDL l').all D.one = l'.all V.one:=by
   rw [toDL_eq,List.all_map]
   refine congrArg (fun f=>List.all l' f) (funext fun v=>one_toD v)
  rw [← e,← h1,fwdL_eq,List.all_map]
  rw [List.all_eq_true] at ha ⊢
  intro d hd
  simp only [Function.comp,fwd_one]
  exact ha d hd
theorem rn_cells (H:KeepOK os h h') {t:Ty} (ht:∀ k ∈ t.fams,k < 4) (x:t.den):∀ c ∈ (encD t x).cells,Rn (toH h) (gI (gN os n)) (toH h') c c:=by
 intro c hc
 by_cases hp:t.pure = true
 ·have:=(encD_pure hp x).2
  rw [List.all_eq_true] at this
  exact .pure c (this c hc)
 ·have lf:∀ d:D,d.pure0 = true → Rn (toH h) (gI (gN os n)) (toH h') d d:=fun d hd=>.pure d hd
  cases t <;> simp only [Ty.pure,not_true_eq_false] at hp
  case hr k=>
   simp only [encD,(hrD_one k x).2,List.mem_singleton] at hc
   subst hc
   exact rn_hr H (ht k (by simp [Ty.fams])) x
  case hp k=>
   simp only [encD,(hpD_one k x).2,List.mem_singleton] at hc
   subst hc
   exact rn_hp H (ht k (by simp [Ty.fams])) x
  case vtxo k=>
   simp only [encD,D.cells,List.mem_cons,List.not_mem_nil,or_false] at hc
   rcases hc with rfl | rfl | rfl | rfl
   ·exact lf _ rfl
   ·exact lf _ rfl
   ·exact rn_hr H (ht k (by simp [Ty.fams])) _
   ·exact lf _ rfl
  case pplm k=>
   simp only [encD,D.cells,vtxC,List.cons_append,List.nil_append,List.mem_cons,List.not_mem_nil,or_false] at hc
   rcases hc with rfl | rfl | rfl | rfl | rfl
   ·exact lf _ rfl
   ·exact lf _ rfl
   ·exact lf _ rfl
   ·exact lf _ rfl
   ·exact rn_hr H (ht k (by simp [Ty.fams])) _
  case pplo k k'=>
   simp only [encD,D.cells,List.mem_cons,List.not_mem_nil,or_false] at hc
   rcases hc with rfl | rfl | rfl | rfl | rfl
   ·exact lf _ rfl
   ·exact lf _ rfl
   ·exact rn_hr H (ht k (by simp [Ty.fams])) _
   ·exact lf _ rfl
   ·exact rn_hr H (ht k' (by simp [Ty.fams])) _
  case nod k=>
   simp only [encD,D.cells,vtxC,List.cons_append,List.nil_append,List.mem_cons,List.not_mem_nil,or_false] at hc
   rcases hc with rfl | rfl | rfl | rfl | rfl | rfl
   ·exact lf _ rfl
   ·exact lf _ rfl
   ·exact lf _ rfl
   ·exact lf _ rfl
   ·exact lf _ rfl
   ·exact rn_hr H (ht k (by simp [Ty.fams])) _
theorem rn_enc (H:KeepOK os h h') {t:Ty} (ht:∀ k ∈ t.fams,k < 4) (x:t.den):Rn (toH h) (gI (gN os n)) (toH h') (encD t x) (encD t x):=by
 have hc:=rn_cells (n:=n) H ht x
 by_cases hag:∃ cs,encD t x = .agg cs
 ·obtain ⟨cs,he⟩:=hag
  rw [he] at hc ⊢
  exact .agg cs cs rfl fun i hi=>hc _ (getD_mem hi)
 ·have he:(encD t x).cells = [encD t x]:=cells_single fun cs hcs=>hag ⟨cs,hcs⟩
  exact hc _ (by rw [he];exact List.mem_singleton.2 rfl)
theorem rn_row (H:KeepOK os h h') {t:Ty} (ht:∀ k ∈ t.fams,k < 4) (E:TypeId) (xs:List t.den):RnB (toH h) (gI (gN os n)) (toH h') (.row E (xs.map (encD t))) (.row E (xs.map (encD t))):=by
 refine .row E _ _ rfl fun i hi=>?_
 obtain ⟨x,_,hx⟩:=List.mem_map.1 (getD_mem hi)
 rw [← hx]
 exact ⟨rn_enc H ht x,fun s hs=>⟨hs,fun j hj=>rn_cells H ht x _ (getD_mem (by rw [hs.1];exact hj))⟩⟩
theorem rn_var (H:KeepOK os h h') (T:TypeId) {cs:List D} (hc:∀ c ∈ cs,Rn (toH h) (gI (gN os n)) (toH h') c c):RnB (toH h) (gI (gN os n)) (toH h') (.var T cs) (.var T cs):=.var T _ _ rfl fun i hi=>hc _ (getD_mem hi)
def gcE (os:List Nat) (h:VH) (v:V) (K:V → Prop):Prop:=match v with
 | .agg cs=>gcVs os h cs fun cs=>K (.agg cs)
 | v=>Chk v.one (fwdV h v fun v=>backV os v K)
theorem gcE_ok {v:V} {K:V → Prop} (hk:gcE os h v K):∃ r:V,(∀ h',KeepOK os h h' → Rn (toH h) (gI (gN os n)) (toH h') v.toD r.toD ∧ ∀ s,wfC s v.toD → wfC s r.toD ∧ ∀ j,j < s → Rn (toH h) (gI (gN os n)) (toH h') (v.toD.cells.getD j .undef) (r.toD.cells.getD j .undef)) ∧ K r:=by
 unfold gcE at hk
 split at hk
 ·rename_i cs
  obtain ⟨r,h1,h2,h3,hk⟩:=gcVs_ok (n:=n) hk
  refine ⟨.agg r,fun h' H=>⟨by simp only [V.toD];exact .agg _ _ h1 (h2 h' H),fun s hs=>?_⟩,hk⟩
  have hs1:(toDL cs).length = s:=by have:=hs.1;simpa only [V.toD,D.cells] using this
  refine ⟨⟨?_,?_⟩,fun j hj=>?_⟩
  ·show (toDL r).length = s
   omega
  ·exact h3 (by have:=hs.2;simpa only [V.toD,D.cells] using this)
  ·exact h2 h' H j (by omega)
 ·obtain ⟨c,hk⟩:=hk.ok
  obtain ⟨v',h1,hk⟩:=fwdV_ok hk
  obtain ⟨r,h2,h3,hk⟩:=backV_ok (h:=h) (n:=n) hk
  have o1:v.toD.one = true:=by rw [one_toD];exact c
  have o2:r.toD.one = true:=by
   rw [one_toD,h3,← one_toD,← h1,fwd_one];exact o1
  refine ⟨r,fun h' H=>?_,hk⟩
  have hr:Rn (toH h) (gI (gN os n)) (toH h') v.toD r.toD:=.fwd _ _ (by rw [h1];exact h2 h' H)
  refine ⟨hr,fun s hs=>?_⟩
  have hs1:=hs.1
  rw [one_cells o1] at hs1 ⊢
  rw [one_cells o2]
  simp only [List.length_singleton] at hs1
  subst hs1
  refine ⟨⟨by rw [one_cells o2];rfl,by rw [one_cells o2];simp [o2]⟩,fun j hj=>?_⟩
  obtain rfl:j = 0:=by omega
  exact hr
def gcEs (os:List Nat) (h:VH):List V → (List V → Prop) → Prop
 | [],K=>K []
 | v :: l,K=>gcE os h v fun v=>gcEs os h l fun l=>K (v :: l)
theorem gcEs_ok:∀ {l:List V} {K:List V → Prop},gcEs os h l K → ∃ r:List V,(∀ h' E,KeepOK os h h' → RnB (toH h) (gI (gN os n)) (toH h') (.row E (toDL l)) (.row E (toDL r))) ∧ K r
 | [],K,hk=>⟨[],fun h' E H=>.row E _ _ rfl fun i hi=>by simp [toDL] at hi,hk⟩
 | v :: l,K,hk=>by
  obtain ⟨v',h1,hk⟩:=gcE_ok (n:=n) hk
  obtain ⟨r,h2,hk⟩:=gcEs_ok hk
  refine ⟨v' :: r,fun h' E H=>?_,hk⟩
  cases h2 h' E H with
  | row _ _ _ hl hc=>
   refine .row E _ _ (by simp only [toDL,List.length_cons,hl]) fun i hi=>?_
   cases i with
   | zero=>simpa [toDL] using h1 h' H
   | succ i=>simpa [toDL] using hc i (by simpa [toDL] using hi)
def lt4 (l:List Nat):Bool:=l.all fun k=>Nat.blt k 4
theorem lt4_ok {l:List Nat} (h:lt4 l = true):∀ k ∈ l,k < 4:=by
 unfold lt4 at h
 rw [List.all_eq_true] at h
 exact fun k hk=>blt_ok (h k hk)
def gcB (os:List Nat) (h:VH) (x:VB) (K:VB → Prop):Prop:=
 match x with
 | .var T cs=>gcVs os h cs fun cs=>K (.var T cs)
 | .vari T pre m t xs post=>Chk (lt4 t.fams) (gcVs os h pre fun pre=>gcVs os h post fun post=>K (.vari T pre m t xs post))
 | .row E t xs=>Chk (lt4 t.fams) (K (.row E t xs))
 | .lit E vs=>gcEs os h vs fun vs=>K (.lit E vs)
 | .froz t xs=>K (.froz t xs)
 | .fvb t x=>K (.fvb t x)
 | .moved _ _=>K .gone
 | .gone=>K .gone
 | _=>False
theorem gcB_ok {x:VB} {K:VB → Prop} (hk:gcB os h x K):∃ y d d',x.blks = [d] ∧ y.blks = [d'] ∧ (∀ h',KeepOK os h h' → RnB (toH h) (gI (gN os n)) (toH h') d d') ∧ K y:=by
 unfold gcB at hk
 split at hk
 ·rename_i T cs
  obtain ⟨r,h1,h2,_,hk⟩:=gcVs_ok (n:=n) hk
  exact ⟨_,_,_,rfl,rfl,fun h' H=>.var T _ _ h1 (h2 h' H),hk⟩
 ·rename_i T pre m t xs post
  obtain ⟨c,hk⟩:=hk.ok
  obtain ⟨pre',h1,h2,_,hk⟩:=gcVs_ok (n:=n) hk
  obtain ⟨post',h3,h4,_,hk⟩:=gcVs_ok (n:=n) hk
  refine ⟨_,_,_,rfl,rfl,fun h' H=>.var T _ _ (by simp only [List.length_append,h1,h3]) fun i hi=>?_,hk⟩
  by_cases c1:i < (toDL pre).length
  ·rw [List.append_assoc,List.append_assoc,getD_app1 (A:=toDL pre) c1,getD_app1 (A:=toDL pre') (by rw [← h1];exact c1)]
   exact h2 h' H i c1
  ·rw [List.append_assoc,List.append_assoc,getD_app2 (A:=toDL pre) (by omega),getD_app2 (A:=toDL pre') (by rw [← h1];omega),← h1]
   simp only [List.length_append] at hi
   by_cases c2:i - (toDL pre).length < (xs.map (encD t)).length
   ·rw [getD_app1 c2,getD_app1 c2]
    obtain ⟨e,he,hee⟩:=List.mem_map.1 (getD_mem c2)
    rw [← hee]
    exact rn_enc H (lt4_ok c) e
   ·rw [getD_app2 (by omega),getD_app2 (by omega)]
    exact h4 h' H _ (by omega)
 ·obtain ⟨c,hk⟩:=hk.ok
  exact ⟨_,_,_,rfl,rfl,fun h' H=>rn_row H (lt4_ok c) _ _,hk⟩
 ·obtain ⟨r,h1,hk⟩:=gcEs_ok (n:=n) hk
  exact ⟨_,_,_,rfl,rfl,fun h' H=>h1 h' _ H,hk⟩
 ·exact ⟨_,_,_,rfl,rfl,fun h' H=>.froz _,hk⟩
 ·exact ⟨_,_,_,rfl,rfl,fun h' H=>.fvar _,hk⟩
 ·exact ⟨_,_,_,rfl,rfl,fun h' H=>.gone _,hk⟩
 ·exact ⟨_,_,_,rfl,rfl,fun h' H=>.gone _,hk⟩
 ·exact hk.elim
end
end Go.Proofs.YtjjddgpdoibcoaaGreatDoor.Am
