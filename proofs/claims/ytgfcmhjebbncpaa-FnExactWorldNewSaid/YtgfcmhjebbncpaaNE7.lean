/- Runs: clones of proposals, views that cover. Runs: parents that are known. Runs: clones of lists of numbers (the empty ones by the shelf). Runs: a run is opened. The exact laws' own functions on lists of numbers and vertices. Runs: the vertices of a graph's table; copies of proposals; a run as it is handed back. Runs: what is handed back; new runs, valid runs. Runs: the laws' own functions. The exact laws' own functions, on own rows within own rows. The exact laws' own functions: marks on own rows within own rows. The exact laws' own functions: whether the marks are there. Runs: what the speci -/
import Derived.Shelf.Slices.Clone
import Derived.Shelf.Spec.SlicesInsertGrow
import Derived.Shelf.Slices.SearchI
import Derived.Shelf.Slices.Empties
import Derived.Conc.MuLone
import Derived.Defers
import Derived.Test.YtgfcmhjebbncpaaNE6
set_option linter.unusedSimpArgs false
set_option linter.unusedVariables false
set_option maxHeartbeats 1000000
namespace Go.Proofs.Ytgfcmhjebbncpaa.Am
open Go
attribute [local irreducible] Mk bC Ari d8 pN jt cf ee gx iI At am
set_option maxRecDepth 10000
def Θw:TT:=(77,⟨.ptr 108,1,8,some (.nilp),some (.hp 0),false⟩)::(61,⟨.struct [(59,0,4),(22,4,1)],5,72,some (.agg [.int .i64 0,.int .i64 0,.nils,.int .i64 0,.nils]),some (.pplm 1),false⟩)::Θ
theorem gh:TT.ok Try.prog Θw:=TT.okB_ok (by kernel_rfl)
theorem nL {P Q:Prop}(h:Q)(s:Hid Q→P:=by
  intro h
  (first|(with_reducible first|apply cC|apply bW)|((first|with_reducible apply bG gh|refine go ?_|(with_reducible first|apply b6|apply bT|apply bJ|apply bH|refine bK gh mixed (by kernel_rfl) ?_))<;>conv=>whnf))
  repeat(first|(with_reducible first|apply cC|apply bW)|((first|with_reducible apply bG gh|refine go ?_|(with_reducible first|apply b6|apply bT|apply bJ|apply bH|refine bK gh mixed (by kernel_rfl) ?_))<;>conv=>whnf))
  exact h.h):P:=s ⟨h⟩
def ny (ps:List Ppl):List PplM:=ps.zipIdx.map fun x=>⟨x.1.v,some x.2⟩
theorem fX (ps:List Ppl):(ny ps).length=ps.length:=by simp[ny]
def A0:PplM:=⟨⟨0,0,[],0⟩,none⟩
def vm (ps:List Ppl)(i:Nat):List PplM:=ny (ps.take i)++List.replicate (ps.length-i) A0
theorem wL (ps:List Ppl)(i:Nat)(hi:i≤ps.length):(vm ps i).length=ps.length:=by
 simp only[vm,List.length_append,fX,List.length_take,List.length_replicate];omega
theorem wM {ps:List Ppl}{i:Nat}(h:i<ps.length):(vm ps i).set i ⟨ps[i].v,some i⟩=vm ps (i+1):=by
 have h1:(ny (ps.take i)).length=i:=by rw[fX,List.length_take];omega
 have h2:ps.length-i=(ps.length-(i+1))+1:=by omega
 unfold vm
 rw[List.set_append_right _ _ (by omega),h1,Nat.sub_self,h2,List.replicate_succ,List.set_cons_zero]
 have h4:ny (ps.take (i+1))=ny (ps.take i)++[⟨ps[i].v,some i⟩]:=by
  rw[List.take_succ_eq_append_getElem h]
  simp only[ny,List.zipIdx_append,List.map_append,List.length_take,Nat.min_eq_left (Nat.le_of_lt h),List.zipIdx_cons,List.zipIdx_nil,List.map_cons,List.map_nil,Nat.zero_add]
 rw[h4,List.append_assoc]
 rfl
theorem ym (ps:List Ppl)(hv:∀p∈ps,p.v.parents.length≤1000000∧p.members.length≤1000000)(hl:ps.length≤1000000):am Try.prog 46 [.lst .ppl ps] [] (.ref 4) [(1,.frow 3 (.int .i64) (ps.map (·.members))),(4,.row 61 (.pplm 1) (ny ps))]:=by
 refine ah gh Try.func46 rfl rfl false 0 4 rfl rfl rfl rfl fun K hK hb1 hb2=>?_;simp only[aj,enc,Nat.reduceAdd]
 clear hb1 hb2
 (repeat' first|refine nL ?_|refine sa fun xe hxe=>?_|refine sb (fun hq=>?_) fun hq=>?_|exact True.intro)
 refine iC 1 (.frow 3 (.int .i64) []) rfl ?_
 refine al hK [] [3,9,10,11] (fun i:Nat=>⟨[(3,.ref 4),(9,.lst .ppl ps),(10,.int .i64 ps.length),(11,.int .i64 (i:Int))],[(1,.frow 3 (.int .i64) ((ps.take i).map (·.members))),(4,.row 61 (.pplm 1) (vm ps i))],5⟩) (fun i=>i≤ps.length) (fun i=>ps.length-i) 0 (by simp) (by rw[show vm ps 0=List.replicate (ps.length:Int).toNat A0 by simp[vm,ny]];rfl) ?_
 intro i hi
 by_cases hlt:i<ps.length
 ·have hxe:ps[i]?=some ps[i]:=List.getElem?_eq_getElem hlt
  have hsn:ps.take (i+1)=ps.take i++[ps[i]]:=List.take_succ_eq_append_getElem hlt
  obtain⟨v1,v2⟩:=hv _ (List.getElem_mem hlt)
  have hpl:=wL ps i hi
  have hst:=wM hlt
  have hfl:((ps.take i).map (·.members)).length=i:=by rw[List.length_map,List.length_take];omega
  generalize ps[i]=p at *
  generalize vm ps i=s at *
  (repeat' first|refine nL ?_|refine sa fun xe hxe=>?_|refine sb (fun hq=>?_) fun hq=>?_|exact True.intro|refine cr (lH _ v1) ?_)
  refine⟨i+1,by omega,by omega,?_⟩
  rw[←hst,hsn,List.map_append,hfl]
  rfl
 ·(repeat' first|refine nL ?_|refine sa fun xe hxe=>?_|refine sb (fun hq=>?_) fun hq=>?_|exact True.intro)
  rw[List.take_of_length_le (by omega),show vm ps i=ny ps by rw[vm,List.take_of_length_le (by omega),show ps.length-i=0 by omega];simp]
  exact⟨rfl,rfl⟩
theorem Ad (tabs:List (List (Option Vtx)))(k:Nat)(tab:List (Option Vtx))(v:Vtx)(hk:tabs[k]?=some tab)(ht:tab.length=217)(hr:v.parents≠[]→1≤v.round∧v.round≤31)(hp:∀p∈v.parents,0≤p∧p≤6):am Try.prog 77 [.fptr 0 k 0,eL v] [(0,.fvari 108 217 (.ob .vtx) tabs)] (.bool (nw tab v)) [(0,.fvari 108 217 (.ob .vtx) tabs)]:=by
 refine ah ao Try.func77 rfl rfl false 0 4 rfl rfl rfl rfl fun K hK hb1 hb2=>?_;simp only[aj,enc,Nat.reduceAdd]
 simp[ab,V.toD,bnd,aa,D.cells] at hb1
 (repeat' first|refine st ?_|refine sa fun xe hxe=>?_|refine sb (fun hq=>?_) fun hq=>?_|exact True.intro)
 refine al hK [] [0,3,8,9,10] (fun i:Nat=>⟨[(0,.fptr 0 k 0),(3,.ptr 4 0),(8,.lst (.int .i64) v.parents),(9,.int .i64 v.parents.length),(10,.int .i64 (i:Int))],[(0,.fvari 108 217 (.ob .vtx) tabs),(4,.var 59 (eL v).cells)],5⟩) (fun i=>i≤v.parents.length∧∀p∈v.parents.take i,(tab.getD ((v.round-1)*7+p).toNat none).isSome=true) (fun i=>v.parents.length-i) 0 (by simp) rfl ?_
 rintro i ⟨hi,hall⟩
 by_cases hlt:i<v.parents.length
 ·have hxe:v.parents[i]?=some v.parents[i]:=List.getElem?_eq_getElem hlt
  have h3:v.parents.take (i+1)=v.parents.take i++[v.parents[i]]:=List.take_succ_eq_append_getElem hlt
  have h4:v.parents[i]∈v.parents:=List.getElem_mem hlt
  have h5:=hr (List.ne_nil_of_mem h4)
  have h6:=hp _ h4
  generalize v.parents[i]=p at *
  have hix:((v.round-1)*7+p).toNat=(v.round-1).toNat * 7+p.toNat:=by omega
  (repeat' first|refine st ?_|refine sa fun xe hxe=>?_|refine sb (fun hq=>?_) fun hq=>?_|exact True.intro)
  ·have hxe:tab[(v.round-1).toNat * 7+p.toNat]?=some xe:=hxe
   have:nw tab v=false:=by
    rw[Bool.eq_false_iff]
    intro h
    have h:=List.all_eq_true.1 h p h4
    rw[hix,List.getD_eq_getElem?_getD,hxe,Option.getD_some] at h
    have hq:xe=none:=by simpa using hq
    rw[hq] at h
    cases h
   rw[this]
   exact⟨rfl,rfl⟩
  ·have hxe:tab[(v.round-1).toNat * 7+p.toNat]?=some xe:=hxe
   refine⟨i+1,⟨by omega,?_⟩,by omega,rfl⟩
   rw[h3]
   refine cy hall ?_
   rw[hix,List.getD_eq_getElem?_getD,hxe,Option.getD_some]
   have hq:Option.isNone xe=false:=hq
   simpa[Option.isNone_iff_eq_none,Option.isSome_iff_ne_none] using hq
 ·(repeat' first|refine st ?_|refine sa fun xe hxe=>?_|refine sb (fun hq=>?_) fun hq=>?_|exact True.intro)
  rw[List.take_of_length_le (by omega)] at hall
  have:nw tab v=true:=List.all_eq_true.2 hall
  rw[this]
  exact⟨rfl,rfl⟩
abbrev rB (c l:List Int)(b:Int)(tabs:List (List (Option Vtx)))(ps:List Ppl):VH:=[(0,.fvari 108 217 (.ob .vtx) tabs),(1,.frow 3 (.int .i64) (ps.map (·.members))),(4,.var 76 [.int .i32 0,.int .u32 0,.lst (.int .i64) c,.lst (.int .i64) l,.int .i64 b,.ref 5,.ref 6]),(5,.row 77 (.hp 0) ((List.range tabs.length).map some)),(6,.row 61 (.pplm 1) (ny ps))]
theorem mL {ps:List Ppl}{i:Nat}{p:Ppl}(h:ps[i]?=some p):(ny ps)[i]?=some ⟨p.v,some i⟩:=by
 simp[ny,List.getElem?_map,List.getElem?_zipIdx,h]
theorem zI (tabs:List (List (Option Vtx)))(k:Nat)(tab:List (Option Vtx))(v:Vtx)(hk:tabs[k]?=some tab)(ht:tab.length=217)(hr:v.parents≠[]→1≤v.round∧v.round≤31)(hp:∀p∈v.parents,0≤p∧p≤6):am Try.prog 77 [.hpo 0 (some k),eL v] [(0,.fvari 108 217 (.ob .vtx) tabs)] (.bool (nw tab v)) [(0,.fvari 108 217 (.ob .vtx) tabs)]:=by
 have h:=Ad tabs k tab v hk ht hr hp
 unfold am at h⊢
 exact h
set_option maxHeartbeats 1000000 in
theorem z9 (c l:List Int)(b:Int)(tabs:List (List (Option Vtx)))(ps:List Ppl)(ht:∀t∈tabs,t.length=217)(htl:tabs.length≤7)(hpn:ps.length≤1000000)(hp:∀p∈ps,AE tabs.length p):am Try.prog 47 [.ptr 4 0] (rB c l b tabs ps) (.bool (sN b tabs ps)) (rB c l b tabs ps):=by
 refine ah gh Try.func47 rfl rfl false 3 7 rfl rfl rfl rfl fun K hK hb1 hb2=>?_;simp only[aj,enc,Nat.reduceAdd]
 clear hb1 hb2
 have hpl:=fX ps
 (repeat' first|refine nL ?_|refine sa fun xe hxe=>?_|refine sb (fun hq=>?_) fun hq=>?_|exact True.intro)
 refine al hK [] [0,10,11,12] (fun i:Nat=>⟨[(0,.ptr 4 0),(10,.ref 6),(11,.int .i64 ps.length),(12,.int .i64 (i:Int))],rB c l b tabs ps,7⟩) (fun i=>i≤ps.length∧∀p∈ps.take i,z7 b tabs p.v (p.v.author::p.members)=true) (fun i=>ps.length-i) 0 (by simp) (by simp only[hpl];rfl) ?_
 rintro i ⟨hi,hall⟩
 by_cases hlt:i<ps.length
 ·have hxe:ps[i]?=some ps[i]:=List.getElem?_eq_getElem hlt
  have hsn:ps.take (i+1)=ps.take i++[ps[i]]:=List.take_succ_eq_append_getElem hlt
  have hpm:ps[i]∈ps:=List.getElem_mem hlt
  have hno:z7 b tabs ps[i].v (ps[i].v.author::ps[i].members)=false→sN b tabs ps=false:=fun h=>by
   rw[Bool.eq_false_iff]
   intro h2
   rw[List.all_eq_true.1 h2 _ hpm] at h
   cases h
  obtain⟨p1,p2,p3,p4,p5⟩:=hp _ hpm
  have hx1:=mL hxe
  have hx2:(ps.map (·.members))[i]?=some ps[i].members:=by rw[List.getElem?_map,hxe];rfl
  have hfl:(ps.map (·.members)).length=ps.length:=List.length_map ..
  generalize ps[i]=p at *
  (repeat' first|refine nL ?_|refine sa fun xe hxe=>?_|refine sb (fun hq=>?_) fun hq=>?_|exact True.intro)
  refine al hK [] [0,4,10,11,12,22,23,24] (fun j:Nat=>⟨[(0,.ptr 4 0),(4,.ptr 7 0),(10,.ref 6),(11,.int .i64 ps.length),(12,.int .i64 (i:Int)),(22,.ref 8),(23,.int .i64 ((p.v.author::p.members).length:Nat)),(24,.int .i64 (j:Int))],rB c l b tabs ps++[(7,VB.var 61 [.int .i64 p.v.round,.int .i64 p.v.author,.lst (.int .i64) p.v.parents,.int .i64 p.v.digest,.hro 1 (some i)]),(8,VB.row 3 (.int .i64) (p.v.author::p.members))],9⟩) (fun j=>j≤(p.v.author::p.members).length∧∀m∈(p.v.author::p.members).take j,(m==b||nw (tabs.getD m.toNat []) p.v)=true) (fun j=>(p.v.author::p.members).length-j) 0 (by simp) (by(conv=>whnf);rfl) ?_
  rintro j ⟨hj,hjall⟩
  have hnl:(p.v.author::p.members).length≤1000001:=by simp only[List.length_cons];omega
  have hkk:(∀m∈p.v.author::p.members,(m==b||nw (tabs.getD m.toNat []) p.v)=true)→z7 b tabs p.v (p.v.author::p.members)=true:=fun h=>List.all_eq_true.2 h
  have hkn:∀m∈p.v.author::p.members,(m==b||nw (tabs.getD m.toNat []) p.v)=false→z7 b tabs p.v (p.v.author::p.members)=false:=fun m hm h=>by
   rw[Bool.eq_false_iff]
   intro h2
   rw[List.all_eq_true.1 h2 _ hm] at h
   cases h
  generalize hms:p.v.author::p.members=ms at *
  by_cases hjl:j<ms.length
  ·have hye:ms[j]?=some ms[j]:=List.getElem?_eq_getElem hjl
   have hjs:ms.take (j+1)=ms.take j++[ms[j]]:=List.take_succ_eq_append_getElem hjl
   have hjm:ms[j]∈ms:=List.getElem_mem hjl
   have hxr:=p1 _ hjm
   have hkn:=hkn _ hjm
   generalize ms[j]=m at *
   have hxt:tabs[m.toNat]?=some (tabs.getD m.toNat []):=by
    rw[List.getD_eq_getElem?_getD,List.getElem?_eq_getElem (show m.toNat<tabs.length by omega)];rfl
   have hxv:((List.range tabs.length).map some)[m.toNat]?=some (some m.toNat):=by
    rw[List.getElem?_map,List.getElem?_range (show m.toNat<tabs.length by omega)];rfl
   have hvl:((List.range tabs.length).map some).length=tabs.length:=by simp
   have hC:=zI tabs m.toNat _ p.v hxt (ht _ (List.mem_of_getElem? hxt)) p2 p3
   by_cases hmb:m=b
   ·subst hmb
    (repeat' first|refine nL ?_|refine sa fun xe hxe=>?_|refine sb (fun hq=>?_) fun hq=>?_|exact True.intro)
    ·exact absurd trivial hq
    ·refine⟨j+1,⟨by omega,by rw[hjs];exact cy hjall (by simp)⟩,by omega,rfl⟩
   ·cases h1:nw (tabs.getD m.toNat []) p.v
    ·rw[h1] at hC
     (repeat' first|refine nL ?_|refine sa fun xe hxe=>?_|refine sb (fun hq=>?_) fun hq=>?_|exact True.intro|refine co (hC) ?_)
     exact⟨by rw[hno (hkn (by rw[h1,Bool.or_false];simpa using hmb))],rfl⟩
    ·rw[h1] at hC
     (repeat' first|refine nL ?_|refine sa fun xe hxe=>?_|refine sb (fun hq=>?_) fun hq=>?_|exact True.intro|refine co (hC) ?_)
     exact⟨j+1,⟨by omega,by rw[hjs];exact cy hjall (by rw[h1,Bool.or_true])⟩,by omega,rfl⟩
  ·(repeat' first|refine nL ?_|refine sa fun xe hxe=>?_|refine sb (fun hq=>?_) fun hq=>?_|exact True.intro)
   rw[List.take_of_length_le (by omega)] at hjall
   exact⟨i+1,⟨by omega,by rw[hsn];exact cy hall (by rw[hms];exact hkk hjall)⟩,by omega,rfl⟩
 ·(repeat' first|refine nL ?_|refine sa fun xe hxe=>?_|refine sb (fun hq=>?_) fun hq=>?_|exact True.intro)
  rw[List.take_of_length_le (by omega)] at hall
  have:sN b tabs ps=true:=List.all_eq_true.2 hall
  rw[this]
  exact⟨rfl,rfl⟩
end Go.Proofs.Ytgfcmhjebbncpaa.Am
namespace Go.Proofs.Ytgfcmhjebbncpaa.Am
open Go Go.Shelf Go.RowKit
attribute [local irreducible] Mk bC Ari d8 pN jt cf ee gx iI At am
set_option maxRecDepth 10000
theorem ta {P : Program} {f : FuncId} {ds : List D} {r : D} (hf : ∃ fn, P.funcs[f]? = some fn ∧ fn.body.isNone = false ∧ (fn.name == "runtime.NumGoroutine") = false)
  (h:∀(w:World) (ok:Nat→Prop) (ρ:Id→Pl) (vs:Array Value),ds.length=vs.size→(∀i,i<ds.length→C ρ (fun _=>False) ok w (ds.getD i .undef) (vs.getD i undef))→
   Calls P f vs w fun e w'=>∃u,e= .returned u∧Below w.heap.size w w'∧∀ok',Rep ok' w' r u):Con P f ds [] r []:=by
 refine⟨hf,fun w A ρ vs hs hl hc=>?_⟩
 have hno:∀b,¬Live [] b:=fun b h=>by cases h
 have hc':∀i,i<ds.length→C ρ (fun _=>False) (okOf A ρ [] w) w (ds.getD i .undef) (vs.getD i undef):=fun i hi=>(hc i hi).mono (fun b hb=>absurd hb (hno b)) (fun b hb=>⟨hb,rfl⟩)
 refine Calls.mono (h w (okOf A ρ [] w) ρ vs hl hc') ?_
 rintro e w' ⟨u,rfl,hb,hr⟩
 refine⟨u,ρ,rfl,fun b hb=>absurd hb (hno b),⟨hs.base,hs.inS,⟨hb.os,hb.tape,hb.output,hb.size,fun i hi _=>hb.block i hi⟩,rfl,rfl,?_,?_,?_,?_,hs.gl⟩,.pure (hr _)⟩
 ·intro k d h;cases h
 ·intro k d h;cases h
 ·intro k d h;cases h
 ·intro b b' x x' h;cases h
theorem m6 {nb:Nat}{α β:Type}{xs:List α}{ys:List β}(h1:xs.length≤1000000)(h2:ys.length≤1000000)(hb:nb≤100):iH nb (xs.length+ys.length):=by
 have:(xs.length+ys.length)*nb≤2000000*100:=Nat.mul_le_mul (by omega) hb
 unfold iH
 omega
def qa:Go.Shelf.Ren:=⟨fun|15=>44|n=>n,fun|22=>22|3=>3|4=>4|n=>n,fun|n=>n⟩
theorem vX:Go.Proofs.Lays2.n15 Try.prog qa where
  mixed:=by kernel_rfl
  f15:=Try.func44.trans (congrArg some (by kernel_rfl))
  t3:=Try.underlying3
  a3:=Try.isAgg3
  z3:=Try.sizeOf3
  v3:=Try.zeroValue3
  t4:=Try.underlying4
  a4:=Try.isAgg4
  z4:=Try.sizeOf4
  v4:=Try.zeroValue4
  t22:=Try.underlying22
  a22:=Try.isAgg22
  z22:=Try.sizeOf22
  v22:=Try.zeroValue22
  i3:=by kernel_rfl
theorem vZ (t:Ty):am Try.prog 44 [.lst t []] [] (.lst t []) []:=by
 unfold am
 refine ta ⟨_,Try.func44,rfl,rfl⟩ fun w ok ρ vs hl hc=>?_
 obtain⟨v,rfl⟩:∃v,vs= #[v]:=by
  have:vs.size=1:=hl.symm
  exact⟨vs[0],Array.ext (by simp[this]) fun i h1 h2=>by
   have:i=0:=by simpa using h2
   subst this;rfl⟩
 have h0:C ρ (fun _=>False) ok w (.lst []) v:=hc 0 (Nat.one_pos)
 have h1:=h0.lst_inv
 have fin:∀(w':World) (a:Option Addr) (cap:Nat),(a=none→cap=0)→cap≤maxLen→∀ok',Rep ok' w' ((V.lst t []).toD) (.slice a 0 cap):=fun w' a cap h1 h2 ok'=>.none a cap h1 h2
 obtain⟨a,cap,rfl,ha⟩:∃a cap,v= .slice a 0 cap∧(a=none→cap=0):=by
  cases h1 with
  |none a cap ha hcap=>exact⟨a,cap,rfl,ha⟩
  |lst l n b off cap f hn=>exact⟨_,cap,by rw[←hn];rfl,fun h=>by cases h⟩
 cases a with
 |none=>
  refine Calls.mono (Any.slices_Clone_int_nil vX 0 cap w) ?_
  rintro e w' ⟨rfl,rfl⟩
  exact⟨_,rfl,Below.refl _ _,fin _ _ _ (fun _=>rfl) (Nat.zero_le _)⟩
 |some a=>
  refine Calls.mono (Any.slices_Clone_int_zero vX a cap w) ?_
  rintro e w' ⟨v',rfl,ho,_,hb⟩
  refine⟨v',rfl,hb,?_⟩
  rcases ho.2 with⟨rfl,_⟩|⟨g,cap',cur,rfl,_,_,_,h3,_⟩
  ·exact fin _ _ _ (fun _=>rfl) (Nat.zero_le _)
  ·exact fin _ _ _ (fun h=>by cases h) h3
theorem uO (l:List Int)(hb:l.length≤1000000):am Try.prog 44 [.lst (.int .i64) l] [] (.lst (.int .i64) l) []:=by
 cases l with
 |nil=>exact vZ _
 |cons x l=>
  refine ah ao Try.func44 rfl rfl true 0 4 rfl rfl rfl rfl fun K hK hb1 hb2=>?_;simp only[aj,enc,Nat.reduceAdd]
  (repeat' first|refine st ?_|refine sa fun xe hxe=>?_|refine sb (fun hq=>?_) fun hq=>?_|exact True.intro)
  refine mK (m6 (Nat.zero_le _) hb (by decide)) ?_
  (repeat' first|refine st ?_|refine sa fun xe hxe=>?_|refine sb (fun hq=>?_) fun hq=>?_|exact True.intro)
  refine bT ?_
  (conv=>whnf)
  exact⟨rfl,rfl⟩
theorem yl (l:List Int)(hl:l≠[])(hb:l.length≤1000000):am Try.prog 48 [.lst (.int .i64) l] [] (.lst (.int .i64) l) []:=by
 cases l with
 |nil=>exact absurd rfl hl
 |cons x l=>
  refine ah ao Try.func48 rfl rfl true 0 4 rfl rfl rfl rfl fun K hK hb1 hb2=>?_;simp only[aj,enc,Nat.reduceAdd]
  (repeat' first|refine st ?_|refine sa fun xe hxe=>?_|refine sb (fun hq=>?_) fun hq=>?_|exact True.intro)
  refine mK (m6 (Nat.zero_le _) hb (by decide)) ?_
  (repeat' first|refine st ?_|refine sa fun xe hxe=>?_|refine sb (fun hq=>?_) fun hq=>?_|exact True.intro)
  refine bT ?_
  (conv=>whnf)
  exact⟨rfl,rfl⟩
end Go.Proofs.Ytgfcmhjebbncpaa.Am
namespace Go.Proofs.Ytgfcmhjebbncpaa.Am
open Go
attribute [local irreducible] Mk bC Ari d8 pN jt cf ee gx iI At am
set_option maxRecDepth 10000
def zx (w:Wrl):V:=if ey w then .tup [.ptr 4 0,.bool (sN w.bad (w.views.map bw) w.props)] else .tup [.nilp,.bool false]
def zz (w:Wrl):VH:=if ey w then rB w.com w.lead w.bad (w.views.map bw) w.props else[]
def wq (w:Wrl):Nat→VSt
 |0=>⟨[(1,.ptr 4 0),(4,.ptr 5 0),(42,.lst (.lst .vtx) w.views),(43,.int .i64 w.views.length),(44,.int .i64 0)],[(0,.fvari 108 217 (.ob .vtx) []),(4,.var 26 (dT w).cells),(5,.var 76 [.int .i32 0,.int .u32 0,.lst (.int .i64) w.com,.lst (.int .i64) w.lead,.int .i64 w.bad,.nils,.nils])],6⟩
 |i+1=>⟨[(1,.ptr 4 0),(4,.ptr 5 0),(42,.lst (.lst .vtx) w.views),(43,.int .i64 w.views.length),(44,.int .i64 ((i+1:Nat):Int))],[(0,.fvari 108 217 (.ob .vtx) ((w.views.take (i+1)).map bw)),(4,.var 26 (dT w).cells),(5,.var 76 [.int .i32 0,.int .u32 0,.lst (.int .i64) w.com,.lst (.int .i64) w.lead,.int .i64 w.bad,.ref 6,.nils]),(6,.row 77 (.hp 0) ((List.range (i+1)).map some))],7⟩
set_option maxHeartbeats 1000000 in
theorem z6 (w:Wrl)(hl:∀g∈w.views,g.length≤2000000):am Try.prog 21 [dT w] [] (zx w) (zz w):=by
 have hno:ey w=false→V.tup [.nilp,.bool false]=zx w∧([]:VH)=zz w:=fun h=>by simp[zx,zz,h]
 refine ah gh Try.func21 rfl rfl false 0 4 rfl rfl rfl rfl fun K hK hb1 hb2=>?_;simp only[aj,enc,Nat.reduceAdd]
 clear hb1 hb2
 have hL:=wg w.com w.lead
 cases h1:comV w.com && leaS w.com w.lead
 ·rw[h1] at hL
  (repeat' first|refine nL ?_|refine sa fun xe hxe=>?_|refine sb (fun hq=>?_) fun hq=>?_|exact True.intro|refine cr (hL) ?_)
  exact hno (by
   rw[Bool.and_eq_false_iff] at h1
   rcases h1 with h1|h1<;>simp[ey,dD,h1])
 rw[h1] at hL
 have hc:comV w.com=true:=(Bool.and_eq_true_iff.1 h1).1
 have hle:leaS w.com w.lead=true:=(Bool.and_eq_true_iff.1 h1).2
 have hB:=xg w.com w.bad hc
 cases h2:badS w.com w.bad
 ·rw[h2] at hB
  (repeat' first|refine nL ?_|refine sa fun xe hxe=>?_|refine sb (fun hq=>?_) fun hq=>?_|exact True.intro|refine cr (hL) ?_|refine cr (hB) ?_)
  exact hno (by simp[ey,dD,h2])
 rw[h2] at hB
 have hP:=wk w hc
 cases h3:ge w.com w.bad w.props
 ·rw[h3] at hP
  (repeat' first|refine nL ?_|refine sa fun xe hxe=>?_|refine sb (fun hq=>?_) fun hq=>?_|exact True.intro|refine cr (hL) ?_|refine cr (hB) ?_|refine cr (hP) ?_)
  exact hno (by simp[ey,dD,h3])
 rw[h3] at hP
 have hV:=w7 w hc h3 hl
 cases h4:(w.views.length==w.com.length) && f8 w.com w.bad w.props w.views
 ·rw[h4] at hV
  (repeat' first|refine nL ?_|refine sa fun xe hxe=>?_|refine sb (fun hq=>?_) fun hq=>?_|exact True.intro|refine cr (hL) ?_|refine cr (hB) ?_|refine cr (hP) ?_|refine cr (hV) ?_)
  exact hno (by simp only[ey,h4];simp)
 rw[h4] at hV
 have hpre:ey w=true:=by simp[ey,dD,hc,hle,h2,h3];simpa using h4
 have hR:zx w= .tup [.ptr 4 0,.bool (sN w.bad (w.views.map bw) w.props)]:=by simp[zx,hpre]
 have hO:zz w=rB w.com w.lead w.bad (w.views.map bw) w.props:=by simp[zz,hpre]
 rw[hR,hO]
 have h7:=(aE.1 hc).2
 have hll:=(gY.1 hle).2
 have hvl:w.views.length=w.com.length:=(ja hpre).2.2.2.2.1
 have hne:w.com≠[]:=fun h=>by rw[h] at h7;simp at h7
 have hCm:=uO w.com (by omega)
 have hCl:=uO w.lead (by omega)
 (repeat' first|refine nL ?_|refine sa fun xe hxe=>?_|refine sb (fun hq=>?_) fun hq=>?_|exact True.intro|refine cr (hL) ?_|refine cr (hB) ?_|refine cr (hP) ?_|refine cr (hV) ?_|refine cr (hCm) ?_|refine cr (hCl) ?_)
 refine iC 0 (.fvari 108 217 (.ob .vtx) []) rfl ?_
 refine al hK [] [1,4,42,43,44] (wq w) (fun i=>i≤w.views.length) (fun i=>w.views.length-i) 0 (by simp) (by(conv=>whnf);rfl) ?_
 intro i hi
 have hps:=nJ hpre
 have hpl:=mt h3
 have ht7:∀t∈w.views.map bw,t.length=217:=fun t h=>by
  obtain⟨g,_,rfl⟩:=List.mem_map.1 h
  exact fx g
 have hml:(w.views.map bw).length=w.views.length:=List.length_map ..
 by_cases hlt:i<w.views.length
 ·have hgm:w.views[i]∈w.views:=List.getElem_mem hlt
  have hxe:w.views[i]?=some w.views[i]:=List.getElem?_eq_getElem hlt
  have hsn:w.views.take (i+1)=w.views.take i++[w.views[i]]:=List.take_succ_eq_append_getElem hlt
  have hg:=jT hpre _ hgm
  generalize w.views[i]=g at *
  cases i with
  |zero=>
   have hx0:w.views[(0:Int).toNat]?=some g:=hxe
   have hst:wq w (0+1)=⟨[(1,.ptr 4 0),(4,.ptr 5 0),(42,.lst (.lst .vtx) w.views),(43,.int .i64 w.views.length),(44,.int .i64 ((0+1:Nat):Int))],[(0,.fvari 108 217 (.ob .vtx) [bw g]),(4,.var 26 (dT w).cells),(5,.var 76 [.int .i32 0,.int .u32 0,.lst (.int .i64) w.com,.lst (.int .i64) w.lead,.int .i64 w.bad,.ref 6,.nils]),(6,.row 77 (.hp 0) [some 0])],7⟩:=by
    rw[wq,hsn]
    rfl
   have hs0:wq w 0=⟨[(1,.ptr 4 0),(4,.ptr 5 0),(42,.lst (.lst .vtx) w.views),(43,.int .i64 w.views.length),(44,.int .i64 0)],[(0,.fvari 108 217 (.ob .vtx) []),(4,.var 26 (dT w).cells),(5,.var 76 [.int .i32 0,.int .u32 0,.lst (.int .i64) w.com,.lst (.int .i64) w.lead,.int .i64 w.bad,.nils,.nils])],6⟩:=rfl
   rw[hs0]
   (repeat' first|refine nL ?_|refine sa fun xe hxe=>?_|refine sb (fun hq=>?_) fun hq=>?_|exact True.intro|refine cr (xx g hg) ?_)
   refine⟨0+1,by omega,by omega,?_⟩
   rw[hst]
   rfl
  |succ i=>
   have hfl:((w.views.take (i+1)).map bw).length=i+1:=by rw[List.length_map,List.length_take];omega
   have hrl:((List.range (i+1)).map some).length=i+1:=by simp
   have hst:wq w (i+1+1)=⟨[(1,.ptr 4 0),(4,.ptr 5 0),(42,.lst (.lst .vtx) w.views),(43,.int .i64 w.views.length),(44,.int .i64 ((i+1+1:Nat):Int))],[(0,.fvari 108 217 (.ob .vtx) ((w.views.take (i+1)).map bw++[bw g])),(4,.var 26 (dT w).cells),(5,.var 76 [.int .i32 0,.int .u32 0,.lst (.int .i64) w.com,.lst (.int .i64) w.lead,.int .i64 w.bad,.ref 6,.nils]),(6,.row 77 (.hp 0) ((List.range (i+1)).map some++[some (i+1)]))],7⟩:=by
    rw[wq,hsn,List.map_append,List.range_succ,List.map_append]
    rfl
   have hs0:wq w (i+1)=⟨[(1,.ptr 4 0),(4,.ptr 5 0),(42,.lst (.lst .vtx) w.views),(43,.int .i64 w.views.length),(44,.int .i64 ((i+1:Nat):Int))],[(0,.fvari 108 217 (.ob .vtx) ((w.views.take (i+1)).map bw)),(4,.var 26 (dT w).cells),(5,.var 76 [.int .i32 0,.int .u32 0,.lst (.int .i64) w.com,.lst (.int .i64) w.lead,.int .i64 w.bad,.ref 6,.nils]),(6,.row 77 (.hp 0) ((List.range (i+1)).map some))],7⟩:=rfl
   rw[hs0]
   clear hs0
   generalize (w.views.take (i+1)).map bw=ts at *
   generalize (List.range (i+1)).map some=rs at *
   (repeat' first|refine nL ?_|refine sa fun xe hxe=>?_|refine sb (fun hq=>?_) fun hq=>?_|exact True.intro|refine cr (xx g hg) ?_)
   refine⟨i+1+1,by omega,by omega,?_⟩
   rw[hst,hfl]
   rfl
 ·have hi':i=w.views.length:=by omega
  have hK:=z9 w.com w.lead w.bad (w.views.map bw) w.props ht7 (by omega) (by omega) (by rw[hml];exact hps)
  have hCp:=ym w.props (fun p hp=>⟨by have:=(hps p hp).2.2.2.2;omega,by have:=(hps p hp).2.2.2.1;omega⟩) (by omega)
  cases i with
  |zero=>omega
  |succ i=>
   have hs0:wq w (i+1)=⟨[(1,.ptr 4 0),(4,.ptr 5 0),(42,.lst (.lst .vtx) w.views),(43,.int .i64 w.views.length),(44,.int .i64 ((i+1:Nat):Int))],[(0,.fvari 108 217 (.ob .vtx) (w.views.map bw)),(4,.var 26 (dT w).cells),(5,.var 76 [.int .i32 0,.int .u32 0,.lst (.int .i64) w.com,.lst (.int .i64) w.lead,.int .i64 w.bad,.ref 6,.nils]),(6,.row 77 (.hp 0) ((List.range (w.views.map bw).length).map some))],7⟩:=by
    rw[wq,List.take_of_length_le (by omega),hml,←hi']
   rw[hs0]
   clear hs0
   generalize hts:w.views.map bw=ts at *
   (repeat' first|refine nL ?_|refine sa fun xe hxe=>?_|refine sb (fun hq=>?_) fun hq=>?_|exact True.intro|refine cr (hCp) ?_|refine co (hK) ?_)
   exact⟨rfl,rfl⟩
theorem nI {α:Type}{a b:List α}{i:Nat}{x:α}(h:a.take i=b.take i)(ha:a[i]?=some x)(hb:b[i]?=some x):a.take (i+1)=b.take (i+1):=by
 rw[List.take_add_one,List.take_add_one,h,ha,hb]
theorem uC (a b:List Int):am Try.prog 9 [.lst (.int .i64) a,.lst (.int .i64) b] [] (.bool (decide (a=b))) []:=by
 refine ah ao Try.func9 rfl rfl false 0 4 rfl rfl rfl rfl fun K hK hb1 hb2=>?_;simp only[aj,enc,Nat.reduceAdd]
 simp[ab,V.toD,bnd,aa,D.cells] at hb1
 by_cases hl:a.length=b.length
 ·(repeat' first|refine st ?_|refine sa fun xe hxe=>?_|refine sb (fun hq=>?_) fun hq=>?_|exact True.intro)
  refine al hK [] [0,1,4,5] (fun i:Nat=>⟨[(0,.lst (.int .i64) a),(1,.lst (.int .i64) b),(4,.bool false),(5,.int .i64 i)],[],4⟩) (fun i=>i≤a.length∧a.take i=b.take i) (fun i=>a.length-i) 0 ⟨by simp,by simp⟩ rfl ?_
  rintro i ⟨hi,hall⟩
  by_cases hlt:i<a.length
  ·obtain⟨x,hx⟩:∃x,a[i]?=some x:=⟨_,List.getElem?_eq_getElem hlt⟩
   obtain⟨y,hy⟩:∃y,b[i]?=some y:=⟨_,List.getElem?_eq_getElem (by omega)⟩
   (repeat' first|refine st ?_|refine sa fun xe hxe=>?_|refine sb (fun hq=>?_) fun hq=>?_|exact True.intro)
   ·have hne:¬x=y:=hq
    exact⟨by rw[decide_eq_false];rintro rfl;rw[hx] at hy;exact hne (Option.some.inj hy),rfl⟩
   ·subst hq
    exact⟨i+1,⟨by omega,nI hall hx hy⟩,by omega,rfl⟩
  ·(repeat' first|refine st ?_|refine sa fun xe hxe=>?_|refine sb (fun hq=>?_) fun hq=>?_|exact True.intro)
   have hab:a=b:=by rwa [List.take_of_length_le (by omega),List.take_of_length_le (by omega)] at hall
   exact⟨by rw[decide_eq_true hab],rfl⟩
 ·(repeat' first|refine st ?_|refine sa fun xe hxe=>?_|refine sb (fun hq=>?_) fun hq=>?_|exact True.intro)
  exact⟨by rw[decide_eq_false];rintro rfl;exact hl rfl,rfl⟩
theorem fg {α:Type}(c:List α)(a:List α)(x:α){i:Nat}(hc:c.length=i)(hi:i<a.length):(c++a.drop i).set i x=(c++[x])++a.drop (i+1):=by
 rw[List.set_append_right _ _ (by omega),hc,Nat.sub_self,List.drop_eq_getElem_cons hi]
 simp only[List.set_cons_zero,List.append_assoc,List.singleton_append]
theorem kv {α:Type}(c:List α)(a:List α){i:Nat}(hc:c.length=i)(hi:i<a.length):i<(c++a.drop i).length:=by simp;omega
theorem lg (a:List Int)(ha:a.length≤1048576):am Try.prog 6 [.lst (.int .i64) a] [] (.ref 4) [(4,.row 3 (.int .i64) a)]:=by
 refine ah ao Try.func6 rfl rfl false 0 4 rfl rfl rfl rfl fun K hK hb1 hb2=>?_;simp only[aj,enc,Nat.reduceAdd]
 (repeat' first|refine st ?_|refine sa fun xe hxe=>?_|refine sb (fun hq=>?_) fun hq=>?_|exact True.intro)
 refine al hK [] [0,3,4] (fun i:Nat=>⟨[(0,.lst (.int .i64) a),(3,.ref 4),(4,.int .i64 i)],[(4,.row 3 (.int .i64) (a.take i++(List.replicate a.length 0).drop i))],5⟩) (fun i=>i≤a.length) (fun i=>a.length-i) 0 (by simp) (by simp;rfl) ?_
 intro i hi
 by_cases hlt:i<a.length
 ·have hx:a[i]?=some a[i]:=List.getElem?_eq_getElem hlt
  have hg:i<(a.take i++(List.replicate a.length (0:Int)).drop i).length:=kv _ _ (by simp;omega) (by simpa using hlt)
  have hs:(a.take i++(List.replicate a.length (0:Int)).drop i).set i a[i]=a.take (i+1)++(List.replicate a.length 0).drop (i+1):=by
   rw[fg _ _ _ (by simp;omega) (by simpa using hlt),List.take_succ_eq_append_getElem hlt]
  generalize hrow:a.take i++(List.replicate a.length (0:Int)).drop i=row at *
  generalize a[i]=x at *
  (repeat' first|refine st ?_|refine sa fun xe hxe=>?_|refine sb (fun hq=>?_) fun hq=>?_|exact True.intro)
  refine⟨i+1,by omega,by omega,?_⟩
  rw[←hs]
  rfl
 ·obtain rfl:i=a.length:=by omega
  (repeat' first|refine st ?_|refine sa fun xe hxe=>?_|refine sb (fun hq=>?_) fun hq=>?_|exact True.intro)
  simp
theorem fo (a:List Int):am Try.prog 9 [.lst (.int .i64) a,.lst (.int .i64) a] [] (.bool true) []:=by
 have:=uC a a
 simpa using this
theorem kR (v:Vtx):am Try.prog 78 [eL v,eL v] [] (.bool true) []:=by
 refine ah ao Try.func78 rfl rfl false 0 4 rfl rfl rfl rfl fun K hK hb1 hb2=>?_;simp only[aj,enc,Nat.reduceAdd]
 (repeat' first|refine st ?_|refine sa fun xe hxe=>?_|refine sb (fun hq=>?_) fun hq=>?_|exact True.intro|refine cr (fo _) ?_)
 all_goals first|(exact⟨rfl,rfl⟩)|exact absurd rfl hq|exact absurd trivial hq|cases hq
theorem pm (g:List Vtx):am Try.prog 50 [.lst .vtx g,.lst .vtx g] [] (.bool true) []:=by
 refine ah ao Try.func50 rfl rfl false 0 4 rfl rfl rfl rfl fun K hK hb1 hb2=>?_;simp only[aj,enc,Nat.reduceAdd]
 simp[ab,V.toD,bnd,aa,D.cells] at hb1
 (repeat' first|refine st ?_|refine sa fun xe hxe=>?_|refine sb (fun hq=>?_) fun hq=>?_|exact True.intro)
 ·exact absurd trivial hq
 refine al hK [] [0,1,5] (fun i:Nat=>⟨[(0,.lst .vtx g),(1,.lst .vtx g),(5,.int .i64 i)],[],4⟩) (fun i=>i≤g.length) (fun i=>g.length-i) 0 (by simp) rfl ?_
 intro i hi
 by_cases hlt:i<g.length
 ·have hx:g[i]?=some g[i]:=List.getElem?_eq_getElem hlt
  generalize g[i]=x at *
  (repeat' first|refine st ?_|refine sa fun xe hxe=>?_|refine sb (fun hq=>?_) fun hq=>?_|exact True.intro|refine cr (kR _) ?_)
  exact⟨i+1,by omega,by omega,rfl⟩
 ·(repeat' first|refine st ?_|refine sa fun xe hxe=>?_|refine sb (fun hq=>?_) fun hq=>?_|exact True.intro)
  exact⟨rfl,rfl⟩
theorem pk {tab:List (Option Vtx)}{n:Nat}{o:Option Vtx}(h:tab[n]?=some o):aL (tab.take (n+1))=aL (tab.take n)++o.toList:=by
 obtain⟨hl,rfl⟩:=List.getElem?_eq_some_iff.1 h
 rw[List.take_succ_eq_append_getElem hl]
 simp only[aL,List.filterMap_append]
 cases tab[n]<;>rfl
theorem sm (tab:List (Option Vtx)):(aL tab).length≤tab.length:=List.length_filterMap_le ..
set_option maxHeartbeats 1000000 in
theorem xW (tabs:List (List (Option Vtx)))(k:Nat)(tab:List (Option Vtx))(hk:tabs[k]?=some tab)(ht:tab.length=217)(hv:∀v,some v∈tab→v.parents.length≤1000000):am Try.prog 49 [.fptr 0 k 0] [(0,.fvari 108 217 (.ob .vtx) tabs)] (.lst .vtx (aL tab)) [(0,.fvari 108 217 (.ob .vtx) tabs)]:=by
 refine ah ao Try.func49 rfl rfl true 0 4 rfl rfl rfl rfl fun K hK hb1 hb2=>?_;simp only[aj,enc,Nat.reduceAdd]
 clear hb1 hb2
 have hat:∀n,n<217→tab[n]?=some (tab.getD n none):=fun n hn=>by rw[List.getD_eq_getElem?_getD,List.getElem?_eq_getElem (by omega)];rfl
 (repeat' first|refine st ?_|refine sa fun xe hxe=>?_|refine sb (fun hq=>?_) fun hq=>?_|exact True.intro)
 refine al hK [] [3,9,11] (fun r:Nat=>⟨[(3,.ref 4),(9,.fptr 0 k 0),(11,.int .i64 (r:Int))],[(0,.fvari 108 217 (.ob .vtx) tabs),(4,.row 59 .vtx (aL (tab.take (r*7))))],5⟩) (fun r=>r≤31) (fun r=>31-r) 0 (by omega) rfl ?_
 intro r hr
 by_cases hlt:r<31
 ·obtain⟨e,he⟩:∃e:Nat→Option Vtx,∀j,e j=tab.getD (r*7+j) none:=⟨_,fun _=>rfl⟩
  have hg:∀j,j<7→tab[r*7+j]?=some (e j):=fun j hj=>by rw[he];exact hat _ (by omega)
  (repeat' first|refine st ?_|refine sa fun xe hxe=>?_|refine sb (fun hq=>?_) fun hq=>?_|exact True.intro)
  rename_i e0 h0 e1 h1 e2 h2 e3 h3 e4 h4 e5 h5
  obtain rfl:e0=e 0:=Option.some.inj (h0.symm.trans (hg 0 (by omega)))
  obtain rfl:e1=e 1:=Option.some.inj (h1.symm.trans (hg 1 (by omega)))
  obtain rfl:e2=e 2:=Option.some.inj (h2.symm.trans (hg 2 (by omega)))
  obtain rfl:e3=e 3:=Option.some.inj (h3.symm.trans (hg 3 (by omega)))
  obtain rfl:e4=e 4:=Option.some.inj (h4.symm.trans (hg 4 (by omega)))
  obtain rfl:e5=e 5:=Option.some.inj (h5.symm.trans (hg 5 (by omega)))
  obtain rfl:xe=e 6:=Option.some.inj (hxe.symm.trans (hg 6 (by omega)))
  clear h0 h1 h2 h3 h4 h5 hxe
  refine al hK [] [3,9,11,16,17] (fun j:Nat=>⟨[(3,.ref 4),(9,.fptr 0 k 0),(11,.int .i64 (r:Int)),(16,.agg [.obo .vtx (e 0),.obo .vtx (e 1),.obo .vtx (e 2),.obo .vtx (e 3),.obo .vtx (e 4),.obo .vtx (e 5),.obo .vtx (e 6)]),(17,.int .i64 (j:Int))],[(0,.fvari 108 217 (.ob .vtx) tabs),(4,.row 59 .vtx (aL (tab.take (r*7+j))))],5⟩) (fun j=>j≤7) (fun j=>7-j) 0 (by omega) rfl ?_
  intro j hj
  by_cases hjl:j<7
  ·have hs:=pk (hg j hjl)
   have hvj:∀v,e j=some v→v.parents.length≤1000000:=fun v h=>hv v (List.mem_of_getElem? (by rw[hg j hjl,h]))
   have hll:=sm (tab.take (r*7+j))
   rw[List.length_take] at hll
   obtain⟨j1,hj1⟩:∃j1,j1=j+1:=⟨_,rfl⟩
   have hji:((j1:Nat):Int)=(j:Int)+1:=by omega
   rw[Nat.add_assoc,←hj1] at hs
   obtain⟨o,ho⟩:∃o,o=e j:=⟨_,rfl⟩
   rw[←ho] at hs hvj
   generalize aL (tab.take (r*7+j))=l at *
   obtain rfl|rfl|rfl|rfl|rfl|rfl|rfl:j=0∨j=1∨j=2∨j=3∨j=4∨j=5∨j=6:=by omega
   all_goals
    rw[←ho]
    cases o with
    |none=>
     (repeat' first|refine st ?_|refine sa fun xe hxe=>?_|refine sb (fun hq=>?_) fun hq=>?_|exact True.intro)
     refine⟨j1,by omega,by omega,?_⟩
     rw[hs,hji,Option.toList_none,List.append_nil]
     try rfl
    |some v=>
     have hvv:=hvj v rfl
     (repeat' first|refine st ?_|refine sa fun xe hxe=>?_|refine sb (fun hq=>?_) fun hq=>?_|exact True.intro|refine cr (lH _ hvv) ?_)
     refine⟨j1,by omega,by omega,?_⟩
     rw[hs,hji]
     rfl
  ·obtain rfl:j=7:=by omega
   (repeat' first|refine st ?_|refine sa fun xe hxe=>?_|refine sb (fun hq=>?_) fun hq=>?_|exact True.intro)
   exact⟨r+1,by omega,by omega,by rw[show (r+1)*7=r*7+7 by omega];rfl⟩
 ·obtain rfl:r=31:=by omega
  (repeat' first|refine st ?_|refine sa fun xe hxe=>?_|refine sb (fun hq=>?_) fun hq=>?_|exact True.intro)
  rw[List.take_of_length_le (by omega)]
  exact⟨rfl,rfl⟩
theorem yr (tabs:List (List (Option Vtx)))(k:Nat)(tab:List (Option Vtx))(hk:tabs[k]?=some tab)(ht:tab.length=217)(hv:∀v,some v∈tab→v.parents.length≤1000000):am Try.prog 49 [.hpo 0 (some k)] [(0,.fvari 108 217 (.ob .vtx) tabs)] (.lst .vtx (aL tab)) [(0,.fvari 108 217 (.ob .vtx) tabs)]:=by
 have h:=xW tabs k tab hk ht hv
 unfold am at h⊢
 exact h
theorem y8 (ps:List Ppl)(hv:∀p∈ps,p.v.parents.length≤1000000∧p.members.length≤1000000)(hl:ps.length≤1000000):am Try.prog 46 [.ref 4] [(1,.frow 3 (.int .i64) (ps.map (·.members))),(4,.row 61 (.pplm 1) (ny ps))] (.lst .ppl ps) [(1,.frow 3 (.int .i64) (ps.map (·.members))),(4,.row 61 (.pplm 1) (ny ps))]:=by
 refine ah ao Try.func46 rfl rfl true 1 5 rfl rfl rfl rfl fun K hK hb1 hb2=>?_;simp only[aj,enc,Nat.reduceAdd]
 clear hb1 hb2
 have hpl:=fX ps
 (repeat' first|refine st ?_|refine sa fun xe hxe=>?_|refine sb (fun hq=>?_) fun hq=>?_|exact True.intro)
 refine al hK [] [3,9,10,11] (fun i:Nat=>⟨[(3,.ref 5),(9,.ref 4),(10,.int .i64 ps.length),(11,.int .i64 (i:Int))],[(1,.frow 3 (.int .i64) (ps.map (·.members))),(4,.row 61 (.pplm 1) (ny ps)),(5,.row 61 .ppl (ps.take i++(List.replicate ps.length p0).drop i))],6⟩) (fun i=>i≤ps.length) (fun i=>ps.length-i) 0 (by simp) (by simp only[hpl];simp;rfl) ?_
 intro i hi
 by_cases hlt:i<ps.length
 ·have hxe:ps[i]?=some ps[i]:=List.getElem?_eq_getElem hlt
  have hg:i<(ps.take i++(List.replicate ps.length p0).drop i).length:=kv _ _ (by simp;omega) (by simpa using hlt)
  have hs:(ps.take i++(List.replicate ps.length p0).drop i).set i ps[i]=ps.take (i+1)++(List.replicate ps.length p0).drop (i+1):=by
   rw[fg _ _ _ (by simp;omega) (by simpa using hlt),List.take_succ_eq_append_getElem hlt]
  obtain⟨v1,v2⟩:=hv _ (List.getElem_mem hlt)
  have hx1:=mL hxe
  have hx2:(ps.map (·.members))[i]?=some ps[i].members:=by rw[List.getElem?_map,hxe];rfl
  generalize hrow:ps.take i++(List.replicate ps.length p0).drop i=row at *
  generalize ps[i]=p at *
  (repeat' first|refine st ?_|refine sa fun xe hxe=>?_|refine sb (fun hq=>?_) fun hq=>?_|exact True.intro|refine cr (lH _ v1) ?_)
  refine⟨i+1,by omega,by omega,?_⟩
  rw[←hs]
  rfl
 ·obtain rfl:i=ps.length:=by omega
  (repeat' first|refine st ?_|refine sa fun xe hxe=>?_|refine sb (fun hq=>?_) fun hq=>?_|exact True.intro)
  simp
def nd (c l:List Int)(b:Int)(tabs:List (List (Option Vtx)))(ps:List Ppl):Nat→VSt
 |0=>⟨[(2,.ptr 7 0),(3,.ptr 8 0),(30,.ref 5),(31,.int .i64 tabs.length),(32,.int .i64 0)],rB c l b tabs ps++[(7,VB.var 26 [.nils,.nils,.int .i64 0,.nils,.nils]),(8,VB.var 26 [.lst (.int .i64) c,.ref 9,.int .i64 b,.nils,.lst .ppl ps]),(9,VB.row 3 (.int .i64) l)],10⟩
 |i+1=>⟨[(2,.ptr 7 0),(3,.ptr 8 0),(30,.ref 5),(31,.int .i64 tabs.length),(32,.int .i64 ((i+1:Nat):Int))],rB c l b tabs ps++[(7,VB.var 26 [.nils,.nils,.int .i64 0,.nils,.nils]),(8,VB.var 26 [.lst (.int .i64) c,.ref 9,.int .i64 b,.ref 10,.lst .ppl ps]),(9,VB.row 3 (.int .i64) l),(10,VB.row 45 (.lst .vtx) ((tabs.take (i+1)).map aL))],11⟩
set_option maxHeartbeats 1000000 in
theorem yE (c l:List Int)(b:Int)(tabs:List (List (Option Vtx)))(ps:List Ppl)(hc:c≠[])(hcl:c.length≤1000000)(hll:l.length≤1000000)(ht:∀t∈tabs,t.length=217∧∀v,some v∈t→v.parents.length≤1000000)(htl:tabs.length≤7)(htl1:1≤tabs.length)
  (hv:∀p∈ps,p.v.parents.length≤1000000∧p.members.length≤1000000) (hpn:ps.length≤1000000):am Try.prog 22 [.ptr 4 0] (rB c l b tabs ps) (dT ⟨c,l,b,tabs.map aL,ps⟩) (rB c l b tabs ps):=by
 have hC:=yl c hc hcl
 have hP:=y8 ps hv hpn
 have hrl:((List.range tabs.length).map some).length=tabs.length:=by simp
 refine ah ao Try.func22 rfl rfl true 3 7 rfl rfl rfl rfl fun K hK hb1 hb2=>?_;simp only[aj,enc,Nat.reduceAdd]
 clear hb1 hb2
 (repeat' first|refine st ?_|refine sa fun xe hxe=>?_|refine sb (fun hq=>?_) fun hq=>?_|exact True.intro|refine cr (hC) ?_|refine co (hP) ?_)
 refine al hK [] [2,3,30,31,32] (nd c l b tabs ps) (fun i=>i≤tabs.length) (fun i=>tabs.length-i) 0 (by simp) (by simp only[hrl];(conv=>whnf);rfl) ?_
 intro i hi
 by_cases hlt:i<tabs.length
 ·have hxe:tabs[i]?=some tabs[i]:=List.getElem?_eq_getElem hlt
  have hsn:tabs.take (i+1)=tabs.take i++[tabs[i]]:=List.take_succ_eq_append_getElem hlt
  obtain⟨t1,t2⟩:=ht _ (List.getElem_mem hlt)
  have hxv:((List.range tabs.length).map some)[i]?=some (some i):=by rw[List.getElem?_map,List.getElem?_range hlt];rfl
  have hV:=yr tabs i _ hxe t1 t2
  generalize tabs[i]=tab at *
  cases i with
  |zero=>
   have hst:nd c l b tabs ps (0+1)=⟨[(2,.ptr 7 0),(3,.ptr 8 0),(30,.ref 5),(31,.int .i64 tabs.length),(32,.int .i64 ((0+1:Nat):Int))],rB c l b tabs ps++[(7,VB.var 26 [.nils,.nils,.int .i64 0,.nils,.nils]),(8,VB.var 26 [.lst (.int .i64) c,.ref 9,.int .i64 b,.ref 10,.lst .ppl ps]),(9,VB.row 3 (.int .i64) l),(10,VB.row 45 (.lst .vtx) [aL tab])],11⟩:=by
    rw[nd,hsn]
    rfl
   have hs0:nd c l b tabs ps 0=⟨[(2,.ptr 7 0),(3,.ptr 8 0),(30,.ref 5),(31,.int .i64 tabs.length),(32,.int .i64 0)],rB c l b tabs ps++[(7,VB.var 26 [.nils,.nils,.int .i64 0,.nils,.nils]),(8,VB.var 26 [.lst (.int .i64) c,.ref 9,.int .i64 b,.nils,.lst .ppl ps]),(9,VB.row 3 (.int .i64) l)],10⟩:=rfl
   have hx0:((List.range tabs.length).map some)[(0:Int).toNat]?=some (some 0):=hxv
   rw[hs0]
   (repeat' first|refine st ?_|refine sa fun xe hxe=>?_|refine sb (fun hq=>?_) fun hq=>?_|exact True.intro|refine co (hV) ?_)
   refine⟨0+1,by omega,by omega,?_⟩
   rw[hst]
   rfl
  |succ i=>
   have hfl:((tabs.take (i+1)).map aL).length=i+1:=by rw[List.length_map,List.length_take];omega
   have hst:nd c l b tabs ps (i+1+1)=⟨[(2,.ptr 7 0),(3,.ptr 8 0),(30,.ref 5),(31,.int .i64 tabs.length),(32,.int .i64 ((i+1+1:Nat):Int))],rB c l b tabs ps++[(7,VB.var 26 [.nils,.nils,.int .i64 0,.nils,.nils]),(8,VB.var 26 [.lst (.int .i64) c,.ref 9,.int .i64 b,.ref 10,.lst .ppl ps]),(9,VB.row 3 (.int .i64) l),(10,VB.row 45 (.lst .vtx) ((tabs.take (i+1)).map aL++[aL tab]))],11⟩:=by
    rw[nd,hsn,List.map_append]
    rfl
   have hs0:nd c l b tabs ps (i+1)=⟨[(2,.ptr 7 0),(3,.ptr 8 0),(30,.ref 5),(31,.int .i64 tabs.length),(32,.int .i64 ((i+1:Nat):Int))],rB c l b tabs ps++[(7,VB.var 26 [.nils,.nils,.int .i64 0,.nils,.nils]),(8,VB.var 26 [.lst (.int .i64) c,.ref 9,.int .i64 b,.ref 10,.lst .ppl ps]),(9,VB.row 3 (.int .i64) l),(10,VB.row 45 (.lst .vtx) ((tabs.take (i+1)).map aL))],11⟩:=rfl
   rw[hs0]
   clear hs0
   generalize (tabs.take (i+1)).map aL=ts at *
   (repeat' first|refine st ?_|refine sa fun xe hxe=>?_|refine sb (fun hq=>?_) fun hq=>?_|exact True.intro|refine co (hV) ?_)
   refine⟨i+1+1,by omega,by omega,?_⟩
   rw[hst]
   rfl
 ·cases i with
  |zero=>omega
  |succ i=>
   have hs0:nd c l b tabs ps (i+1)=⟨[(2,.ptr 7 0),(3,.ptr 8 0),(30,.ref 5),(31,.int .i64 tabs.length),(32,.int .i64 ((i+1:Nat):Int))],rB c l b tabs ps++[(7,VB.var 26 [.nils,.nils,.int .i64 0,.nils,.nils]),(8,VB.var 26 [.lst (.int .i64) c,.ref 9,.int .i64 b,.ref 10,.lst .ppl ps]),(9,VB.row 3 (.int .i64) l),(10,VB.row 45 (.lst .vtx) (tabs.map aL))],11⟩:=by
    rw[nd,List.take_of_length_le (by omega)]
   rw[hs0]
   clear hs0
   (repeat' first|refine st ?_|refine sa fun xe hxe=>?_|refine sb (fun hq=>?_) fun hq=>?_|exact True.intro)
   exact⟨rfl,rfl⟩
structure Small (w:Wrl):Prop where
 com:w.com.length≤1048576
 lead:w.lead.length≤1048576
 vlen:w.views.length≤1048576
 view:∀g∈w.views,g.length≤1048576∧∀v∈g,v.parents.length≤1048576
 plen:w.props.length≤1048576
 prop:∀p∈w.props,p.v.parents.length≤1048576∧p.members.length≤1048576
theorem mM (g:List (List Vtx)):am Try.prog 23 [.lst (.lst .vtx) g,.lst (.lst .vtx) g] [] (.bool true) []:=by
 refine ah ao Try.func23 rfl rfl false 0 4 rfl rfl rfl rfl fun K hK hb1 hb2=>?_;simp only[aj,enc,Nat.reduceAdd]
 simp[ab,V.toD,bnd,aa,D.cells] at hb1
 (repeat' first|refine st ?_|refine sa fun xe hxe=>?_|refine sb (fun hq=>?_) fun hq=>?_|exact True.intro)
 ·exact absurd trivial hq
 refine al hK [] [0,1,5] (fun i:Nat=>⟨[(0,.lst (.lst .vtx) g),(1,.lst (.lst .vtx) g),(5,.int .i64 i)],[],4⟩) (fun i=>i≤g.length) (fun i=>g.length-i) 0 (by simp) rfl ?_
 intro i hi
 by_cases hlt:i<g.length
 ·have hx:g[i]?=some g[i]:=List.getElem?_eq_getElem hlt
  generalize g[i]=x at *
  (repeat' first|refine st ?_|refine sa fun xe hxe=>?_|refine sb (fun hq=>?_) fun hq=>?_|exact True.intro|refine cr (pm _) ?_)
  exact⟨i+1,by omega,by omega,rfl⟩
 ·(repeat' first|refine st ?_|refine sa fun xe hxe=>?_|refine sb (fun hq=>?_) fun hq=>?_|exact True.intro)
  exact⟨rfl,rfl⟩
theorem mG (p:Ppl):am Try.prog 51 [py p,py p] [] (.bool true) []:=by
 refine ah ao Try.func51 rfl rfl false 0 4 rfl rfl rfl rfl fun K hK hb1 hb2=>?_;simp only[aj,enc,Nat.reduceAdd]
 (repeat' first|refine st ?_|refine sa fun xe hxe=>?_|refine sb (fun hq=>?_) fun hq=>?_|exact True.intro|refine cr (kR _) ?_|refine cr (fo _) ?_)
 all_goals first|(exact⟨rfl,rfl⟩)|exact absurd rfl hq|exact absurd trivial hq|cases hq
theorem lv (g:List Ppl):am Try.prog 24 [.lst .ppl g,.lst .ppl g] [] (.bool true) []:=by
 refine ah ao Try.func24 rfl rfl false 0 4 rfl rfl rfl rfl fun K hK hb1 hb2=>?_;simp only[aj,enc,Nat.reduceAdd]
 simp[ab,V.toD,bnd,aa,D.cells] at hb1
 (repeat' first|refine st ?_|refine sa fun xe hxe=>?_|refine sb (fun hq=>?_) fun hq=>?_|exact True.intro)
 ·exact absurd trivial hq
 refine al hK [] [0,1,5] (fun i:Nat=>⟨[(0,.lst .ppl g),(1,.lst .ppl g),(5,.int .i64 i)],[],4⟩) (fun i=>i≤g.length) (fun i=>g.length-i) 0 (by simp) rfl ?_
 intro i hi
 by_cases hlt:i<g.length
 ·have hx:g[i]?=some g[i]:=List.getElem?_eq_getElem hlt
  generalize g[i]=x at *
  (repeat' first|refine st ?_|refine sa fun xe hxe=>?_|refine sb (fun hq=>?_) fun hq=>?_|exact True.intro|refine cr (mG _) ?_)
  exact⟨i+1,by omega,by omega,rfl⟩
 ·(repeat' first|refine st ?_|refine sa fun xe hxe=>?_|refine sb (fun hq=>?_) fun hq=>?_|exact True.intro)
  exact⟨rfl,rfl⟩
theorem lP (w:Wrl):am Try.prog 8 [dT w,dT w] [] (.bool true) []:=by
 refine ah ao Try.func8 rfl rfl false 0 4 rfl rfl rfl rfl fun K hK hb1 hb2=>?_;simp only[aj,enc,Nat.reduceAdd]
 clear hb1 hb2
 (repeat' first|refine st ?_|refine sa fun xe hxe=>?_|refine sb (fun hq=>?_) fun hq=>?_|exact True.intro|refine cr (fo _) ?_|refine cr (mM _) ?_|refine cr (lv _) ?_)
 all_goals first|(exact⟨rfl,rfl⟩)|exact absurd rfl hq|exact absurd trivial hq|cases hq
def Θx:TT:=(45,⟨.slice 59,1,24,some .nils,some (.hr 0),false⟩)::(59,⟨.struct [(3,0,1),(3,1,1),(22,2,1),(3,3,1)],4,48,some (.agg [.int .i64 0,.int .i64 0,.nils,.int .i64 0]),some (.vtxo 1),false⟩)::(61,⟨.struct [(59,0,4),(22,4,1)],5,72,some (.agg [.int .i64 0,.int .i64 0,.nils,.int .i64 0,.nils]),some (.pplo 1 1),false⟩)::Θ
theorem nA:TT.ok Try.prog Θx:=TT.okB_ok (by kernel_rfl)
theorem A9 {P Q:Prop}(h:Q)(s:Hid Q→P:=by
  intro h
  (first|(with_reducible first|apply cC|apply bW)|((first|with_reducible apply bG nA|refine go ?_|(with_reducible first|apply b6|apply bT|apply bJ|apply bH|refine bK nA mixed (by kernel_rfl) ?_))<;>conv=>whnf))
  repeat(first|(with_reducible first|apply cC|apply bW)|((first|with_reducible apply bG nA|refine go ?_|(with_reducible first|apply b6|apply bT|apply bJ|apply bH|refine bK nA mixed (by kernel_rfl) ?_))<;>conv=>whnf))
  exact h.h):P:=s ⟨h⟩
def zC:PplO:=⟨⟨0,0,none,0⟩,none⟩
theorem t8 (E:TypeId)(a b:List (List Int)):az (VB.frow E (.int .i64) a)≤az (VB.frow E (.int .i64) (a++b)):=by simp[az]
abbrev zT (bad:Int):V:=.agg [.ref 4,.ref 5,.int .i64 bad,.ref 6,.ref 7]
theorem gm (a:List Int)(k:Int)(hk:0≤k∧k+a.length≤1000000000):am Try.prog 10 [.ref 4,.int .i64 k] [(4,.row 3 (.int .i64) a)] (.int .i64 (k+a.length)) [(4,.row 3 (.int .i64) (mk k a.length))]:=by
 refine ah ao Try.func10 rfl rfl false 1 5 rfl rfl rfl rfl fun K hK hb1 hb2=>?_;simp only[aj,enc,Nat.reduceAdd]
 (repeat' first|refine st ?_|refine sa fun xe hxe=>?_|refine sb (fun hq=>?_) fun hq=>?_|exact True.intro)
 refine al hK [] [0,1,4,5] (fun i:Nat=>⟨[(0,.ref 4),(1,.int .i64 (k+i)),(4,.int .i64 0),(5,.int .i64 i)],[(4,.row 3 (.int .i64) (mk k i++a.drop i))],5⟩) (fun i=>i≤a.length) (fun i=>a.length-i) 0 (by simp) (by simp[mk];rfl) ?_
 intro i hi
 have hlen:(mk k i++a.drop i).length=a.length:=by simp[dH];omega
 by_cases hlt:i<a.length
 ·have hs:(mk k i++a.drop i).set i (k+i)=mk k (i+1)++a.drop (i+1):=by
   rw[fg _ _ _ (dH k i) hlt,rO]
  generalize mk k i++a.drop i=row at *
  (repeat' first|refine st ?_|refine sa fun xe hxe=>?_|refine sb (fun hq=>?_) fun hq=>?_|exact True.intro)
  refine⟨i+1,by omega,by omega,?_⟩
  rw[←hs,show k+((i+1:Nat):Int)=k+i+1 by omega]
  rfl
 ·obtain rfl:i=a.length:=by omega
  generalize hrow:mk k a.length++a.drop a.length=row at *
  (repeat' first|refine st ?_|refine sa fun xe hxe=>?_|refine sb (fun hq=>?_) fun hq=>?_|exact True.intro)
  subst hrow
  simp
theorem gt (n:Nat)(k:Int)(hk:0≤k∧k+n≤1000000000):am Try.prog 17 [.lst (.int .i64) (mk k n),.int .i64 k] [] (.int .i64 (k+n)) []:=by
 refine ah ao Try.func17 rfl rfl false 0 4 rfl rfl rfl rfl fun K hK hb1 hb2=>?_;simp only[aj,enc,Nat.reduceAdd]
 clear hb1 hb2
 have hl:=dH k n
 (repeat' first|refine st ?_|refine sa fun xe hxe=>?_|refine sb (fun hq=>?_) fun hq=>?_|exact True.intro)
 refine al hK [] [0,1,4,5] (fun i:Nat=>⟨[(0,.lst (.int .i64) (mk k n)),(1,.int .i64 (k+i)),(4,.int .i64 0),(5,.int .i64 i)],[],4⟩) (fun i=>i≤n) (fun i=>n-i) 0 (by simp) (by simp;rfl) ?_
 intro i hi
 by_cases hlt:i<n
 ·have hx:=zq k hlt
  generalize mk k n=row at *
  (repeat' first|refine st ?_|refine sa fun xe hxe=>?_|refine sb (fun hq=>?_) fun hq=>?_|exact True.intro)
  ·exact absurd trivial hq
  ·refine⟨i+1,by omega,by omega,?_⟩
   rw[show k+((i+1:Nat):Int)=k+i+1 by omega]
   rfl
 ·obtain rfl:i=n:=by omega
  generalize mk k i=row at *
  (repeat' first|refine st ?_|refine sa fun xe hxe=>?_|refine sb (fun hq=>?_) fun hq=>?_|exact True.intro)
  exact⟨rfl,rfl⟩
theorem nj (E:TypeId)(a:List (List Int))(j:Nat)(b:List Int):az (VB.frow E (.int .i64) a)≤az (VB.frow E (.int .i64) (a.set j b)):=by simp[az]
theorem gU (E:TypeId){a b:List (List Int)}(h:b.map List.length=a.map List.length):az (VB.frow E (.int .i64) a)≤az (VB.frow E (.int .i64) b):=by
 have:=congrArg List.length h
 simp only[List.length_map] at this
 simp[az,this]
theorem nC {l:List Int}{n:Nat}{k:Int}(hl:l=mk k n)(hk:0≤k∧k+n≤1000000000):am Try.prog 17 [.lst (.int .i64) l,.int .i64 k] [] (.int .i64 (k+n)) []:=by
 subst hl
 exact gt n k hk
theorem lr (g:List Vtx)(k:Int)(hk:0≤k∧k+cV g≤1000000000):am Try.prog 53 [.lst .vtx (gX k g),.int .i64 k] [] (.int .i64 (k+cV g)) []:=by
 refine ah ao Try.func53 rfl rfl false 0 4 rfl rfl rfl rfl fun K hK hb1 hb2=>?_;simp only[aj,enc,Nat.reduceAdd]
 clear hb1 hb2
 have hl:=pF g k
 have hcl:=tL g
 (repeat' first|refine st ?_|refine sa fun xe hxe=>?_|refine sb (fun hq=>?_) fun hq=>?_|exact True.intro)
 refine al hK [] [0,1,5] (fun i:Nat=>⟨[(0,.lst .vtx (gX k g)),(1,.int .i64 (k+cV (g.take i))),(5,.int .i64 i)],[],4⟩) (fun i=>i≤g.length) (fun i=>g.length-i) 0 (by simp) (by simp[cV];rfl) ?_
 intro i hi
 by_cases hlt:i<g.length
 ·have hv:g[i]?=some g[i]:=List.getElem?_eq_getElem hlt
  have hx:=pc k hv
  have hc:=sg hv
  have hc2:=xr g (i+1)
  generalize gX k g=row at *
  generalize g[i]=v at *
  generalize hkk:k+(cV (g.take i):Int)=kk at *
  generalize v.parents.length=n at *
  have hl2:mk (kk+2) n=mk (kk+1+1) n:=by rw[show kk+2=kk+1+1 by omega]
  generalize mk (kk+2) n=l at *
  rw[show kk+2+(n:Int)=kk+1+1+n by omega] at hx
  (repeat' first|refine st ?_|refine sa fun xe hxe=>?_|refine sb (fun hq=>?_) fun hq=>?_|exact True.intro|((with_reducible refine eK ?_);(conv=>whnf);(first|with_reducible refine bn (nC hl2 (by omega)) ?_);conv=>whnf))
  (try any_goals(first|exact absurd trivial hq|exact absurd rfl hq|exact absurd hq (by omega)|(exfalso;simp at hq;done)))
  refine⟨i+1,by omega,by omega,?_⟩
  rw[show k+(cV (g.take (i+1)):Int)=kk+1+1+n+1 by omega]
  rfl
 ·obtain rfl:i=g.length:=by omega
  rw[List.take_of_length_le (Nat.le_refl _)]
  generalize gX k g=row at *
  (repeat' first|refine st ?_|refine sa fun xe hxe=>?_|refine sb (fun hq=>?_) fun hq=>?_|exact True.intro)
  exact⟨rfl,rfl⟩
theorem kX (g:List (List Vtx))(k:Int)(hgl:g.length≤1048576)(hk:0≤k∧k+cG g≤1000000000):am Try.prog 27 [.lst (.lst .vtx) (e8 k g),.int .i64 k] [] (.int .i64 (k+cG g)) []:=by
 refine ah ao Try.func27 rfl rfl false 0 4 rfl rfl rfl rfl fun K hK hb1 hb2=>?_;simp only[aj,enc,Nat.reduceAdd]
 clear hb1 hb2
 have hl:=pK g k
 (repeat' first|refine st ?_|refine sa fun xe hxe=>?_|refine sb (fun hq=>?_) fun hq=>?_|exact True.intro)
 refine al hK [] [0,1,5] (fun i:Nat=>⟨[(0,.lst (.lst .vtx) (e8 k g)),(1,.int .i64 (k+cG (g.take i))),(5,.int .i64 i)],[],4⟩) (fun i=>i≤g.length) (fun i=>g.length-i) 0 (by simp) (by simp[cG];rfl) ?_
 intro i hi
 by_cases hlt:i<g.length
 ·have hv:g[i]?=some g[i]:=List.getElem?_eq_getElem hlt
  have hx:=pz k hv
  have hc:=sk hv
  have hc2:=xA g (i+1)
  generalize e8 k g=row at *
  generalize g[i]=v at *
  generalize hkk:k+(cG (g.take i):Int)=kk at *
  (repeat' first|refine st ?_|refine sa fun xe hxe=>?_|refine sb (fun hq=>?_) fun hq=>?_|exact True.intro|((with_reducible refine eK ?_);(conv=>whnf);(first|with_reducible refine bn (lr v kk (by omega)) ?_);conv=>whnf))
  (try any_goals(first|exact absurd trivial hq|exact absurd rfl hq|exact absurd hq (by omega)|(exfalso;simp at hq;done)))
  refine⟨i+1,by omega,by omega,?_⟩
  rw[show k+(cG (g.take (i+1)):Int)=kk+cV v by omega]
  rfl
 ·obtain rfl:i=g.length:=by omega
  rw[List.take_of_length_le (Nat.le_refl _)]
  generalize e8 k g=row at *
  (repeat' first|refine st ?_|refine sa fun xe hxe=>?_|refine sb (fun hq=>?_) fun hq=>?_|exact True.intro)
  exact⟨rfl,rfl⟩
theorem jz (g:List Ppl)(k:Int)(hk:0≤k∧k+cP g≤1000000000):am Try.prog 28 [.lst .ppl (fm k g),.int .i64 k] [] (.int .i64 (k+cP g)) []:=by
 refine ah ao Try.func28 rfl rfl false 0 4 rfl rfl rfl rfl fun K hK hb1 hb2=>?_;simp only[aj,enc,Nat.reduceAdd]
 clear hb1 hb2
 have hl:=oB g k
 have hcl:=tp g
 (repeat' first|refine st ?_|refine sa fun xe hxe=>?_|refine sb (fun hq=>?_) fun hq=>?_|exact True.intro)
 refine al hK [] [0,1,5] (fun i:Nat=>⟨[(0,.lst .ppl (fm k g)),(1,.int .i64 (k+cP (g.take i))),(5,.int .i64 i)],[],4⟩) (fun i=>i≤g.length) (fun i=>g.length-i) 0 (by simp) (by simp[cP];rfl) ?_
 intro i hi
 by_cases hlt:i<g.length
 ·have hv:g[i]?=some g[i]:=List.getElem?_eq_getElem hlt
  have hx:=nX k hv
  have hc:=re hv
  have hc2:=xw g (i+1)
  generalize fm k g=row at *
  generalize g[i]=v at *
  generalize hkk:k+(cP (g.take i):Int)=kk at *
  generalize v.v.parents.length=n at *
  generalize v.members.length=m at *
  have hl2:mk (kk+2) n=mk (kk+1+1) n:=by rw[show kk+2=kk+1+1 by omega]
  have hl3:mk (kk+3+n) m=mk (kk+1+1+n+1) m:=by rw[show kk+3+(n:Int)=kk+1+1+n+1 by omega]
  generalize mk (kk+2) n=l at *
  generalize mk (kk+3+n) m=l3 at *
  rw[show kk+2+(n:Int)=kk+1+1+n by omega] at hx
  (repeat' first|refine st ?_|refine sa fun xe hxe=>?_|refine sb (fun hq=>?_) fun hq=>?_|exact True.intro|((with_reducible refine eK ?_);(conv=>whnf);(first|with_reducible refine bn (nC hl2 (by omega)) ?_|with_reducible refine bn (nC hl3 (by omega)) ?_);conv=>whnf))
  (try any_goals(first|exact absurd trivial hq|exact absurd rfl hq|exact absurd hq (by omega)|(exfalso;simp at hq;done)))
  refine⟨i+1,by omega,by omega,?_⟩
  rw[show k+(cP (g.take (i+1)):Int)=kk+1+1+n+1+m by omega]
  rfl
 ·obtain rfl:i=g.length:=by omega
  rw[List.take_of_length_le (Nat.le_refl _)]
  generalize fm k g=row at *
  (repeat' first|refine st ?_|refine sa fun xe hxe=>?_|refine sb (fun hq=>?_) fun hq=>?_|exact True.intro)
  exact⟨rfl,rfl⟩
def AS (k:Int)(w:Wrl):Wrl:=⟨mk k w.com.length,mk (k+w.com.length) w.lead.length,w.bad,e8 (k+w.com.length+w.lead.length) w.views,fm (k+w.com.length+w.lead.length+cG w.views) w.props⟩
def cW (w:Wrl):Nat:=w.com.length+w.lead.length+cG w.views+cP w.props
theorem jl (w:Wrl)(k:Int)(hgl:w.views.length≤1048576)(hk:0≤k∧k+cW w≤1000000000):am Try.prog 12 [dT (AS k w),.int .i64 k] [] (.int .i64 (k+cW w)) []:=by
 unfold cW at *
 have h1:=gt w.com.length k (by omega)
 have h2:=gt w.lead.length (k+w.com.length) (by omega)
 have h3:=kX w.views (k+w.com.length+w.lead.length) hgl (by omega)
 have h4:=jz w.props (k+w.com.length+w.lead.length+cG w.views) (by omega)
 refine ah ao Try.func12 rfl rfl false 0 4 rfl rfl rfl rfl fun K hK hb1 hb2=>?_;simp only[aj,enc,Nat.reduceAdd]
 clear hb1 hb2
 unfold AS
 generalize mk k w.com.length=x1 at *
 generalize mk (k+w.com.length) w.lead.length=x2 at *
 generalize e8 (k+w.com.length+w.lead.length) w.views=x3 at *
 generalize fm (k+w.com.length+w.lead.length+cG w.views) w.props=x4 at *
 (repeat' first|refine st ?_|refine sa fun xe hxe=>?_|refine sb (fun hq=>?_) fun hq=>?_|exact True.intro|refine cr (h1) ?_|refine cr (h2) ?_|refine cr (h3) ?_|refine cr (h4) ?_)
 (try any_goals(first|exact absurd trivial hq|exact absurd rfl hq|exact absurd hq (by omega)|(exfalso;simp at hq;done)))
 exact⟨congrArg (V.int .i64) (by omega),rfl⟩
abbrev zJ:V:=.agg [.nils,.nils,.int .i64 0,.nils,.nils]
theorem yF (c l:List Int)(b:Int)(hl:c.length≤2000000):am Try.prog 5 [.lst (.int .i64) c,.lst (.int .i64) l,.int .i64 b] [] (if dD c l b then .tup [dT (cF c l b),.bool true] else .tup [zJ,.bool false]) []:=by
 have hL:=ze c l
 refine ah ao Try.func5 rfl rfl true 0 4 rfl rfl rfl rfl fun K hK hb1 hb2=>?_;simp only[aj,enc,Nat.reduceAdd]
 simp[ab,V.toD,bnd,aa,D.cells] at hb1
 cases h1:comV c && leaS c l
 ·rw[h1] at hL
  have hn:dD c l b=false:=by
   rw[Bool.and_eq_false_iff] at h1
   rcases h1 with h1|h1<;>simp[dD,h1]
  rw[hn]
  (repeat' first|refine st ?_|refine sa fun xe hxe=>?_|refine sb (fun hq=>?_) fun hq=>?_|exact True.intro|refine cr (hL) ?_)
  exact⟨rfl,rfl⟩
 rw[h1] at hL
 have hc:comV c=true:=(Bool.and_eq_true_iff.1 h1).1
 have hle:leaS c l=true:=(Bool.and_eq_true_iff.1 h1).2
 have hns:dD c l b=badS c b:=by simp[dD,hc,hle]
 rw[hns]
 have h7:=(aE.1 hc).2
 have hll:=(gY.1 hle).2
 have hI:=wI b (-1) ((c.length:Int)-1)
 cases h2:gy b (-1) ((c.length:Int)-1)
 ·rw[h2] at hI
  have hb:badS c b=false:=by simp[badS,h2]
  rw[hb]
  (repeat' first|refine st ?_|refine sa fun xe hxe=>?_|refine sb (fun hq=>?_) fun hq=>?_|exact True.intro|refine cr (hL) ?_|refine cr (hI) ?_)
  exact⟨rfl,rfl⟩
 rw[h2] at hI
 have hbr:=aI.1 h2
 have hT:=z0 c hc
 have hfd:=vw hc
 have htb:=kK hc
 have hfau:(ln c-1).tdiv 3=rc c:=rfl
 have hst:∀i:Nat,(⟨[(0,.lst (.int .i64) c),(6,.ptr 4 0),(8,.ptr 5 0),(9,.int .i64 ((i:Int)+1))],[(4,.var 26 [.nils,.nils,.int .i64 0,.nils,.nils]),(5,.var 26 [.ref 6,.ref 7,.int .i64 b,.ref 8,.ref 9]),(6,.row 3 (.int .i64) c),(7,.row 3 (.int .i64) l),(8,.row 45 (.lst .vtx) (List.replicate i []++[[]])),(9,.row 61 .ppl [])],10⟩:VSt)=
   ⟨[(0,.lst (.int .i64) c),(6,.ptr 4 0),(8,.ptr 5 0),(9,.int .i64 ((i+1:Nat):Int))],[(4,.var 26 [.nils,.nils,.int .i64 0,.nils,.nils]),(5,.var 26 [.ref 6,.ref 7,.int .i64 b,.ref 8,.ref 9]),(6,.row 3 (.int .i64) c),(7,.row 3 (.int .i64) l),(8,.row 45 (.lst .vtx) (List.replicate (i+1) [])),(9,.row 61 .ppl [])],10⟩:=fun i=>by
  rw[List.replicate_succ']
  rfl
 have hfin:∀x:Int,rc c<x→(ln c-1).tdiv 3<x:=fun x h=>h
 have hfin2:∀x:Int,x≤rc c→¬(ln c-1).tdiv 3<x:=fun x h=>by rw[hfau];omega
 by_cases h3:b<0
 ·have hb:badS c b=true:=by simp[badS,h2,h3]
  rw[hb]
  (repeat' first|refine st ?_|refine sa fun xe hxe=>?_|refine sb (fun hq=>?_) fun hq=>?_|exact True.intro|refine cr (hL) ?_|refine cr (hI) ?_|refine cr (hT) ?_)
  refine al hK [] [0,6,8,9] (fun i:Nat=>⟨[(0,.lst (.int .i64) c),(6,.ptr 4 0),(8,.ptr 5 0),(9,.int .i64 (i:Int))],[(4,.var 26 [.nils,.nils,.int .i64 0,.nils,.nils]),(5,.var 26 [.ref 6,.ref 7,.int .i64 b,.ref 8,.ref 9]),(6,.row 3 (.int .i64) c),(7,.row 3 (.int .i64) l),(8,.row 45 (.lst .vtx) (List.replicate i [])),(9,.row 61 .ppl [])],10⟩) (fun i=>i≤c.length) (fun i=>c.length-i) 0 (by simp) rfl ?_
  intro i hi
  have hrl:(List.replicate i ([]:List Vtx)).length=i:=by simp
  have hst:=hst i
  generalize hrs:List.replicate i ([]:List Vtx)=rs at *
  by_cases hlt:i<c.length
  ·(repeat' first|refine st ?_|refine sa fun xe hxe=>?_|refine sb (fun hq=>?_) fun hq=>?_|exact True.intro)
   refine⟨i+1,by omega,by omega,?_⟩
   rw[←hst]
   try rfl
  ·obtain rfl:i=c.length:=by omega
   (repeat' first|refine st ?_|refine sa fun xe hxe=>?_|refine sb (fun hq=>?_) fun hq=>?_|exact True.intro)
   rw[←hrs]
   exact⟨rfl,rfl⟩
 ·have hxe:c[b.toNat]?=some (c.getD b.toNat 0):=by rw[List.getD_eq_getElem?_getD,List.getElem?_eq_getElem (show b.toNat<c.length by omega)];rfl
  have hb:badS c b=decide (c.getD b.toNat 0≤rc c):=by simp[badS,h2,h3]
  rw[hb]
  generalize c.getD b.toNat 0=x at *
  by_cases hxf:x≤rc c
  ·rw[decide_eq_true hxf]
   have hxf:=hfin2 x hxf
   (repeat' first|refine st ?_|refine sa fun xe hxe=>?_|refine sb (fun hq=>?_) fun hq=>?_|exact True.intro|refine cr (hL) ?_|refine cr (hI) ?_|refine cr (hT) ?_)
   refine al hK [] [0,6,8,9] (fun i:Nat=>⟨[(0,.lst (.int .i64) c),(6,.ptr 4 0),(8,.ptr 5 0),(9,.int .i64 (i:Int))],[(4,.var 26 [.nils,.nils,.int .i64 0,.nils,.nils]),(5,.var 26 [.ref 6,.ref 7,.int .i64 b,.ref 8,.ref 9]),(6,.row 3 (.int .i64) c),(7,.row 3 (.int .i64) l),(8,.row 45 (.lst .vtx) (List.replicate i [])),(9,.row 61 .ppl [])],10⟩) (fun i=>i≤c.length) (fun i=>c.length-i) 0 (by simp) rfl ?_
   intro i hi
   have hrl:(List.replicate i ([]:List Vtx)).length=i:=by simp
   have hst:=hst i
   generalize hrs:List.replicate i ([]:List Vtx)=rs at *
   by_cases hlt:i<c.length
   ·(repeat' first|refine st ?_|refine sa fun xe hxe=>?_|refine sb (fun hq=>?_) fun hq=>?_|exact True.intro)
    refine⟨i+1,by omega,by omega,?_⟩
    rw[←hst]
    try rfl
   ·obtain rfl:i=c.length:=by omega
    (repeat' first|refine st ?_|refine sa fun xe hxe=>?_|refine sb (fun hq=>?_) fun hq=>?_|exact True.intro)
    rw[←hrs]
    exact⟨rfl,rfl⟩
  ·rw[decide_eq_false hxf]
   have hxf:=hfin x (by omega)
   (repeat' first|refine st ?_|refine sa fun xe hxe=>?_|refine sb (fun hq=>?_) fun hq=>?_|exact True.intro|refine cr (hL) ?_|refine cr (hI) ?_|refine cr (hT) ?_)
   exact⟨rfl,rfl⟩
theorem ph {g:List Vtx}{v:Vtx}(h:some v∈bw g):v∈g:=by
 induction g using ep with
 |h0=>
  have:=List.eq_of_mem_replicate h
  cases this
 |h l x ih=>
  rw[eF] at h
  rcases List.mem_or_eq_of_mem_set h with h|h
  ·exact List.mem_append.2 (.inl (ih h))
  ·obtain rfl:=Option.some.inj h
   simp
theorem lY {w:Wrl}(h:ey w=true):(w.views.map bw).map aL=w.views:=by
 rw[List.map_map]
 conv=>rhs;rw[←List.map_id w.views]
 refine List.map_congr_left fun g hg=>?_
 have hok:=qV (ra h g hg)
 exact wQ (fun v hv=>(jT h g hg v hv).1) hok.pw
theorem wO (w:Wrl)(h:ey w=true):am Try.prog 22 [.ptr 4 0] (rB w.com w.lead w.bad (w.views.map bw) w.props) (dT w) (rB w.com w.lead w.bad (w.views.map bw) w.props):=by
 obtain⟨h1,h2,h3,h4,h5,h6⟩:=ja h
 have h7:=(aE.1 h1).2
 have hll:=(gY.1 h2).2
 have hps:=nJ h
 have hpl:=mt h4
 have hne:w.com≠[]:=fun h=>by rw[h] at h7;simp at h7
 have hc:=yE w.com w.lead w.bad (w.views.map bw) w.props hne (by omega) (by omega) (fun t ht=>by
  obtain⟨g,hg,rfl⟩:=List.mem_map.1 ht
  refine⟨fx g,fun v hv=>?_⟩
  have:=(jT h g hg v (ph hv)).2
  omega) (by rw[List.length_map];omega) (by rw[List.length_map];omega) (fun p hp=>by have:=(hps p hp).2.2.2;omega) (by omega)
 rw[lY h] at hc
 exact hc
theorem mI (c l:List Int)(b:Int):ey ⟨c,l,b,List.replicate (min c.length 7) [],[]⟩=dD c l b:=by
 cases h:dD c l b
 ·simp[ey,h]
 ·have hc:comV c=true:=by
   simp only[dD,Bool.and_eq_true] at h
   exact h.1
  have h7:=(aE.1 hc).2
  have hn:min c.length 7=c.length:=by omega
  rw[hn]
  have h1:ge c b []=true:=proS_nil c b
  have h2:f8 c b [] (List.replicate c.length [])=true:=by
   refine viws_nil hc
  simp[ey,h,h1,h2]
where
 proS_nil (c:List Int) (b:Int):ge c b []=true:=rfl
 viws_nil {c:List Int} {b:Int} (hc:comV c=true):f8 c b [] (List.replicate c.length [])=true:=by
  refine cz fun j hj=>?_
  rw[List.length_replicate] at hj
  have:(List.replicate c.length ([]:List Vtx)).getD j []=[]:=by simp[List.getD_eq_getElem?_getD,List.getElem?_replicate,hj]
  rw[this]
  simp[qw,graS,hc,cK]
theorem tw (c l:List Int)(b:Int)(n:Nat)(hn:n=min c.length 7):am Try.prog 21 [.agg [.lst (.int .i64) c,.lst (.int .i64) l,.int .i64 b,.lst (.lst .vtx) (List.replicate n []),.lst (.int .i64) []]] []
  (if dD c l b then .tup [.ptr 4 0,.bool true] else .tup [.nilp,.bool false]) (if dD c l b then rB c l b ((List.replicate n []).map bw) [] else[]):=by
 have h:=z6 ⟨c,l,b,List.replicate n [],[]⟩ fun g hg=>by rw[List.eq_of_mem_replicate hg];simp
 subst hn
 simp only[zx,zz,mI] at h
 have hk:sN b ((List.replicate (min c.length 7) []).map bw) []=true:=rfl
 rw[hk] at h
 unfold am at h⊢
 exact h
theorem zm (c l:List Int)(b:Int):am Try.prog 7 [.lst (.int .i64) c,.lst (.int .i64) l,.int .i64 b] [] (if dD c l b then .tup [dT (cF c l b),.bool true] else .tup [zJ,.bool false]) []:=by
 have hO:=tw c l b
 have hp:=mI c l b
 refine ah ao Try.func7 rfl rfl true 0 4 rfl rfl rfl rfl fun K hK hb1 hb2=>?_;simp only[aj,enc,Nat.reduceAdd]
 simp[ab,V.toD,bnd,aa,D.cells] at hb1
 cases h:dD c l b
 ·simp only[h,Bool.false_eq_true,if_false] at hO
  by_cases h7:7<(c.length:Int)
  ·have hO:=hO (7:Int).toNat (by omega)
   (repeat' first|refine st ?_|refine sa fun xe hxe=>?_|refine sb (fun hq=>?_) fun hq=>?_|exact True.intro)
   rw[if_pos h7]
   (repeat' first|refine st ?_|refine sa fun xe hxe=>?_|refine sb (fun hq=>?_) fun hq=>?_|exact True.intro|refine cr (hO) ?_)
   exact⟨rfl,rfl⟩
  ·have hO:=hO (c.length:Int).toNat (by omega)
   (repeat' first|refine st ?_|refine sa fun xe hxe=>?_|refine sb (fun hq=>?_) fun hq=>?_|exact True.intro)
   rw[if_neg h7]
   (repeat' first|refine st ?_|refine sa fun xe hxe=>?_|refine sb (fun hq=>?_) fun hq=>?_|exact True.intro|refine cr (hO) ?_)
   exact⟨rfl,rfl⟩
 ·simp only[h,if_true] at hO
  rw[h] at hp
  have hc:comV c=true:=by
   simp only[dD,Bool.and_eq_true] at h
   exact h.1
  have h7:=(aE.1 hc).2
  have hW:=wO _ hp
  dsimp only at hW
  have hn:min c.length 7=(c.length:Int).toNat:=by omega
  rw[hn] at hW
  have hO:=hO (c.length:Int).toNat (by omega)
  (repeat' first|refine st ?_|refine sa fun xe hxe=>?_|refine sb (fun hq=>?_) fun hq=>?_|exact True.intro)
  rw[if_neg (by omega)]
  (repeat' first|refine st ?_|refine sa fun xe hxe=>?_|refine sb (fun hq=>?_) fun hq=>?_|exact True.intro|refine cr (hO) ?_|refine co (hW) ?_)
  rw[Int.toNat_natCast]
  exact⟨rfl,rfl⟩
end Go.Proofs.Ytgfcmhjebbncpaa.Am
namespace Go.Proofs.Ytgfcmhjebbncpaa.Am
open Go
structure WOK (w:Wrl):Prop where
 com:comV w.com=true
 lead:leaS w.com w.lead=true
 bad:badS w.com w.bad=true
 one:∀p∈w.props,oneP w.com p=true
 fit:w.props.Pairwise fun q p=>fitP w.bad p q=true
 plen:w.props.length≤220
 vlen:w.views.length=w.com.length
 gra:∀g∈w.views,graS w.com g=true
 knw:∀g∈w.views,∀v∈g,∃p∈w.props,don w.com p=true∧p.v=v
 bv:∀i:Nat,i<w.views.length→(i:Int)=w.bad→w.views.getD i []=[]
 kp:∀p∈w.props,∀m:Nat,m<w.views.length→(m:Int)≠w.bad→((m:Int)=p.v.author∨(m:Int)∈p.members)→parOK (w.views.getD m []) p.v=true
def good (w:Wrl)(m:Int):Bool:=ci w.com m && m !=w.bad
def view (w:Wrl)(m:Int):List Vtx:=w.views.getD m.toNat []
def Az (ps:List Ppl)(m:Int):Int:=ps.foldl (fun n p=>if p.v.author=m then max n (p.v.round+1) else n) 0
def prop (w:Wrl)(i:Int):Ppl:=w.props.getD i.toNat p0
def A5 (w:Wrl)(i:Int):Bool:=gy i 0 (w.props.length-1)
def zY:List Vtx→Vtx→List Vtx
 |[],v=>[v]
 |x::g,v=>if bef x v then x::zY g v else v::x::g
def AT (w:Wrl)(m i:Int):Bool:=good w m && (A5 w i && (don w.com (prop w i) && (!jv (view w m) (prop w i).v.round (prop w i).v.author && parOK (view w m) (prop w i).v)))
def AK (w:Wrl)(m i:Int):Wrl:=if AT w m i then {w with views:=w.views.set m.toNat (zY (view w m) (prop w i).v)} else w
theorem tx {w:Wrl}{m:Int}:good w m=true↔(0≤m∧m<w.com.length)∧m≠w.bad:=by
 simp only[good,ci,Bool.and_eq_true,aI,bne_iff_ne]
 omega
theorem wu {c:List Int}{g:List Vtx}(h:graS c g=true):g.length≤217:=by
 have hg:=qV h
 have ht:∀v∈g,lG v:=fun v hv=>ia hg.com (hg.vtx v hv)
 have h1:((g.map fun v=>(v.round*7+v.author).toNat)).Nodup:=by
  rw[List.Nodup,List.pairwise_map]
  refine hg.pw.imp_of_mem fun {a b} ha hb hab=>?_
  obtain⟨⟨a1,a2⟩,a3,a4⟩:=ht a ha
  obtain⟨⟨b1,b2⟩,b3,b4⟩:=ht b hb
  simp only[bef,Bool.or_eq_true,Bool.and_eq_true,decide_eq_true_eq] at hab
  omega
 have h2:=gg h1 (b:=List.range 217) fun k hk=>by
  obtain⟨v,hv,rfl⟩:=List.mem_map.1 hk
  obtain⟨⟨a1,a2⟩,a3,a4⟩:=ht v hv
  rw[List.mem_range]
  omega
 simpa using h2
theorem WOK.len {w:Wrl}(h:WOK w):1≤w.com.length∧w.com.length≤7:=(aE.1 h.com).2
theorem WOK.vl {w:Wrl}(h:WOK w):∀g∈w.views,g.length≤217:=fun g hg=>wu (h.gra g hg)
theorem WOK.vv {w:Wrl}(h:WOK w):∀g∈w.views,∀v∈g,vtxS w.com v=true:=fun g hg=>rJ (h.gra g hg)
theorem WOK.pv {w:Wrl}(h:WOK w):∀p∈w.props,vtxS w.com p.v=true∧dr w.com p.members=true:=fun p hp=>by
 have:=h.one p hp
 simpa only[oneP,Bool.and_eq_true] using this
theorem WOK.par {w:Wrl}(h:WOK w){v:Vtx}(hv:vtxS w.com v=true):v.parents.length≤7:=nv h.com hv
theorem WOK.view {w:Wrl}(h:WOK w){m:Int}(hm:good w m=true):w.views[m.toNat]?=some (view w m)∧view w m∈w.views∧m.toNat<w.views.length:=by
 have hg:=tx.1 hm
 have hl:m.toNat<w.views.length:=by rw[h.vlen];omega
 refine⟨?_,kY hl,hl⟩
 unfold Am.view
 rw[List.getD_eq_getElem?_getD,List.getElem?_eq_getElem hl]
 rfl
def xq (w:Wrl)(i:Int):Nat→Wrl
 |0=>w
 |n+1=>AK (xq w i n) n i
def pZ (w:Wrl):Nat→Wrl
 |0=>w
 |k+1=>xq (pZ w k) k (pZ w k).com.length
def pass (w:Wrl):Wrl:=pZ w w.props.length
end Go.Proofs.Ytgfcmhjebbncpaa.Am
namespace Go.Proofs.Ytgfcmhjebbncpaa.Am
open Go Go.Shelf Go.RowKit
variable {P:Program} {w0:World} {S:SD} {A:Nat→Prop} {N:Nat} {ρ:Id→Pl} {t:List (Nat×D)} {h:HL} {a:Act} {w:World}
end Go.Proofs.Ytgfcmhjebbncpaa.Am
namespace Go.Proofs.Ytgfcmhjebbncpaa.Am
open Go Go.Shelf Go.RowKit
attribute [local irreducible] Mk bC Ari d8 pN jt cf ee gx iI At
set_option maxRecDepth 10000
theorem Con.out {P:Program}{f:FuncId}{ds:List D}{hin hout hout':HL}{r:D}(h:Con P f ds hin r hout)(he:∀b,look hout' b=look hout b):Con P f ds hin r hout':=by
 refine⟨h.1,fun w A ρ vs s hl hc=>(h.2 w A ρ vs s hl hc).mono ?_⟩
 rintro e w' ⟨u,ρ',h1,h2,h3,h4⟩
 have hl:∀b,Live hout b→Live hout' b:=fun b hb=>by
  unfold Live at hb⊢
  rw[he]
  exact hb
 exact⟨u,ρ',h1,fun b hb=>⟨(h2 b hb).1,hl b (h2 b hb).2⟩,h3.congr (fun _=>rfl) he,h4.mono (fun b hb=>⟨hl b hb,rfl⟩) fun k hk=>⟨⟨hk.1,fun b y hy hmu=>hk.2 b y (by rw[←he];exact hy) hmu⟩,rfl⟩⟩
end Go.Proofs.Ytgfcmhjebbncpaa.Am
namespace Go.Proofs.Ytgfcmhjebbncpaa.Am
open Go
attribute [local irreducible] Mk bC Ari d8 pN jt cf ee gx iI At am
set_option maxRecDepth 10000
abbrev rX (s:Int)(c l:List Int)(b:Int)(tabs:List (List (Option Vtx)))(xss:List (Option (List Int)))(ms:List PplM):VH:=[(0,.fvari 108 217 (.ob .vtx) tabs),(1,.frowx 3 (.int .i64) xss),(4,.var 76 [.int .i32 s,.int .u32 0,.lst (.int .i64) c,.lst (.int .i64) l,.int .i64 b,.ref 5,.ref 6]),(5,.row 77 (.hp 0) ((List.range tabs.length).map some)),(6,.row 61 (.pplm 1) ms)]
end Go.Proofs.Ytgfcmhjebbncpaa.Am
namespace Go.Proofs.Ytgfcmhjebbncpaa.Am
open Go
structure Rel (ps:List Ppl)(xss:List (Option (List Int)))(ms:List PplM):Prop where
 len:ms.length=ps.length
 get:∀(i:Nat) (p:Ppl),ps[i]?=some p→∃j:Nat,ms[i]?=some ⟨p.v,some j⟩∧xss[j]?=some (some p.members)
 inj:∀(i i':Nat) (v v':Vtx) (j:Nat),ms[i]?=some ⟨v,some j⟩→ms[i']?=some ⟨v',some j⟩→i=i'
theorem Ay (ps:List Ppl):Rel ps (ps.map fun p=>some p.members) (ny ps):=by
 refine⟨fX ps,fun i p h=>⟨i,mL h,by rw[List.getElem?_map,h];rfl⟩,fun i i' v v' j h h'=>?_⟩
 have key:∀{i:Nat} {v:Vtx},(ny ps)[i]?=some ⟨v,some j⟩→i=j:=fun {i v} h=>by
  have hi:=(List.getElem?_eq_some_iff.1 h).1
  rw[fX] at hi
  rw[mL (List.getElem?_eq_getElem hi)] at h
  injection h with h
  injection h with _ h
  exact Option.some.inj h
 rw[key h,key h']
theorem Rel.old {ps:List Ppl}{xss:List (Option (List Int))}{ms:List PplM}(h:Rel ps xss ms){i:Nat}{v:Vtx}{j:Nat}(hi:ms[i]?=some ⟨v,some j⟩):j<xss.length∧∃p,ps[i]?=some p∧p.v=v∧xss[j]?=some (some p.members):=by
 have hl:=(List.getElem?_eq_some_iff.1 hi).1
 rw[h.len] at hl
 obtain⟨j',h1,h2⟩:=h.get i _ (List.getElem?_eq_getElem hl)
 rw[h1] at hi
 injection hi with hi
 injection hi with e1 e2
 obtain rfl:=Option.some.inj e2
 exact⟨(List.getElem?_eq_some_iff.1 h2).1,_,List.getElem?_eq_getElem hl,e1,h2⟩
theorem Rel.add {ps:List Ppl}{xss:List (Option (List Int))}{ms:List PplM}(h:Rel ps xss ms)(v:Vtx):Rel (ps++[⟨v,[]⟩]) (xss++[some []]) (ms++[⟨v,some xss.length⟩]):=by
 refine⟨by simp[h.len],fun i p hi=>?_,fun i i' v1 v2 j h1 h2=>?_⟩
 ·rcases Nat.lt_or_ge i ps.length with hlt|hge
  ·rw[List.getElem?_append_left hlt] at hi
   obtain⟨j,h1,h2⟩:=h.get i p hi
   exact⟨j,by rw[List.getElem?_append_left (by rw[h.len];exact hlt)];exact h1,by rw[List.getElem?_append_left (List.getElem?_eq_some_iff.1 h2).1];exact h2⟩
  ·rw[List.getElem?_append_right hge] at hi
   have e:i=ps.length:=by
    have:=(List.getElem?_eq_some_iff.1 hi).1
    simp at this
    omega
   subst e
   simp at hi
   subst hi
   exact⟨xss.length,by rw[←h.len];simp,by simp⟩
 ·have key:∀{i:Nat} {v1:Vtx},(ms++[(⟨v,some xss.length⟩:PplM)])[i]?=some ⟨v1,some j⟩→(i<ms.length∧ms[i]?=some ⟨v1,some j⟩∧j<xss.length)∨(i=ms.length∧j=xss.length):=fun {i v1} hi=>by
   rcases Nat.lt_or_ge i ms.length with hlt|hge
   ·rw[List.getElem?_append_left hlt] at hi
    exact .inl ⟨hlt,hi,(h.old hi).1⟩
   ·rw[List.getElem?_append_right hge] at hi
    have e:i=ms.length:=by
     have:=(List.getElem?_eq_some_iff.1 hi).1
     simp at this
     omega
    subst e
    simp at hi
    exact .inr ⟨rfl,hi.2.symm⟩
  rcases key h1 with⟨a1,a2,a3⟩|⟨a1,a2⟩<;>rcases key h2 with⟨b1,b2,b3⟩|⟨b1,b2⟩
  ·exact h.inj _ _ _ _ _ a2 b2
  ·omega
  ·omega
  ·omega
end Go.Proofs.Ytgfcmhjebbncpaa.Am
namespace Go.Proofs.Ytgfcmhjebbncpaa.Am
open Go Go.RowKit
variable {P:Program} {w0:World} {S:SD} {A:Nat→Prop} {N:Nat} {ρ:Id→Pl} {t:List (Nat×D)} {h:HL} {a:Act} {w:World}
variable {K:Id→Prop} {fu:FuncId} {b:Id} {Q:Exit→VSt→Prop} {σ:VSt}
end Go.Proofs.Ytgfcmhjebbncpaa.Am
namespace Go.Proofs.Ytgfcmhjebbncpaa.Am
open Go
attribute [local irreducible] Mk bC Ari d8 pN jt cf ee gx iI At am
set_option maxRecDepth 10000
theorem Ag (c l:List Int)(b:Int)(tabs:List (List (Option Vtx)))(ps:List Ppl):∀k:Id,look (toH (rX 0 c l b tabs (ps.map fun p=>some p.members) (ny ps))) k=look (toH (rB c l b tabs ps)) k:=by
 rintro⟨k1,k2⟩
 rw[ag,ag]
 by_cases e:k1=1
 ·subst e
  simp only[look,if_true,Option.bind_some,VB.blks]
  simp[List.getElem?_map,rowX]
  rfl
 ·simp[look,e]
def Θy:TT:=(45,⟨.slice 59,1,24,some .nils,some (.hr 2),false⟩)::(59,⟨.struct [(3,0,1),(3,1,1),(22,2,1),(3,3,1)],4,48,some (.agg [.int .i64 0,.int .i64 0,.nils,.int .i64 0]),some (.vtxo 3),false⟩)::(61,⟨.struct [(59,0,4),(22,4,1)],5,72,some (.agg [.int .i64 0,.int .i64 0,.nils,.int .i64 0,.nils]),some (.pplo 3 3),false⟩)::Θ
theorem gk:TT.ok Try.prog Θy:=TT.okB_ok (by kernel_rfl)
theorem su {P Q:Prop}(h:Q)(s:Hid Q→P:=by
  intro h
  (first|(with_reducible first|apply cC|apply bW)|((first|with_reducible apply bG gk|refine go ?_|(with_reducible first|apply b6|apply bT|apply bJ|apply bH|refine bK gk mixed (by kernel_rfl) ?_))<;>conv=>whnf))
  repeat(first|(with_reducible first|apply cC|apply bW)|((first|with_reducible apply bG gk|refine go ?_|(with_reducible first|apply b6|apply bT|apply bJ|apply bH|refine bK gk mixed (by kernel_rfl) ?_))<;>conv=>whnf))
  exact h.h):P:=s ⟨h⟩
theorem x9 (l:List Int)(hl:l≠[])(hb:l.length≤1000000):am Try.prog 48 [.lst (.int .i64) l] [] (.ref 4) [(4,.row 3 (.int .i64) l)]:=by
 cases l with
 |nil=>exact absurd rfl hl
 |cons x l=>
  refine ah ao Try.func48 rfl rfl false 0 4 rfl rfl rfl rfl fun K hK hb1 hb2=>?_;simp only[aj,enc,Nat.reduceAdd]
  (repeat' first|refine st ?_|refine sa fun xe hxe=>?_|refine sb (fun hq=>?_) fun hq=>?_|exact True.intro)
  refine mK (m6 (Nat.zero_le _) hb (by decide)) ?_
  (repeat' first|refine st ?_|refine sa fun xe hxe=>?_|refine sb (fun hq=>?_) fun hq=>?_|exact True.intro)
  refine bT ?_
  (conv=>whnf)
  exact⟨rfl,rfl⟩
theorem yQ (ps:List Ppl)(xss:List (Option (List Int)))(ms:List PplM)(hR:Rel ps xss ms)(hv:∀p∈ps,p.v.parents.length≤1000000∧p.members.length≤1000000)(hl:ps.length≤1000000):am Try.prog 46 [.ref 4] [(1,.frowx 3 (.int .i64) xss),(3,.frow 3 (.int .i64) []),(4,.row 61 (.pplm 1) ms)] (.ref 5) [(1,.frowx 3 (.int .i64) xss),(3,.frow 3 (.int .i64) (aS ps)),(4,.row 61 (.pplm 1) ms),(5,.row 61 (.pplo 3 3) (i9 0 ps))]:=by
 refine ah gk Try.func46 rfl rfl false 1 5 rfl rfl rfl rfl fun K hK hb1 hb2=>?_;simp only[aj,enc,Nat.reduceAdd]
 clear hb1 hb2
 have hpl:=hR.len
 (repeat' first|refine su ?_|refine sa fun xe hxe=>?_|refine sb (fun hq=>?_) fun hq=>?_|exact True.intro)
 refine al hK [] [3,9,10,11] (fun i:Nat=>⟨[(3,.ref 5),(9,.ref 4),(10,.int .i64 ps.length),(11,.int .i64 (i:Int))],[(1,.frowx 3 (.int .i64) xss),(3,.frow 3 (.int .i64) (aS (ps.take i))),(4,.row 61 (.pplm 1) ms),(5,.row 61 (.pplo 3 3) (i9 0 (ps.take i)++(List.replicate ps.length zC).drop i))],6⟩) (fun i=>i≤ps.length) (fun i=>ps.length-i) 0 (by simp) (by simp only[hpl];simp[i9,aS];rfl) ?_
 intro i hi
 by_cases hlt:i<ps.length
 ·have hxe:ps[i]?=some ps[i]:=List.getElem?_eq_getElem hlt
  have hsn:ps.take (i+1)=ps.take i++[ps[i]]:=List.take_succ_eq_append_getElem hlt
  have hln:(i9 0 (ps.take i)).length=i:=by rw[xa,List.length_take];omega
  have hg:i<(i9 0 (ps.take i)++(List.replicate ps.length zC).drop i).length:=kv _ _ hln (by simpa using hlt)
  have hpq:(aS (ps.take i)).length=2*i:=by rw[nT,List.length_take];omega
  have hs:(i9 0 (ps.take i)++(List.replicate ps.length zC).drop i).set i ⟨⟨ps[i].v.round,ps[i].v.author,some (aS (ps.take i)).length,ps[i].v.digest⟩,some (aS (ps.take i)++[ps[i].v.parents]).length⟩=i9 0 (ps.take (i+1))++(List.replicate ps.length zC).drop (i+1):=by
   rw[fg _ _ _ hln (by simpa using hlt),hsn,nP,List.length_append,hpq,List.length_take,Nat.min_eq_left (by omega),Nat.zero_add];rfl
  have hp:aS (ps.take (i+1))=(aS (ps.take i)++[ps[i].v.parents])++[ps[i].members]:=by rw[hsn,sr,List.append_assoc];rfl
  obtain⟨v1,v2⟩:=hv _ (List.getElem_mem hlt)
  obtain⟨j,hx1,hx2⟩:=hR.get i _ hxe
  clear hpq
  generalize hrow:i9 0 (ps.take i)++(List.replicate ps.length zC).drop i=row at *
  generalize aS (ps.take i)=qs at *
  generalize ps[i]=p at *
  (repeat' first|refine su ?_|refine sa fun xe hxe=>?_|refine sb (fun hq=>?_) fun hq=>?_|exact True.intro|refine cr (lH _ v1) ?_)
  refine⟨i+1,by omega,by omega,?_⟩
  rw[←hs,hp]
  rfl
 ·obtain rfl:i=ps.length:=by omega
  rw[List.take_of_length_le (Nat.le_refl _),show i9 0 ps++(List.replicate ps.length zC).drop ps.length=i9 0 ps by simp]
  (repeat' first|refine su ?_|refine sa fun xe hxe=>?_|refine sb (fun hq=>?_) fun hq=>?_|exact True.intro)
  exact⟨rfl,rfl⟩
theorem lS (E:TypeId)(b:List (List Int)):az (VB.frow E (.int .i64) [])≤az (VB.frow E (.int .i64) b):=by simp[az]
set_option maxHeartbeats 1000000 in
theorem yn (tabs:List (List (Option Vtx)))(k:Nat)(tab:List (Option Vtx))(pss:List (List Int))(hk:tabs[k]?=some tab)(ht:tab.length=217)(hv:∀v,some v∈tab→v.parents.length≤1000000):am Try.prog 49 [.fptr 0 k 0] [(0,.fvari 108 217 (.ob .vtx) tabs),(3,.frow 3 (.int .i64) pss)] (.ref 4) [(0,.fvari 108 217 (.ob .vtx) tabs),(3,.frow 3 (.int .i64) (pss++(aL tab).map (·.parents))),(4,.row 59 (.vtxo 3) (iG pss.length (aL tab)))]:=by
 refine ah gk Try.func49 rfl rfl false 0 4 rfl rfl rfl rfl fun K hK hb1 hb2=>?_;simp only[aj,enc,Nat.reduceAdd]
 clear hb1 hb2
 have hat:∀n,n<217→tab[n]?=some (tab.getD n none):=fun n hn=>by rw[List.getD_eq_getElem?_getD,List.getElem?_eq_getElem (by omega)];rfl
 (repeat' first|refine su ?_|refine sa fun xe hxe=>?_|refine sb (fun hq=>?_) fun hq=>?_|exact True.intro)
 refine al hK [] [3,9,11] (fun r:Nat=>⟨[(3,.ref 4),(9,.fptr 0 k 0),(11,.int .i64 (r:Int))],[(0,.fvari 108 217 (.ob .vtx) tabs),(3,.frow 3 (.int .i64) (pss++(aL (tab.take (r*7))).map (·.parents))),(4,.row 59 (.vtxo 3) (iG pss.length (aL (tab.take (r*7)))))],5⟩) (fun r=>r≤31) (fun r=>31-r) 0 (by omega) (by simp[aL,iG];rfl) ?_
 intro r hr
 by_cases hlt:r<31
 ·obtain⟨e,he⟩:∃e:Nat→Option Vtx,∀j,e j=tab.getD (r*7+j) none:=⟨_,fun _=>rfl⟩
  have hg:∀j,j<7→tab[r*7+j]?=some (e j):=fun j hj=>by rw[he];exact hat _ (by omega)
  (repeat' first|refine su ?_|refine sa fun xe hxe=>?_|refine sb (fun hq=>?_) fun hq=>?_|exact True.intro)
  rename_i e0 h0 e1 h1 e2 h2 e3 h3 e4 h4 e5 h5
  obtain rfl:e0=e 0:=Option.some.inj (h0.symm.trans (hg 0 (by omega)))
  obtain rfl:e1=e 1:=Option.some.inj (h1.symm.trans (hg 1 (by omega)))
  obtain rfl:e2=e 2:=Option.some.inj (h2.symm.trans (hg 2 (by omega)))
  obtain rfl:e3=e 3:=Option.some.inj (h3.symm.trans (hg 3 (by omega)))
  obtain rfl:e4=e 4:=Option.some.inj (h4.symm.trans (hg 4 (by omega)))
  obtain rfl:e5=e 5:=Option.some.inj (h5.symm.trans (hg 5 (by omega)))
  obtain rfl:xe=e 6:=Option.some.inj (hxe.symm.trans (hg 6 (by omega)))
  clear h0 h1 h2 h3 h4 h5 hxe
  refine al hK [] [3,9,11,16,17] (fun j:Nat=>⟨[(3,.ref 4),(9,.fptr 0 k 0),(11,.int .i64 (r:Int)),(16,.agg [.obo .vtx (e 0),.obo .vtx (e 1),.obo .vtx (e 2),.obo .vtx (e 3),.obo .vtx (e 4),.obo .vtx (e 5),.obo .vtx (e 6)]),(17,.int .i64 (j:Int))],[(0,.fvari 108 217 (.ob .vtx) tabs),(3,.frow 3 (.int .i64) (pss++(aL (tab.take (r*7+j))).map (·.parents))),(4,.row 59 (.vtxo 3) (iG pss.length (aL (tab.take (r*7+j)))))],5⟩) (fun j=>j≤7) (fun j=>7-j) 0 (by omega) rfl ?_
  intro j hj
  by_cases hjl:j<7
  ·have hs:=pk (hg j hjl)
   have hvj:∀v,e j=some v→v.parents.length≤1000000:=fun v h=>hv v (List.mem_of_getElem? (by rw[hg j hjl,h]))
   have hll:=sm (tab.take (r*7+j))
   rw[List.length_take] at hll
   obtain⟨j1,hj1⟩:∃j1,j1=j+1:=⟨_,rfl⟩
   have hji:((j1:Nat):Int)=(j:Int)+1:=by omega
   rw[Nat.add_assoc,←hj1] at hs
   obtain⟨o,ho⟩:∃o,o=e j:=⟨_,rfl⟩
   rw[←ho] at hs hvj
   generalize aL (tab.take (r*7+j))=l at *
   have hsl:∀v,(iG pss.length l)++[⟨v.round,v.author,some (pss++l.map (·.parents)).length,v.digest⟩]=iG pss.length (l++[v]):=fun v=>by rw[tl,List.length_append,List.length_map]
   have hpl:∀v:Vtx,(pss++l.map (·.parents))++[v.parents]=pss++(l++[v]).map (·.parents):=fun v=>by rw[List.map_append,List.append_assoc];rfl
   have hlv:(iG pss.length l).length≤217:=by rw[v9];omega
   obtain rfl|rfl|rfl|rfl|rfl|rfl|rfl:j=0∨j=1∨j=2∨j=3∨j=4∨j=5∨j=6:=by omega
   all_goals
    rw[←ho]
    cases o with
    |none=>
     clear hsl hpl
     generalize hrow:iG pss.length l=row at *
     (repeat' first|refine su ?_|refine sa fun xe hxe=>?_|refine sb (fun hq=>?_) fun hq=>?_|exact True.intro)
     refine⟨j1,by omega,by omega,?_⟩
     rw[hs,hji,Option.toList_none,List.append_nil,hrow]
     try rfl
    |some v=>
     have hvv:=hvj v rfl
     have hsv:=hsl v
     have hpv:=hpl v
     clear hsl hpl
     generalize iG pss.length l=row at *
     generalize pss++l.map (·.parents)=ps at *
     (repeat' first|refine su ?_|refine sa fun xe hxe=>?_|refine sb (fun hq=>?_) fun hq=>?_|exact True.intro|refine cr (lH _ hvv) ?_)
     refine⟨j1,by omega,by omega,?_⟩
     rw[hs,hji,Option.toList_some,←hsv,←hpv]
     try rfl
  ·obtain rfl:j=7:=by omega
   (repeat' first|refine su ?_|refine sa fun xe hxe=>?_|refine sb (fun hq=>?_) fun hq=>?_|exact True.intro)
   exact⟨r+1,by omega,by omega,by rw[show (r+1)*7=r*7+7 by omega];rfl⟩
 ·obtain rfl:r=31:=by omega
  (repeat' first|refine su ?_|refine sa fun xe hxe=>?_|refine sb (fun hq=>?_) fun hq=>?_|exact True.intro)
  rw[List.take_of_length_le (by omega)]
  exact⟨rfl,rfl⟩

end Go.Proofs.Ytgfcmhjebbncpaa.Am
