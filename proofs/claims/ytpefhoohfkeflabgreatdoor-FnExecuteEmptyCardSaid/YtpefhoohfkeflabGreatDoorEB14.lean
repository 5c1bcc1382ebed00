/- Scripts: the deferred closure of a line. Scripts: a line without a command. Scripts: execute's contract. Scripts: a line. Scripts: impl's Execute. Scripts: the laws of lines. A listed table of numbers, as it lies; an argument that is a text. Scripts: the empty script. Scripts: three quiet rounds. -/
import Derived.Test.YtpefhoohfkeflabGreatDoorRows
import Derived.Tactics
import Derived.Tactics2
import Derived.Defers
import Derived.Recover
import Derived.Laws.Pointers
import Derived.WalkKit
import Derived.WalkLawsBesides
import Derived.Below
import Derived.Shelf.Strings.Count
import Derived.Stop.LaidErr
import Derived.OpenShut
import Derived.ChangeMaps5
import Derived.Test.YtpefhoohfkeflabGreatDoorEB13
set_option linter.unusedSimpArgs false
set_option linter.unusedVariables false
set_option maxHeartbeats 1000000
namespace Go.Proofs.YtpefhoohfkeflabGreatDoor.Am
open Go Go.RowKit Go.Shelf
abbrev M1 (line:ByteArray):Value:=.iface 61 (.agg #[.string line])
set_option maxRecDepth 100000 in
theorem MJ (w:World):(Instr.typeAssert .nilIface 20 61 true).run Tryz.prog w= .ok (.tuple #[.agg #[.string ⟨#[]⟩],.bool false]) w:=by
 have hz:(Tryz.prog.info? 61).map (·.zero)=some (some (.agg #[.string ⟨#[]⟩])):=by kernel_rfl
 obtain⟨j,hj,hj2⟩:=bj.1 hz
 simp[Instr.typeAssert,run_underlying Tryz.underlying61,zeroValue,typeInfo,hj,hj2]
set_option maxRecDepth 100000 in
theorem MI (line:ByteArray)(w:World):(Instr.typeAssert (M1 line) 20 61 true).run Tryz.prog w= .ok (.tuple #[.agg #[.string line],.bool true]) w:=by
 have hz:(Tryz.prog.info? 61).map (·.zero)=some (some (.agg #[.string ⟨#[]⟩])):=by kernel_rfl
 obtain⟨j,hj,hj2⟩:=bj.1 hz
 simp[Instr.typeAssert,run_underlying Tryz.underlying61,zeroValue,typeInfo,hj,hj2]
set_option maxHeartbeats 1000000 in
set_option maxRecDepth 100000 in
theorem DY (p:Addr)(w:World):
  CallsD Tryz.prog 28 #[.pointer (some p)] .returning w fun e u' w'=>
   e= .returned (.tuple #[])∧u'= .returning∧Below w.heap.size w w':=by
 refine callsD_of_wpS Tryz.func28 rfl fun c₀ cs hu=>?_
 apply wpS_seq
 apply wpS_region
 simp[wpOpsS,go_sem,recoverD,hu,Tryz.ntmps28,Exit.thenS,MJ]
 apply wpS_seq
 apply wpS_region
 simp[wpOpsS,go_sem,recoverD,hu,Exit.thenS]
 refine wpS_cond (t:=false) (by simp[Act.eval,Array.replicate]) ?_
 simp only[eY,if_false]
 refine wpS_of_wp (wp_skip ?_)
 refine⟨rfl,c₀.mode,by cases c₀;rfl,.tuple #[],?_,rfl,hu,(Below.refl _ _).alloc (ax _) _⟩
 simp[results,Tryz.results28]
set_option maxHeartbeats 1000000 in
set_option maxRecDepth 100000 in
theorem CM (p:Addr)(pc:Value)(line:ByteArray)(w:World)(R:World→Prop)(hp:w.cell? p=some pc)
  (hP:∀w1,Below w.heap.size w w1→Calls Tryz.prog 29 #[pc,.string ⟨#[119,104,97,116]⟩] w1 fun e w'=>e= .returned (.tuple #[])∧R w'):
  CallsD Tryz.prog 28 #[.pointer (some p)] (.panicking [{v:=M1 line,recovered:=false}]) w fun e u' w'=>
   e= .returned (.tuple #[])∧u'= .panicking [{v:=M1 line,recovered:=true}]∧R w':=by
 have hpb:∀o:Obj,(w.alloc o).cell? p=some pc:=fun o=>by
  have hl:p.block<w.heap.size:=by
   rcases cG p.block w.heap.size with hl|hl
   ·exact hl
   ·have:w.heap[p.block]?=none:=by simp[hl]
    simp[World.cell?,this] at hp
  rw[←hp]
  exact World.cell?_of_block (((Below.refl w.heap.size w).alloc (ax _) o).block p.block hl)
 refine callsD_of_wpS Tryz.func28 rfl fun c₀ cs hu=>?_
 apply wpS_seq
 apply wpS_region
 simp[wpOpsS,go_sem,recoverD,hu,Tryz.ntmps28,Exit.thenS,MI]
 apply wpS_seq
 apply wpS_region
 simp[wpOpsS,go_sem,recoverD,Exit.thenS]
 refine wpS_cond (t:=true) (by simp[Act.eval,Array.replicate]) ?_
 simp only[if_true]
 have hcl:=hpb (.cells #[.string line] 61)
 apply wpS_region
 have hE:∀args w,(callFunc 29 args).run Tryz.prog w= .ok (.enter 29 args) w:=enters_of Tryz.func29 (by kernel_rfl) rfl
 simp[wpOpsS,go_sem,hcl,hE]
 refine(hP _ ((Below.refl _ _).alloc (ax _) _)).mono ?_
 rintro e w' ⟨rfl,hR⟩
 exact⟨rfl,_,rfl,.tuple #[],by simp[results,Tryz.results28],rfl,rfl,hR⟩
theorem KN (a:Addr)(line:ByteArray)(w:World)(R:World→Prop)
  (hC:∀w1,Below w.heap.size w w1→Calls Tryz.prog 30 #[.pointer (some a),.string line] w1 fun e w'=>e= .returned (.tuple #[])∧∀w2,Below w'.heap.size w' w2→R w2):
  Calls Tryz.prog 17 #[.pointer (some a),.string line] w fun e w'=>e= .returned (.tuple #[])∧R w':=by
 have hmf:∀(fn:Fn) (first cap:Array Value) (w:World),(Instr.makeFunc fn first cap).run Tryz.prog w= .ok (.func fn first cap) w:=fun _ _ _ _=>rfl
 have hc0:(w.alloc (.cells #[.pointer (some a)] 31)).cell? ⟨w.heap.size,0,none⟩=some (.pointer (some a)):=by rw[World.cell?_alloc_at _ _ _ _ rfl];rfl
 go_enter_defers Tryz.func17,Tryz.ntmps17
 go_wp2_with (fail)
 refine(hC _ ((Below.refl _ _).alloc (ax _) _)).mono ?_
 rintro e w' ⟨rfl,hR⟩
 dsimp only
 go_wp2
 refine leaves_cons (f:=28) (args:=#[.pointer (some ⟨w.heap.size,0,none⟩)]) (by simp) (by simp[go_sem]) ?_
 refine(DY ⟨w.heap.size,0,none⟩ _).mono ?_
 rintro e u' w'' ⟨rfl,rfl,hb⟩
 exact⟨.tuple #[],by simp[results,Tryz.results17,go_sem],rfl,hR _ hb⟩
theorem CP (a:Addr)(line:ByteArray)(w:World)(R:World→Prop)(hcm:∀w1,Below w.heap.size w w1→Calls Tryz.prog 30 #[.pointer (some a),.string line] w1 fun e w'=>e= .panicked [{v:=M1 line,recovered:=false}]∧Below w1.heap.size w1 w')
  (hP:∀w1,Below w.heap.size w w1→Calls Tryz.prog 29 #[.pointer (some a),.string ⟨#[119,104,97,116]⟩] w1 fun e w'=>e= .returned (.tuple #[])∧R w'):
  Calls Tryz.prog 17 #[.pointer (some a),.string line] w fun e w'=>e= .returned (.tuple #[])∧R w':=by
 have hmf:∀(fn:Fn) (first cap:Array Value) (w:World),(Instr.makeFunc fn first cap).run Tryz.prog w= .ok (.func fn first cap) w:=fun _ _ _ _=>rfl
 have hc0:(w.alloc (.cells #[.pointer (some a)] 31)).cell? ⟨w.heap.size,0,none⟩=some (.pointer (some a)):=by rw[World.cell?_alloc_at _ _ _ _ rfl];rfl
 have hal:Below w.heap.size w (w.alloc (.cells #[.pointer (some a)] 31)):=(Below.refl _ _).alloc (ax _) _
 have hsz:(w.alloc (.cells #[.pointer (some a)] 31)).heap.size=w.heap.size+1:=World.size_alloc ..
 go_enter_defers Tryz.func17,Tryz.ntmps17
 go_wp2_with (fail)
 refine(hcm _ hal).mono ?_
 rintro e w' ⟨rfl,hb⟩
 dsimp only
 have hc1:w'.cell? ⟨w.heap.size,0,none⟩=some (.pointer (some a)):=by
  rw[←hc0]
  exact World.cell?_of_block (a:=⟨w.heap.size,0,none⟩) (hb.block w.heap.size (by omega))
 refine leaves_cons (f:=28) (args:=#[.pointer (some ⟨w.heap.size,0,none⟩)]) (by simp) (by simp[go_sem]) ?_
 refine(CM ⟨w.heap.size,0,none⟩ (.pointer (some a)) line w' R hc1 fun w1 hb1=>hP w1 ?_).mono ?_
 ·exact(hal.trans (hb.mono (by omega))).trans (hb1.mono (by have:=hb.size;omega))
 rintro e u' w'' ⟨rfl,rfl,hR⟩
 exact⟨.tuple #[],by simp[results,Tryz.results17,go_sem],rfl,hR⟩
end Go.Proofs.YtpefhoohfkeflabGreatDoor.Am
namespace Go.Proofs.YtpefhoohfkeflabGreatDoor.Am
open Go Go.RowKit
theorem pq {P:Program}{N:Nat}{K:Id→Prop}{Q:Exit→VSt→Prop}{σ:VSt}{Θ:TT}(hΘ:Θ.ok P){id:Nat}{ops:Array Oper}{od:Oper}{x:Tmp}{T:TypeId}{bt:ByteArray}(h1:ops.toList.getLast? =some od)(hod:od.op= .panic (.tmp x)∧od.guard=none)
  (h:lA P Θ ops (fun _=>[]) false N ops.toList.dropLast 0 [] σ (fun σ=>look (fP σ.t) x=some (.ifc T (.agg [.str bt]))∧Q (.panic [{v:=.iface T (.agg #[.string bt]),recovered:=false}]) σ)):At P N K (.region id ops false) Q σ:=by
 refine DM hΘ (l:=ops.toList.dropLast) (od:=od) ?_ hod h
 generalize ops.toList=k at *
 rcases List.eq_nil_or_concat k with rfl|⟨k,y,rfl⟩
 ·cases h1
 ·rw[List.concat_eq_append] at h1⊢
  simp only[List.getLast?_append,List.getLast?_singleton,Option.some_or,aw] at h1
  rw[List.dropLast_concat,h1]
attribute [local irreducible] Mk ci Ari fF mI jx ca cR iW fv At ag
set_option maxRecDepth 10000
set_option maxHeartbeats 4000000 in
theorem Ft (l:List UInt8)(hl:l.length≤600)(hk:¬eV ((aJ 32 l).getD 0 []))(hkl:(aJ 32 l).getD 0 []≠qS):
  ∃fn c,Tryz.prog.funcs[30]?=some fn∧fn.body=some c∧2≤fn.ntmps∧At Tryz.prog fn.ntmps (fun _=>False) c (fun e _=>e= .panic [{v:=M1 (bs l),recovered:=false}]) ⟨[(1,.str (bs l))],[],4⟩:=by
 refine⟨_,_,Tryz.func30,rfl,by decide,?_⟩
 have hS:=pJ l 32 (by omega)
 have hle:=iU 32 l
 have hlen:=eC 32 l
 have hmem:=fU 32 l
 generalize aJ 32 l=ws at *
 have hml:(ws.map bs).length=ws.length:=aA ..
 have hx0:=fC ws (k:=0) (by omega)
 have hx1:=fC ws (k:=1) (by omega)
 have hx2:=fC ws (k:=2) (by omega)
 have hgl:=oO ws (fun x hx=>by have:=hmem x hx;omega)
 have n1:=j4 _ (hgl 1)
 have n2:=j4 _ (hgl 2)
 rw[kD] at n1 n2
 have e0:=ym ws (by omega)
 rw[e0] at hx0
 generalize (ws++[[],[]]).getD 1 []=g1 at *
 generalize (ws++[[],[]]).getD 2 []=g2 at *
 generalize cA ws 1=a at *
 generalize cA ws 2=b at *
 generalize ws.getD 0 []=k at *
 (repeat(any_goals(first|((first|with_reducible refine aE ?_ (by assumption)|with_reducible refine aD ?_ (by assumption));conv=>whnf)|(first|(with_reducible first|apply dV|apply cU)|((first|refine pq (T:=61) (bt:=bs l) aj rfl ⟨rfl,rfl⟩ ?_|with_reducible apply cJ aj|refine go ?_|(with_reducible first|apply df|apply dq|apply cH|apply cK|refine cI aj mixed (by kernel_rfl) ?_))<;>conv=>whnf))|((first|refine OJ fun xe hxe=>?_|with_reducible refine DZ (fun hq=>?_) fun hq=>?_)<;>conv=>whnf)|((with_reducible refine uk (fun hq=>?_) fun hq=>?_)<;>((try simp only[K0] at hq)<;>(first|omega|conv=>whnf)))|((with_reducible refine aF ?_)<;>conv=>whnf)|refine cr (hS) ?_)))
 obtain rfl:=aq (hx1.symm.trans hxe)
 clear hxe
 (repeat(any_goals(first|((first|with_reducible refine aE ?_ (by assumption)|with_reducible refine aD ?_ (by assumption));conv=>whnf)|(first|(with_reducible first|apply dV|apply cU)|((first|refine pq (T:=61) (bt:=bs l) aj rfl ⟨rfl,rfl⟩ ?_|with_reducible apply cJ aj|refine go ?_|(with_reducible first|apply df|apply dq|apply cH|apply cK|refine cI aj mixed (by kernel_rfl) ?_))<;>conv=>whnf))|((first|refine OJ fun xe hxe=>?_|with_reducible refine DZ (fun hq=>?_) fun hq=>?_)<;>conv=>whnf)|((with_reducible refine uk (fun hq=>?_) fun hq=>?_)<;>((try simp only[K0] at hq)<;>(first|omega|conv=>whnf)))|((with_reducible refine aF ?_)<;>conv=>whnf)|refine cr (n1) ?_)))
 obtain rfl:=aq (hx2.symm.trans hxe)
 clear hxe
 (repeat(any_goals(first|((first|with_reducible refine aE ?_ (by assumption)|with_reducible refine aD ?_ (by assumption));conv=>whnf)|(first|(with_reducible first|apply dV|apply cU)|((first|refine pq (T:=61) (bt:=bs l) aj rfl ⟨rfl,rfl⟩ ?_|with_reducible apply cJ aj|refine go ?_|(with_reducible first|apply df|apply dq|apply cH|apply cK|refine cI aj mixed (by kernel_rfl) ?_))<;>conv=>whnf))|((first|refine OJ fun xe hxe=>?_|with_reducible refine DZ (fun hq=>?_) fun hq=>?_)<;>conv=>whnf)|((with_reducible refine uk (fun hq=>?_) fun hq=>?_)<;>((try simp only[K0] at hq)<;>(first|omega|conv=>whnf)))|((with_reducible refine aF ?_)<;>conv=>whnf)|refine cr (n2) ?_)))
 all_goals (obtain rfl:=aq (hx0.symm.trans hxe);clear hxe)
 ·exact hk (.inl (qR hq))
 ·exact hk (.inr (.inl (qR hq)))
 ·exact hk (.inr (.inr (.inl (qR hq))))
 ·exact hk (.inr (.inr (.inr (.inl (qR hq)))))
 ·exact hk (.inr (.inr (.inr (.inr (.inl (qR hq))))))
 ·exact hk (.inr (.inr (.inr (.inr (.inr (qR hq))))))
 ·exact hkl (qR hq)
 ·exact⟨rfl,rfl⟩
end Go.Proofs.YtpefhoohfkeflabGreatDoor.Am
namespace Go.Proofs.YtpefhoohfkeflabGreatDoor.Am
open Go Go.RowKit
variable {P:Program} {w0:World} {S:SD} {A:Nat→Prop} {N:Nat} {ρ:Id→Pl} {t:List (Nat×D)} {h:HL} {a:Act} {w:World}
theorem Below.fr {S:Nat→Prop}{w w':World}(h:Below w.heap.size w w'):Fr S w w':=⟨h.os,h.tape,h.output,h.size,fun i hi _=>h.block i hi⟩
theorem Sim.later (s:Sim P w0 S A N ρ t h a w){w':World}(hb:Below w.heap.size w w'):Sim P w0 S A N ρ t h a w':=by
 refine s.step (s.fr.andThen (T:=fun _=>False) (Below.fr hb) fun i _ e=>e.elim) (fun b hb'=>⟨hb',rfl⟩) (fun k hk=>⟨⟨⟨kU hk.1.1 hb.size,hk.1.2⟩,hk.2⟩,hb.block k hk.1.1⟩) (fun b x hx=>.inl ⟨hx,fun hm=>hb.block _ (s.own b x hx (by cases x<;>first|rfl|cases hm)).1⟩) hb.size s.inj
theorem Sim.rebase {w1:World}(s:Sim P w S A N ρ t h a w)(hb:Below w.heap.size w w1):Sim P w1 S A N ρ t h a w1:=by
 have s1:=s.later hb
 refine⟨fun k hk=>s.base k (cu hb.size hk),s.inS,Fr.refl _ _,s.defers,s.size,s1.tmp,s1.blk,fun b x hx hl=>⟨(s1.own b x hx hl).1,?_⟩,s.inj,fun g x hx=>?_,fun g zs hx=>?_⟩
 ·rcases (s.own b x hx hl).2 with q|q
  ·exact .inl q
  ·have:=(s.own b x hx hl).1;omega
 ·obtain⟨⟨q1,q2,q3⟩,ad,q4⟩:=s.gl.1 g x hx
  exact⟨⟨q1,q2,kU q3 hb.size⟩,ad,(World.cell?_of_block (a:=⟨g,0,none⟩) (hb.block g q3)).trans q4⟩
 ·obtain⟨⟨q1,q2,q3⟩,T,fz,q4⟩:=s.gl.2 g zs hx
  exact⟨⟨q1,q2,kU q3 hb.size⟩,T,fz,(hb.block g q3).trans q4⟩
theorem Sim.unbase {w1 w':World}{ρ':Id→Pl}{t':List (Nat×D)}{h':HL}{a':Act}(s:Sim P w S A N ρ t h a w)(hb:Below w.heap.size w w1)(s1:Sim P w1 S A N ρ' t' h' a' w'):Sim P w S A N ρ' t' h' a' w':=
 ⟨s.base,s.inS,(Below.fr hb).andThen s1.fr fun i _ e=>.inl e,s1.defers,s1.size,s1.tmp,s1.blk,fun b x hx hl=>⟨(s1.own b x hx hl).1,by
  rcases (s1.own b x hx hl).2 with q|q
  ·exact .inl q
  ·exact .inr (cu hb.size q)⟩,s1.inj,s.gl⟩
theorem Con.behind {f:FuncId}{ds:List D}{hin hout:HL}{r:D}(hC:Con P f ds hin r hout){w:World}{A:Nat→Prop}{ρ:Id→Pl}{vs:Array Value}(s:Sim P w (qD ρ hin) A 0 ρ [] hin ef w)(hl:ds.length=vs.size)
  (hcv:∀i,i<ds.length→C ρ (Live hin) (okOf A ρ hin w) w (ds.getD i .undef) (vs.getD i undef)) {w1:World} (hb:Below w.heap.size w w1):
  Calls P f vs w1 fun e w'=>∃u ρ',e= .returned u∧∀w2,Below w'.heap.size w' w2→(∀b,Live hin b→ρ' b=ρ b∧Live hout b)∧Sim P w (qD ρ hin) A 0 ρ' [] hout ef w2∧C ρ' (Live hout) (okOf A ρ' hout w') w' r u:=by
 refine(hC.2 w1 A ρ vs (s.rebase hb) hl fun i hi=>(hcv i hi).mono (fun b hb'=>⟨hb',rfl⟩) fun k hk=>⟨⟨⟨kU hk.1.1 hb.size,hk.1.2⟩,hk.2⟩,hb.block k hk.1.1⟩).mono ?_
 rintro e w' ⟨u,ρ',rfl,h1,h2,h3⟩
 exact⟨u,ρ',rfl,fun w2 hb2=>⟨h1,(s.unbase hb h2).later hb2,h3⟩⟩
theorem mQ {hin hout:HL}{b:Id}{line:ByteArray}(hC:Con Tryz.prog 30 [.ptr b 0,.str line] hin (.tup []) hout):Con Tryz.prog 17 [.ptr b 0,.str line] hin (.tup []) hout:=by
 refine⟨⟨_,Tryz.func17,rfl,rfl⟩,fun w A ρ vs s hl hcv=>?_⟩
 obtain⟨v0,v1,rfl⟩:=wS hl
 obtain⟨hlb,e0⟩:=(hcv 0 (Nat.zero_lt_two)).ptr_inv
 have e0:v0= .pointer (some ⟨(ρ b).blk,0,none⟩):=e0
 have e1:C ρ (Live hin) (okOf A ρ hin w) w (.str line) v1:=hcv 1 (Nat.one_lt_two)
 obtain rfl:=e1.str_inv
 subst e0
 refine(KN ⟨(ρ b).blk,0,none⟩ line w (fun w2=>∃ρ',(∀b,Live hin b→ρ' b=ρ b∧Live hout b)∧Sim Tryz.prog w (qD ρ hin) A 0 ρ' [] hout ef w2) fun w1 hb=>?_).mono ?_
 ·refine(hC.behind s hl hcv hb).mono ?_
  rintro e w' ⟨u,ρ',rfl,h⟩
  obtain⟨-,-,h3⟩:=h w' (Below.refl _ _)
  obtain⟨vs,rfl,h4,-⟩:=h3.tup_inv
  have h4:0=vs.size:=h4
  obtain rfl:vs= #[]:=by
   apply Array.eq_empty_of_size_eq_zero
   omega
  exact⟨rfl,fun w2 hb2=>⟨ρ',(h w2 hb2).1,(h w2 hb2).2.1⟩⟩
 ·rintro e w' ⟨rfl,ρ',h1,h2⟩
  exact⟨_,ρ',rfl,h1,h2,.tup [] #[] rfl (fun i hi=>by simp at hi)⟩
theorem xb {hin hout:HL}{b:Id}{line:ByteArray}{fn:Func}{c:Code}(hf:Tryz.prog.funcs[30]?=some fn)(hc:fn.body=some c)(hN:2≤fn.ntmps)(hA:At Tryz.prog fn.ntmps (fun _=>False) c (fun e _=>e= .panic [{v:=M1 line,recovered:=false}]) ⟨[(1,.str line)],[],4⟩)
  (hP:Con Tryz.prog 29 [.ptr b 0,.str ⟨#[119,104,97,116]⟩] hin (.tup []) hout):Con Tryz.prog 17 [.ptr b 0,.str line] hin (.tup []) hout:=by
 refine⟨⟨_,Tryz.func17,rfl,rfl⟩,fun w A ρ vs s hl hcv=>?_⟩
 obtain⟨v0,v1,rfl⟩:=wS hl
 obtain⟨hlb,e0⟩:=(hcv 0 (Nat.zero_lt_two)).ptr_inv
 have e0:v0= .pointer (some ⟨(ρ b).blk,0,none⟩):=e0
 have e1:C ρ (Live hin) (okOf A ρ hin w) w (.str line) v1:=hcv 1 (Nat.one_lt_two)
 obtain rfl:=e1.str_inv
 subst e0
 refine(CP ⟨(ρ b).blk,0,none⟩ line w (fun w2=>∃ρ',(∀b,Live hin b→ρ' b=ρ b∧Live hout b)∧Sim Tryz.prog w (qD ρ hin) A 0 ρ' [] hout ef w2) (fun w1 hb=>?_) fun w1 hb=>?_).mono ?_
 ·have s1:=s.rebase hb
  exact w4 hf hc hN hA w1 _ ⟨fun g y hx=>⟨(s1.gl.1 g y hx).1.2.2,(s1.gl.1 g y hx).2⟩,fun g y hx=>⟨(s1.gl.2 g y hx).1.2.2,(s1.gl.2 g y hx).2⟩⟩
 ·refine(hP.behind s (vs:=#[.pointer (some ⟨(ρ b).blk,0,none⟩),.string ⟨#[119,104,97,116]⟩]) rfl (fun i hi=>?_) hb).mono ?_
  ·match i,hi with
   |0,_=>exact C.ptr b 0 hlb
   |1,_=>exact C.str _
  ·rintro e w' ⟨u,ρ',rfl,h⟩
   obtain⟨h1,h2,h3⟩:=h w' (Below.refl _ _)
   obtain⟨vs,rfl,h4,-⟩:=h3.tup_inv
   have h4:0=vs.size:=h4
   obtain rfl:vs= #[]:=by
    apply Array.eq_empty_of_size_eq_zero
    omega
   exact⟨rfl,ρ',h1,h2⟩
 ·rintro e w' ⟨rfl,ρ',h1,h2⟩
  exact⟨_,ρ',rfl,h1,h2,.tup [] #[] rfl (fun i hi=>by simp at hi)⟩
end Go.Proofs.YtpefhoohfkeflabGreatDoor.Am
namespace Go.Proofs.YtpefhoohfkeflabGreatDoor.Am
open Go Go.RowKit
theorem LE {w:Wrl}(hw:WOK w)(l:List UInt8)(hl:l.length≤600)(ho:dQ w (aJ 32 l)=[]):ag Tryz.prog 17 [.ptr 4 0,.str (bs l)] (dr w) (.tup []) (dr (bV w (aJ 32 l))):=by
 by_cases hk:eV ((aJ 32 l).getD 0 [])
 ·exact mQ (LC hw l hl hk)
 ·unfold dQ at ho
  rw[if_neg hk] at ho
  by_cases hkl:(aJ 32 l).getD 0 []=qS
  ·rw[if_pos hkl] at ho
   have hC:=BH hw l hl hkl
   have hs:bV w (aJ 32 l)=w:=by unfold bV;rw[hkl];rfl
   have h0:w.props.length=0:=by
    rcases Nat.eq_zero_or_pos w.props.length with h|h
    ·exact h
    ·exfalso
     unfold nw at ho
     obtain⟨n,hn⟩:∃n,w.props.length=n+1:=⟨w.props.length-1,by omega⟩
     rw[hn] at ho
     simp[cM,t6] at ho
   rw[if_pos h0] at hC
   rw[hs]
   exact mQ hC
  ·rw[if_neg hkl] at ho
   simp at ho
theorem LF {w:Wrl}(hw:WOK w)(l:List UInt8)(hl:l.length≤600)(ho:dQ w (aJ 32 l)≠[]):ag Tryz.prog 17 [.ptr 4 0,.str (bs l)] (dr w) (.tup []) (bM (bV w (aJ 32 l)) (dQ w (aJ 32 l))):=by
 by_cases hk:eV ((aJ 32 l).getD 0 [])
 ·exact absurd (if_pos hk) ho
 ·unfold dQ at ho⊢
  rw[if_neg hk] at ho⊢
  by_cases hkl:(aJ 32 l).getD 0 []=qS
  ·rw[if_pos hkl] at ho⊢
   have hC:=BH hw l hl hkl
   have hs:bV w (aJ 32 l)=w:=by unfold bV;rw[hkl];rfl
   have h0:w.props.length≠0:=fun h=>ho (by unfold nw;rw[h];rfl)
   rw[if_neg h0] at hC
   rw[hs]
   exact mQ hC
  ·rw[if_neg hkl]
   have hs:bV w (aJ 32 l)=w:=by
    unfold eV at hk
    simp only[not_or] at hk
    unfold bV
    rw[if_neg hk.1,if_neg hk.2.1,if_neg hk.2.2.1,if_neg hk.2.2.2.1,if_neg hk.2.2.2.2.1,if_neg hk.2.2.2.2.2]
   rw[hs]
   obtain⟨fn,c,h1,h2,h3,h4⟩:=Ft l hl hk hkl
   exact xb h1 h2 h3 h4 (zQ w qF (by decide) (by decide))
theorem LG {w:Wrl}(hw:WOK w)(o:List UInt8)(hol:o.length≤5000000)(l:List UInt8)(hl:l.length≤600)(ho:dQ w (aJ 32 l)=[]):ag Tryz.prog 17 [.ptr 4 0,.str (bs l)] (bM w o) (.tup []) (bM (bV w (aJ 32 l)) o):=by
 by_cases hk:eV ((aJ 32 l).getD 0 [])
 ·exact mQ (LD hw l hl o hk)
 ·unfold dQ at ho
  rw[if_neg hk] at ho
  by_cases hkl:(aJ 32 l).getD 0 []=qS
  ·rw[if_pos hkl] at ho
   have hC:=BI hw l hl o hol hkl
   have hs:bV w (aJ 32 l)=w:=by unfold bV;rw[hkl];rfl
   have h0:w.props.length=0:=by
    rcases Nat.eq_zero_or_pos w.props.length with h|h
    ·exact h
    ·exfalso
     unfold nw at ho
     obtain⟨n,hn⟩:∃n,w.props.length=n+1:=⟨w.props.length-1,by omega⟩
     rw[hn] at ho
     simp[cM,t6] at ho
   rw[if_pos h0] at hC
   rw[hs]
   exact mQ hC
  ·rw[if_neg hkl] at ho
   simp at ho
theorem LH {w:Wrl}(hw:WOK w)(o:List UInt8)(hol:o.length≤5000000)(l:List UInt8)(hl:l.length≤600)(ho:dQ w (aJ 32 l)≠[]):ag Tryz.prog 17 [.ptr 4 0,.str (bs l)] (bM w o) (.tup []) (jy (bV w (aJ 32 l)) (o++dQ w (aJ 32 l))):=by
 by_cases hk:eV ((aJ 32 l).getD 0 [])
 ·exact absurd (if_pos hk) ho
 ·unfold dQ at ho⊢
  rw[if_neg hk] at ho⊢
  by_cases hkl:(aJ 32 l).getD 0 []=qS
  ·rw[if_pos hkl] at ho⊢
   have hC:=BI hw l hl o hol hkl
   have hs:bV w (aJ 32 l)=w:=by unfold bV;rw[hkl];rfl
   have h0:w.props.length≠0:=fun h=>ho (by unfold nw;rw[h];rfl)
   rw[if_neg h0] at hC
   rw[hs]
   exact mQ hC
  ·rw[if_neg hkl]
   have hs:bV w (aJ 32 l)=w:=by
    unfold eV at hk
    simp only[not_or] at hk
    unfold bV
    rw[if_neg hk.1,if_neg hk.2.1,if_neg hk.2.2.1,if_neg hk.2.2.2.1,if_neg hk.2.2.2.2.1,if_neg hk.2.2.2.2.2]
   rw[hs]
   obtain⟨fn,c,h1,h2,h3,h4⟩:=Ft l hl hk hkl
   have hP:=nL w o qF (by decide) (by show o.length+4≤_;omega)
   rw[bH] at hP
   exact xb h1 h2 h3 h4 hP
theorem J4 (w:Wrl)(o:List UInt8)(h0:o≠[]):ag Tryz.prog 19 [.ptr 4 5] (bM w o) (.str (bs o)) [(4,.var 41 [.lst (.int .i64) w.com,.lst (.int .i64) w.lead,.int .i64 w.bad,.lst (.lst .vtx) w.views,.lst .ppl w.props,.ptr 4 5,.ref 5]),(5,.gone)]:=by
 have hr:((fb o).map (D.int .u8))=o.map fun c=>D.int .u8 (c.toNat:Int):=by rw[fb,eu];rfl
 refine HB (h:=toH (bM w o)) (b:=(4,0)) (b2:=(5,0)) rfl rfl ?_ h0 _ fun b'=>?_
 ·rw[←hr];rfl
 ·exact congrArg (fun z=>look z b') rfl
theorem Ir:ag Tryz.prog 15 [.lst (.int .i64) [1,1,1,1],.lst (.int .i64) [0,1,2,0,1,2,0,1],.int .i64 3] [] (.tup [bd yU,.bool true]) []:=by
 have h:=Lk [1,1,1,1] [0,1,2,0,1,2,0,1] 3
 rw[if_pos (by decide+kernel)] at h
 exact h
noncomputable def exS (ks:List (List UInt8)) (i:Nat):VSt:=
 if(bW (ks.take i)).2=[] then⟨[(3,.ptr 4 0),(27,.lst .str (ks.map bs)),(28,.int .i64 (ks.map bs).length),(29,.int .i64 (i:Int))],dr (bW (ks.take i)).1,5⟩
 else⟨[(3,.ptr 4 0),(27,.lst .str (ks.map bs)),(28,.int .i64 (ks.map bs).length),(29,.int .i64 (i:Int))],bM (bW (ks.take i)).1 (bW (ks.take i)).2,6⟩
theorem Bl {ks:List (List UInt8)}{i:Nat}{w:Wrl}(h:bW (ks.take i)=(w,[])):exS ks i=⟨[(3,.ptr 4 0),(27,.lst .str (ks.map bs)),(28,.int .i64 (ks.map bs).length),(29,.int .i64 (i:Int))],dr w,5⟩:=by
 unfold exS
 rw[h,if_pos rfl]
theorem xu {ks:List (List UInt8)}{i:Nat}{w:Wrl}{o:List UInt8}(h:bW (ks.take i)=(w,o))(h0:o≠[]):exS ks i=⟨[(3,.ptr 4 0),(27,.lst .str (ks.map bs)),(28,.int .i64 (ks.map bs).length),(29,.int .i64 (i:Int))],bM w o,6⟩:=by
 unfold exS
 rw[h,if_neg h0]
theorem IR {w:Wrl}(hc:w.com.length=4)(hb:w.bad=3):outO w≠[]:=by
 rw[Kd hc hb]
 simp[linO]
attribute [local irreducible] Mk ci Ari fF mI jx ca cR iW fv At ag
set_option maxRecDepth 10000
set_option maxHeartbeats 4000000 in
theorem sN (t:List UInt8)(ht:t.length≤2000000):ag Tryz.prog 7 [.str (bs t)] [] (.str (bs (exT t))) []:=by
 have hsz:(bs t).size=t.length:=rfl
 unfold exT
 by_cases h6:600<t.length
 ·rw[if_pos h6]
  refine ab aj Tryz.func7 rfl rfl false 0 4 rfl rfl rfl rfl fun K hK hb1 hb2=>?_;simp only[ae,enc,Nat.reduceAdd]
  clear hb1 hb2
  (repeat' first|refine st ?_|refine sa fun xe hxe=>?_|refine sb (fun hq=>?_) fun hq=>?_|exact aa)
  exact⟨rfl,rfl⟩
 rw[if_neg h6]
 have hC:=pJ t 10 (by omega)
 have hle:=iU 10 t
 have hlen:=eC 10 t
 have hmem:=fU 10 t
 generalize aJ 10 t=ls at *
 have hml:(ls.map bs).length=ls.length:=aA ..
 have hcut:lT (ls.map bs) none (some (.int .i64 (((ls.map bs).length:Int)-1))) 0 (((ls.map bs).length:Int)-1).toNat=ls.dropLast.map bs:=by
  have e:(((ls.map bs).length:Int)-1).toNat=ls.length-1:=by omega
  rw[e,List.dropLast_eq_take,List.map_take]
  rfl
 have hmem:∀x∈ls.dropLast,x.length≤600:=fun x hx=>by have:=hmem x (List.dropLast_subset _ hx);omega
 have hkl:ls.dropLast.length=ls.length-1:=List.length_dropLast
 have hN:=Ir
 generalize hk:ls.dropLast=ks at *
 refine ab aj Tryz.func7 rfl rfl false 0 4 rfl rfl rfl rfl fun K hK hb1 hb2=>?_;simp only[ae,enc,Nat.reduceAdd]
 clear hb1 hb2
 (repeat' first|refine st ?_|refine sa fun xe hxe=>?_|refine sb (fun hq=>?_) fun hq=>?_|refine cr (hC) ?_|refine cr (hN) ?_|exact aa)
 rw[hcut]
 have h0:=Bl (ks:=ks) (i:=0) (w:=yU) rfl
 refine ah hK [] [3,27,28,29] (exS ks) (fun i=>i≤ks.length) (fun i=>ks.length-i) 0 (aX _) (by rw[h0];rfl) ?_
 clear h0
 have hkm:(ks.map bs).length=ks.length:=aA ..
 intro i hi
 have hol:=tp (ks.take i)
 rw[bP,mH hi] at hol
 have hok:=rM (ks.take i)
 by_cases hlt:i<ks.length
 ·have hx:(ks.map bs)[i]?=some (bs ks[i]):=by rw[bf,am hlt];rfl
  have hs:bW (ks.take (i+1))=oF (bW (ks.take i)) ks[i]:=by rw[b9 hlt,gS]
  have hll:=hmem _ (be hlt)
  generalize hr:bW (ks.take i)=r at *
  generalize ks[i]=l at *
  obtain⟨w,o⟩:=r
  dsimp only at *
  by_cases ho:o=[]
  ·subst ho
   have e1:=Bl hr
   by_cases hst:dQ w (aJ 32 l)=[]
   ·have hE:=LE hok l hll hst
    have e2:=Bl (ks:=ks) (i:=i+1) (w:=bV w (aJ 32 l)) (by rw[hs,oF,hst];rfl)
    rw[e1]
    generalize bV w (aJ 32 l)=u at *
    clear e1 hs hr hst hC hcut hk
    generalize ks.map bs=O at *
    (repeat' first|((first|with_reducible refine aE ?_ (by assumption)|with_reducible refine aD ?_ (by assumption));conv=>whnf)|refine st ?_|refine sa fun xe hxe=>?_|refine sb (fun hq=>?_) fun hq=>?_|((with_reducible refine aF ?_)<;>conv=>whnf)|refine co (hE) ?_|exact aa)
    exact⟨i+1,by omega,by omega,e2.symm⟩
   ·have hE:=LF hok l hll hst
    have e2:=xu (ks:=ks) (i:=i+1) (w:=bV w (aJ 32 l)) (o:=dQ w (aJ 32 l)) (by rw[hs];rfl) hst
    rw[e1]
    generalize bV w (aJ 32 l)=u at *
    clear e1 hs hr hC hcut hk
    generalize dQ w (aJ 32 l)=so at *
    generalize ks.map bs=O at *
    (repeat' first|((first|with_reducible refine aE ?_ (by assumption)|with_reducible refine aD ?_ (by assumption));conv=>whnf)|refine st ?_|refine sa fun xe hxe=>?_|refine sb (fun hq=>?_) fun hq=>?_|((with_reducible refine aF ?_)<;>conv=>whnf)|refine co (hE) ?_|exact aa)
    exact⟨i+1,by omega,by omega,e2.symm⟩
  ·have e1:=xu hr ho
   by_cases hst:dQ w (aJ 32 l)=[]
   ·have hE:=LG hok o (by omega) l hll hst
    have e2:=xu (ks:=ks) (i:=i+1) (w:=bV w (aJ 32 l)) (o:=o) (by rw[hs,oF,hst,gy]) ho
    rw[e1]
    generalize bV w (aJ 32 l)=u at *
    clear e1 hs hr hst hC hcut hk
    generalize ks.map bs=O at *
    (repeat' first|((first|with_reducible refine aE ?_ (by assumption)|with_reducible refine aD ?_ (by assumption));conv=>whnf)|refine st ?_|refine sa fun xe hxe=>?_|refine sb (fun hq=>?_) fun hq=>?_|((with_reducible refine aF ?_)<;>conv=>whnf)|refine co (hE) ?_|exact aa)
    exact⟨i+1,by omega,by omega,e2.symm⟩
   ·have hE:=LH hok o (by omega) l hll hst
    have e2:=xu (ks:=ks) (i:=i+1) (w:=bV w (aJ 32 l)) (o:=o++dQ w (aJ 32 l)) (by rw[hs];rfl) (by simp[ho])
    rw[e1]
    generalize bV w (aJ 32 l)=u at *
    clear e1 hs hr hC hcut hk
    generalize o++dQ w (aJ 32 l)=so at *
    generalize ks.map bs=O at *
    (repeat' first|((first|with_reducible refine aE ?_ (by assumption)|with_reducible refine aD ?_ (by assumption));conv=>whnf)|refine st ?_|refine sa fun xe hxe=>?_|refine sb (fun hq=>?_) fun hq=>?_|((with_reducible refine aF ?_)<;>conv=>whnf)|refine co (hE) ?_|exact aa)
    exact⟨i+1,by omega,by omega,e2.symm⟩
 ·obtain rfl:i=ks.length:=by omega
  have hlb:=Cb (ks.take ks.length)
  have htk:ks.take ks.length=ks:=iS
  generalize hr:bW (ks.take ks.length)=r at *
  have hr2:bW ks=r:=by rw[←hr,htk]
  rw[hr2]
  obtain⟨w,o⟩:=r
  dsimp only at *
  have hne:=IR (w:=w) (by rw[hlb.2.2];rfl) hlb.2.1
  by_cases ho:o=[]
  ·subst ho
   rw[Bl hr]
   have hF:=LI hok (by rw[hlb.2.2];rfl) hlb.2.1
   have hT:=J4 w (outO w) hne
   rw[dS]
   generalize outO w=oo at *
   clear hr hr2 hC hcut hk
   generalize ks.map bs=O at *
   (repeat' first|refine st ?_|refine sa fun xe hxe=>?_|refine sb (fun hq=>?_) fun hq=>?_|refine co (hF) ?_|refine co (hT) ?_|exact aa)
   exact⟨rfl,rfl⟩
  ·rw[xu hr ho]
   have hF:=LJ hok (by rw[hlb.2.2];rfl) hlb.2.1 o (by omega)
   have hT:=J4 w (o++outO w) (by simp[ho])
   generalize o++outO w=oo at *
   clear hr hr2 hC hcut hk
   generalize ks.map bs=O at *
   (repeat' first|refine st ?_|refine sa fun xe hxe=>?_|refine sb (fun hq=>?_) fun hq=>?_|refine co (hF) ?_|refine co (hT) ?_|exact aa)
   exact⟨rfl,rfl⟩
end Go.Proofs.YtpefhoohfkeflabGreatDoor.Am
namespace Go.Proofs.YtpefhoohfkeflabGreatDoor.Am
open Go Go.RowKit
theorem w9:∀ls:List (List UInt8),(∀l∈ls,(10:UInt8)∉l)→(dC ls).count 10=ls.length
 |[],_=>rfl
 |l::ls,h=>by
  rw[kt,List.count_append,List.count_cons,List.count_eq_zero.2 (h l (by simp)),w9 ls fun x hx=>h x (by simp[hx])]
  simp
theorem F3 (ls:List (List UInt8)):∃h s:List UInt8,outR ls=h++s∧h=(bW ls).2∧s=outO (bW ls).1∧(h=[]∨∃g,h=g++[10])∧s.count 10=3∧24≤s.length∧(∃g,s=g++[10])∧h.length≤6820*ls.length∧s.length≤50000000:=by
 obtain⟨h,h1,h2⟩:=Dg ls
 have hok:=rM ls
 have hlb:=Cb ls
 have h4:(bW ls).1.com.length=4:=by rw[hlb.2.2];rfl
 have hg:=pX h4 hlb.2.1
 refine⟨h,outO (bW ls).1,by rw[outR,h2],h2.symm,rfl,h1,?_,?_,?_,?_,?_⟩
 ·rw[hg,w9]
  ·rfl
  ·intro l hl
   simp only[aK,gx,or_false] at hl
   rcases hl with rfl|rfl|rfl
   ·exact pO hok 0 (by decide)
   ·exact pO hok 1 (by decide)
   ·exact pO hok 2 (by decide)
 ·rw[hg]
  have hd:∀m:Nat,1≤(aQ (m:Int)).length:=fun m=>(aO (m:Int)).1
  have h0:=hd 0
  have h1:=hd 1
  have h2:=hd 2
  simp only[dC,linM,bI,ec,List.flatten_cons,List.flatten_nil,aP,bF,dA]
  omega
 ·rw[hg]
  exact⟨linM (bW ls).1 0++10::(linM (bW ls).1 1++10::linM (bW ls).1 2),by simp[dC]⟩
 ·rw[←h2];exact tp ls
 ·have:=ja hok (bW ls).1.com.length
  rw[h4] at this
  unfold outO
  rw[h4]
  omega
theorem IL (t:List UInt8):(lI t).length≤t.length:=by
 have h1:=iU 10 t
 unfold lI
 rw[List.length_dropLast]
 omega
theorem xw {ls:List (List UInt8)}(hf:∀l∈ls,(10:UInt8)∉l)(hl:(dC ls).length≤600):exT (dC ls)=outR ls:=by
 rw[zA hl,FD ls hf]
theorem bq (k:List UInt8):V.bool ((bs k).toList==(bs k).toList)=V.bool true∧([]:VH)=[]:=⟨by simp,rfl⟩
attribute [local irreducible] Mk ci Ari fF mI jx ca cR iW fv At ag
set_option maxRecDepth 10000
abbrev vU:List UInt8:=[117,110,107,110,111,119,110]
theorem F2 (ls:List (List UInt8)):outR (ls++[vU])=(bW ls).2++(qF++[10])++outO (bW ls).1:=by
 have e1:bV (bW ls).1 (aJ 32 vU)=(bW ls).1:=rfl
 have e2:dQ (bW ls).1 (aJ 32 vU)=qF++[10]:=rfl
 rw[outR,gS,oF,e1,e2]
theorem OO (c:List Int)(hc:∀x∈c,0≤x∧x≤255):ag Tryz.prog 3 [.lst (.int .u8) c] [] (.bool true) []:=by
 by_cases hl:1048576<c.length
 ·refine ab aj Tryz.func3 rfl rfl false 0 4 rfl rfl rfl rfl fun K hK hb1 hb2=>?_;simp only[ae,enc,Nat.reduceAdd]
  clear hb1 hb2
  (repeat' first|refine st ?_|refine sa fun xe hxe=>?_|refine sb (fun hq=>?_) fun hq=>?_|exact aa)
  exact⟨rfl,rfl⟩
 obtain⟨o,ho,hD⟩:=Ej c hc
 obtain⟨t,rfl⟩:∃t,o=bs t:=⟨o.data.toList,rfl⟩
 have hsz:(bs t).size=t.length:=rfl
 have h1:=GE t (by omega)
 have h2:=sN t (by omega)
 by_cases h6:592<t.length
 ·generalize exT t=e at *
  refine ab aj Tryz.func3 rfl rfl false 0 4 rfl rfl rfl rfl fun K hK hb1 hb2=>?_;simp only[ae,enc,Nat.reduceAdd]
  clear hb1 hb2
  (repeat' first|refine st ?_|refine sa fun xe hxe=>?_|refine sb (fun hq=>?_) fun hq=>?_|refine cr (hD) ?_|refine cr (h1) ?_|refine cr (h2) ?_|exact aa)
  all_goals first|exact⟨rfl,rfl⟩|exact absurd trivial hq|exact bq _
 ·have hgl:=H5 t
  have hf:=x9 t
  have hll:=IL t
  have h3:=Nc t (by omega)
  have hgs:dC (lI t++[vU])=dC (lI t)++(vU++[10]):=ku _ _
  have hf2:∀l∈lI t++[vU],(10:UInt8)∉l:=fun l hl=>by
   rcases bh.1 hl with hl|hl
   ·exact hf l hl
   ·rw[aZ.1 hl];decide
  have hl2:(dC (lI t++[vU])).length≤600:=by rw[hgs,aP];simp;omega
  have h4:=sN (dC (lI t)) (by omega)
  have h5:=sN (dC (lI t++[vU])) (by omega)
  rw[xw hf (by omega)] at h4
  rw[xw hf2 hl2,F2] at h5
  obtain⟨h,s,e1,eh,es,e2,e3,e4,-,e6,e7⟩:=F3 (lI t)
  rw[e1] at h4
  rw[←eh,←es] at h5
  have hL:=NG h s e2 e3 (by rw[aP];omega)
  have hb5:bs (dC (lI t++[vU]))=bs (dC (lI t))++⟨#[117,110,107,110,111,119,110,10]⟩:=by rw[hgs];exact(zi _ _).symm
  rw[hb5] at h5
  have hss:(bs s).size=s.length:=rfl
  have hos:(bs (h++s)).size=h.length+s.length:=aP
  have hgz:(bs (dC (lI t))).size=(dC (lI t)).length:=rfl
  have hex:(bs (h++s)).extract 0 (((bs (h++s)).size:Int)-(bs s).size).toNat++⟨#[119,104,97,116,10]⟩++bs s=bs (h++(qF++[10])++s):=by
   rw[hos,hss,show (((h.length+s.length:Nat):Int)-s.length).toNat=h.length by omega,lR]
   apply iE
   simp
  have hxz:((bs (h++s)).extract 0 (((h++s).length:Int)-s.length).toNat).size=h.length:=by
   rw[aP,show (((h.length+s.length:Nat):Int)-s.length).toNat=h.length by omega,lR,DQ]
   simp
  have hxz2:((bs (h++s)).extract 0 (((bs (h++s)).size:Int)-(bs s).size).toNat).size=h.length:=hxz
  clear es eh e1
  generalize exT t=e at *
  generalize dC (lI t)=g at *
  generalize hos2:h++s=os at *
  generalize h++(qF++[10])++s=ou at *
  refine ab aj Tryz.func3 rfl rfl false 0 4 rfl rfl rfl rfl fun K hK hb1 hb2=>?_;simp only[ae,enc,Nat.reduceAdd]
  clear hb1 hb2
  (repeat' first|((first|with_reducible refine aE ?_ (by assumption)|with_reducible refine aD ?_ (by assumption));conv=>whnf)|refine st ?_|refine sa fun xe hxe=>?_|refine sb (fun hq=>?_) fun hq=>?_|((with_reducible refine aF ?_)<;>conv=>whnf)|refine cr (hD) ?_|refine cr (h1) ?_|refine cr (h2) ?_|refine cr (h3) ?_|refine cr (h5) ?_|refine cr (h4) ?_|refine cr (hL) ?_|exact aa)
  all_goals first|exact bq _|(refine⟨congrArg V.bool ?_,rfl⟩;rw[hex];simp;done)|trace_state
end Go.Proofs.YtpefhoohfkeflabGreatDoor.Am
namespace Go.Proofs.YtpefhoohfkeflabGreatDoor.Am
open Go Go.RowKit Go.ChangeShapes Go.WideShapes Go.ChangeAt
theorem sQ {P:Program}{n:String}{zs:List Int}{k:IntKind}{r:List (String×DataW Unit)}{W:World}{g len:Nat}{t e:TypeId}
  (h:laidMet P ((n,.agg (zs.map fun z=>.lit (.int k z)))::r) W) (hg:P.globalNamed n=some g) (ht:(P.globals[g]?).map (·.type)=some t) (hi:P.underlying t=some (.array len e)) (he:P.underlying e=some (.int k)) (hc:P.cellsOf e=1) (hct:P.cellsOf t=len) (hl:zs.length=len):
  g<W.heap.size∧∃T fz,W.heap[g]?=some (.cells (zs.map (Value.int k)).toArray T fz):=by
 obtain⟨ps,⟨g0,t0,cs,f0,p0,q0,hg0,ht0,hv0,hd0,_,e0⟩,_,_⟩:=h
 obtain rfl:=aq (hg.symm.trans hg0)
 obtain rfl:=aq (ht.symm.trans ht0)
 obtain⟨xs,m,_,ex,hcl,hxl,hel⟩:=DataW.trod_array hi hd0
 have e3:xs.map (·.1)=zs.map fun z=>.lit (.int k z):=(DataW.agg.inj (Prod.mk.inj ex).1).symm
 have hcs:cs=(zs.map (Value.int k)).toArray:=by
  apply Array.ext'
  refine nW fun i=>?_
  by_cases hi2:i<len
  ·have hE:=hel i hi2
   rw[hc,iT,am (by omega)] at hE
   obtain⟨z,e1,e2,_⟩:=DataW.trod_int he hE
   have e4:(xs.map (·.1))[i]?=(zs.map fun z=>(DataW.lit (.int k z):DataW Unit))[i]?:=by rw[e3]
   rw[bf,bf,am (by omega:i<xs.length),am (by omega:i<zs.length),e2] at e4
   have hz:z=zs[i]:=by
    simp only[aI,aw,DataW.lit.injEq,Lit.int.injEq,true_and] at e4
    exact e4
   have h0:((cs.toList.drop i).take 1)[0]?=some (.int k z):=by rw[e1];rfl
   have h1:cs.toList[i]?=some (.int k z):=by simpa using h0
   rw[h1,hz,bf,am (by omega:i<zs.length)]
   rfl
  ·rw[ep (by omega),ep (by rw[aA];omega)]
 unfold World.var? at hv0
 rw[hg] at hv0
 simp only[bc] at hv0
 split at hv0
 ·rename_i c T fz hh
  obtain rfl:=aq hv0
  refine⟨?_,T,fz,by rw[←hcs];exact hh⟩
  rcases cG g W.heap.size with q|q
  ·exact q
  ·rw[Array.getElem?_eq_none q] at hh
   cases hh
 ·cases hv0
set_option maxRecDepth 100000 in
theorem sk {H:Type}{enc:TypeId×Value→H}{W:World}{sp:Nat→Bool}{hd:Bool}{v:Value}{d:DataW H}{p:List MemPlace}{base:Nat}
  (hv:Value.okWide Tryz.prog W .any base 22 v) (h:DataW.Trod enc Tryz.prog W 0 sp hd 22 v d p):∃c:List Int,(∀x∈c,0≤x∧x≤255)∧Rep (fun k=>k<W.heap.size) W (V.lst (.int .u8) c).toD v:=
 CK Tryz.underlying22 Tryz.underlying5 (by kernel_rfl) hv h
end Go.Proofs.YtpefhoohfkeflabGreatDoor.Am
namespace Go.Proofs.YtpefhoohfkeflabGreatDoor.Am
open Go Go.RowKit
theorem AM {w:Wrl}{m:Int}(h:w.views.getD m.toNat []=[]):wo w m=[]:=by
 apply List.eq_nil_iff_forall_not_mem.2
 intro s hs
 unfold wo at hs
 split at hs
 ·unfold ordS at hs
  split at hs
  ·obtain⟨v,hv1,rfl⟩:=aB.1 hs
   have hvg:=Af _ _ (fun v hv=>by cases hv) v hv1
   rw[h] at hvg
   cases hvg
  ·cases hs
 ·cases hs
abbrev IB:List UInt8:=[111,114,100,101,114,32,48,10,111,114,100,101,114,32,49,10,111,114,100,101,114,32,50,10]
theorem F1 {w:Wrl}(h4:w.com.length=4)(h3:w.bad=3)(h0:wo w (0:Nat)=[])(h1:wo w (1:Nat)=[])(h2:wo w (2:Nat)=[]):outO w=IB:=by
 rw[pX h4 h3]
 have d0:aQ ((0:Nat):Int)=[48]:=rfl
 have d1:aQ ((1:Nat):Int)=[49]:=rfl
 have d2:aQ ((2:Nat):Int)=[50]:=rfl
 simp only[dC,linM,bI,ec,List.flatten_cons,List.flatten_nil,d0,d1,d2,h0,h1,h2,bQ]
 rfl
theorem HT:exT []=IB:=by
 have:exT []=outR []:=zA (t:=[]) (by decide)
 rw[this]
 show []++outO yU=IB
 rw[dS]
 exact F1 rfl rfl (AM rfl) (AM rfl) (AM rfl)
attribute [local irreducible] Mk ci Ari fF mI jx ca cR iW fv At ag
set_option maxRecDepth 10000
theorem ON (c:List Int)(hc:∀x∈c,0≤x∧x≤255):ag Tryz.prog 5 [.lst (.int .u8) c] [] (.bool true) []:=by
 by_cases hl:1048576<c.length
 ·refine ab aj Tryz.func5 rfl rfl false 0 4 rfl rfl rfl rfl fun K hK hb1 hb2=>?_;simp only[ae,enc,Nat.reduceAdd]
  clear hb1 hb2
  (repeat' first|refine st ?_|refine sa fun xe hxe=>?_|refine sb (fun hq=>?_) fun hq=>?_|exact aa)
  exact⟨rfl,rfl⟩
 obtain⟨o,ho,hD⟩:=Ej c hc
 obtain⟨t,rfl⟩:∃t,o=bs t:=⟨o.data.toList,rfl⟩
 have hsz:(bs t).size=t.length:=rfl
 have h1:=GE t (by omega)
 have h2:=sN t (by omega)
 have h3:=sN [] (by decide)
 rw[HT] at h3
 generalize exT t=e at *
 refine ab aj Tryz.func5 rfl rfl false 0 4 rfl rfl rfl rfl fun K hK hb1 hb2=>?_;simp only[ae,enc,Nat.reduceAdd]
 clear hb1 hb2
 (repeat' first|refine st ?_|refine sa fun xe hxe=>?_|refine sb (fun hq=>?_) fun hq=>?_|refine cr (hD) ?_|refine cr (h1) ?_|refine cr (h2) ?_|refine cr (h3) ?_|exact aa)
 all_goals first|exact⟨rfl,rfl⟩|exact absurd trivial hq|exact bq IB|exact bq _|trace_state
end Go.Proofs.YtpefhoohfkeflabGreatDoor.Am
namespace Go.Proofs.YtpefhoohfkeflabGreatDoor.Am
open Go Go.RowKit
def yA:Nat→Wrl→Option Wrl
 |0,_=>none
 |n+1,w=>if fN w<fN (pass w)∧fN (pass w)≤1519 then yA n (pass w) else some (pass w)
theorem wi:∀(n:Nat) {w r:Wrl},yA n w=some r→cV w=r
 |0,_,_,h=>by cases h
 |n+1,w,r,h=>by
  rw[cV]
  unfold yA at h
  split at h
  ·rename_i hc
   rw[dif_pos hc]
   exact wi n h
  ·rename_i hc
   rw[dif_neg hc]
   exact aq h
def Gr (w:Wrl):Option Wrl:=yA 9 (iw w)
def A0 (w:Wrl):Nat→Option Wrl
 |0=>yA 9 w
 |r+1=>(A0 w r).bind fun u=>(Gr u).bind fun v=>Gr (dk v r v.com.length)
theorem yx {w r:Wrl}(h:Gr w=some r):fk w=r:=wi 9 h
theorem w6 {w:Wrl}:∀(n:Nat) {r:Wrl},A0 w n=some r→aU w n=r
 |0,_,h=>wi 9 h
 |n+1,r,h=>by
  unfold A0 at h
  obtain⟨u,h1,h⟩:=bw.1 h
  obtain⟨v,h2,h⟩:=bw.1 h
  show fk (dk (fk (aU w n)) n (fk (aU w n)).com.length)=r
  rw[w6 n h1,yx h2]
  exact yx h
instance vtxDec:DecidableEq Vtx:=fun u v=>decidable_of_iff (u.round=v.round∧u.author=v.author∧u.parents=v.parents∧u.digest=v.digest) ⟨fun h=>by cases u;cases v;simp at h;obtain⟨rfl,rfl,rfl,rfl⟩:=h;rfl,fun h=>by subst h;exact⟨rfl,rfl,rfl,rfl⟩⟩
def Mm (g:List Vtx):Nat→Vtx→Vtx→Bool
 |0,u,v=>decide (u=v)
 |n+1,u,v=>decide (u=v)||g.any fun x=>decide (x.round=u.round-1) && (decide (x.author∈u.parents) && Mm g n x v)
theorem Kg (g:List Vtx):∀(n:Nat) {u v:Vtx},Mm g n u v=true→Rv g u v
 |0,u,v,h=>by
  obtain rfl:u=v:=of_decide_eq_true h
  exact .refl u
 |n+1,u,v,h=>by
  unfold Mm at h
  rcases Bool.or_eq_true_iff.1 h with h|h
  ·obtain rfl:u=v:=of_decide_eq_true h
   exact .refl u
  ·obtain⟨x,hx,h⟩:=eZ.1 h
   simp only[az,decide_eq_true_eq] at h
   exact .step hx h.1 h.2.1 (Kg g n h.2.2)
theorem NO {g:List Vtx}{u v:Vtx}(h:Rv g u v):∀n:Nat,(u.round-v.round).toNat≤n→Mm g n u v=true:=by
 induction h with
 |refl u=>
  intro n _
  cases n<;>simp[Mm]
 |step hx h1 h2 h ih=>
  rename_i u x v
  intro n hn
  have hr:=h.round
  cases n with
  |zero=>omega
  |succ n=>
   unfold Mm
   rw[Bool.or_eq_true_iff]
   right
   refine eZ.2 ⟨x,hx,?_⟩
   simp only[az,decide_eq_true_eq]
   exact⟨h1,h2,ih n (by omega)⟩
def gC:List Vtx:=[⟨0,0,[],0⟩,⟨0,1,[],1⟩,⟨0,2,[],2⟩,⟨1,0,[0,1,2],7⟩,⟨1,1,[0,1,2],8⟩,⟨1,2,[0,1,2],9⟩,⟨2,0,[0,1,2],14⟩,⟨2,1,[0,1,2],15⟩,⟨2,2,[0,1,2],16⟩]
set_option maxRecDepth 100000 in
theorem Hx:(A0 yU 3).map (·.views)=some [gC,gC,gC,[]]:=by kernel_rfl
theorem w5:(aU yU 3).views=[gC,gC,gC,[]]:=by
 obtain⟨r,h1,h2⟩:=bj.1 Hx
 rw[w6 3 h1,h2]
theorem Om:(cmt [1,1,1,1] gC [0,1,2,0,1,2,0,1] 8).1=[1]:=by
 have h:∀n:Nat,1≤n→n<8→yX [1,1,1,1] gC [0,1,2,0,1,2,0,1] (n+1)=false:=by
  intro n h1 h2
  match n,h1,h2 with
  |1,_,_=>decide+kernel
  |2,_,_=>decide+kernel
  |3,_,_=>decide+kernel
  |4,_,_=>decide+kernel
  |5,_,_=>decide+kernel
  |6,_,_=>decide+kernel
  |7,_,_=>decide+kernel
 rw[jZ (h 7 (by decide) (by decide)),jZ (h 6 (by decide) (by decide)),jZ (h 5 (by decide) (by decide)),jZ (h 4 (by decide) (by decide)),jZ (h 3 (by decide) (by decide)),jZ (h 2 (by decide) (by decide)),jZ (h 1 (by decide) (by decide)),vd (by decide+kernel)]
 rfl
theorem OT:(ordG [1,1,1,1] gC [0,1,2,0,1,2,0,1]).map fl=[⟨0,0⟩,⟨0,1⟩,⟨0,2⟩,⟨1,0⟩]:=by
 have hl:pN gC [0,1,2,0,1,2,0,1] 1=some ⟨1,0,[0,1,2],7⟩:=by decide+kernel
 unfold ordG
 show (ordTo gC _ [] (cmt [1,1,1,1] gC [0,1,2,0,1,2,0,1] 8).1).map fl=_
 rw[Om,lm]
 show (ordTo gC _ _ []).map fl=_
 unfold ordTo ordW
 rw[hl]
 have hr:∀v∈gC,0≤v.round:=by decide
 have hfl:∀p:Vtx→Bool,(∀v∈gC,p v=Mm gC 1 ⟨1,0,[0,1,2],7⟩ v)→List.map fl ([]++gC.filter p)=[⟨0,0⟩,⟨0,1⟩,⟨0,2⟩,⟨1,0⟩]:=fun p hp=>by
  rw[mC hp]
  kernel_rfl
 refine hfl _ fun v hv=>?_
 have h0:=hr v hv
 rw[dR]
 simp only[az,decide_eq_true_eq]
 exact⟨fun h=>NO h.1 1 (by show ((1:Int)-v.round).toNat≤1;omega),fun h=>⟨Kg gC 1 h,by omega,by simp⟩⟩
theorem Hh (m:Nat)(hm:m<3):wo (aU yU 3) m=[⟨0,0⟩,⟨0,1⟩,⟨0,2⟩,⟨1,0⟩]:=by
 have hok:=iX Hc 3
 have hlb:=q8 yU 3
 have hv:=w5
 have hc:(aU yU 3).com=[1,1,1,1]:=hlb.2.2
 have hl:(aU yU 3).lead=[0,1,2,0,1,2,0,1]:=hlb.1
 have hg:(aU yU 3).views.getD (m:Int).toNat []=gC:=by
  rw[hv]
  match m,hm with
  |0,_=>rfl
  |1,_=>rfl
  |2,_=>rfl
 unfold wo
 rw[ig.2 hok,hg,hc,hl,if_pos (by match m,hm with|0,_=>rfl|1,_=>rfl|2,_=>rfl)]
 unfold ordS
 rw[if_pos (by decide+kernel)]
 exact OT
abbrev Ly:List UInt8:=[99,97,108,109,32,51,10]
abbrev NC:List UInt8:=[111,114,100,101,114,32,48,32,48,46,48,32,48,46,49,32,48,46,50,32,49,46,48,10,111,114,100,101,114,32,49,32,48,46,48,32,48,46,49,32,48,46,50,32,49,46,48,10,111,114,100,101,114,32,50,32,48,46,48,32,48,46,49,32,48,46,50,32,49,46,48,10]
theorem KM:exT Ly=NC:=by
 have e0:exT Ly=outR (lI Ly):=zA (t:=Ly) (by decide)
 have e1:(bW (lI Ly)).1=aU yU 3:=rfl
 have e2:(bW (lI Ly)).2=[]:=rfl
 have hlb:=q8 yU 3
 rw[e0,outR,e1,e2,dS,pX (by rw[hlb.2.2];rfl) hlb.2.1]
 have d0:aQ ((0:Nat):Int)=[48]:=rfl
 have d1:aQ ((1:Nat):Int)=[49]:=rfl
 have d2:aQ ((2:Nat):Int)=[50]:=rfl
 simp only[dC,linM,bI,ec,List.flatten_cons,List.flatten_nil,d0,d1,d2,Hh 0 (by decide),Hh 1 (by decide),Hh 2 (by decide)]
 rfl
attribute [local irreducible] Mk ci Ari fF mI jx ca cR iW fv At ag
set_option maxRecDepth 10000
theorem OM (c:List Int)(hc:∀x∈c,0≤x∧x≤255):ag Tryz.prog 4 [.lst (.int .u8) c] [] (.bool true) []:=by
 by_cases hl:1048576<c.length
 ·refine ab aj Tryz.func4 rfl rfl false 0 4 rfl rfl rfl rfl fun K hK hb1 hb2=>?_;simp only[ae,enc,Nat.reduceAdd]
  clear hb1 hb2
  (repeat' first|refine st ?_|refine sa fun xe hxe=>?_|refine sb (fun hq=>?_) fun hq=>?_|exact aa)
  exact⟨rfl,rfl⟩
 obtain⟨o,ho,hD⟩:=Ej c hc
 obtain⟨t,rfl⟩:∃t,o=bs t:=⟨o.data.toList,rfl⟩
 have hsz:(bs t).size=t.length:=rfl
 have h1:=GE t (by omega)
 have h2:=sN t (by omega)
 have h3:=sN Ly (by decide)
 rw[KM] at h3
 generalize exT t=e at *
 refine ab aj Tryz.func4 rfl rfl false 0 4 rfl rfl rfl rfl fun K hK hb1 hb2=>?_;simp only[ae,enc,Nat.reduceAdd]
 clear hb1 hb2
 (repeat' first|refine st ?_|refine sa fun xe hxe=>?_|refine sb (fun hq=>?_) fun hq=>?_|refine cr (hD) ?_|refine cr (h1) ?_|refine cr (h2) ?_|refine cr (h3) ?_|exact aa)
 all_goals first|exact⟨rfl,rfl⟩|exact absurd trivial hq|exact bq NC|exact bq _|trace_state

end Go.Proofs.YtpefhoohfkeflabGreatDoor.Am
