/- Scripts: the deferred closure of a line. Scripts: a line without a command. Scripts: execute's contract. Scripts: a line. Scripts: impl's Execute. Scripts: the laws of lines. Scripts: the empty script. Scripts: two contradicting proposals. A listed table of numbers, as it lies; an argument that is a text. -/
import Derived.Test.YtpefhoohfkeflacGreatDoorRows
import Derived.Tactics
import Derived.Tactics2
import Derived.Defers
import Derived.Recover
import Derived.Laws.Pointers
import Derived.WalkKit
import Derived.WalkLawsBesides
import Derived.Below
import Derived.Shelf.Strings.Count
import Derived.Stop.LaidErr
import Derived.OpenShut
import Derived.ChangeMaps5
import Derived.Test.YtpefhoohfkeflacGreatDoorEC13
set_option linter.unusedSimpArgs false
set_option linter.unusedVariables false
set_option maxHeartbeats 1000000
namespace Go.Proofs.YtpefhoohfkeflacGreatDoor.Am
open Go Go.RowKit Go.Shelf
abbrev MM (line:ByteArray):Value:=.iface 61 (.agg #[.string line])
set_option maxRecDepth 100000 in
theorem Ms (w:World):(Instr.typeAssert .nilIface 20 61 true).run Tryz.prog w= .ok (.tuple #[.agg #[.string ⟨#[]⟩],.bool false]) w:=by
 have hz:(Tryz.prog.info? 61).map (·.zero)=some (some (.agg #[.string ⟨#[]⟩])):=by kernel_rfl
 obtain⟨j,hj,hj2⟩:=bm.1 hz
 simp[Instr.typeAssert,run_underlying Tryz.underlying61,zeroValue,typeInfo,hj,hj2]
set_option maxRecDepth 100000 in
theorem Mr (line:ByteArray)(w:World):(Instr.typeAssert (MM line) 20 61 true).run Tryz.prog w= .ok (.tuple #[.agg #[.string line],.bool true]) w:=by
 have hz:(Tryz.prog.info? 61).map (·.zero)=some (some (.agg #[.string ⟨#[]⟩])):=by kernel_rfl
 obtain⟨j,hj,hj2⟩:=bm.1 hz
 simp[Instr.typeAssert,run_underlying Tryz.underlying61,zeroValue,typeInfo,hj,hj2]
set_option maxHeartbeats 1000000 in
set_option maxRecDepth 100000 in
theorem DM (p:Addr)(w:World):
  CallsD Tryz.prog 28 #[.pointer (some p)] .returning w fun e u' w'=>
   e= .returned (.tuple #[])∧u'= .returning∧Below w.heap.size w w':=by
 refine callsD_of_wpS Tryz.func28 rfl fun c₀ cs hu=>?_
 apply wpS_seq
 apply wpS_region
 simp[wpOpsS,go_sem,recoverD,hu,Tryz.ntmps28,Exit.thenS,Ms]
 apply wpS_seq
 apply wpS_region
 simp[wpOpsS,go_sem,recoverD,hu,Exit.thenS]
 refine wpS_cond (t:=false) (by simp[Act.eval,Array.replicate]) ?_
 simp only[eW,if_false]
 refine wpS_of_wp (wp_skip ?_)
 refine⟨rfl,c₀.mode,by cases c₀;rfl,.tuple #[],?_,rfl,hu,(Below.refl _ _).alloc (ax _) _⟩
 simp[results,Tryz.results28]
set_option maxHeartbeats 1000000 in
set_option maxRecDepth 100000 in
theorem CA (p:Addr)(pc:Value)(line:ByteArray)(w:World)(R:World→Prop)(hp:w.cell? p=some pc)
  (hP:∀w1,Below w.heap.size w w1→Calls Tryz.prog 29 #[pc,.string ⟨#[119,104,97,116]⟩] w1 fun e w'=>e= .returned (.tuple #[])∧R w'):
  CallsD Tryz.prog 28 #[.pointer (some p)] (.panicking [{v:=MM line,recovered:=false}]) w fun e u' w'=>
   e= .returned (.tuple #[])∧u'= .panicking [{v:=MM line,recovered:=true}]∧R w':=by
 have hpb:∀o:Obj,(w.alloc o).cell? p=some pc:=fun o=>by
  have hl:p.block<w.heap.size:=by
   rcases cG p.block w.heap.size with hl|hl
   ·exact hl
   ·have:w.heap[p.block]?=none:=by simp[hl]
    simp[World.cell?,this] at hp
  rw[←hp]
  exact World.cell?_of_block (((Below.refl w.heap.size w).alloc (ax _) o).block p.block hl)
 refine callsD_of_wpS Tryz.func28 rfl fun c₀ cs hu=>?_
 apply wpS_seq
 apply wpS_region
 simp[wpOpsS,go_sem,recoverD,hu,Tryz.ntmps28,Exit.thenS,Mr]
 apply wpS_seq
 apply wpS_region
 simp[wpOpsS,go_sem,recoverD,Exit.thenS]
 refine wpS_cond (t:=true) (by simp[Act.eval,Array.replicate]) ?_
 simp only[if_true]
 have hcl:=hpb (.cells #[.string line] 61)
 apply wpS_region
 have hE:∀args w,(callFunc 29 args).run Tryz.prog w= .ok (.enter 29 args) w:=enters_of Tryz.func29 (by kernel_rfl) rfl
 simp[wpOpsS,go_sem,hcl,hE]
 refine(hP _ ((Below.refl _ _).alloc (ax _) _)).mono ?_
 rintro e w' ⟨rfl,hR⟩
 exact⟨rfl,_,rfl,.tuple #[],by simp[results,Tryz.results28],rfl,rfl,hR⟩
theorem Kx (a:Addr)(line:ByteArray)(w:World)(R:World→Prop)
  (hC:∀w1,Below w.heap.size w w1→Calls Tryz.prog 30 #[.pointer (some a),.string line] w1 fun e w'=>e= .returned (.tuple #[])∧∀w2,Below w'.heap.size w' w2→R w2):
  Calls Tryz.prog 17 #[.pointer (some a),.string line] w fun e w'=>e= .returned (.tuple #[])∧R w':=by
 have hmf:∀(fn:Fn) (first cap:Array Value) (w:World),(Instr.makeFunc fn first cap).run Tryz.prog w= .ok (.func fn first cap) w:=fun _ _ _ _=>rfl
 have hc0:(w.alloc (.cells #[.pointer (some a)] 31)).cell? ⟨w.heap.size,0,none⟩=some (.pointer (some a)):=by rw[World.cell?_alloc_at _ _ _ _ rfl];rfl
 go_enter_defers Tryz.func17,Tryz.ntmps17
 go_wp2_with (fail)
 refine(hC _ ((Below.refl _ _).alloc (ax _) _)).mono ?_
 rintro e w' ⟨rfl,hR⟩
 dsimp only
 go_wp2
 refine leaves_cons (f:=28) (args:=#[.pointer (some ⟨w.heap.size,0,none⟩)]) (by simp) (by simp[go_sem]) ?_
 refine(DM ⟨w.heap.size,0,none⟩ _).mono ?_
 rintro e u' w'' ⟨rfl,rfl,hb⟩
 exact⟨.tuple #[],by simp[results,Tryz.results17,go_sem],rfl,hR _ hb⟩
theorem CD (a:Addr)(line:ByteArray)(w:World)(R:World→Prop)(hcm:∀w1,Below w.heap.size w w1→Calls Tryz.prog 30 #[.pointer (some a),.string line] w1 fun e w'=>e= .panicked [{v:=MM line,recovered:=false}]∧Below w1.heap.size w1 w')
  (hP:∀w1,Below w.heap.size w w1→Calls Tryz.prog 29 #[.pointer (some a),.string ⟨#[119,104,97,116]⟩] w1 fun e w'=>e= .returned (.tuple #[])∧R w'):
  Calls Tryz.prog 17 #[.pointer (some a),.string line] w fun e w'=>e= .returned (.tuple #[])∧R w':=by
 have hmf:∀(fn:Fn) (first cap:Array Value) (w:World),(Instr.makeFunc fn first cap).run Tryz.prog w= .ok (.func fn first cap) w:=fun _ _ _ _=>rfl
 have hc0:(w.alloc (.cells #[.pointer (some a)] 31)).cell? ⟨w.heap.size,0,none⟩=some (.pointer (some a)):=by rw[World.cell?_alloc_at _ _ _ _ rfl];rfl
 have hal:Below w.heap.size w (w.alloc (.cells #[.pointer (some a)] 31)):=(Below.refl _ _).alloc (ax _) _
 have hsz:(w.alloc (.cells #[.pointer (some a)] 31)).heap.size=w.heap.size+1:=World.size_alloc ..
 go_enter_defers Tryz.func17,Tryz.ntmps17
 go_wp2_with (fail)
 refine(hcm _ hal).mono ?_
 rintro e w' ⟨rfl,hb⟩
 dsimp only
 have hc1:w'.cell? ⟨w.heap.size,0,none⟩=some (.pointer (some a)):=by
  rw[←hc0]
  exact World.cell?_of_block (a:=⟨w.heap.size,0,none⟩) (hb.block w.heap.size (by omega))
 refine leaves_cons (f:=28) (args:=#[.pointer (some ⟨w.heap.size,0,none⟩)]) (by simp) (by simp[go_sem]) ?_
 refine(CA ⟨w.heap.size,0,none⟩ (.pointer (some a)) line w' R hc1 fun w1 hb1=>hP w1 ?_).mono ?_
 ·exact(hal.trans (hb.mono (by omega))).trans (hb1.mono (by have:=hb.size;omega))
 rintro e u' w'' ⟨rfl,rfl,hR⟩
 exact⟨.tuple #[],by simp[results,Tryz.results17,go_sem],rfl,hR⟩
end Go.Proofs.YtpefhoohfkeflacGreatDoor.Am
namespace Go.Proofs.YtpefhoohfkeflacGreatDoor.Am
open Go Go.RowKit
theorem pj {P:Program}{N:Nat}{K:Id→Prop}{Q:Exit→VSt→Prop}{σ:VSt}{Θ:TT}(hΘ:Θ.ok P){id:Nat}{ops:Array Oper}{od:Oper}{x:Tmp}{T:TypeId}{bt:ByteArray}(h1:ops.toList.getLast? =some od)(hod:od.op= .panic (.tmp x)∧od.guard=none)
  (h:lv P Θ ops (fun _=>[]) false N ops.toList.dropLast 0 [] σ (fun σ=>look (fL σ.t) x=some (.ifc T (.agg [.str bt]))∧Q (.panic [{v:=.iface T (.agg #[.string bt]),recovered:=false}]) σ)):At P N K (.region id ops false) Q σ:=by
 refine DA hΘ (l:=ops.toList.dropLast) (od:=od) ?_ hod h
 generalize ops.toList=k at *
 rcases List.eq_nil_or_concat k with rfl|⟨k,y,rfl⟩
 ·cases h1
 ·rw[List.concat_eq_append] at h1⊢
  simp only[List.getLast?_append,List.getLast?_singleton,Option.some_or,aw] at h1
  rw[List.dropLast_concat,h1]
attribute [local irreducible] Mk ci Ari fB mA ju b9 cR iT fo At ag
set_option maxRecDepth 10000
set_option maxHeartbeats 4000000 in
theorem Fh (l:List UInt8)(hl:l.length≤600)(hk:¬eU ((aK 32 l).getD 0 []))(hkl:(aK 32 l).getD 0 []≠qM):
  ∃fn c,Tryz.prog.funcs[30]?=some fn∧fn.body=some c∧2≤fn.ntmps∧At Tryz.prog fn.ntmps (fun _=>False) c (fun e _=>e= .panic [{v:=MM (bs l),recovered:=false}]) ⟨[(1,.str (bs l))],[],4⟩:=by
 refine⟨_,_,Tryz.func30,rfl,by decide,?_⟩
 have hS:=pE l 32 (by omega)
 have hle:=iQ 32 l
 have hlen:=eA 32 l
 have hmem:=fQ 32 l
 generalize aK 32 l=ws at *
 have hml:(ws.map bs).length=ws.length:=az ..
 have hx0:=fx ws (k:=0) (by omega)
 have hx1:=fx ws (k:=1) (by omega)
 have hx2:=fx ws (k:=2) (by omega)
 have hgl:=oI ws (fun x hx=>by have:=hmem x hx;omega)
 have n1:=jY _ (hgl 1)
 have n2:=jY _ (hgl 2)
 rw[ky] at n1 n2
 have e0:=yd ws (by omega)
 rw[e0] at hx0
 generalize (ws++[[],[]]).getD 1 []=g1 at *
 generalize (ws++[[],[]]).getD 2 []=g2 at *
 generalize cA ws 1=a at *
 generalize cA ws 2=b at *
 generalize ws.getD 0 []=k at *
 (repeat(any_goals(first|((first|with_reducible refine aF ?_ (by assumption)|with_reducible refine aE ?_ (by assumption));conv=>whnf)|(first|(with_reducible first|apply dQ|apply cU)|((first|refine pj (T:=61) (bt:=bs l) aj rfl ⟨rfl,rfl⟩ ?_|with_reducible apply cJ aj|refine go ?_|(with_reducible first|apply df|apply dp|apply cH|apply cK|refine cI aj mixed (by kernel_rfl) ?_))<;>conv=>whnf))|((first|refine Oq fun xe hxe=>?_|with_reducible refine DN (fun hq=>?_) fun hq=>?_)<;>conv=>whnf)|((with_reducible refine uc (fun hq=>?_) fun hq=>?_)<;>((try simp only[KL] at hq)<;>(first|omega|conv=>whnf)))|((with_reducible refine aG ?_)<;>conv=>whnf)|refine cr (hS) ?_)))
 obtain rfl:=ar (hx1.symm.trans hxe)
 clear hxe
 (repeat(any_goals(first|((first|with_reducible refine aF ?_ (by assumption)|with_reducible refine aE ?_ (by assumption));conv=>whnf)|(first|(with_reducible first|apply dQ|apply cU)|((first|refine pj (T:=61) (bt:=bs l) aj rfl ⟨rfl,rfl⟩ ?_|with_reducible apply cJ aj|refine go ?_|(with_reducible first|apply df|apply dp|apply cH|apply cK|refine cI aj mixed (by kernel_rfl) ?_))<;>conv=>whnf))|((first|refine Oq fun xe hxe=>?_|with_reducible refine DN (fun hq=>?_) fun hq=>?_)<;>conv=>whnf)|((with_reducible refine uc (fun hq=>?_) fun hq=>?_)<;>((try simp only[KL] at hq)<;>(first|omega|conv=>whnf)))|((with_reducible refine aG ?_)<;>conv=>whnf)|refine cr (n1) ?_)))
 obtain rfl:=ar (hx2.symm.trans hxe)
 clear hxe
 (repeat(any_goals(first|((first|with_reducible refine aF ?_ (by assumption)|with_reducible refine aE ?_ (by assumption));conv=>whnf)|(first|(with_reducible first|apply dQ|apply cU)|((first|refine pj (T:=61) (bt:=bs l) aj rfl ⟨rfl,rfl⟩ ?_|with_reducible apply cJ aj|refine go ?_|(with_reducible first|apply df|apply dp|apply cH|apply cK|refine cI aj mixed (by kernel_rfl) ?_))<;>conv=>whnf))|((first|refine Oq fun xe hxe=>?_|with_reducible refine DN (fun hq=>?_) fun hq=>?_)<;>conv=>whnf)|((with_reducible refine uc (fun hq=>?_) fun hq=>?_)<;>((try simp only[KL] at hq)<;>(first|omega|conv=>whnf)))|((with_reducible refine aG ?_)<;>conv=>whnf)|refine cr (n2) ?_)))
 all_goals (obtain rfl:=ar (hx0.symm.trans hxe);clear hxe)
 ·exact hk (.inl (qL hq))
 ·exact hk (.inr (.inl (qL hq)))
 ·exact hk (.inr (.inr (.inl (qL hq))))
 ·exact hk (.inr (.inr (.inr (.inl (qL hq)))))
 ·exact hk (.inr (.inr (.inr (.inr (.inl (qL hq))))))
 ·exact hk (.inr (.inr (.inr (.inr (.inr (qL hq))))))
 ·exact hkl (qL hq)
 ·exact⟨rfl,rfl⟩
end Go.Proofs.YtpefhoohfkeflacGreatDoor.Am
namespace Go.Proofs.YtpefhoohfkeflacGreatDoor.Am
open Go Go.RowKit
variable {P:Program} {w0:World} {S:SD} {A:Nat→Prop} {N:Nat} {ρ:Id→Pl} {t:List (Nat×D)} {h:HL} {a:Act} {w:World}
theorem Below.fr {S:Nat→Prop}{w w':World}(h:Below w.heap.size w w'):Fr S w w':=⟨h.os,h.tape,h.output,h.size,fun i hi _=>h.block i hi⟩
theorem Sim.later (s:Sim P w0 S A N ρ t h a w){w':World}(hb:Below w.heap.size w w'):Sim P w0 S A N ρ t h a w':=by
 refine s.step (s.fr.andThen (T:=fun _=>False) (Below.fr hb) fun i _ e=>e.elim) (fun b hb'=>⟨hb',rfl⟩) (fun k hk=>⟨⟨⟨kQ hk.1.1 hb.size,hk.1.2⟩,hk.2⟩,hb.block k hk.1.1⟩) (fun b x hx=>.inl ⟨hx,fun hm=>hb.block _ (s.own b x hx (by cases x<;>first|rfl|cases hm)).1⟩) hb.size s.inj
theorem Sim.rebase {w1:World}(s:Sim P w S A N ρ t h a w)(hb:Below w.heap.size w w1):Sim P w1 S A N ρ t h a w1:=by
 have s1:=s.later hb
 refine⟨fun k hk=>s.base k (cu hb.size hk),s.inS,Fr.refl _ _,s.defers,s.size,s1.tmp,s1.blk,fun b x hx hl=>⟨(s1.own b x hx hl).1,?_⟩,s.inj,fun g x hx=>?_,fun g zs hx=>?_⟩
 ·rcases (s.own b x hx hl).2 with q|q
  ·exact .inl q
  ·have:=(s.own b x hx hl).1;omega
 ·obtain⟨⟨q1,q2,q3⟩,ad,q4⟩:=s.gl.1 g x hx
  exact⟨⟨q1,q2,kQ q3 hb.size⟩,ad,(World.cell?_of_block (a:=⟨g,0,none⟩) (hb.block g q3)).trans q4⟩
 ·obtain⟨⟨q1,q2,q3⟩,T,fz,q4⟩:=s.gl.2 g zs hx
  exact⟨⟨q1,q2,kQ q3 hb.size⟩,T,fz,(hb.block g q3).trans q4⟩
theorem Sim.unbase {w1 w':World}{ρ':Id→Pl}{t':List (Nat×D)}{h':HL}{a':Act}(s:Sim P w S A N ρ t h a w)(hb:Below w.heap.size w w1)(s1:Sim P w1 S A N ρ' t' h' a' w'):Sim P w S A N ρ' t' h' a' w':=
 ⟨s.base,s.inS,(Below.fr hb).andThen s1.fr fun i _ e=>.inl e,s1.defers,s1.size,s1.tmp,s1.blk,fun b x hx hl=>⟨(s1.own b x hx hl).1,by
  rcases (s1.own b x hx hl).2 with q|q
  ·exact .inl q
  ·exact .inr (cu hb.size q)⟩,s1.inj,s.gl⟩
theorem Con.behind {f:FuncId}{ds:List D}{hin hout:HL}{r:D}(hC:Con P f ds hin r hout){w:World}{A:Nat→Prop}{ρ:Id→Pl}{vs:Array Value}(s:Sim P w (qv ρ hin) A 0 ρ [] hin ec w)(hl:ds.length=vs.size)
  (hcv:∀i,i<ds.length→C ρ (Live hin) (okOf A ρ hin w) w (ds.getD i .undef) (vs.getD i undef)) {w1:World} (hb:Below w.heap.size w w1):
  Calls P f vs w1 fun e w'=>∃u ρ',e= .returned u∧∀w2,Below w'.heap.size w' w2→(∀b,Live hin b→ρ' b=ρ b∧Live hout b)∧Sim P w (qv ρ hin) A 0 ρ' [] hout ec w2∧C ρ' (Live hout) (okOf A ρ' hout w') w' r u:=by
 refine(hC.2 w1 A ρ vs (s.rebase hb) hl fun i hi=>(hcv i hi).mono (fun b hb'=>⟨hb',rfl⟩) fun k hk=>⟨⟨⟨kQ hk.1.1 hb.size,hk.1.2⟩,hk.2⟩,hb.block k hk.1.1⟩).mono ?_
 rintro e w' ⟨u,ρ',rfl,h1,h2,h3⟩
 exact⟨u,ρ',rfl,fun w2 hb2=>⟨h1,(s.unbase hb h2).later hb2,h3⟩⟩
theorem mI {hin hout:HL}{b:Id}{line:ByteArray}(hC:Con Tryz.prog 30 [.ptr b 0,.str line] hin (.tup []) hout):Con Tryz.prog 17 [.ptr b 0,.str line] hin (.tup []) hout:=by
 refine⟨⟨_,Tryz.func17,rfl,rfl⟩,fun w A ρ vs s hl hcv=>?_⟩
 obtain⟨v0,v1,rfl⟩:=wK hl
 obtain⟨hlb,e0⟩:=(hcv 0 (Nat.zero_lt_two)).ptr_inv
 have e0:v0= .pointer (some ⟨(ρ b).blk,0,none⟩):=e0
 have e1:C ρ (Live hin) (okOf A ρ hin w) w (.str line) v1:=hcv 1 (Nat.one_lt_two)
 obtain rfl:=e1.str_inv
 subst e0
 refine(Kx ⟨(ρ b).blk,0,none⟩ line w (fun w2=>∃ρ',(∀b,Live hin b→ρ' b=ρ b∧Live hout b)∧Sim Tryz.prog w (qv ρ hin) A 0 ρ' [] hout ec w2) fun w1 hb=>?_).mono ?_
 ·refine(hC.behind s hl hcv hb).mono ?_
  rintro e w' ⟨u,ρ',rfl,h⟩
  obtain⟨-,-,h3⟩:=h w' (Below.refl _ _)
  obtain⟨vs,rfl,h4,-⟩:=h3.tup_inv
  have h4:0=vs.size:=h4
  obtain rfl:vs= #[]:=by
   apply Array.eq_empty_of_size_eq_zero
   omega
  exact⟨rfl,fun w2 hb2=>⟨ρ',(h w2 hb2).1,(h w2 hb2).2.1⟩⟩
 ·rintro e w' ⟨rfl,ρ',h1,h2⟩
  exact⟨_,ρ',rfl,h1,h2,.tup [] #[] rfl (fun i hi=>by simp at hi)⟩
theorem wX {hin hout:HL}{b:Id}{line:ByteArray}{fn:Func}{c:Code}(hf:Tryz.prog.funcs[30]?=some fn)(hc:fn.body=some c)(hN:2≤fn.ntmps)(hA:At Tryz.prog fn.ntmps (fun _=>False) c (fun e _=>e= .panic [{v:=MM line,recovered:=false}]) ⟨[(1,.str line)],[],4⟩)
  (hP:Con Tryz.prog 29 [.ptr b 0,.str ⟨#[119,104,97,116]⟩] hin (.tup []) hout):Con Tryz.prog 17 [.ptr b 0,.str line] hin (.tup []) hout:=by
 refine⟨⟨_,Tryz.func17,rfl,rfl⟩,fun w A ρ vs s hl hcv=>?_⟩
 obtain⟨v0,v1,rfl⟩:=wK hl
 obtain⟨hlb,e0⟩:=(hcv 0 (Nat.zero_lt_two)).ptr_inv
 have e0:v0= .pointer (some ⟨(ρ b).blk,0,none⟩):=e0
 have e1:C ρ (Live hin) (okOf A ρ hin w) w (.str line) v1:=hcv 1 (Nat.one_lt_two)
 obtain rfl:=e1.str_inv
 subst e0
 refine(CD ⟨(ρ b).blk,0,none⟩ line w (fun w2=>∃ρ',(∀b,Live hin b→ρ' b=ρ b∧Live hout b)∧Sim Tryz.prog w (qv ρ hin) A 0 ρ' [] hout ec w2) (fun w1 hb=>?_) fun w1 hb=>?_).mono ?_
 ·have s1:=s.rebase hb
  exact wS hf hc hN hA w1 _ ⟨fun g y hx=>⟨(s1.gl.1 g y hx).1.2.2,(s1.gl.1 g y hx).2⟩,fun g y hx=>⟨(s1.gl.2 g y hx).1.2.2,(s1.gl.2 g y hx).2⟩⟩
 ·refine(hP.behind s (vs:=#[.pointer (some ⟨(ρ b).blk,0,none⟩),.string ⟨#[119,104,97,116]⟩]) rfl (fun i hi=>?_) hb).mono ?_
  ·match i,hi with
   |0,_=>exact C.ptr b 0 hlb
   |1,_=>exact C.str _
  ·rintro e w' ⟨u,ρ',rfl,h⟩
   obtain⟨h1,h2,h3⟩:=h w' (Below.refl _ _)
   obtain⟨vs,rfl,h4,-⟩:=h3.tup_inv
   have h4:0=vs.size:=h4
   obtain rfl:vs= #[]:=by
    apply Array.eq_empty_of_size_eq_zero
    omega
   exact⟨rfl,ρ',h1,h2⟩
 ·rintro e w' ⟨rfl,ρ',h1,h2⟩
  exact⟨_,ρ',rfl,h1,h2,.tup [] #[] rfl (fun i hi=>by simp at hi)⟩
end Go.Proofs.YtpefhoohfkeflacGreatDoor.Am
namespace Go.Proofs.YtpefhoohfkeflacGreatDoor.Am
open Go Go.RowKit
theorem Lo {w:Wrl}(hw:WOK w)(l:List UInt8)(hl:l.length≤600)(ho:dW w (aK 32 l)=[]):ag Tryz.prog 17 [.ptr 4 0,.str (bs l)] (dq w) (.tup []) (dq (bY w (aK 32 l))):=by
 by_cases hk:eU ((aK 32 l).getD 0 [])
 ·exact mI (Lm hw l hl hk)
 ·unfold dW at ho
  rw[if_neg hk] at ho
  by_cases hkl:(aK 32 l).getD 0 []=qM
  ·rw[if_pos hkl] at ho
   have hC:=Bw hw l hl hkl
   have hs:bY w (aK 32 l)=w:=by unfold bY;rw[hkl];rfl
   have h0:w.props.length=0:=by
    rcases Nat.eq_zero_or_pos w.props.length with h|h
    ·exact h
    ·exfalso
     unfold ni at ho
     obtain⟨n,hn⟩:∃n,w.props.length=n+1:=⟨w.props.length-1,by omega⟩
     rw[hn] at ho
     simp[cM,tO] at ho
   rw[if_pos h0] at hC
   rw[hs]
   exact mI hC
  ·rw[if_neg hkl] at ho
   simp at ho
theorem Lp {w:Wrl}(hw:WOK w)(l:List UInt8)(hl:l.length≤600)(ho:dW w (aK 32 l)≠[]):ag Tryz.prog 17 [.ptr 4 0,.str (bs l)] (dq w) (.tup []) (bM (bY w (aK 32 l)) (dW w (aK 32 l))):=by
 by_cases hk:eU ((aK 32 l).getD 0 [])
 ·exact absurd (if_pos hk) ho
 ·unfold dW at ho⊢
  rw[if_neg hk] at ho⊢
  by_cases hkl:(aK 32 l).getD 0 []=qM
  ·rw[if_pos hkl] at ho⊢
   have hC:=Bw hw l hl hkl
   have hs:bY w (aK 32 l)=w:=by unfold bY;rw[hkl];rfl
   have h0:w.props.length≠0:=fun h=>ho (by unfold ni;rw[h];rfl)
   rw[if_neg h0] at hC
   rw[hs]
   exact mI hC
  ·rw[if_neg hkl]
   have hs:bY w (aK 32 l)=w:=by
    unfold eU at hk
    simp only[not_or] at hk
    unfold bY
    rw[if_neg hk.1,if_neg hk.2.1,if_neg hk.2.2.1,if_neg hk.2.2.2.1,if_neg hk.2.2.2.2.1,if_neg hk.2.2.2.2.2]
   rw[hs]
   obtain⟨fn,c,h1,h2,h3,h4⟩:=Fh l hl hk hkl
   exact wX h1 h2 h3 h4 (zD w Bv (by decide) (by decide))
theorem Lq {w:Wrl}(hw:WOK w)(o:List UInt8)(hol:o.length≤5000000)(l:List UInt8)(hl:l.length≤600)(ho:dW w (aK 32 l)=[]):ag Tryz.prog 17 [.ptr 4 0,.str (bs l)] (bM w o) (.tup []) (bM (bY w (aK 32 l)) o):=by
 by_cases hk:eU ((aK 32 l).getD 0 [])
 ·exact mI (Ln hw l hl o hk)
 ·unfold dW at ho
  rw[if_neg hk] at ho
  by_cases hkl:(aK 32 l).getD 0 []=qM
  ·rw[if_pos hkl] at ho
   have hC:=Bx hw l hl o hol hkl
   have hs:bY w (aK 32 l)=w:=by unfold bY;rw[hkl];rfl
   have h0:w.props.length=0:=by
    rcases Nat.eq_zero_or_pos w.props.length with h|h
    ·exact h
    ·exfalso
     unfold ni at ho
     obtain⟨n,hn⟩:∃n,w.props.length=n+1:=⟨w.props.length-1,by omega⟩
     rw[hn] at ho
     simp[cM,tO] at ho
   rw[if_pos h0] at hC
   rw[hs]
   exact mI hC
  ·rw[if_neg hkl] at ho
   simp at ho
theorem Lr {w:Wrl}(hw:WOK w)(o:List UInt8)(hol:o.length≤5000000)(l:List UInt8)(hl:l.length≤600)(ho:dW w (aK 32 l)≠[]):ag Tryz.prog 17 [.ptr 4 0,.str (bs l)] (bM w o) (.tup []) (jv (bY w (aK 32 l)) (o++dW w (aK 32 l))):=by
 by_cases hk:eU ((aK 32 l).getD 0 [])
 ·exact absurd (if_pos hk) ho
 ·unfold dW at ho⊢
  rw[if_neg hk] at ho⊢
  by_cases hkl:(aK 32 l).getD 0 []=qM
  ·rw[if_pos hkl] at ho⊢
   have hC:=Bx hw l hl o hol hkl
   have hs:bY w (aK 32 l)=w:=by unfold bY;rw[hkl];rfl
   have h0:w.props.length≠0:=fun h=>ho (by unfold ni;rw[h];rfl)
   rw[if_neg h0] at hC
   rw[hs]
   exact mI hC
  ·rw[if_neg hkl]
   have hs:bY w (aK 32 l)=w:=by
    unfold eU at hk
    simp only[not_or] at hk
    unfold bY
    rw[if_neg hk.1,if_neg hk.2.1,if_neg hk.2.2.1,if_neg hk.2.2.2.1,if_neg hk.2.2.2.2.1,if_neg hk.2.2.2.2.2]
   rw[hs]
   obtain⟨fn,c,h1,h2,h3,h4⟩:=Fh l hl hk hkl
   have hP:=nF w o Bv (by decide) (by show o.length+4≤_;omega)
   rw[bH] at hP
   exact wX h1 h2 h3 h4 hP
theorem JR (w:Wrl)(o:List UInt8)(h0:o≠[]):ag Tryz.prog 19 [.ptr 4 5] (bM w o) (.str (bs o)) [(4,.var 41 [.lst (.int .i64) w.com,.lst (.int .i64) w.lead,.int .i64 w.bad,.lst (.lst .vtx) w.views,.lst .ppl w.props,.ptr 4 5,.ref 5]),(5,.gone)]:=by
 have hr:((e9 o).map (D.int .u8))=o.map fun c=>D.int .u8 (c.toNat:Int):=by rw[e9,ep];rfl
 refine Hm (h:=toH (bM w o)) (b:=(4,0)) (b2:=(5,0)) rfl rfl ?_ h0 _ fun b'=>?_
 ·rw[←hr];rfl
 ·exact congrArg (fun z=>look z b') rfl
theorem Ib:ag Tryz.prog 15 [.lst (.int .i64) [1,1,1,1],.lst (.int .i64) [0,1,2,0,1,2,0,1],.int .i64 3] [] (.tup [bc MA,.bool true]) []:=by
 have h:=K5 [1,1,1,1] [0,1,2,0,1,2,0,1] 3
 rw[if_pos (by decide+kernel)] at h
 exact h
noncomputable def exS (ks:List (List UInt8)) (i:Nat):VSt:=
 if(cf (ks.take i)).2=[] then⟨[(3,.ptr 4 0),(27,.lst .str (ks.map bs)),(28,.int .i64 (ks.map bs).length),(29,.int .i64 (i:Int))],dq (cf (ks.take i)).1,5⟩
 else⟨[(3,.ptr 4 0),(27,.lst .str (ks.map bs)),(28,.int .i64 (ks.map bs).length),(29,.int .i64 (i:Int))],bM (cf (ks.take i)).1 (cf (ks.take i)).2,6⟩
theorem A9 {ks:List (List UInt8)}{i:Nat}{w:Wrl}(h:cf (ks.take i)=(w,[])):exS ks i=⟨[(3,.ptr 4 0),(27,.lst .str (ks.map bs)),(28,.int .i64 (ks.map bs).length),(29,.int .i64 (i:Int))],dq w,5⟩:=by
 unfold exS
 rw[h,if_pos rfl]
theorem xj {ks:List (List UInt8)}{i:Nat}{w:Wrl}{o:List UInt8}(h:cf (ks.take i)=(w,o))(h0:o≠[]):exS ks i=⟨[(3,.ptr 4 0),(27,.lst .str (ks.map bs)),(28,.int .i64 (ks.map bs).length),(29,.int .i64 (i:Int))],bM w o,6⟩:=by
 unfold exS
 rw[h,if_neg h0]
theorem ID {w:Wrl}(hc:w.com.length=4)(hb:w.bad=3):outO w≠[]:=by
 rw[J0 hc hb]
 simp[linO]
attribute [local irreducible] Mk ci Ari fB mA ju b9 cR iT fo At ag
set_option maxRecDepth 10000
set_option maxHeartbeats 4000000 in
theorem xy (t:List UInt8)(ht:t.length≤2000000):ag Tryz.prog 7 [.str (bs t)] [] (.str (bs (exT t))) []:=by
 have hsz:(bs t).size=t.length:=rfl
 unfold exT
 by_cases h6:600<t.length
 ·rw[if_pos h6]
  refine ab aj Tryz.func7 rfl rfl false 0 4 rfl rfl rfl rfl fun K hK hb1 hb2=>?_;simp only[ae,enc,Nat.reduceAdd]
  clear hb1 hb2
  (repeat' first|refine st ?_|refine sa fun xe hxe=>?_|refine sb (fun hq=>?_) fun hq=>?_|exact aa)
  exact⟨rfl,rfl⟩
 rw[if_neg h6]
 have hC:=pE t 10 (by omega)
 have hle:=iQ 10 t
 have hlen:=eA 10 t
 have hmem:=fQ 10 t
 generalize aK 10 t=ls at *
 have hml:(ls.map bs).length=ls.length:=az ..
 have hcut:lM (ls.map bs) none (some (.int .i64 (((ls.map bs).length:Int)-1))) 0 (((ls.map bs).length:Int)-1).toNat=ls.dropLast.map bs:=by
  have e:(((ls.map bs).length:Int)-1).toNat=ls.length-1:=by omega
  rw[e,List.dropLast_eq_take,List.map_take]
  rfl
 have hmem:∀x∈ls.dropLast,x.length≤600:=fun x hx=>by have:=hmem x (List.dropLast_subset _ hx);omega
 have hkl:ls.dropLast.length=ls.length-1:=List.length_dropLast
 have hN:=Ib
 generalize hk:ls.dropLast=ks at *
 refine ab aj Tryz.func7 rfl rfl false 0 4 rfl rfl rfl rfl fun K hK hb1 hb2=>?_;simp only[ae,enc,Nat.reduceAdd]
 clear hb1 hb2
 (repeat' first|refine st ?_|refine sa fun xe hxe=>?_|refine sb (fun hq=>?_) fun hq=>?_|refine cr (hC) ?_|refine cr (hN) ?_|exact aa)
 rw[hcut]
 have h0:=A9 (ks:=ks) (i:=0) (w:=MA) rfl
 refine ah hK [] [3,27,28,29] (exS ks) (fun i=>i≤ks.length) (fun i=>ks.length-i) 0 (aW _) (by rw[h0];rfl) ?_
 clear h0
 have hkm:(ks.map bs).length=ks.length:=az ..
 intro i hi
 have hol:=s9 (ks.take i)
 rw[bP,mz hi] at hol
 have hok:=rF (ks.take i)
 by_cases hlt:i<ks.length
 ·have hx:(ks.map bs)[i]?=some (bs ks[i]):=by rw[be,am hlt];rfl
  have hs:cf (ks.take (i+1))=qx (cf (ks.take i)) ks[i]:=by rw[b8 hlt,i6]
  have hll:=hmem _ (bd hlt)
  generalize hr:cf (ks.take i)=r at *
  generalize ks[i]=l at *
  obtain⟨w,o⟩:=r
  dsimp only at *
  by_cases ho:o=[]
  ·subst ho
   have e1:=A9 hr
   by_cases hst:dW w (aK 32 l)=[]
   ·have hE:=Lo hok l hll hst
    have e2:=A9 (ks:=ks) (i:=i+1) (w:=bY w (aK 32 l)) (by rw[hs,qx,hst];rfl)
    rw[e1]
    generalize bY w (aK 32 l)=u at *
    clear e1 hs hr hst hC hcut hk
    generalize ks.map bs=O at *
    (repeat' first|((first|with_reducible refine aF ?_ (by assumption)|with_reducible refine aE ?_ (by assumption));conv=>whnf)|refine st ?_|refine sa fun xe hxe=>?_|refine sb (fun hq=>?_) fun hq=>?_|((with_reducible refine aG ?_)<;>conv=>whnf)|refine co (hE) ?_|exact aa)
    exact⟨i+1,by omega,by omega,e2.symm⟩
   ·have hE:=Lp hok l hll hst
    have e2:=xj (ks:=ks) (i:=i+1) (w:=bY w (aK 32 l)) (o:=dW w (aK 32 l)) (by rw[hs];rfl) hst
    rw[e1]
    generalize bY w (aK 32 l)=u at *
    clear e1 hs hr hC hcut hk
    generalize dW w (aK 32 l)=so at *
    generalize ks.map bs=O at *
    (repeat' first|((first|with_reducible refine aF ?_ (by assumption)|with_reducible refine aE ?_ (by assumption));conv=>whnf)|refine st ?_|refine sa fun xe hxe=>?_|refine sb (fun hq=>?_) fun hq=>?_|((with_reducible refine aG ?_)<;>conv=>whnf)|refine co (hE) ?_|exact aa)
    exact⟨i+1,by omega,by omega,e2.symm⟩
  ·have e1:=xj hr ho
   by_cases hst:dW w (aK 32 l)=[]
   ·have hE:=Lq hok o (by omega) l hll hst
    have e2:=xj (ks:=ks) (i:=i+1) (w:=bY w (aK 32 l)) (o:=o) (by rw[hs,qx,hst,gw]) ho
    rw[e1]
    generalize bY w (aK 32 l)=u at *
    clear e1 hs hr hst hC hcut hk
    generalize ks.map bs=O at *
    (repeat' first|((first|with_reducible refine aF ?_ (by assumption)|with_reducible refine aE ?_ (by assumption));conv=>whnf)|refine st ?_|refine sa fun xe hxe=>?_|refine sb (fun hq=>?_) fun hq=>?_|((with_reducible refine aG ?_)<;>conv=>whnf)|refine co (hE) ?_|exact aa)
    exact⟨i+1,by omega,by omega,e2.symm⟩
   ·have hE:=Lr hok o (by omega) l hll hst
    have e2:=xj (ks:=ks) (i:=i+1) (w:=bY w (aK 32 l)) (o:=o++dW w (aK 32 l)) (by rw[hs];rfl) (by simp[ho])
    rw[e1]
    generalize bY w (aK 32 l)=u at *
    clear e1 hs hr hC hcut hk
    generalize o++dW w (aK 32 l)=so at *
    generalize ks.map bs=O at *
    (repeat' first|((first|with_reducible refine aF ?_ (by assumption)|with_reducible refine aE ?_ (by assumption));conv=>whnf)|refine st ?_|refine sa fun xe hxe=>?_|refine sb (fun hq=>?_) fun hq=>?_|((with_reducible refine aG ?_)<;>conv=>whnf)|refine co (hE) ?_|exact aa)
    exact⟨i+1,by omega,by omega,e2.symm⟩
 ·obtain rfl:i=ks.length:=by omega
  have hlb:=vY (ks.take ks.length)
  have htk:ks.take ks.length=ks:=iN
  generalize hr:cf (ks.take ks.length)=r at *
  have hr2:cf ks=r:=by rw[←hr,htk]
  rw[hr2]
  obtain⟨w,o⟩:=r
  dsimp only at *
  have hne:=ID (w:=w) (by rw[hlb.2.2];rfl) hlb.2.1
  by_cases ho:o=[]
  ·subst ho
   rw[A9 hr]
   have hF:=Ls hok (by rw[hlb.2.2];rfl) hlb.2.1
   have hT:=JR w (outO w) hne
   rw[eo]
   generalize outO w=oo at *
   clear hr hr2 hC hcut hk
   generalize ks.map bs=O at *
   (repeat' first|refine st ?_|refine sa fun xe hxe=>?_|refine sb (fun hq=>?_) fun hq=>?_|refine co (hF) ?_|refine co (hT) ?_|exact aa)
   exact⟨rfl,rfl⟩
  ·rw[xj hr ho]
   have hF:=Lt hok (by rw[hlb.2.2];rfl) hlb.2.1 o (by omega)
   have hT:=JR w (o++outO w) (by simp[ho])
   generalize o++outO w=oo at *
   clear hr hr2 hC hcut hk
   generalize ks.map bs=O at *
   (repeat' first|refine st ?_|refine sa fun xe hxe=>?_|refine sb (fun hq=>?_) fun hq=>?_|refine co (hF) ?_|refine co (hT) ?_|exact aa)
   exact⟨rfl,rfl⟩
end Go.Proofs.YtpefhoohfkeflacGreatDoor.Am
namespace Go.Proofs.YtpefhoohfkeflacGreatDoor.Am
open Go Go.RowKit
theorem wV:∀ls:List (List UInt8),(∀l∈ls,(10:UInt8)∉l)→(eY ls).count 10=ls.length
 |[],_=>rfl
 |l::ls,h=>by
  rw[ko,List.count_append,List.count_cons,List.count_eq_zero.2 (h l (by simp)),wV ls fun x hx=>h x (by simp[hx])]
  simp
theorem FS (ls:List (List UInt8)):∃h s:List UInt8,outR ls=h++s∧h=(cf ls).2∧s=outO (cf ls).1∧(h=[]∨∃g,h=g++[10])∧s.count 10=3∧24≤s.length∧(∃g,s=g++[10])∧h.length≤6820*ls.length∧s.length≤50000000:=by
 obtain⟨h,h1,h2⟩:=C4 ls
 have hok:=rF ls
 have hlb:=vY ls
 have h4:(cf ls).1.com.length=4:=by rw[hlb.2.2];rfl
 have hg:=uy h4 hlb.2.1
 refine⟨h,outO (cf ls).1,by rw[outR,h2],h2.symm,rfl,h1,?_,?_,?_,?_,?_⟩
 ·rw[hg,wV]
  ·rfl
  ·intro l hl
   simp only[aJ,gu,or_false] at hl
   rcases hl with rfl|rfl|rfl
   ·exact pI hok 0 (by decide)
   ·exact pI hok 1 (by decide)
   ·exact pI hok 2 (by decide)
 ·rw[hg]
  have hd:∀m:Nat,1≤(aQ (m:Int)).length:=fun m=>(aO (m:Int)).1
  have h0:=hd 0
  have h1:=hd 1
  have h2:=hd 2
  simp only[eY,linM,bK,eq,List.flatten_cons,List.flatten_nil,aP,bF,dz]
  omega
 ·rw[hg]
  exact⟨linM (cf ls).1 0++10::(linM (cf ls).1 1++10::linM (cf ls).1 2),by simp[eY]⟩
 ·rw[←h2];exact s9 ls
 ·have:=iY hok (cf ls).1.com.length
  rw[h4] at this
  unfold outO
  rw[h4]
  omega
theorem Ix (t:List UInt8):(oz t).length≤t.length:=by
 have h1:=iQ 10 t
 unfold oz
 rw[List.length_dropLast]
 omega
theorem Ej {ls:List (List UInt8)}(hf:∀l∈ls,(10:UInt8)∉l)(hl:(eY ls).length≤600):exT (eY ls)=outR ls:=by
 rw[vj hl,Ft ls hf]
theorem bq (k:List UInt8):V.bool ((bs k).toList==(bs k).toList)=V.bool true∧([]:VH)=[]:=⟨by simp,rfl⟩
attribute [local irreducible] Mk ci Ari fB mA ju b9 cR iT fo At ag
set_option maxRecDepth 10000
theorem Ov (c:List Int)(hc:∀x∈c,0≤x∧x≤255):ag Tryz.prog 4 [.lst (.int .u8) c] [] (.bool true) []:=by
 by_cases hl:1048576<c.length
 ·refine ab aj Tryz.func4 rfl rfl false 0 4 rfl rfl rfl rfl fun K hK hb1 hb2=>?_;simp only[ae,enc,Nat.reduceAdd]
  clear hb1 hb2
  (repeat' first|refine st ?_|refine sa fun xe hxe=>?_|refine sb (fun hq=>?_) fun hq=>?_|exact aa)
  exact⟨rfl,rfl⟩
 obtain⟨o,ho,hD⟩:=D7 c hc
 obtain⟨t,rfl⟩:∃t,o=bs t:=⟨o.data.toList,rfl⟩
 have hsz:(bs t).size=t.length:=rfl
 have h1:=Gr t (by omega)
 have h2:=xy t (by omega)
 by_cases h6:600<t.length
 ·generalize exT t=e at *
  refine ab aj Tryz.func4 rfl rfl false 0 4 rfl rfl rfl rfl fun K hK hb1 hb2=>?_;simp only[ae,enc,Nat.reduceAdd]
  clear hb1 hb2
  (repeat' first|refine st ?_|refine sa fun xe hxe=>?_|refine sb (fun hq=>?_) fun hq=>?_|refine cr (hD) ?_|refine cr (h1) ?_|refine cr (h2) ?_|exact aa)
  all_goals first|exact⟨rfl,rfl⟩|exact absurd trivial hq|exact bq _
 ·have hgl:=HQ t
  have h3:=MX t (by omega)
  have h4:=xy (eY (oz t)) (by omega)
  rw[Ej (xU t) (by omega),←vj (t:=t) (by omega)] at h4
  generalize exT t=e at *
  generalize eY (oz t)=g at *
  refine ab aj Tryz.func4 rfl rfl false 0 4 rfl rfl rfl rfl fun K hK hb1 hb2=>?_;simp only[ae,enc,Nat.reduceAdd]
  clear hb1 hb2
  (repeat' first|refine st ?_|refine sa fun xe hxe=>?_|refine sb (fun hq=>?_) fun hq=>?_|refine cr (hD) ?_|refine cr (h1) ?_|refine cr (h2) ?_|refine cr (h3) ?_|refine cr (h4) ?_|exact aa)
  all_goals first|exact⟨rfl,rfl⟩|exact absurd trivial hq|exact bq _
theorem Ow (c:List Int)(hc:∀x∈c,0≤x∧x≤255):ag Tryz.prog 5 [.lst (.int .u8) c] [] (.bool true) []:=by
 by_cases hl:1048576<c.length
 ·refine ab aj Tryz.func5 rfl rfl false 0 4 rfl rfl rfl rfl fun K hK hb1 hb2=>?_;simp only[ae,enc,Nat.reduceAdd]
  clear hb1 hb2
  (repeat' first|refine st ?_|refine sa fun xe hxe=>?_|refine sb (fun hq=>?_) fun hq=>?_|exact aa)
  exact⟨rfl,rfl⟩
 obtain⟨o,ho,hD⟩:=D7 c hc
 obtain⟨t,rfl⟩:∃t,o=bs t:=⟨o.data.toList,rfl⟩
 have hsz:(bs t).size=t.length:=rfl
 have h1:=Gr t (by omega)
 have h2:=xy t (by omega)
 by_cases h6:600<t.length
 ·have he:exT t=Fg:=if_pos h6
  rw[he] at h1 h2
  refine ab aj Tryz.func5 rfl rfl false 0 4 rfl rfl rfl rfl fun K hK hb1 hb2=>?_;simp only[ae,enc,Nat.reduceAdd]
  clear hb1 hb2
  (repeat' first|refine st ?_|refine sa fun xe hxe=>?_|refine sb (fun hq=>?_) fun hq=>?_|refine cr (hD) ?_|refine cr (h1) ?_|refine cr (h2) ?_|exact aa)
  all_goals first|exact⟨rfl,rfl⟩|exact absurd trivial hq|exact bq Fg
 ·obtain⟨h,s,e1,-,-,e2,e3,e4,⟨g,e5⟩,e6,e7⟩:=FS (oz t)
  have hll:=Ix t
  rw[vj (t:=t) (by omega),e1] at h1 h2
  have hL:=Np h s e2 e3 (by rw[aP];omega)
  have hss:(bs s).size=s.length:=rfl
  have hos:(bs (h++s)).size=h.length+s.length:=aP
  have hx:(h++s).getD ((((bs (h++s)).size:Int)-1).toNat) 0=10:=by
   rw[hos]
   have hgl:s.length=g.length+1:=by rw[e5];simp
   rw[show (((h.length+s.length:Nat):Int)-1).toNat=h.length+g.length by omega,aq,eJ (by omega),e5]
   simp
  generalize h++s=e at *
  refine ab aj Tryz.func5 rfl rfl false 0 4 rfl rfl rfl rfl fun K hK hb1 hb2=>?_;simp only[ae,enc,Nat.reduceAdd]
  clear hb1 hb2
  (repeat' first|refine st ?_|refine sa fun xe hxe=>?_|refine sb (fun hq=>?_) fun hq=>?_|refine cr (hD) ?_|refine cr (h1) ?_|refine cr (h2) ?_|refine cr (hL) ?_|exact aa)
  all_goals first|exact⟨congrArg V.bool (decide_eq_true (by omega)),rfl⟩|exact absurd (by rw[hx];rfl) hq|exact absurd trivial hq
end Go.Proofs.YtpefhoohfkeflacGreatDoor.Am
namespace Go.Proofs.YtpefhoohfkeflacGreatDoor.Am
open Go Go.RowKit
theorem Az {w:Wrl}{m:Int}(h:w.views.getD m.toNat []=[]):wo w m=[]:=by
 apply List.eq_nil_iff_forall_not_mem.2
 intro s hs
 unfold wo at hs
 split at hs
 ·unfold ordS at hs
  split at hs
  ·obtain⟨v,hv1,rfl⟩:=aB.1 hs
   have hvg:=zV _ _ (fun v hv=>by cases hv) v hv1
   rw[h] at hvg
   cases hvg
  ·cases hs
 ·cases hs
abbrev Im:List UInt8:=[111,114,100,101,114,32,48,10,111,114,100,101,114,32,49,10,111,114,100,101,114,32,50,10]
theorem FR {w:Wrl}(h4:w.com.length=4)(h3:w.bad=3)(h0:wo w (0:Nat)=[])(h1:wo w (1:Nat)=[])(h2:wo w (2:Nat)=[]):outO w=Im:=by
 rw[uy h4 h3]
 have d0:aQ ((0:Nat):Int)=[48]:=rfl
 have d1:aQ ((1:Nat):Int)=[49]:=rfl
 have d2:aQ ((2:Nat):Int)=[50]:=rfl
 simp only[eY,linM,bK,eq,List.flatten_cons,List.flatten_nil,d0,d1,d2,h0,h1,h2,bQ]
 rfl
attribute [local irreducible] Mk ci Ari fB mA ju b9 cR iT fo At ag
set_option maxRecDepth 10000
end Go.Proofs.YtpefhoohfkeflacGreatDoor.Am
namespace Go.Proofs.YtpefhoohfkeflacGreatDoor.Am
open Go Go.RowKit
abbrev xF:List UInt8:=[102,111,114,103,101,32,48,32,49,10,102,111,114,103,101,32,48,32,50,10,98,97,100,118,111,116,101,32,48,10,98,97,100,118,111,116,101,32,49,10,118,111,116,101,32,48,32,48,10,118,111,116,101,32,49,32,48,10,118,111,116,101,32,50,32,49,10,108,105,115,116,10]
abbrev In:List UInt8:=[48,32,48,46,51,32,49,32,118,111,116,101,115,32,51,10,49,32,48,46,51,32,50,32,118,111,116,101,115,32,50,10]
set_option maxRecDepth 100000 in
theorem NL:(cf (oz xF)).2=In:=by kernel_rfl
theorem NM:(cf (oz xF)).1.views=[[],[],[],[]]:=by kernel_rfl
theorem HD:exT xF=In++Im:=by
 have:exT xF=outR (oz xF):=vj (t:=xF) (by decide)
 have hlb:=vY (oz xF)
 have hv:=NM
 rw[this,outR,NL,FR (by rw[hlb.2.2];rfl) hlb.2.1 (Az (by rw[hv];rfl)) (Az (by rw[hv];rfl)) (Az (by rw[hv];rfl))]
attribute [local irreducible] Mk ci Ari fB mA ju b9 cR iT fo At ag
set_option maxRecDepth 10000
theorem Ox (c:List Int)(hc:∀x∈c,0≤x∧x≤255):ag Tryz.prog 3 [.lst (.int .u8) c] [] (.bool true) []:=by
 by_cases hl:1048576<c.length
 ·refine ab aj Tryz.func3 rfl rfl false 0 4 rfl rfl rfl rfl fun K hK hb1 hb2=>?_;simp only[ae,enc,Nat.reduceAdd]
  clear hb1 hb2
  (repeat' first|refine st ?_|refine sa fun xe hxe=>?_|refine sb (fun hq=>?_) fun hq=>?_|exact aa)
  exact⟨rfl,rfl⟩
 obtain⟨o,ho,hD⟩:=D7 c hc
 obtain⟨t,rfl⟩:∃t,o=bs t:=⟨o.data.toList,rfl⟩
 have hsz:(bs t).size=t.length:=rfl
 have h1:=Gr t (by omega)
 have h2:=xy t (by omega)
 have h3:=xy xF (by decide)
 rw[HD] at h3
 have h3:ag Tryz.prog 7 [.str ⟨([102,111,114,103,101,32,48,32,49,10,102,111,114,103,101,32,48,32,50,10,98,97,100,118,111,116,101,32,48,10,98,97,100,118,111,116].append [101,32,49,10,118,111,116,101,32,48,32,48,10,118,111,116,101,32,49,32,48,10,118,111,116,101,32,50,32,49,10,108,105,115,116,10]).toArray⟩] [] (.str (bs (In++Im))) []:=h3
 generalize exT t=e at *
 refine ab aj Tryz.func3 rfl rfl false 0 4 rfl rfl rfl rfl fun K hK hb1 hb2=>?_;simp only[ae,enc,Nat.reduceAdd]
 clear hb1 hb2
 (repeat' first|refine st ?_|refine sa fun xe hxe=>?_|refine sb (fun hq=>?_) fun hq=>?_|refine cr (hD) ?_|refine cr (h1) ?_|refine cr (h2) ?_|refine cr (h3) ?_|exact aa)
 all_goals first|exact⟨rfl,rfl⟩|exact absurd trivial hq|exact bq (In++Im)|exact bq _|trace_state
end Go.Proofs.YtpefhoohfkeflacGreatDoor.Am
namespace Go.Proofs.YtpefhoohfkeflacGreatDoor.Am
open Go Go.RowKit Go.ChangeShapes Go.WideShapes Go.ChangeAt
theorem sH {P:Program}{n:String}{zs:List Int}{k:IntKind}{r:List (String×DataW Unit)}{W:World}{g len:Nat}{t e:TypeId}
  (h:laidMet P ((n,.agg (zs.map fun z=>.lit (.int k z)))::r) W) (hg:P.globalNamed n=some g) (ht:(P.globals[g]?).map (·.type)=some t) (hi:P.underlying t=some (.array len e)) (he:P.underlying e=some (.int k)) (hc:P.cellsOf e=1) (hct:P.cellsOf t=len) (hl:zs.length=len):
  g<W.heap.size∧∃T fz,W.heap[g]?=some (.cells (zs.map (Value.int k)).toArray T fz):=by
 obtain⟨ps,⟨g0,t0,cs,f0,p0,q0,hg0,ht0,hv0,hd0,_,e0⟩,_,_⟩:=h
 obtain rfl:=ar (hg.symm.trans hg0)
 obtain rfl:=ar (ht.symm.trans ht0)
 obtain⟨xs,m,_,ex,hcl,hxl,hel⟩:=DataW.trod_array hi hd0
 have e3:xs.map (·.1)=zs.map fun z=>.lit (.int k z):=(DataW.agg.inj (Prod.mk.inj ex).1).symm
 have hcs:cs=(zs.map (Value.int k)).toArray:=by
  apply Array.ext'
  refine nS fun i=>?_
  by_cases hi2:i<len
  ·have hE:=hel i hi2
   rw[hc,iP,am (by omega)] at hE
   obtain⟨z,e1,e2,_⟩:=DataW.trod_int he hE
   have e4:(xs.map (·.1))[i]?=(zs.map fun z=>(DataW.lit (.int k z):DataW Unit))[i]?:=by rw[e3]
   rw[be,be,am (by omega:i<xs.length),am (by omega:i<zs.length),e2] at e4
   have hz:z=zs[i]:=by
    simp only[aI,aw,DataW.lit.injEq,Lit.int.injEq,true_and] at e4
    exact e4
   have h0:((cs.toList.drop i).take 1)[0]?=some (.int k z):=by rw[e1];rfl
   have h1:cs.toList[i]?=some (.int k z):=by simpa using h0
   rw[h1,hz,be,am (by omega:i<zs.length)]
   rfl
  ·rw[eg (by omega),eg (by rw[az];omega)]
 unfold World.var? at hv0
 rw[hg] at hv0
 simp only[ba] at hv0
 split at hv0
 ·rename_i c T fz hh
  obtain rfl:=ar hv0
  refine⟨?_,T,fz,by rw[←hcs];exact hh⟩
  rcases cG g W.heap.size with q|q
  ·exact q
  ·rw[Array.getElem?_eq_none q] at hh
   cases hh
 ·cases hv0
set_option maxRecDepth 100000 in
theorem r8 {H:Type}{enc:TypeId×Value→H}{W:World}{sp:Nat→Bool}{hd:Bool}{v:Value}{d:DataW H}{p:List MemPlace}{base:Nat}
  (hv:Value.okWide Tryz.prog W .any base 22 v) (h:DataW.Trod enc Tryz.prog W 0 sp hd 22 v d p):∃c:List Int,(∀x∈c,0≤x∧x≤255)∧Rep (fun k=>k<W.heap.size) W (V.lst (.int .u8) c).toD v:=
 Cy Tryz.underlying22 Tryz.underlying5 (by kernel_rfl) hv h

end Go.Proofs.YtpefhoohfkeflacGreatDoor.Am
