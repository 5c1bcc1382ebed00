/- The laws FnExactWorldDo, FnExactWorldCalm. From a contract to a row: what a law's call leaves; how an argument reads. Arguments of the exact laws on graphs: how they read. Arguments of the exact laws on runs: how they read. Arguments of the exact laws on events: how they read. -/
import Derived.WalkKit
import Derived.ProofKit
import Derived.OpenShut
import Derived.Carry
import Derived.ChangeSlices
import Derived.ChangeSame
import Derived.Test.YthmfppknagbkeaaGreatRows
import Derived.Test.YthmfppknagbkeaaGreatDC11
set_option linter.unusedSimpArgs false
set_option linter.unusedVariables false
set_option maxHeartbeats 1000000
namespace Go.Proofs.YthmfppknagbkeaaGreat.Am
open Go
attribute [local irreducible] Mk bN Ari fe pI km cj eC ja iB At ah
set_option maxRecDepth 10000
theorem rE:∀(hs:List (Option Nat)) (k:Int) (pss:List (List Int)) (vss:List (List VtxO)),(cd hs k pss vss).2.2.length=vss.length
 |[],_,_,_=>rfl
 |x::l,k,pss,vss=>by simp only[cd];rw[rE l,List.length_set]
theorem qc (u:Wrl)(h1:cW u≤100000000)(h2:u.views.length≤1048576):
  ∃(a:List (List VtxO)) (b:List (List Int)) (c:List PplO) (d:List (List Vtx)) (e:List Ppl),ao (VB.frow 43 (.vtxo 3) (fE (aI u.props).length u.views))≤ao (VB.frow 43 (.vtxo 3) a)∧ao (VB.frow 3 (.int .i64) (aI u.props++bd u.views))≤ao (VB.frow 3 (.int .i64) b)∧
   (yx b a ((List.range u.views.length).map some))[0]?=some d∧(yy b b c)[0]?=some e∧
   ah Tryz.prog 11 [wC u.bad,.int .i64 1] (Bn u) (.int .i64 (1+cW u)) [(2,.frow 43 (.vtxo 3) a),(3,.frow 3 (.int .i64) b),(4,.row 3 (.int .i64) (mk 1 u.com.length)),(5,.row 3 (.int .i64) (mk (1+u.com.length) u.lead.length)),(6,.row 102 (.hr 2) ((List.range u.views.length).map some)),(7,.row 104 (.pplo 3 3) c)]∧
   ah Tryz.prog 12 [.agg [.lst (.int .i64) (mk 1 u.com.length),.lst (.int .i64) (mk (1+u.com.length) u.lead.length),.int .i64 u.bad,.lst (.lst .vtx) d,.lst .ppl e],.int .i64 1] [] (.int .i64 (1+cW u)) []:=by
 have hW:=wB u.views u.props
 have hc:(u.com.length+u.lead.length+cG u.views+cP u.props:Nat)=cW u:=rfl
 obtain⟨⟨x,y⟩,⟨hx,hy⟩,hM⟩:=tI u.com u.lead u.bad _ _ _ _ _ _ 1 hW (by simpa using h2) (by omega)
 obtain⟨m1,m2,m3,m4,m5⟩:=hW.mark (1+u.com.length+u.lead.length)
 dsimp only at hx hy hM m3
 rw[←hx,←hy] at m3 m4
 rw[←hx,←hy] at m5
 have hH:=mE u 1 h2 (by omega)
 have hy2:y.1=1+cW u:=by rw[m3];omega
 rw[hy2] at hM
 refine⟨_,_,_,_,_,?_,?_,m4,m5,hM,hH⟩
 ·rw[hx]
  simp[ao,rE]
 ·refine eG _ ?_
  rw[hy,ft,hx,gx]
theorem tf (w:Wrl)(h:Cf w≤1048576)(hs:Small w):
  ∃(a:List (List VtxO)) (b:List (List Int)) (c:List PplO),ao (VB.frow 43 (.vtxo 1) (fE 0 w.views))≤ao (VB.frow 43 (.vtxo 1) a)∧ao (VB.frow 3 (.int .i64) (bd w.views++aI w.props))≤ao (VB.frow 3 (.int .i64) b)∧
   ah Tryz.prog 11 [wC w.bad,.int .i64 1] [(0,.frow 43 (.vtxo 1) (fE 0 w.views)),(1,.frow 3 (.int .i64) (bd w.views++aI w.props)),(4,.row 3 (.int .i64) w.com),(5,.row 3 (.int .i64) w.lead),(6,.row 102 (.hr 0) ((List.range w.views.length).map some)),(7,.row 104 (.pplo 1 1) (fN (bd w.views).length w.props))] (.int .i64 (1+cW w))
    [(0,.frow 43 (.vtxo 1) a),(1,.frow 3 (.int .i64) b),(4,.row 3 (.int .i64) (mk 1 w.com.length)),(5,.row 3 (.int .i64) (mk (1+w.com.length) w.lead.length)),(6,.row 102 (.hr 0) ((List.range w.views.length).map some)),(7,.row 104 (.pplo 1 1) c)]∧cW w≤10000000:=by
 have hW:=su w.views w.props
 have hc:(w.com.length+w.lead.length+cG w.views+cP w.props:Nat)=cW w:=rfl
 have hcn:=Ey h
 obtain⟨⟨x,y⟩,⟨hx,hy⟩,hM⟩:=tJ w.com w.lead w.bad _ _ _ _ _ _ 1 hW (by simpa using hs.vlen) (by omega)
 obtain⟨m1,m2,m3,-,-⟩:=hW.mark (1+w.com.length+w.lead.length)
 dsimp only at hx hy hM m3
 rw[←hx,←hy] at m3
 have hy2:y.1=1+cW w:=by rw[m3];omega
 rw[hy2] at hM
 refine⟨_,_,_,?_,?_,hM,by omega⟩
 ·rw[hx]
  simp[ao,rE]
 ·refine eG _ ?_
  rw[hy,ft,hx,gx]
set_option maxHeartbeats 16000000 in
theorem yK (w:Wrl)(e:Evt):ah Tryz.prog 4 [aG w,jM e] [] (.bool true) []:=by
 have hsz:=qn w 1048576 (by omega)
 unfold lw at hsz
 refine aa ak Tryz.func4 rfl rfl false 0 4 rfl rfl rfl rfl fun K hK hb1 hb2=>?_;simp only[ae,enc,Nat.reduceAdd]
 clear hb1 hb2
 by_cases hl:(1048576:Int)-(Cf w:Nat)<0
 ·rw[if_pos hl] at hsz
  (repeat' first|refine st ?_|refine sa fun xe hxe=>?_|refine sb (fun hq=>?_) fun hq=>?_|refine cr (hsz) ?_|exact True.intro)
  exact⟨rfl,rfl⟩
 rw[if_neg hl] at hsz
 have hsz2:=y7 e (1048576-(Cf w:Nat)) (by omega)
 unfold lw at hsz2
 by_cases hl2:(1048576:Int)-(Cf w:Nat)-e.v.parents.length<0
 ·rw[if_pos hl2] at hsz2
  (repeat' first|refine st ?_|refine sa fun xe hxe=>?_|refine sb (fun hq=>?_) fun hq=>?_|refine cr (hsz) ?_|refine cr (hsz2) ?_|exact True.intro)
  exact⟨rfl,rfl⟩
 rw[if_neg hl2] at hsz2
 have hs:Small w:=uz (by omega)
 have hvw:∀g∈w.views,g.length≤2000000:=fun g hg=>by have:=(hs.view g hg).1;omega
 have hep:e.v.parents.length≤1048576:=by omega
 obtain⟨a0,b0,c0,hF0,hF1,hM0,hc0⟩:=tf w (by omega) hs
 have hI:=Gp w e hvw
 have hS:=FL w e (by have:=hs.com;omega) (by omega)
 have hO:=qq w hs
 have hT:=qp w hs
 have hEw:=gh w
 have hW:=su w.views w.props
 have hd1:=hW.readG
 have hd2:=hW.readP
 have hTe:=za e hep
 have hTo:=zb e hep
 have hEe:=yz e
 have hMe:=tH e (1+cW w) (by omega)
 generalize fE 0 w.views=vss at *
 generalize fN (bd w.views).length w.props=pso at *
 generalize bd w.views++aI w.props=pss at *
 generalize (List.range w.views.length).map some=hh at *
 clear hW
 cases hv:eS w
 ·rw[hv] at hI hS
  simp only[Bool.false_eq_true,if_false] at hI hS
  (repeat' first|refine st ?_|refine sa fun xe hxe=>?_|refine sb (fun hq=>?_) fun hq=>?_|refine cr (hsz) ?_|refine cr (hsz2) ?_|exact True.intro)
  refine cr hT ?_
  (conv=>whnf)
  refine cr hTe ?_
  (repeat' first|refine st ?_|refine sa fun xe hxe=>?_|refine sb (fun hq=>?_) fun hq=>?_|refine cr (hS) ?_|refine cr (hO) ?_|exact True.intro)
  (repeat' first|refine st ?_|refine sa fun xe hxe=>?_|refine sb (fun hq=>?_) fun hq=>?_|refine cr (hTo) ?_|exact True.intro)
  (repeat' first|refine st ?_|refine sa fun xe hxe=>?_|refine sb (fun hq=>?_) fun hq=>?_|((with_reducible refine iG ?_);(conv=>whnf))|((first|with_reducible refine ax (hI) ?_);conv=>whnf)|exact True.intro)
  (repeat' first|refine st ?_|refine sa fun xe hxe=>?_|refine sb (fun hq=>?_) fun hq=>?_|refine cr (hT) ?_|refine cr (hTe) ?_|refine cr (hI) ?_|refine cr (ji) ?_|refine cr (hEe) ?_|refine cr (mG _) ?_|((with_reducible refine ch ?_);(conv=>whnf);(first|with_reducible refine ax (mD _ (by omega)) ?_);conv=>whnf)|refine co (hM0) ?_|refine co (hMe) ?_|((with_reducible refine iG ?_);(conv=>whnf))|((first|with_reducible refine ax (hEw) ?_|with_reducible refine ax (ji) ?_);conv=>whnf)|exact True.intro)
  all_goals first|(exact⟨rfl,rfl⟩)|exact absurd rfl hq|exact absurd trivial hq|cases hq
 ·rw[hv] at hI hS
  simp only[if_true] at hI hS
  have hO2:=Gq w e hvw hv
  have hok:=kg (dS.1 hv) e
  have hcw:=Cd hok
  obtain⟨a,b,c,d,f,hG0,hG1,hr1,hr2,hM,hH⟩:=qc (dX w e) (by omega) (by omega)
  have hE:=gh (dX w e)
  have hWu:=wB (dX w e).views (dX w e).props
  have hu1:=hWu.readG
  have hu2:=hWu.readP
  clear hWu hok
  generalize dX w e=u at *
  obtain⟨uc,ul,ub,uv,up⟩:=u
  dsimp only[Bn,aG] at *
  generalize cW ⟨uc,ul,ub,uv,up⟩=cu at *
  generalize fE (aI up).length uv=vss2 at *
  generalize aI up++bd uv=pss2 at *
  generalize fN 0 up=pso2 at *
  generalize (List.range uv.length).map some=hh2 at *
  (repeat' first|refine st ?_|refine sa fun xe hxe=>?_|refine sb (fun hq=>?_) fun hq=>?_|refine cr (hsz) ?_|refine cr (hsz2) ?_|exact True.intro)
  refine cr hT ?_
  (conv=>whnf)
  refine cr hTe ?_
  (repeat' first|refine st ?_|refine sa fun xe hxe=>?_|refine sb (fun hq=>?_) fun hq=>?_|refine cr (hS) ?_|refine cr (hO) ?_|exact True.intro)
  (repeat' first|refine st ?_|refine sa fun xe hxe=>?_|refine sb (fun hq=>?_) fun hq=>?_|refine cr (hTo) ?_|exact True.intro)
  (repeat' first|refine st ?_|refine sa fun xe hxe=>?_|refine sb (fun hq=>?_) fun hq=>?_|((with_reducible refine iG ?_);(conv=>whnf))|((first|with_reducible refine ax (hO2) ?_);conv=>whnf)|exact True.intro)
  (repeat' first|refine st ?_|refine sa fun xe hxe=>?_|refine sb (fun hq=>?_) fun hq=>?_|refine cr (hT) ?_|refine cr (hTe) ?_|refine cr (hI) ?_|refine cr (hE) ?_|refine cr (hEe) ?_|refine co (hM0) ?_|refine co (hMe) ?_|refine co (hM) ?_|((with_reducible refine iG ?_);(conv=>whnf))|((first|with_reducible refine ax (hE) ?_|with_reducible refine ax (hEw) ?_|with_reducible refine ax (hH) ?_);conv=>whnf)|exact True.intro)
  all_goals first|(exact⟨rfl,rfl⟩)|exact absurd rfl hq|exact absurd trivial hq|cases hq
theorem CO (w:Wrl)(r:Int)(hr:r<0∨12<r):ah Tryz.prog 9 [aG w,.int .i64 r] [] wD []:=by
 refine aa aR Tryz.func9 rfl rfl true 0 4 rfl rfl rfl rfl fun K hK hb1 hb2=>?_;simp only[ae,enc,Nat.reduceAdd]
 clear hb1 hb2
 by_cases hr0:r<0
 ·(repeat' first|refine aY ?_|refine sa fun xe hxe=>?_|refine sb (fun hq=>?_) fun hq=>?_|exact True.intro)
  exact⟨rfl,rfl⟩
 have hr1:12<r:=by omega
 (repeat' first|refine aY ?_|refine sa fun xe hxe=>?_|refine sb (fun hq=>?_) fun hq=>?_|exact True.intro)
 exact⟨rfl,rfl⟩
set_option maxHeartbeats 16000000 in
theorem tC (w:Wrl)(r:Int):ah Tryz.prog 3 [aG w,.int .i64 r] [] (.bool true) []:=by
 have hsz:=qn w 1048576 (by omega)
 unfold lw at hsz
 refine aa ak Tryz.func3 rfl rfl false 0 4 rfl rfl rfl rfl fun K hK hb1 hb2=>?_;simp only[ae,enc,Nat.reduceAdd]
 clear hb1 hb2
 by_cases hl:(1048576:Int)-(Cf w:Nat)<0
 ·rw[if_pos hl] at hsz
  (repeat' first|refine st ?_|refine sa fun xe hxe=>?_|refine sb (fun hq=>?_) fun hq=>?_|refine cr (hsz) ?_|exact True.intro)
  exact⟨rfl,rfl⟩
 rw[if_neg hl] at hsz
 have hs:Small w:=uz (by omega)
 have hvw:∀g∈w.views,g.length≤2000000:=fun g hg=>by have:=(hs.view g hg).1;omega
 obtain⟨a0,b0,c0,hF0,hF1,hM0,hc0⟩:=tf w (by omega) hs
 have hS:=BW w r (by have:=hs.com;omega)
 have hO:=qq w hs
 have hT:=qp w hs
 have hEw:=gh w
 have hW:=su w.views w.props
 have hd1:=hW.readG
 have hd2:=hW.readP
 generalize fE 0 w.views=vss at *
 generalize fN (bd w.views).length w.props=pso at *
 generalize bd w.views++aI w.props=pss at *
 generalize (List.range w.views.length).map some=hh at *
 clear hW
 cases hv:(decide (0≤r∧r≤12) && eS w)
 ·have hI:ah Tryz.prog 9 [aG w,.int .i64 r] [] wD []:=by
   by_cases hr:0≤r∧r≤12
   ·have:=xn w r hvw (by omega)
    rwa [hv,if_neg (by simp)] at this
   ·exact CO w r (by omega)
  rw[hv] at hS
  simp only[Bool.false_eq_true,if_false] at hS
  (repeat' first|refine st ?_|refine sa fun xe hxe=>?_|refine sb (fun hq=>?_) fun hq=>?_|refine cr (hsz) ?_|exact True.intro)
  refine cr hT ?_
  (repeat' first|refine st ?_|refine sa fun xe hxe=>?_|refine sb (fun hq=>?_) fun hq=>?_|refine cr (hS) ?_|refine cr (hO) ?_|exact True.intro)
  (repeat' first|refine st ?_|refine sa fun xe hxe=>?_|refine sb (fun hq=>?_) fun hq=>?_|((with_reducible refine iG ?_);(conv=>whnf))|((first|with_reducible refine ax (hI) ?_);conv=>whnf)|exact True.intro)
  (repeat' first|refine st ?_|refine sa fun xe hxe=>?_|refine sb (fun hq=>?_) fun hq=>?_|refine cr (hT) ?_|refine cr (hI) ?_|refine cr (ji) ?_|refine cr (mG _) ?_|((with_reducible refine ch ?_);(conv=>whnf);(first|with_reducible refine ax (mD _ (by omega)) ?_);conv=>whnf)|refine co (hM0) ?_|((with_reducible refine iG ?_);(conv=>whnf))|((first|with_reducible refine ax (hEw) ?_|with_reducible refine ax (ji) ?_);conv=>whnf)|exact True.intro)
  all_goals first|(exact⟨rfl,rfl⟩)|exact absurd rfl hq|exact absurd trivial hq|cases hq
 ·have hr:0≤r∧r≤12:=of_decide_eq_true (Bool.and_eq_true_iff.1 hv).1
  have hw:=(Bool.and_eq_true_iff.1 hv).2
  have hI:=xn w r hvw (by omega)
  rw[hv] at hI hS
  simp only[if_true] at hI hS
  have hO2:=CN w r hvw hr hw
  have hok:=ec (dS.1 hw) r.toNat
  have hcw:=Cd hok
  obtain⟨a,b,c,d,f,hG0,hG1,hr1,hr2,hM,hH⟩:=qc (aC w r.toNat) (by omega) (by omega)
  have hE:=gh (aC w r.toNat)
  have hWu:=wB (aC w r.toNat).views (aC w r.toNat).props
  have hu1:=hWu.readG
  have hu2:=hWu.readP
  clear hWu hok
  generalize aC w r.toNat=u at *
  obtain⟨uc,ul,ub,uv,up⟩:=u
  dsimp only[Bn,aG] at *
  generalize cW ⟨uc,ul,ub,uv,up⟩=cu at *
  generalize fE (aI up).length uv=vss2 at *
  generalize aI up++bd uv=pss2 at *
  generalize fN 0 up=pso2 at *
  generalize (List.range uv.length).map some=hh2 at *
  (repeat' first|refine st ?_|refine sa fun xe hxe=>?_|refine sb (fun hq=>?_) fun hq=>?_|refine cr (hsz) ?_|exact True.intro)
  refine cr hT ?_
  (repeat' first|refine st ?_|refine sa fun xe hxe=>?_|refine sb (fun hq=>?_) fun hq=>?_|refine cr (hS) ?_|refine cr (hO) ?_|exact True.intro)
  (repeat' first|refine st ?_|refine sa fun xe hxe=>?_|refine sb (fun hq=>?_) fun hq=>?_|((with_reducible refine iG ?_);(conv=>whnf))|((first|with_reducible refine ax (hO2) ?_);conv=>whnf)|exact True.intro)
  (repeat' first|refine st ?_|refine sa fun xe hxe=>?_|refine sb (fun hq=>?_) fun hq=>?_|refine cr (hT) ?_|refine cr (hI) ?_|refine cr (hE) ?_|refine co (hM0) ?_|refine co (hM) ?_|((with_reducible refine iG ?_);(conv=>whnf))|((first|with_reducible refine ax (hE) ?_|with_reducible refine ax (hEw) ?_|with_reducible refine ax (hH) ?_);conv=>whnf)|exact True.intro)
  all_goals first|(exact⟨rfl,rfl⟩)|exact absurd rfl hq|exact absurd trivial hq|cases hq
end Go.Proofs.YthmfppknagbkeaaGreat.Am
namespace Go.Proofs.YthmfppknagbkeaaGreat.Am
open Go Go.RowKit Go.ChangeShapes Go.WideShapes Go.ChangeAt
section
variable {H:Type} {enc:TypeId×Value→H} {P:Program}
theorem oO {f:Func}{s:ChangeSpec}{apart fresh handsOn again:Bool}{W W':World}{args:Array Value}{v:Value}{ds gs:List (DataW H)}{before pa pv:List MemPlace}
  (hW:DataW.Whole enc P f.params.toList s.vars apart W args.toList ds gs before)
  (hres:∀(b:Nat) (sp:Nat→Bool) (hd:Bool),DataW.TrodAll enc P W' b sp hd f.resultTypes.toList (v.resultList f.resultTypes.size) (s.fn H (ds++gs)).results [])
  (hargs:∀sp:Nat→Bool,(∀p∈before,sp p.block=true)→DataW.TrodAll enc P W' 0 sp true f.params.toList args.toList (s.fn H (ds++gs)).args pa)
  (hvars:∀sp:Nat→Bool,(∀p∈before,sp p.block=true)→DataW.TrodVars enc P W' sp s.vars (s.fn H (ds++gs)).vars pv)
  (hps:before=pa++pv) (hb:Below W.heap.size W W')
  (hok:∀(j:Nat) (t:TypeId) (r:Value),f.resultTypes[j]?=some t→(v.resultList f.resultTypes.size)[j]?=some r→Value.okWide P W' .any 0 t r):
  s.post enc P f apart fresh handsOn again W args v W':=by
 have hlt:∀p∈before,p.block<W.heap.size:=fun p hp=>hW.lt p hp
 have hold:∀p∈before,(fun b=>decide (b<W.heap.size)) p.block=true:=fun p hp=>by simpa using hlt p hp
 refine⟨ds,gs,before,[],pa,pv,hW,hres _ _ _,hargs _ hold,hvars _ hold,World.keptBut_mono (fun p hp=>⟨hp,?_⟩) (hb.frame (· ∈before)),fun _=>?_⟩
 ·rw[hps,List.mem_append] at hp
  exact Or.inr hp
 ·obtain⟨_,_,_,_,_,hz,hn⟩:=hW
  refine⟨hok,_,_,([]++pa)++pv,⟨[]++pa,pv,trodAll_append (hargs _ (fun _ _=>rfl)) (hres _ _ _),hvars _ (fun _ _=>rfl),rfl,?_,?_⟩,?_⟩
  ·intro b off hp
   have hin:MemPlace.cell b off∈before:=by rw[hps];simpa using hp
   rw[hb.frozen (hlt _ hin)]
   exact hz b off hin
  ·intro ha
   have:=hn ha
   rw[hps] at this
   simpa using this
  ·intro p hp _
   rw[hps]
   simpa using hp
end
theorem pX {P:Program}{f:FuncId}{vs:List V}(h:ah P f vs [] (.bool true) []){w:World}{args:Array Value}(hl:(ag vs).length=args.size)
  (hr:∀i,i<(ag vs).length→Rep (fun k=>k<w.heap.size) w ((ag vs).getD i .undef) (args.getD i undef))
  (hg:∀g x,look Gl g=some x→g<w.heap.size∧∃ad,w.cell? ⟨g,0,none⟩=some (.iface x.1 (.pointer (some ad))):=by intro g x h;cases h):
  Calls P f args w fun e w'=>e= .returned (.bool true)∧Below w.heap.size w w':=by
 have hno:∀k,¬sx (fun _=>⟨0,0,0,0⟩) (toH []) k:=by
  rintro k ⟨b,x,hb,-⟩
  cases hb
 have hs:Sim P w (sx (fun _=>⟨0,0,0,0⟩) (toH [])) (fun _=>True) 0 (fun _=>⟨0,0,0,0⟩) [] (toH []) fo w:=by
  refine⟨fun _ _=>trivial,fun _ _=>trivial,Fr.refl _ _,rfl,rfl,?_,?_,?_,?_,?_⟩
  ·intro k d hk;cases hk
  ·intro b x hx;cases hx
  ·intro b x hx;cases hx
  ·intro b b' x x' hx;cases hx
  ·intro g x hx
   exact⟨⟨trivial,hno g,(hg g x hx).1⟩,(hg g x hx).2⟩
 refine(h.2 w (fun _=>True) (fun _=>⟨0,0,0,0⟩) args hs hl fun i hi=>.pure ((hr i hi).mono fun b hb=>⟨⟨⟨hb,trivial⟩,fun b x hx=>by cases hx⟩,rfl⟩)).mono fun e w' he=>?_
 obtain⟨u,ρ',rfl,-,hs',hc⟩:=he
 refine⟨by rw[hc.bool_inv],⟨hs'.fr.os,hs'.fr.tape,hs'.fr.output,hs'.fr.size,fun k hk=>hs'.fr.block k hk (hno k)⟩⟩
theorem wP {w:World}{a:Addr}{v:Value}(h:w.cell? a=some v):a.block<w.heap.size:=by
 rcases Nat.lt_or_ge a.block w.heap.size with hl|hl
 ·exact hl
 ·have:w.heap[a.block]?=none:=by simp[hl]
  simp[World.cell?,this] at h
theorem Du {w:World}{l:List D}{a:Addr}{n cap:Nat}{g:Nat→Value}(hn:l.length=n)(hcap:n≤cap)(hmax:cap≤maxLen)(hl:∀e∈l,e.cells=[e]∧e.pure0=true)
  (hc:∀i,i<n→w.cell? (a.add i)=some (g i)) (hr:∀i,i<n→Rep (fun k=>k<w.heap.size) w (l.getD i .undef) (g i)):Rep (fun k=>k<w.heap.size) w (.lst l) (.slice (some a) n cap):=by
 cases l with
 |nil=>
  simp only[List.length_nil] at hn
  subst hn
  exact .none _ _ (fun h=>by cases h) hmax
 |cons x l=>
  have hp:0<n:=by rw[←hn];simp
  have hsz:szl (x::l)=1:=by show x.cells.length=1;rw[(hl x (List.mem_cons_self ..)).1];rfl
  obtain⟨b,off,spot⟩:=a
  have hspot:spot=none:=by simpa[Addr.add] using World.cell?_spot (hc 0 hp)
  subst hspot
  have h0:=wP (hc 0 hp)
  refine .lst _ n b off cap (fun i _=>g i) hn hcap hmax h0 ?_ (by rw[hsz];omega) ?_ ?_
  ·intro e he
   rw[hsz]
   exact⟨by rw[(hl e he).1];rfl,by rw[(hl e he).1];simp[(hl e he).2]⟩
  ·intro i j hi hj
   rw[hsz] at hj⊢
   obtain rfl:j=0:=by omega
   have:=hc i hi
   rw[Go.WideShapes.add_plain] at this
   rw[Nat.mul_one,Nat.add_zero]
   exact this
  ·intro i j hi hj
   rw[hsz] at hj
   obtain rfl:j=0:=by omega
   have hi':i<(x::l).length:=by omega
   have e:(x::l).getD i .undef=(x::l)[i]:=by simp[List.getD_eq_getElem?_getD,List.getElem?_eq_getElem hi']
   have h1:=(hl _ (List.getElem_mem hi')).1
   have h2:=hr i hi
   rw[e] at h2⊢
   rw[h1]
   exact h2
theorem gY {H:Type}{enc:TypeId×Value→H}{P:Program}{W:World}{sp:Nat→Bool}{hd:Bool}{t e:TypeId}{k:IntKind}{cs:List Value}{fuel:Nat}{x:DataW H×List MemPlace}(ht:P.underlying t=some (.slice e))(he:P.underlying e=some (.int k))(hc:P.cellsOf e=1)
  (h:DataW.trod enc P W 0 sp hd fuel t cs=some x):∃(c:List Int) (v:Value),cs=[v]∧Rep (fun b=>b<W.heap.size) W (.lst (c.map (.int k))) v:=by
 rcases open_ints ht he hc h with⟨h1,-⟩|⟨a,len,cap,zs,h1,h2,h3,h4,h5,-,h6,h7⟩
 ·exact⟨[],_,h1,.none _ _ (fun _=>rfl) (Nat.zero_le _)⟩
 ·have hle:len≤zs.length:=by rw[h5];split<;>omega
  have hlen:(zs.take len).length=len:=by rw[List.length_take];omega
  refine⟨zs.take len,_,h1,?_⟩
  refine Du (g:=fun i=>.int k (zs.getD i 0)) (by rw[List.length_map,hlen]) h3 h4 ?_ (fun i hi=>h6 i (by omega)) ?_
  ·intro e he
   obtain⟨z,_,rfl⟩:=List.mem_map.1 he
   exact⟨rfl,rfl⟩
  ·intro i hi
   have e1:((zs.take len).map (D.int k)).getD i .undef= .int k (zs.getD i 0):=by
    have hi2:i<zs.length:=by omega
    simp[List.getD_eq_getElem?_getD,List.getElem?_map,List.getElem?_take,hi,List.getElem?_eq_getElem hi2]
   rw[e1]
   exact .int _ _
theorem ef {H:Type}{enc:TypeId×Value→H}{P:Program}{W:World}{sp:Nat→Bool}{hd:Bool}{t:TypeId}{k:IntKind}{v:Value}{fuel:Nat}{x:DataW H×List MemPlace}(ht:P.underlying t=some (.int k))(h:DataW.trod enc P W 0 sp hd fuel t [v]=some x):∃n,v= .int k n:=by
 obtain⟨n,h1,-,-⟩:=DataW.trod_int ht h
 simp only[List.cons.injEq,and_true] at h1
 exact⟨n,h1⟩
theorem DF {H:Type}{enc:TypeId×Value→H}{P:Program}{W:World}{sp:Nat→Bool}{hd:Bool}{t:TypeId}{fs:Array Field}{v:Value}{d:DataW H}{p:List MemPlace}{base:Nat}(ht:P.underlying t=some (.struct fs))(hs:P.cellsOf t=fs.size)(hf:(fs.toList.zipIdx.all fun q=>q.1.offset==q.2 && P.cellsOf q.1.type==1)=true)
  (hv:Value.okWide P W .any base t v) (h:DataW.Trod enc P W 0 sp hd t v d p):∃vs:Array Value,v= .agg vs∧vs.size=fs.size∧∀(i:Nat) (f:Field),fs[i]?=some f→∃fuel y,DataW.trod enc P W 0 sp hd fuel f.type [vs.getD i undef]=some y:=by
 obtain⟨vs,rfl,hsz⟩:=okWide_struct ht hv
 obtain⟨fuel,h⟩:=h
 obtain⟨xs,n,-,-,-,hl,hx⟩:=DataW.trod_struct ht h
 refine⟨vs,rfl,by omega,fun i f hi=>?_⟩
 have hi':=(Array.getElem?_eq_some_iff.1 hi).1
 have h1:=hx i f hi
 rw[List.all_eq_true] at hf
 have h2:=hf (f,i) (List.mem_zipIdx_iff_getElem?.2 (by simpa using hi))
 simp only[Bool.and_eq_true,beq_iff_eq] at h2
 have hvi:i<vs.size:=by omega
 refine⟨n,xs[i],?_⟩
 have e:((Value.agg vs).cells.toList.drop f.offset).take (P.cellsOf f.type)=[vs.getD i undef]:=by
  rw[h2.1,h2.2]
  show (vs.toList.drop i).take 1=_
  rw[List.drop_eq_getElem_cons (by simpa using hvi)]
  simp[Array.getD_eq_getD_getElem?,hvi]
 rw[←e,h1,List.getElem?_eq_getElem (by omega)]
theorem xQ {ok:Nat→Prop}{W:World}{ds:List D}{vs:Array Value}(hl:ds.length=vs.size)(h:∀i,i<ds.length→Rep ok W (ds.getD i .undef) (vs.getD i undef)):Rep ok W (.agg ds) (.agg vs):=.agg ds vs hl h
def sy (W:World)(T:Ty)(x:T.den)(cs:List Value):Prop:=cs.length=T.sz∧∀j,j<T.sz→Rep (fun k=>k<W.heap.size) W ((ab T x).cells.getD j .undef) (cs.getD j undef)
theorem xy {α:Type}{p:Nat→α→Prop}:∀n,(∀i,i<n→∃d,p i d)→∃l:List α,l.length=n∧∀i (h:i<l.length),p i l[i]
 |0,_=>⟨[],rfl,fun i h=>absurd h (Nat.not_lt_zero i)⟩
 |n+1,h=>by
  obtain⟨l,hl,hp⟩:=xy n fun i hi=>h i (by omega)
  obtain⟨d,hd⟩:=h n (by omega)
  refine⟨l++[d],by simp[hl],fun i hi=>?_⟩
  rcases Nat.lt_or_ge i l.length with hlt|hge
  ·rw[List.getElem_append_left hlt]
   exact hp i hlt
  ·obtain rfl:i=l.length:=by simp at hi;omega
   rw[List.getElem_append_right (Nat.le_refl _)]
   simpa[hl] using hd
theorem row_cells {H:Type}{enc:TypeId×Value→H}{P:Program}{W:World}{sp:Nat→Bool}{hd:Bool}{t e:TypeId}{T:Ty}{cs:List Value}{fuel:Nat}{x:DataW H×List MemPlace}(hp:T.pure=true)(ht:P.underlying t=some (.slice e))(hc:P.cellsOf e=T.sz)
  (hel:∀fuel cs x,DataW.trod enc P W 0 sp hd fuel e cs=some x→∃d,sy W T d cs) (h:DataW.trod enc P W 0 sp hd fuel t cs=some x):∃(l:List T.den) (v:Value),cs=[v]∧Rep (fun b=>b<W.heap.size) W (V.lst T l).toD v:=by
 rcases DataW.trod_slice ht h with⟨h1,-⟩|⟨a,len,cap,elems,rest,n,-,h1,-,-,hl,hm,hlen,hel2,-,-⟩
 ·exact⟨[],_,h1,.none _ _ (fun _=>rfl) (Nat.zero_le _)⟩
 ·have each:∀i,i<len→∃d:T.den,∃cs',W.cells? 0 (a.add (i*T.sz)) T.sz=some cs'∧sy W T d cs':=by
   intro i hi
   have h2:=hel2 i hi
   rw[List.getElem?_eq_getElem (by omega),hc,Option.bind_eq_some_iff] at h2
   obtain⟨cs',h3,h4⟩:=h2
   obtain⟨d,hd⟩:=hel _ _ _ h4
   exact⟨d,cs',h3,hd⟩
  obtain⟨l,hll,hlp⟩:=xy len each
  refine⟨l,_,h1,?_⟩
  show Rep _ W (.lst (l.map (ab T))) _
  by_cases hz:l=[]
  ·subst hz
   subst hll
   exact .none _ _ (fun h=>by cases h) hm
  ·have hpos:0<l.length:=List.length_pos_iff.2 hz
   have hsz:szl (l.map (ab T))=T.sz:=by
    cases l with
    |nil=>exact absurd rfl hz
    |cons y l=>exact(dD T y).1
   have cell:∀i j,i<l.length→j<T.sz→∃v,W.cell? ((a.add (i*T.sz)).add j)=some v∧Rep (fun k=>k<W.heap.size) W ((ab T (l[i]?.getD (l[0]'hpos))).cells.getD j .undef) v:=by
    intro i j hi hj
    obtain⟨cs',h3,h4,h5⟩:=hlp i hi
    have h6:=(World.cells?_some h3).2.2 j hj
    have hj':j<cs'.length:=by omega
    refine⟨cs'[j],by rw[h6,List.getElem?_eq_getElem hj'],?_⟩
    have:=h5 j hj
    rw[List.getElem?_eq_getElem hi]
    simp only[List.getD_eq_getElem?_getD (l:=cs'),List.getElem?_eq_getElem hj',Option.getD_some] at this
    exact this
   obtain⟨b,off,spot⟩:=a
   obtain⟨v0,hv0,-⟩:=cell 0 0 hpos T.sz_pos
   have hspot:spot=none:=by simpa[Addr.add] using World.cell?_spot hv0
   subst hspot
   have hb:=wP hv0
   refine .lst _ len b off cap (fun i j=>(W.cell? ⟨b,off+i*T.sz+j,none⟩).getD undef) (by simpa using hll) hl hm (by simpa[Addr.add] using hb) ?_ (by rw[hsz];exact T.sz_pos) ?_ ?_
   ·intro e he
    obtain⟨y,-,rfl⟩:=List.mem_map.1 he
    rw[hsz]
    exact gg hp y
   ·intro i j hi hj
    rw[hsz] at hj⊢
    obtain⟨v,hv,-⟩:=cell i j (by omega) hj
    rw[Go.WideShapes.add_plain,Go.WideShapes.add_plain] at hv
    rw[hv]
    rfl
   ·intro i j hi hj
    rw[hsz] at hj
    obtain⟨v,hv,hr⟩:=cell i j (by omega) hj
    rw[Go.WideShapes.add_plain,Go.WideShapes.add_plain] at hv
    rw[hv]
    have e:(l.map (ab T)).getD i .undef=ab T (l[i]?.getD (l[0]'hpos)):=by
     have:i<l.length:=by omega
     simp[List.getD_eq_getElem?_getD,List.getElem?_eq_getElem this]
    rw[e]
    exact hr
theorem rU {H:Type}{enc:TypeId×Value→H}{P:Program}{W:World}{sp:Nat→Bool}{hd:Bool}{t:TypeId}{fs:Array Field}{cs:List Value}{fuel:Nat}{x:DataW H×List MemPlace}(ht:P.underlying t=some (.struct fs))(hs:P.cellsOf t=fs.size)(hf:(fs.toList.zipIdx.all fun q=>q.1.offset==q.2 && P.cellsOf q.1.type==1)=true)
  (h:DataW.trod enc P W 0 sp hd fuel t cs=some x):cs.length=fs.size∧∀(i:Nat) (f:Field),fs[i]?=some f→∃fuel y,DataW.trod enc P W 0 sp hd fuel f.type [cs.getD i undef]=some y:=by
 obtain⟨xs,n,-,-,hlc,hl,hx⟩:=DataW.trod_struct ht h
 refine⟨by omega,fun i f hi=>?_⟩
 have hi':=(Array.getElem?_eq_some_iff.1 hi).1
 have h1:=hx i f hi
 rw[List.all_eq_true] at hf
 have h2:=hf (f,i) (List.mem_zipIdx_iff_getElem?.2 (by simpa using hi))
 simp only[Bool.and_eq_true,beq_iff_eq] at h2
 have hci:i<cs.length:=by omega
 refine⟨n,xs[i],?_⟩
 have e:(cs.drop f.offset).take (P.cellsOf f.type)=[cs.getD i undef]:=by
  have e2:(cs.drop i).take 1=[cs[i]]:=by rw[List.drop_eq_getElem_cons hci];rfl
  rw[h2.1,h2.2,e2]
  simp[List.getD_eq_getElem?_getD,hci]
 rw[←e,h1,List.getElem?_eq_getElem (by omega)]
end Go.Proofs.YthmfppknagbkeaaGreat.Am
namespace Go.Proofs.YthmfppknagbkeaaGreat.Am
open Go Go.RowKit Go.ChangeShapes Go.WideShapes Go.ChangeAt
theorem GA:ownKnob Tryz.prog.godebug=none:=by kernel_rfl
theorem C7:laidOutB Tryz.prog=true:=by kernel_rfl
theorem ge:Tryz.prog.cellsOf 3=1:=by kernel_rfl
set_option maxRecDepth 100000 in
theorem CW {H:Type}{enc:TypeId×Value→H}{W:World}{sp:Nat→Bool}{hd:Bool}{v:Value}{d:DataW H}{p:List MemPlace}{base:Nat}(hv:Value.okWide Tryz.prog W .any base 3 v)(h:DataW.Trod enc Tryz.prog W 0 sp hd 3 v d p):
  ∃n:Int,v= .int .i64 n:=by
 obtain⟨n,rfl⟩:=okWide_int Tryz.underlying3 hv
 exact⟨n,rfl⟩
set_option maxRecDepth 100000 in
theorem mo {H:Type}{enc:TypeId×Value→H}{W:World}{sp:Nat→Bool}{hd:Bool}{cs:List Value}{fuel:Nat}{x:DataW H×List MemPlace}(h:DataW.trod enc Tryz.prog W 0 sp hd fuel 38 cs=some x):∃d:Vtx,sy W .vtx d cs:=by
 obtain⟨hl,hf⟩:=rU Tryz.underlying38 (by kernel_rfl) (by kernel_rfl) h
 obtain⟨n0,y0,h0⟩:=hf 0 _ rfl
 obtain⟨n1,y1,h1⟩:=hf 1 _ rfl
 obtain⟨n2,y2,h2⟩:=hf 2 _ rfl
 obtain⟨n3,y3,h3⟩:=hf 3 _ rfl
 obtain⟨r,e0⟩:=ef Tryz.underlying3 h0
 obtain⟨a,e1⟩:=ef Tryz.underlying3 h1
 obtain⟨ps,v2,e2,r2⟩:=gY Tryz.underlying22 Tryz.underlying3 ge h2
 obtain⟨d,e3⟩:=ef Tryz.underlying3 h3
 simp only[List.cons.injEq,and_true] at e2
 refine⟨⟨r,a,ps,d⟩,hl,fun j hj=>?_⟩
 match j,hj with
 |0,_=>rw[e0];exact .int _ _
 |1,_=>rw[e1];exact .int _ _
 |2,_=>rw[e2];exact r2
 |3,_=>rw[e3];exact .int _ _
theorem mL {H:Type}{enc:TypeId×Value→H}{P:Program}{W:World}{sp:Nat→Bool}{hd:Bool}{t:TypeId}{fs:Array Field}{cs:List Value}{fuel:Nat}{x:DataW H×List MemPlace}(ht:P.underlying t=some (.struct fs))
  (h:DataW.trod enc P W 0 sp hd fuel t cs=some x):cs.length=P.cellsOf t∧∀(i:Nat) (f:Field),fs[i]?=some f→∃fuel y,DataW.trod enc P W 0 sp hd fuel f.type ((cs.drop f.offset).take (P.cellsOf f.type))=some y:=by
 obtain⟨xs,n,-,-,hlc,hl,hx⟩:=DataW.trod_struct ht h
 refine⟨by omega,fun i f hi=>?_⟩
 have hi':=(Array.getElem?_eq_some_iff.1 hi).1
 have h1:=hx i f hi
 exact⟨n,xs[i],by rw[h1,List.getElem?_eq_getElem (by omega)]⟩
theorem lM (cs:List Value){o n j:Nat}(hj:j<n):((cs.drop o).take n).getD j undef=cs.getD (o+j) undef:=by
 simp[List.getD_eq_getElem?_getD,List.getElem?_take,List.getElem?_drop,hj]
set_option maxRecDepth 100000 in
theorem pN:Tryz.prog.cellsOf 38=4:=by kernel_rfl
theorem va:Tryz.prog.cellsOf 22=1:=by kernel_rfl
set_option maxRecDepth 100000 in
theorem yR {H:Type}{enc:TypeId×Value→H}{W:World}{sp:Nat→Bool}{hd:Bool}{cs:List Value}{fuel:Nat}{x:DataW H×List MemPlace}(h:DataW.trod enc Tryz.prog W 0 sp hd fuel 99 cs=some x):∃d:Ppl,sy W .ppl d cs:=by
 obtain⟨hl,hf⟩:=mL Tryz.underlying99 h
 have hl5:cs.length=5:=hl.trans (by kernel_rfl)
 obtain⟨n0,y0,h0⟩:=hf 0 _ rfl
 obtain⟨n1,y1,h1⟩:=hf 1 _ rfl
 obtain⟨v,hv1,hv2⟩:=mo h0
 obtain⟨ms,v2,e2,r2⟩:=gY Tryz.underlying22 Tryz.underlying3 ge h1
 have e3:cs.getD 4 undef=v2:=by
  have:=lM cs (o:=4) (n:=1) (j:=0) (by omega)
  rw[Nat.add_zero] at this
  rw[←this]
  have e4:(cs.drop 4).take 1=[v2]:=by
   have this:(cs.drop 4).take (Tryz.prog.cellsOf 22)=[v2]:=e2
   rw[va] at this
   exact this
  rw[e4]
  rfl
 have hvv:∀j,j<4→Rep (fun k=>k<W.heap.size) W ((ab .vtx v).cells.getD j .undef) (cs.getD j undef):=fun j hj=>by
  have h5:Rep (fun k=>k<W.heap.size) W ((ab .vtx v).cells.getD j .undef) (((cs.drop 0).take (Tryz.prog.cellsOf 38)).getD j undef):=hv2 j hj
  rw[pN,lM cs hj,Nat.zero_add] at h5
  exact h5
 refine⟨⟨v,ms⟩,hl5,fun j hj=>?_⟩
 match j,hj with
 |0,_=>exact hvv 0 (by omega)
 |1,_=>exact hvv 1 (by omega)
 |2,_=>exact hvv 2 (by omega)
 |3,_=>exact hvv 3 (by omega)
 |4,_=>rw[e3];exact r2
set_option maxRecDepth 100000 in
theorem yj {H:Type}{enc:TypeId×Value→H}{W:World}{sp:Nat→Bool}{hd:Bool}{v:Value}{d:DataW H}{p:List MemPlace}{base:Nat}(hv:Value.okWide Tryz.prog W .any base 26 v)(h:DataW.Trod enc Tryz.prog W 0 sp hd 26 v d p):
  ∃w:Wrl,Rep (fun k=>k<W.heap.size) W (V.agg [.lst (.int .i64) w.com,.lst (.int .i64) w.lead,.int .i64 w.bad,.lst (.lst .vtx) w.views,.lst .ppl w.props]).toD v:=by
 obtain⟨vs,rfl,hs,hf⟩:=DF Tryz.underlying26 (by kernel_rfl) (by kernel_rfl) hv h
 obtain⟨n0,y0,h0⟩:=hf 0 _ rfl
 obtain⟨n1,y1,h1⟩:=hf 1 _ rfl
 obtain⟨n2,y2,h2⟩:=hf 2 _ rfl
 obtain⟨n3,y3,h3⟩:=hf 3 _ rfl
 obtain⟨n4,y4,h4⟩:=hf 4 _ rfl
 obtain⟨c,v0,e0,r0⟩:=gY Tryz.underlying22 Tryz.underlying3 ge h0
 obtain⟨l,v1,e1,r1⟩:=gY Tryz.underlying22 Tryz.underlying3 ge h1
 obtain⟨b,e2⟩:=ef Tryz.underlying3 h2
 obtain⟨gs,v3,e3,r3⟩:=row_cells (T:=.lst .vtx) rfl Tryz.underlying23 (by kernel_rfl) (fun fuel cs x hx=>by
  obtain⟨g,u,rfl,hr⟩:=row_cells (T:=.vtx) rfl Tryz.underlying96 (by kernel_rfl) (fun fuel cs x hx=>mo hx) hx
  refine⟨g,rfl,fun j hj=>?_⟩
  obtain rfl:j=0:=by have:j<1:=hj;omega
  exact hr) h3
 obtain⟨ps,v4,e4,r4⟩:=row_cells (T:=.ppl) rfl Tryz.underlying24 (by kernel_rfl) (fun fuel cs x hx=>yR hx) h4
 simp only[List.cons.injEq,and_true] at e0 e1 e3 e4
 refine⟨⟨c,l,b,gs,ps⟩,xQ hs.symm fun i hi=>?_⟩
 match i,hi with
 |0,_=>rw[e0];exact r0
 |1,_=>rw[e1];exact r1
 |2,_=>rw[e2];exact .int _ _
 |3,_=>rw[e3];exact r3
 |4,_=>rw[e4];exact r4
theorem G2 (cs:List Value){i:Nat}(h:i<cs.length):(cs.drop i).take 1=[cs.getD i undef]:=by
 rw[List.drop_eq_getElem_cons h,List.getD_eq_getElem?_getD,List.getElem?_eq_getElem h]
 rfl
set_option maxRecDepth 100000 in
theorem yA {H:Type}{enc:TypeId×Value→H}{W:World}{sp:Nat→Bool}{hd:Bool}{cs:List Value}{fuel:Nat}{x:DataW H×List MemPlace}(h:DataW.trod enc Tryz.prog W 0 sp hd fuel 40 cs=some x):∃d:Evt,sy W .evt d cs:=by
 obtain⟨hl,hf⟩:=mL Tryz.underlying40 h
 have hl7:cs.length=7:=hl.trans (by kernel_rfl)
 obtain⟨n0,y0,h0⟩:=hf 0 _ rfl
 obtain⟨n1,y1,h1⟩:=hf 1 _ rfl
 obtain⟨n2,y2,h2⟩:=hf 2 _ rfl
 obtain⟨n3,y3,h3⟩:=hf 3 _ rfl
 have g0:DataW.trod enc Tryz.prog W 0 sp hd n0 3 ((cs.drop 0).take (Tryz.prog.cellsOf 3))=some y0:=h0
 have g1:DataW.trod enc Tryz.prog W 0 sp hd n1 3 ((cs.drop 1).take (Tryz.prog.cellsOf 3))=some y1:=h1
 have g2:DataW.trod enc Tryz.prog W 0 sp hd n2 3 ((cs.drop 2).take (Tryz.prog.cellsOf 3))=some y2:=h2
 rw[ge,G2 cs (by omega)] at g0 g1 g2
 obtain⟨k,e0⟩:=ef Tryz.underlying3 g0
 obtain⟨a,e1⟩:=ef Tryz.underlying3 g1
 obtain⟨b,e2⟩:=ef Tryz.underlying3 g2
 obtain⟨v,hv1,hv2⟩:=mo h3
 have hvv:∀j,j<4→Rep (fun k=>k<W.heap.size) W ((ab .vtx v).cells.getD j .undef) (cs.getD (3+j) undef):=fun j hj=>by
  have h5:Rep (fun k=>k<W.heap.size) W ((ab .vtx v).cells.getD j .undef) (((cs.drop 3).take (Tryz.prog.cellsOf 38)).getD j undef):=hv2 j hj
  rw[pN,lM cs hj] at h5
  exact h5
 refine⟨⟨k,a,b,v⟩,hl7,fun j hj=>?_⟩
 match j,hj with
 |0,_=>rw[e0];exact .int _ _
 |1,_=>rw[e1];exact .int _ _
 |2,_=>rw[e2];exact .int _ _
 |3,_=>exact hvv 0 (by omega)
 |4,_=>exact hvv 1 (by omega)
 |5,_=>exact hvv 2 (by omega)
 |6,_=>exact hvv 3 (by omega)
set_option maxRecDepth 100000 in
theorem Cx {H:Type}{enc:TypeId×Value→H}{W:World}{sp:Nat→Bool}{hd:Bool}{v:Value}{d:DataW H}{p:List MemPlace}{base:Nat}(hv:Value.okWide Tryz.prog W .any base 40 v)(h:DataW.Trod enc Tryz.prog W 0 sp hd 40 v d p):
  ∃e:Evt,Rep (fun k=>k<W.heap.size) W (V.agg [.int .i64 e.kind,.int .i64 e.a,.int .i64 e.b,.int .i64 e.v.round,.int .i64 e.v.author,.lst (.int .i64) e.v.parents,.int .i64 e.v.digest]).toD v:=by
 obtain⟨vs,rfl,hsz⟩:=okWide_struct Tryz.underlying40 hv
 obtain⟨fuel,h⟩:=h
 obtain⟨e,he1,he2⟩:=yA (cs:=(Value.agg vs).cells.toList) h
 have hs7:vs.size=7:=by
  have:(Value.agg vs).cells.toList.length=7:=he1
  simpa[Value.cells] using this
 refine⟨e,xQ hs7.symm fun i hi=>?_⟩
 have h7:i<7:=hi
 have hg:(Value.agg vs).cells.toList.getD i undef=vs.getD i undef:=by
  simp[Value.cells,List.getD_eq_getElem?_getD,Array.getD_eq_getD_getElem?]
 have h8:=he2 i h7
 rw[hg] at h8
 match i,h7 with
 |0,_=>exact h8
 |1,_=>exact h8
 |2,_=>exact h8
 |3,_=>exact h8
 |4,_=>exact h8
 |5,_=>exact h8
 |6,_=>exact h8

end Go.Proofs.YthmfppknagbkeaaGreat.Am
