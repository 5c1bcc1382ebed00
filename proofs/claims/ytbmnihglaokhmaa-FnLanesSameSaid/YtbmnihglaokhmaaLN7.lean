/- The invariant, and a worker's step. The starter's step; from the first go statement to the last worker's end. The crowd's run: from the first go statement to the starter's 'acquire'. Goroutine 0's whole way: own steps, phases, others that only leave; its end. A phase: a group is made, others are started, all are awaited. From a contract to a row: what a law's call leaves; how an argument reads. The plain machine with types: how the marks are met. The plain machine with types: a variable with a table of nil pointers. The plain machine with types: a cut between two parts. The plain machine with  -/
import Derived.Conc.CrowdRun
import Derived.DuoClaim
import Derived.Conc.LeavingOf
import Derived.WalkKit
import Derived.ProofKit
import Derived.OpenShut
import Derived.Carry
import Derived.ChangeSlices
import Derived.ChangeSame
import Derived.Test.YtbmnihglaokhmaaRows
import Derived.Test.YtbmnihglaokhmaaLN6
set_option linter.unusedSimpArgs false
set_option linter.unusedVariables false
set_option maxHeartbeats 1000000
namespace Go.Proofs.Ytbmnihglaokhmaa.Am
open Go Go.RowKit Go.Conc Go.ConcN
open Go.ConcR (KK wgBlock WgAt stA smA rd wr mk DC0 Bk g_of_ofEvents ofEvent_loc_mark ofEvent_cell again_blocked bk_of_mute)
section
variable {P:Program} {ty:TypeId} {Wg:Nat} {End:Goroutine→Prop} {Anch:Gh→Goroutine→World→Prop} {n:Nat} {Xs:Nat→Nat→Nat→Prop} {Res:Nat→Gh→World→Prop}
 {γ:Gh} {tag:CTag} {f d:Nat} {a:Goroutine} {w w':World}
theorem CS.rely (h:CS P ty Wg End Anch n Xs Res γ tag f d a w)(hr:RG ty Wg γ w w'):CS P ty Wg End Anch n Xs Res γ tag f d a w':=by
 cases h with
 |su h1 h2 h=>exact .su h1 h2 (@GoesG.rely P (noPh P) _ _ _ _ _ _ _ h hr.rel)
 |sk h1 h2 h=>exact .sk h1 h2 (Goes.rely fe h hr)
 |sa h1 h2 h=>exact .sa h1 h2 (Goes.rely fe h hr)
 |se h1 h2 h=>exact .se h1 h2 (Goes.rely fe h hr)
 |sl h1 h2 h=>exact .sl h1 h2 (Goes.rely fe h hr)
 |sg h1 h2 h=>exact .sg h1 h2 (@GoesG.rely P (noPh P) _ _ _ _ _ _ _ h hr.rel)
 |ku h=>exact .ku (@GoesG.rely P (noPh P) _ _ _ _ _ _ _ h hr.rel)
 |kd h=>exact .kd (Goes.rely fe h hr)
 |anch h=>exact .anch (Goes.rely fe h hr)
 |w1 h=>exact .w1 (Goes.rely fe h hr)
 |w2 h=>exact .w2 (Goes.rely fe h hr)
 |w3 h=>exact .w3 (Goes.rely fe h hr)
 |blk h=>exact .blk fun w₂ h₂=>h w₂ (hr.trans h₂)
 |w4 h=>exact .w4 (Goes.rely fe h hr)
 |ke h=>exact .ke (Goes.rely fe h hr)
 |acq h=>exact .acq (Goes.rely fe h hr)
theorem sK {j:Nat}{Nx:Gh→Goroutine→World→Prop}{g:Goroutine}{w:World}(h:SLib P ty Wg n Xs Res j Nx γ g w):g.status= .running:=let ⟨_,h⟩:=h;@GoesG.running P (noPh P) _ _ _ _ _ _ (fun _ _ _ x=>x.1) h
theorem CS.status (hAr:∀γ g w,Anch γ g w→g.status= .running)(h:CS P ty Wg End Anch n Xs Res γ tag f d a w):(a.status= .running∧tag≠ .blk)∨(a.status= .blocked∧tag= .blk):=by
 cases h with
 |su _ _ h=>exact .inl ⟨@GoesG.running P (noPh P) _ _ _ _ _ _ (fun _ _ _ x=>x.2) h,by simp⟩
 |sk _ _ h=>exact .inl ⟨Goes.running (fun _ _ x=>x.1) w (RG.refl w) h,by simp⟩
 |sa _ _ h=>exact .inl ⟨Goes.running (fun _ _ x=>x.1) w (RG.refl w) h,by simp⟩
 |se _ _ h=>exact .inl ⟨Goes.running (fun _ _ x=>x.1) w (RG.refl w) h,by simp⟩
 |sl _ _ h=>exact .inl ⟨Goes.running (fun _ _ x=>sK x) w (RG.refl w) h,by simp⟩
 |sg _ _ h=>exact .inl ⟨@GoesG.running P (noPh P) _ _ _ _ _ _ (fun _ _ _ x=>x.1) h,by simp⟩
 |ku h=>exact .inl ⟨@GoesG.running P (noPh P) _ _ _ _ _ _ (fun _ _ _ x=>x.2) h,by simp⟩
 |kd h=>exact .inl ⟨Goes.running (fun _ _ x=>x.1) w (RG.refl w) h,by simp⟩
 |anch h=>exact .inl ⟨Goes.running (hAr _) w (RG.refl w) h,by simp⟩
 |w1 h=>exact .inl ⟨Goes.running (fun _ _ x=>x.1) w (RG.refl w) h,by simp⟩
 |w2 h=>exact .inl ⟨Goes.running (fun _ _ x=>x.1) w (RG.refl w) h,by simp⟩
 |w3 h=>exact .inl ⟨Goes.running (fun _ _ x=>x.1) w (RG.refl w) h,by simp⟩
 |blk h=>exact .inr ⟨rfl,rfl⟩
 |w4 h=>exact .inl ⟨Goes.running (fun _ _ x=>x.1) w (RG.refl w) h,by simp⟩
 |ke h=>exact .inl ⟨Goes.running (fun _ _ x=>x.1) w (RG.refl w) h,by simp⟩
 |acq h=>exact .inl ⟨Goes.running (fun _ _ x=>x.1) w (RG.refl w) h,by simp⟩
theorem CS.wokenBy (hAr:∀γ g w,Anch γ g w→g.status= .running)(h:CS P ty Wg End Anch n Xs Res γ tag f d a w)(hr:RG ty Wg γ w w')(g g':Goroutine):
  ∃tag' f',CS P ty Wg End Anch n Xs Res γ tag' f' d (woken P g g' w' a) w'∧f'≤f+1∧(tag'=tag∨(tag= .blk∧tag'= .w3))∧(mayWake P g=true→g'.status= .running→tag'≠ .blk):=by
 have h':=h.rely hr
 unfold Go.Conc.woken
 split
 ·rcases h'.status hAr with⟨hs,hne⟩|⟨_,rfl⟩
  ·exact⟨tag,f,by rw[again_running _ (.inl hs)];exact h',by omega,.inl rfl,fun _ _=>hne⟩
  ·cases h' with
   |blk hb=>
    have hb0:=hb w' (RG.refl _)
    rw[again_blocked hb0.1 hb0.2.1]
    exact⟨.w3,1,.w3 (m:=0) hb,by omega,.inr ⟨rfl,rfl⟩,fun _ _=>by simp⟩
 ·rename_i hc
  refine⟨tag,f,h',by omega,.inl rfl,fun h1 h2=>?_⟩
  exact absurd (by simp[h1,h2]) hc
end
def rem:CTag→Nat
 | .sp r _=>r+1
 |_=>0
section
variable (P:Program) (ty:TypeId) (Wg C:Nat) (wb:World) (Shun:Loc→Prop) (L:Nat) (End:Goroutine→Prop) (Anch:Gh→Goroutine→World→Prop) (n:Nat) (Xs:Nat→Nat→Nat→Prop) (Res:Nat→Gh→World→Prop)
def iA (μ:Nat×Nat)(m:Machine)(t:Trace):Prop:=
 ∃(gs:Array Goroutine) (w:World) (sl:Option (Nat×Nat)) (J:Nat) (D:Nat→WD) (Γ:Nat→Gh) (tag:CTag) (f0 d0:Nat) (a:Goroutine) (st sm:Int),
  m=crowd gs w sl∧gs[0]?=some a∧CS P ty Wg End Anch n Xs Res (Γ 0) tag f0 d0 a w∧Com P ty Wg C wb Shun L Res J gs w t D Γ d0∧WgAt ty Wg w st sm∧ConcN.Mode J D tag st sm∧J+rem tag=L+n∧
   μ=(phi n (Vc J D) tag+Ssum J D,f0+2*Fsum J D)
end
theorem vm (L:Nat)(D:Nat→WD)(h:∀i,i<L→(D i).stage=1):∀{J:Nat},L≤J→Vc J D+L≤J
 |0,hJ=>by simp[Vc,sumTo];omega
 |J+1,hJ=>by
  rcases cY J L with hlt|hge
  ·have hL:L=J+1:=by omega
   have hz:Vc (J+1) D=0:=by
    have:=sumTo_congr (f:=fun i=>cnt (D i)) (g:=fun _=>0) (j:=J+1) fun i hi=>by simp[cnt,h i (by omega)]
    have h0:∀j,sumTo j (fun _=>0)=0:=fun j=>by induction j with
     |zero=>rfl
     |succ j ih=>simp[sumTo,ih]
    unfold Vc
    rw[this,h0]
   omega
  ·have ih:=vm L D h (J:=J) hge
   have:cnt (D J)≤1:=by unfold cnt;split<;>omega
   simp only[Vc,sumTo] at ih⊢
   omega
section
variable {P:Program} {ty:TypeId} {Wg C:Nat} {wb:World} {Shun:Loc→Prop} {L:Nat} {End:Goroutine→Prop} {Anch:Gh→Goroutine→World→Prop} {n:Nat} {Xs:Nat→Nat→Nat→Prop} {Res:Nat→Gh→World→Prop}
 {gs:Array Goroutine} {w w':World} {sl:Option (Nat×Nat)} {J:Nat} {D:Nat→WD} {Γ:Nat→Gh} {tag:CTag} {f0 d0:Nat} {a:Goroutine} {t:Trace} {st sm:Int}
theorem fQ (hR:∀j γ w w1,Rel γ w w1→Res j γ w→Res j γ w1)(hAr:∀γ g w,Anch γ g w→g.status= .running)
  (ha:gs[0]?=some a) (hcs:CS P ty Wg End Anch n Xs Res (Γ 0) tag f0 d0 a w) (hcom:Com P ty Wg C wb Shun L Res J gs w t D Γ d0) (hrem:J+rem tag=L+n)
  {i:Nat} (hi:i<J) {g g':Goroutine} {es:Array Event} {s' m' dd':Nat} {γ':Gh} {st' sm':Int} (hg:gs[i+1]?=some g) (hgo:stepG P false g w= .go g' w' es)
  (hk:Kind Wg C wb Shun Γ (i+1) γ' w w' es) (hwg:WgAt ty Wg w' st' sm') (hs':WS P ty Wg (Rs L Res i) γ' s' m' dd' g' w') (hold:i<L→s'=1) (hn:i<L→∀e∈es,(MemAct.ofEvent e).touch? =none)
  (hdeaf:deafBehind (D i).deaf es=dd') (hrel:s'≤6→L≤i→∃r,RelBy (stA Wg) (t++MemOp.ofEvents (i+1) g.frame.fn g.frame.place es) (i+1) r)
  (hmode:∀tag',(tag'=tag∨(tag= .blk∧tag'= .w3))→(mayWake P g=true→g'.status= .running→tag'≠ .blk)→ConcN.Mode J (upd D i ⟨s',m',dd'⟩) tag' st' sm')
  (hlt:(s'<(D i).stage∧cnt ⟨s',m',dd'⟩≤cnt (D i))∨(s'=(D i).stage∧m'+1≤(D i).fuel)):
  ∃m₁ ops μ',runT P (crowd gs w sl) (i+1)=(.next m₁,ops)∧Lt2 μ' (phi n (Vc J D) tag+Ssum J D,f0+2*Fsum J D)∧iA P ty Wg C wb Shun L End Anch n Xs Res μ' m₁ (t++ops):=by
 have hl:WgLive ty Wg w':=⟨_,_,hwg⟩
 obtain⟨tag',f',hcs',hf',htag,hwk⟩:=hcs.wokenBy hAr ⟨hk.others 0 (by omega),fun _=>hl⟩ g g'
 have hrun:=runT_crowd_go (P:=P) (sl:=sl) (i:=i+1) hg (by simpa using hgo)
 have e1:=sumTo_upd D (⟨s',m',dd'⟩:WD) cnt hi
 have e2:=sumTo_upd D (⟨s',m',dd'⟩:WD) WD.stage hi
 have e3:=sumTo_upd D (⟨s',m',dd'⟩:WD) WD.fuel hi
 refine⟨_,_,(phi n (Vc J (upd D i ⟨s',m',dd'⟩)) tag'+Ssum J (upd D i ⟨s',m',dd'⟩),f'+2*Fsum J (upd D i ⟨s',m',dd'⟩)),hrun,?_,
  _,w',sl,J,upd D i ⟨s',m',dd'⟩,upd Γ (i+1) γ',tag',f',d0,woken P g g' w' a,st',sm',rfl,by rw[get_map_set _ _ _ _ (by omega),ha];rfl,by rw[upd_ne Γ _ (by omega)];exact hcs',hcom.stepW hR hi hk hl hs' hold hn hdeaf hrel,hwg,hmode tag' htag hwk,?_,rfl⟩
 ·rw[phi_retag n _ htag]
  simp only[Vc,Ssum,Fsum] at *
  rcases hlt with⟨h1,h2⟩|⟨h1,h2⟩
  ·refine Prod.Lex.left _ _ ?_
   have:=phi_mono n (v':=sumTo J fun a=>cnt (upd D i ⟨s',m',dd'⟩ a)) (v:=sumTo J fun a=>cnt (D a)) (by omega) tag
   omega
  ·have ec:cnt (⟨s',m',dd'⟩:WD)=cnt (D i):=by simp only[cnt,h1]
   have ev:(sumTo J fun a=>cnt (upd D i ⟨s',m',dd'⟩ a))=sumTo J fun a=>cnt (D a):=by omega
   have es':(sumTo J fun a=>(upd D i ⟨s',m',dd'⟩ a).stage)=sumTo J fun a=>(D a).stage:=by omega
   rw[ev,es']
   refine Prod.Lex.right _ ?_
   omega
 ·rcases htag with rfl|⟨rfl,rfl⟩
  ·exact hrem
  ·exact hrem
theorem rJ {Wg:Nat}:∀e∈ #[mk .disable],Bk Wg e:=by intro e he;simp at he;subst he;exact .inl rfl
theorem z7 {Wg:Nat}:∀e∈ #[mk .enable],Bk Wg e:=by intro e he;simp at he;subst he;exact .inr (.inl rfl)
theorem ow {Wg:Nat}:∀e∈ #[rd (stA Wg)],Bk Wg e:=by intro e he;simp at he;subst he;exact bk_cell _ _ rfl
theorem D4 {Wg:Nat}:∀e∈ #[wr (stA Wg)],Bk Wg e:=by intro e he;simp at he;subst he;exact bk_cell _ _ rfl
theorem oy {Wg:Nat}:∀e∈ #[rd (stA Wg),wr (stA Wg)],Bk Wg e:=by intro e he;simp at he;rcases he with rfl|rfl<;>exact bk_cell _ _ rfl
theorem xw {Wg:Nat}:∀e∈semEvents (smA Wg),Bk Wg e:=by
 intro e he
 simp[semEvents] at he
 rcases he with rfl|rfl|rfl|rfl
 ·exact .inl rfl
 ·exact bk_cell _ _ rfl
 ·exact bk_cell _ _ rfl
 ·exact .inr (.inl rfl)
def kR (dd:Nat)(es:Array Event):Prop:=∀j e,es[j]?=some e→(MemAct.ofEvent e).touch? =none∨0<deafBehind dd (es.extract 0 j)
theorem yO {a:Addr}:kR 1 #[rd a]:=by
 intro j e he
 match j,he with
 |0,_=>exact .inr (by simp[deafBehind])
 |j+1,he=>simp at he
theorem yP {a:Addr}:kR 1 #[wr a]:=by
 intro j e he
 match j,he with
 |0,_=>exact .inr (by simp[deafBehind])
 |j+1,he=>simp at he
theorem mG {a:Addr}:kR 1 #[rd a,wr a]:=by
 intro j e he
 match j,he with
 |0,_=>exact .inr (by simp[deafBehind])
 |1,_=>exact .inr (by simp[deafBehind,rd])
 |j+2,he=>simp at he
theorem wi {a:Addr}:kR 1 (semEvents a):=by
 intro j e he
 match j,he with
 |0,he=>simp[semEvents] at he;subst he;exact .inl rfl
 |1,_=>exact .inr (by simp[deafBehind,semEvents])
 |2,_=>exact .inr (by simp[deafBehind,semEvents])
 |3,he=>simp[semEvents] at he;subst he;exact .inl rfl
 |j+4,he=>simp[semEvents] at he
theorem jC {dd:Nat}{es:Array Event}(h:∀e∈es,(MemAct.ofEvent e).touch? =none):kR dd es:=fun j e he=>.inl (h e (Array.mem_of_getElem? he))
set_option maxHeartbeats 1600000 in
theorem vd (hR:∀j γ w w1,Rel γ w w1→Res j γ w→Res j γ w1)(hAr:∀γ g w,Anch γ g w→g.status= .running)(hN:n<2147483648)
  (ha:gs[0]?=some a) (hcs:CS P ty Wg End Anch n Xs Res (Γ 0) tag f0 d0 a w) (hcom:Com P ty Wg C wb Shun L Res J gs w t D Γ d0) (hwg:WgAt ty Wg w st sm) (hmode:ConcN.Mode J D tag st sm) (hrem:J+rem tag=L+n)
  {i:Nat} (hi:i<J) {g:Goroutine} (hg:gs[i+1]?=some g) (hrun:g.status= .running):
  ∃m₁ ops μ',runT P (crowd gs w sl) (i+1)=(.next m₁,ops)∧Lt2 μ' (phi n (Vc J D) tag+Ssum J D,f0+2*Fsum J D)∧iA P ty Wg C wb Shun L End Anch n Xs Res μ' m₁ (t++ops):=by
 obtain⟨g₁,hg₁,hs⟩:=hcom.wk i hi
 obtain rfl:g=g₁:=by rw[hg] at hg₁;exact bm hg₁
 generalize hst:(D i).stage=s at hs
 generalize hfu:(D i).fuel=m at hs
 generalize hde:(D i).deaf=dd at hs
 have hVn:=vm L D hcom.old hcom.LJ
 have hpr:pend tag≤rem tag:=by cases tag<;>simp only[pend,rem]<;>(try split)<;>omega
 have hdk:Deaf t (i+1)=dd:=by rw[hcom.deafW i hi,hde]
 have hLs:s≠1→L≤i:=fun h=>Nat.le_of_not_lt fun hlt=>h (hst▸hcom.old i hlt)
 have selfR:∀{w'},Aside Wg w w'→Rel (Γ (i+1)) w w':=fun hA=>hcom.dis.rel_wg hA
 have bookG:∀{g':Goroutine} {w':World} {es:Array Event} {s' m' dd':Nat} {st' sm':Int},stepG P false g w= .go g' w' es→Aside Wg w w'→WgAt ty Wg w' st' sm'→(∀e∈es,Bk Wg e)→kR dd es→
   (i<L→s'=1∧∀e∈es,(MemAct.ofEvent e).touch? =none)→WS P ty Wg (Rs L Res i) (Γ (i+1)) s' m' dd' g' w'→deafBehind dd es=dd'→s≤6→
   (∀tag',(tag'=tag∨(tag= .blk∧tag'= .w3))→(mayWake P g=true→g'.status= .running→tag'≠ .blk)→ConcN.Mode J (upd D i ⟨s',m',dd'⟩) tag' st' sm')→((s'<s∧cnt ⟨s',m',dd'⟩≤cnt (D i))∨(s'=s∧m'+1=m))→
   ∃m₁ ops μ',runT P (crowd gs w sl) (i+1)=(.next m₁,ops)∧Lt2 μ' (phi n (Vc J D) tag+Ssum J D,f0+2*Fsum J D)∧iA P ty Wg C wb Shun L End Anch n Xs Res μ' m₁ (t++ops):=by
  intro g' w' es s' m' dd' st' sm' hgo hAs hwg' hbk hd hold hs' hdd h6 hmode' hlt
  exact fQ hR hAr ha hcs hcom hrem hi hg hgo (lz hcom.dis hAs hbk) hwg' hs' (fun h=>(hold h).1) (fun h=>(hold h).2) (by rw[hde];exact hdd)
   (fun _ hL=>let ⟨r,hr⟩:=hcom.rel i hL hi (by omega);⟨r,hr.book hdk _ _ hbk hd⟩) hmode' (by rw[hst,hfu];exact hlt.imp id fun h=>⟨h.1,Nat.le_of_eq h.2⟩)
 have book:∀{g':Goroutine} {w':World} {es:Array Event} {s' m' dd':Nat} {st' sm':Int},stepG P false g w= .go g' w' es→Aside Wg w w'→WgAt ty Wg w' st' sm'→(∀e∈es,Bk Wg e)→kR dd es→
   (i<L→s'=1∧∀e∈es,(MemAct.ofEvent e).touch? =none)→WS P ty Wg (Rs L Res i) (Γ (i+1)) s' m' dd' g' w'→deafBehind dd es=dd'→s≤6→
   ConcN.Mode J (upd D i ⟨s',m',dd'⟩) tag st' sm'→((s'<s∧cnt ⟨s',m',dd'⟩≤cnt (D i))∨(s'=s∧m'+1=m))→
   ∃m₁ ops μ',runT P (crowd gs w sl) (i+1)=(.next m₁,ops)∧Lt2 μ' (phi n (Vc J D) tag+Ssum J D,f0+2*Fsum J D)∧iA P ty Wg C wb Shun L End Anch n Xs Res μ' m₁ (t++ops):=
  fun hgo hAs hwg' hbk hd hold hs' hdd h6 hmode' hlt=>bookG hgo hAs hwg' hbk hd hold hs' hdd h6 (fun _ ht _=>hmode'.retag ht) hlt
 have idle:∀{g':Goroutine} {m':Nat},stepG P false g w= .go g' w #[]→WS P ty Wg (Rs L Res i) (Γ (i+1)) s m' dd g' w→m'+1=m→s≤6→s≠1→
   ∃m₁ ops μ',runT P (crowd gs w sl) (i+1)=(.next m₁,ops)∧Lt2 μ' (phi n (Vc J D) tag+Ssum J D,f0+2*Fsum J D)∧iA P ty Wg C wb Shun L End Anch n Xs Res μ' m₁ (t++ops):=by
  intro g' m' hgo hs' hm h6 h1
  exact book hgo (.refl Wg w) hwg (by simp) (jC (by simp)) (fun hlt=>absurd (hLs h1) (by omega)) hs' rfl h6 (by have:=hmode.same (i:=i) m' dd;rwa [hst] at this) (.inr ⟨rfl,hm⟩)
 have r0case:∀{m2:Nat},s=7→dd=0→Rs L Res i (Γ (i+1)) w→Goes P false (RG ty Wg (Γ (i+1))) DC0 (WR0 P ty Wg (Γ (i+1))) m2 g w→m2≤m→
   ∃m₁ ops μ',runT P (crowd gs w sl) (i+1)=(.next m₁,ops)∧Lt2 μ' (phi n (Vc J D) tag+Ssum J D,f0+2*Fsum J D)∧iA P ty Wg C wb Shun L End Anch n Xs Res μ' m₁ (t++ops):=by
  intro m2 h7 hd0 hx h hm2
  subst h7
  subst hd0
  have hL:=hLs (by omega)
  rcases Goes.cases h with hstop|⟨m',rfl,hstep⟩
  ·obtain⟨_,g',hgo,m₂,hk⟩:=hstop w (RG.refl w)
   exact fQ hR hAr ha hcs hcom hrem hi hg hgo (qV hcom.dis (.inl rfl)) hwg (.k1 hx hk) (fun h=>by omega) (fun h=>by omega) (by rw[hde];rfl) (fun _ _=>⟨t.size,RelBy.new hdk _ _⟩)
    (fun _ ht _=>(hmode.counted hi (by omega) (.inl rfl) _ _).retag ht) (.inl ⟨by omega,by simp[cnt,hst]⟩)
  ·obtain⟨g',w',es,hgo,⟨rfl,rfl⟩,hg'⟩:=hstep w (RG.refl w)
   exact fQ hR hAr ha hcs hcom hrem hi hg hgo (lz hcom.dis (.refl Wg _) (by simp)) hwg (.r0 hx hg') (fun h=>by omega) (fun h=>by omega) (by rw[hde];rfl) (fun h=>by omega)
    (fun _ ht _=>ConcN.Mode.retag (by have:=hmode.same (i:=i) m' 0;rwa [hst] at this) ht) (.inr ⟨hst.symm,by omega⟩)
 cases hs with
 |user h=>
  rename_i m
  rcases @GoesG.cases P (pubPh P) _ _ _ _ _ _ h with hstop|⟨m',rfl,_,hstep|hph⟩
  ·obtain⟨hx,h,_⟩:=hstop w (Rel.refl _ _)
   exact r0case rfl rfl hx (h ⟨_,_,hwg⟩) (by omega)
  ·obtain⟨g',w',es,hgo,hgua,hg'⟩:=goes_elim (hstep w (Rel.refl _ _))
   have hA:w'.heap[Wg]?=w.heap[Wg]?:=hgua.fr.block Wg (bU hcom.dis.w0 hcom.dis.size) fun hs=>hcom.dis.wa (i+1) (.inl hs)
   have hL:=hLs (by omega)
   exact fQ hR hAr ha hcs hcom hrem hi hg hgo (oZ hcom.dis hgua) (hwg.of_block hA) (.user hg') (fun h=>by omega) (fun h=>by omega) (by
     rw[hde]
     refine deafBehind_idle (fun e he=>?_) 0
     rcases hgua.ev e he with(⟨a,wr,rfl,_⟩|rfl)|⟨r,wr,rfl,_⟩<;>simp) (fun h=>by omega)
    (fun _ ht _=>ConcN.Mode.retag (by have:=hmode.same (i:=i) (m'+41) 0;rwa [hst] at this) ht) (.inr ⟨hst.symm,by omega⟩)
  ·obtain⟨g',w',es,hgo,hpub,hg'⟩:=hph w (Rel.refl _ _) fun b o hx=>by
    have:=hcom.dis.xc _ b o hx
    subst this
    exact hcom.dis.ca (i+1)
   have hA:w'.heap[Wg]?=w.heap[Wg]?:=hpub.block Wg fun o hx=>hcom.dis.cw (hcom.dis.xc _ _ _ hx).symm
   have hL:=hLs (by omega)
   exact fQ hR hAr ha hcs hcom hrem hi hg hgo (A7 hcom.dis hpub) (hwg.of_block hA) (.user hg') (fun h=>by omega) (fun h=>by omega) (by
     rw[hde]
     refine deafBehind_idle (fun e he=>?_) 0
     obtain⟨b,o,rfl,_⟩:=hpub.ev e he
     simp) (fun h=>by omega)
    (fun _ ht _=>ConcN.Mode.retag (by have:=hmode.same (i:=i) (m'+41) 0;rwa [hst] at this) ht) (.inr ⟨hst.symm,by omega⟩)
 |r0 hx h=>exact r0case rfl rfl hx h (by omega)
 |k1 hx h=>
  rcases Goes.cases h with hstop|⟨m',rfl,hstep⟩
  ·obtain⟨_,g',hgo,m₂,hk⟩:=hstop w (RG.refl w)
   exact book hgo (.refl Wg w) hwg rJ (jC (by intro e he;simp at he;subst he;rfl)) (fun hlt=>absurd (hLs (by omega)) (by omega)) (.d1 hx hk) rfl (by omega) (hmode.counted hi (by omega) (.inr rfl) _ _) (.inl ⟨by omega,by simp[cnt,hst]⟩)
  ·obtain⟨g',w',es,hgo,⟨rfl,rfl⟩,hg'⟩:=hstep w (RG.refl w)
   exact idle hgo (.k1 hx hg') rfl (by omega) (by omega)
 |d1 hx h=>
  rcases Goes.cases h with hstop|⟨m',rfl,hstep⟩
  ·obtain⟨_,hall⟩:=hstop w (RG.refl w)
   have hL:=hLs (by omega)
   have hc1:cnt (D i)=1:=by simp[cnt,hst]
   have hV1:1≤Vc J D:=by have:=le_sumTo (f:=fun x=>cnt (D x)) hi;simp only[Vc];omega
   have hq0:∀q,cnt (⟨1,q,1⟩:WD)=0:=fun _=>rfl
   have opq:∀q,OpenSt J D→OpenSt J (upd D i ⟨1,q,1⟩):=fun q h a ha=>by
    by_cases e:a=i
    ·subst e;rw[upd_same];simp
    ·rw[upd_ne D _ e];exact h a ha
   cases hmode with
   |opn h1 h2 h3=>
    obtain⟨v,hv⟩:∃v,Vc J D+pend tag=v+1:=⟨Vc J D+pend tag-1,by omega⟩
    rw[hv] at hwg
    have hw1:WgAt ty Wg w (((v:Nat)+1)*KK+((0:Nat):Int)) 0:=by simpa using hwg
    obtain⟨g',hgo,_,hq⟩:=hall v 0 (by omega) (by omega) hw1
    obtain⟨q,hq⟩:=hq (by omega)
    have hv':Vc J (upd D i ⟨1,q,1⟩)+pend tag=v:=by have:=Vc_upd D (⟨1,q,1⟩:WD) hi;have:=hq0 q;omega
    refine book hgo (aside_setCell w (stA Wg) _) (hwg.setSt _) oy mG (fun hlt=>absurd hL (by omega)) (.quit (gZ hR i _ _ _ (selfR (aside_setCell w (stA Wg) _)) hx) hq) rfl (by omega) ?_ (.inl ⟨by omega,by simp[cnt]⟩)
    have e:((v:Nat):Int)*KK+((0:Nat):Int)=((Vc J (upd D i ⟨1,q,1⟩)+pend tag:Nat):Int)*KK:=by rw[hv'];simp
    rw[e]
    exact .opn h1 (opq q h2) (fun vs ev=>by have:=h3 vs ev;omega)
   |reg h1 h2 h3=>
    obtain⟨v,hv⟩:∃v,Vc J D=v+1:=⟨Vc J D-1,by omega⟩
    rw[hv] at hwg
    have hw1:WgAt ty Wg w (((v:Nat)+1)*KK+((1:Nat):Int)) 0:=by simpa using hwg
    obtain⟨g',hgo,hl,hq⟩:=hall v 1 (by omega) (by omega) hw1
    by_cases hv0:v=0
    ·subst hv0
     obtain⟨m₂,hk⟩:=hl ⟨rfl,rfl⟩
     refine book hgo (aside_setCell w (stA Wg) _) (hwg.setSt _) oy mG (fun hlt=>absurd hL (by omega)) (.d2 (gZ hR i _ _ _ (selfR (aside_setCell w (stA Wg) _)) hx) hk) rfl (by omega) ?_ (.inl ⟨by omega,by simp[cnt]⟩)
     have hoth:∀a,a<J→a≠i→(D a).stage=1:=fun a ha e=>by
      have c0:=others_uncounted hi hv hc1 a ha e
      have:=h2 a ha
      simp only[cnt] at c0
      split at c0<;>omega
     have:=ConcN.Mode.last (j:=J) (D:=upd D i ⟨4,m₂,1⟩) (tag:=tag) i h1 hi (by rw[upd_same];simp) (fun a ha e=>by rw[upd_ne D _ e];exact hoth a ha e)
     rw[upd_same] at this
     simpa using this
    ·obtain⟨q,hq⟩:=hq (by omega)
     have hv':Vc J (upd D i ⟨1,q,1⟩)=v:=by have:=Vc_upd D (⟨1,q,1⟩:WD) hi;have:=hq0 q;omega
     refine book hgo (aside_setCell w (stA Wg) _) (hwg.setSt _) oy mG (fun hlt=>absurd hL (by omega)) (.quit (gZ hR i _ _ _ (selfR (aside_setCell w (stA Wg) _)) hx) hq) rfl (by omega) ?_ (.inl ⟨by omega,by simp[cnt]⟩)
     have e:((v:Nat):Int)*KK+((1:Nat):Int)=((Vc J (upd D i ⟨1,q,1⟩):Nat):Int)*KK+1:=by rw[hv'];simp
     rw[e]
     exact .reg h1 (opq q h2) (by omega)
   |last L' _ h2 h3 h4=>
    by_cases e:i=L'
    ·subst e;omega
    ·have:=h4 i hi e;omega
   |sema h2=>have:=h2 i hi;omega
   |fin _ h2=>have:=h2 i hi;omega
  ·obtain⟨g',w',es,hgo,⟨rfl,rfl⟩,hg'⟩:=hstep w (RG.refl w)
   exact idle hgo (.d1 hx hg') rfl (by omega) (by omega)
 |d2 hx h=>
  rcases Goes.cases h with hstop|⟨m',rfl,hstep⟩
  ·obtain⟨_,hy⟩:=hstop w (RG.refl w)
   obtain⟨hW3,hoth,rfl,rfl⟩:=hmode.isLast hi (by omega)
   simp only[hst] at hwg
   obtain⟨g',hgo,m₂,hk⟩:=hy (by simpa using hwg)
   refine book hgo (.refl Wg w) hwg ow yO (fun hlt=>absurd (hLs (by omega)) (by omega)) (.d3 hx hk) rfl (by omega) ?_ (.inl ⟨by omega,by simp[cnt]⟩)
   have:=ConcN.Mode.last (j:=J) (D:=upd D i ⟨3,m₂,1⟩) (tag:=tag) i hW3 hi (by rw[upd_same];simp) (fun a ha e=>by rw[upd_ne D _ e];exact hoth a ha e)
   rw[upd_same] at this
   simpa using this
  ·obtain⟨g',w',es,hgo,⟨rfl,rfl⟩,hg'⟩:=hstep w (RG.refl w)
   exact idle hgo (.d2 hx hg') rfl (by omega) (by omega)
 |d3 hx h=>
  rcases Goes.cases h with hstop|⟨m',rfl,hstep⟩
  ·obtain⟨_,hy⟩:=hstop w (RG.refl w)
   obtain⟨hW3,hoth,rfl,rfl⟩:=hmode.isLast hi (by omega)
   simp only[hst] at hwg
   obtain⟨g',hgo,m₂,hk⟩:=hy (by simpa using hwg)
   refine book hgo (aside_setCell w (stA Wg) _) (hwg.setSt 0) D4 yP (fun hlt=>absurd (hLs (by omega)) (by omega)) (.d4 (gZ hR i _ _ _ (selfR (aside_setCell w (stA Wg) _)) hx) hk) rfl (by omega) ?_ (.inl ⟨by omega,by simp[cnt]⟩)
   have:=ConcN.Mode.last (j:=J) (D:=upd D i ⟨2,m₂,1⟩) (tag:=tag) i hW3 hi (by rw[upd_same];simp) (fun a ha e=>by rw[upd_ne D _ e];exact hoth a ha e)
   rw[upd_same] at this
   simpa using this
  ·obtain⟨g',w',es,hgo,⟨rfl,rfl⟩,hg'⟩:=hstep w (RG.refl w)
   exact idle hgo (.d3 hx hg') rfl (by omega) (by omega)
 |d4 hx h=>
  rcases Goes.cases h with hstop|⟨m',rfl,hstep⟩
  ·obtain⟨_,hmw,hy⟩:=hstop w (RG.refl w)
   obtain⟨hW3,hoth,rfl,rfl⟩:=hmode.isLast hi (by omega)
   simp only[hst] at hwg
   obtain⟨g',hgo,q,hq⟩:=hy (by simpa using hwg)
   have hrun':g'.status= .running:=by
    cases q with
    |zero=>exact absurd hq.2 (by decide)
    |succ q=>exact hq.elim (fun x=>absurd x.2 (by decide)) (fun x=>x.1)
   refine bookG hgo (aside_setCell w (smA Wg) _) (hwg.setSm 1) (es:=semEvents (smA Wg)) xw wi (fun hlt=>absurd (hLs (by omega)) (by omega)) (.quit (gZ hR i _ _ _ (selfR (aside_setCell w (smA Wg) _)) hx) hq) (by simp[deafBehind,semEvents]) (by omega) ?_ (.inl ⟨by omega,by simp[cnt]⟩)
   intro tag' ht hw
   have hnb:=hw hmw hrun'
   have e3:tag'= .w3:=by
    rcases ht with rfl|⟨_,rfl⟩
    ·cases tag'<;>first|rfl|exact hW3.elim|exact absurd rfl hnb
    ·rfl
   subst e3
   simp only[if_true]
   exact .sema fun a ha=>by
    by_cases e:a=i
    ·subst e;rw[upd_same]
    ·rw[upd_ne D _ e];exact hoth a ha e
  ·obtain⟨g',w',es,hgo,⟨rfl,rfl⟩,hg'⟩:=hstep w (RG.refl w)
   exact idle hgo (.d4 hx hg') rfl (by omega) (by omega)
 |quit hx h=>
  cases m with
  |zero=>rw[h.1] at hrun;cases hrun
  |succ q=>
   rcases h with⟨hf,_⟩|⟨_,g',es,hmute,hstep,hq⟩
   ·rw[hf] at hrun;cases hrun
   ·have hno:∀e∈es,(MemAct.ofEvent e).touch? =none:=fun e he=>touch_mute (hmute e he)
    exact book (hstep w) (.refl Wg w) hwg (fun e he=>bk_of_mute (hmute e he)) (jC hno) (fun _=>⟨rfl,hno⟩) (.quit hx hq) rfl (by omega) (by have:=hmode.same (i:=i) q (deafBehind dd es);rwa [hst] at this) (.inr ⟨rfl,rfl⟩)
end
end Go.Proofs.Ytbmnihglaokhmaa.Am
namespace Go.Proofs.Ytbmnihglaokhmaa.Am
open Go Go.RowKit Go.Conc Go.ConcN
open Go.ConcR (KK wgBlock WgAt stA smA rd wr mk DC0 Bk g_of_ofEvents ofEvent_loc_mark ofEvent_cell again_blocked bk_of_mute)
section
variable {P:Program} {ty:TypeId} {Wg C:Nat} {wb:World} {Shun:Loc→Prop} {L:Nat} {End:Goroutine→Prop} {Anch:Gh→Goroutine→World→Prop} {n:Nat} {Xs:Nat→Nat→Nat→Prop} {Res:Nat→Gh→World→Prop}
 {gs:Array Goroutine} {w w':World} {sl:Option (Nat×Nat)} {J:Nat} {D:Nat→WD} {Γ:Nat→Gh} {tag:CTag} {f0 d0:Nat} {a:Goroutine} {t:Trace} {st sm:Int}
theorem Com.spawnG (hXd:∀i k b o,i≠k→Xs i b o→¬Xs k b o)(h:Com P ty Wg C wb Shun L Res J gs w t D Γ 0){j:Nat}(hj:J=L+j)(hjn:j<n)(hX:(Γ 0).X=Xr n Xs j){a' child:Goroutine}{x y:MemOp}{m:Nat}
  (hx:x.g=0∧x.act= .go (J+1)) (hy:y.g=J+1∧y.act= .start) (hc:@GoesG P (pubPh P) false (WDone P ty Wg (Res j)) m ((Γ 0).take (Xs j)) child w):
  Com P ty Wg C wb Shun L Res (J+1) ((gs.setIfInBounds 0 a').push child) w (t++ #[x,y]) (upd D J ⟨7,m+41,0⟩) (upd (upd Γ 0 ((Γ 0).give n Xs (j+1))) (J+1) ((Γ 0).take (Xs j))) 0:=by
 have hm:∀op∈ #[x,y],op=x∨op=y:=by intro op hop;simpa using hop
 have hst:∀op∈ #[x,y],op.act≠ .mark .disable∧op.act≠ .mark .enable:=by
  intro op hop
  rcases hm op hop with rfl|rfl
  ·rw[hx.2];exact⟨by simp,by simp⟩
  ·rw[hy.2];exact⟨by simp,by simp⟩
 have hXj:∀b o,Xs j b o→(Γ 0).X b o:=fun b o hb=>by rw[hX];exact⟨j,aN _,hjn,hb⟩
 have hXr:∀b o,Xr n Xs (j+1) b o→(Γ 0).X b o:=fun b o ⟨i,h1,h2,h3⟩=>by rw[hX];exact⟨i,by omega,h2,h3⟩
 have hXn:∀b o,Xs j b o→¬Xr n Xs (j+1) b o:=fun b o hb ⟨i,h1,_,h3⟩=>hXd j i b o (by omega) hb h3
 generalize hΓ:upd (upd Γ 0 ((Γ 0).give n Xs (j+1))) (J+1) ((Γ 0).take (Xs j))=Γ'
 have g0:Γ' 0=⟨fun _=>False,(Γ 0).A,Xr n Xs (j+1)⟩:=by rw[←hΓ,upd_ne _ _ (by omega),upd_same];rfl
 have gc:Γ' (J+1)=⟨fun _=>False,(Γ 0).A,Xs j⟩:=by rw[←hΓ,upd_same];rfl
 have gn:∀k,k≠0→k≠J+1→Γ' k=Γ k:=fun k h0 h1=>by rw[←hΓ,upd_ne _ _ h1,upd_ne _ _ h0]
 have cs:∀k,k=0∨k=J+1∨(k≠0∧k≠J+1):=fun k=>by omega
 refine⟨by simp[h.size],fun i hi=>?_,fun i hi=>?_,by have:=h.LJ;omega,fun i hi=>?_,?_,?_,h.norel.app fun op hop=>?_,by rw[ConcN.Deaf_still t 0 _ hst,h.deaf0],fun i hi=>?_,fun i hL hi hs=>?_,h.base⟩
 ·rcases cY i J with hlt|hge
  ·obtain⟨g,hg,hsg⟩:=h.wk i hlt
   refine⟨g,?_,by rw[upd_ne D _ (by omega),gn _ (by omega) (by omega)];exact hsg⟩
   rw[Array.getElem?_push_lt (by simp[h.size];omega),←eH,kQ (by omega)]
   exact hg
  ·obtain rfl:i=J:=by omega
   refine⟨child,?_,?_⟩
   ·rw[show i+1=(gs.setIfInBounds 0 a').size by simp[h.size],Array.getElem?_push_size]
   ·rw[upd_same,←hΓ,upd_same]
    refine .user (@GoesG.impl P (pubPh P) _ _ _ _ _ _ _ hc fun γ g w hw=>⟨.inr ?_,hw.2⟩)
    rw[show i-L=j by omega];exact hw.1
 ·by_cases e:i=J
  ·have:=h.LJ;omega
  ·rw[upd_ne D _ e];exact h.old i hi
 ·rw[gn i (by omega) (by omega)];exact h.out i (by omega)
 ·rw[←hΓ]
  exact h.dis.fork (by omega) (h.out (J+1) (by omega)) hXj hXr hXn
 ·refine h.tl.fork (by have:=h.LJ;omega) (by omega) hx hy h.deaf0 (fun g l hl=>?_) (fun g l hl=>?_)
  ·rcases cs g with rfl|rfl|⟨e1,e2⟩
   ·refine .inl ⟨by omega,?_⟩
    unfold OwnF at hl
    rw[g0] at hl
    rcases hl with⟨a,rfl,hl|hl⟩|⟨r,rfl,hl⟩
    ·exact hl.elim
    ·exact .inl ⟨a,rfl,.inr (hXr _ _ hl)⟩
    ·exact hl.elim
   ·refine .inr ⟨rfl,?_⟩
    unfold OwnF at hl
    rw[gc] at hl
    rcases hl with⟨a,rfl,hl|hl⟩|⟨r,rfl,hl⟩
    ·exact hl.elim
    ·exact .inl ⟨a,rfl,.inr (hXj _ _ hl)⟩
    ·exact hl.elim
   ·refine .inl ⟨e2,?_⟩
    unfold OwnF at hl
    rw[gn g e1 e2] at hl
    exact hl
  ·have key:∀a:Addr,(Γ 0).A a.block→OwnF Γ 0 (.cell a)∨RdG Γ 0 (.cell a):=fun a ha=>ha.elim (fun x=>.inl (.inl ⟨a,rfl,.inl x⟩)) fun x=>.inr ⟨a,rfl,x⟩
   rcases cs g with rfl|rfl|⟨e1,e2⟩
   ·refine .inl ⟨by omega,?_⟩
    obtain⟨a,rfl,hl⟩:=hl
    rw[g0] at hl
    exact key a hl
   ·refine .inr ⟨rfl,?_⟩
    obtain⟨a,rfl,hl⟩:=hl
    rw[gc] at hl
    exact key a hl
   ·refine .inl ⟨e2,.inr ?_⟩
    unfold RdG at hl
    rw[gn g e1 e2] at hl
    exact hl
 ·rcases hm op hop with rfl|rfl
  ·rw[hx.2];simp
  ·rw[hy.2];simp
 ·rw[ConcN.Deaf_still t _ _ hst]
  rcases cY i J with hlt|hge
  ·rw[h.deafW i hlt,upd_ne D _ (by omega)]
  ·obtain rfl:i=J:=by omega
   rw[upd_same]
   exact Deaf_absent fun a op ha e=>by have:=h.tl.gs a op ha;omega
 ·rcases cY i J with hlt|hge
  ·rw[upd_ne D _ (by omega)] at hs
   obtain⟨r,hr⟩:=h.rel i hL hlt hs
   refine⟨r,hr.appNot fun op hop=>?_⟩
   rcases hm op hop with rfl|rfl
   ·rw[hx.1];omega
   ·rw[hy.1];omega
  ·obtain rfl:i=J:=by omega
   rw[upd_same] at hs
   simp at hs
theorem dF (hR:∀j γ w w1,Rel γ w w1→Res j γ w→Res j γ w1)(ha:gs[0]?=some a)(hcom:Com P ty Wg C wb Shun L Res J gs w t D Γ d0)
  {a':Goroutine} {es:Array Event} {tag':CTag} {f':Nat} {st' sm':Int} {γ':Gh} (hgo:stepG P true a w= .go a' w' es) (hk:Kind Wg C wb Shun Γ 0 γ' w w' es) (hwg:WgAt ty Wg w' st' sm')
  (hcs':CS P ty Wg End Anch n Xs Res γ' tag' f' (deafBehind d0 es) a' w') (hmode:ConcN.Mode J D tag' st' sm') (hrem:J+rem tag'=L+n)
  (hlt:phi n (Vc J D) tag'<phi n (Vc J D) tag∨(phi n (Vc J D) tag'=phi n (Vc J D) tag∧f'<f0)):
  ∃m₁ ops μ',runT P (crowd gs w sl) 0=(.next m₁,ops)∧Lt2 μ' (phi n (Vc J D) tag+Ssum J D,f0+2*Fsum J D)∧iA P ty Wg C wb Shun L End Anch n Xs Res μ' m₁ (t++ops):=by
 have hrun:=runT_crowd_go (P:=P) (sl:=sl) (i:=0) ha (by simpa using hgo)
 refine⟨_,_,(phi n (Vc J D) tag'+Ssum J D,f'+2*Fsum J D),hrun,?_,
  _,w',sl,J,D,upd Γ 0 γ',tag',f',deafBehind d0 es,a',st',sm',rfl,get_map_set_same _ _ _ (by rw[hcom.size];omega),by rw[upd_same];exact hcs',hcom.step0 hR hk ⟨_,_,hwg⟩,hwg,hmode,hrem,rfl⟩
 rcases hlt with h|⟨h1,h2⟩
 ·exact Prod.Lex.left _ _ (by omega)
 ·rw[h1];exact Prod.Lex.right _ (by omega)
variable (P ty Wg C wb Shun L End n Res) in
def s7 (m:Machine)(t:Trace):Prop:=
 ∃(gs:Array Goroutine) (w:World) (sl:Option (Nat×Nat)) (D:Nat→WD) (Γ:Nat→Gh) (a:Goroutine),m=crowd gs w sl∧gs[0]?=some a∧a.status= .running∧End a∧Com P ty Wg C wb Shun L Res (L+n) gs w t D Γ 0∧AllQuit (L+n) D∧
  ∃q,t.act? q=some (.mark (.acquire (stA Wg)))∧t.g? q=some 0∧t.heard q∧∀i,L≤i→i<L+n→∃r,RelBy (stA Wg) t (i+1) r∧r<q
theorem pF {es:Array Event}(h:∀e∈es,mo Wg e)(d:Nat):deafBehind d es=d:=deafBehind_idle (fun e he=>by obtain⟨a,_,rfl|rfl⟩:=h e he<;>simp) d
theorem GJ (hR:∀j γ w w1,Rel γ w w1→Res j γ w→Res j γ w1)(hN:n<2147483648)(ha:gs[0]?=some a)(hcom:Com P ty Wg C wb Shun L Res J gs w t D Γ 1)(hwg:WgAt ty Wg w st sm)(hmode:ConcN.Mode J D .w1 st sm)(hJ:J=L+n)
  (h:Goes P true (RG ty Wg (Γ 0)) (DS Wg) (SW1 P ty Wg End Anch (Γ 0)) f0 a w):
  ∃m₁ ops μ',runT P (crowd gs w sl) 0=(.next m₁,ops)∧Lt2 μ' (phi n (Vc J D) .w1+Ssum J D,f0+2*Fsum J D)∧iA P ty Wg C wb Shun L End Anch n Xs Res μ' m₁ (t++ops):=by
 rcases Goes.cases h with hstop|⟨m',rfl,hstep⟩
 ·obtain⟨_,hall⟩:=hstop w (RG.refl w)
  obtain⟨ho,rfl,rfl,_⟩:=hmode.open_inv trivial
  have hV:=vm L D hcom.old hcom.LJ
  obtain⟨a',hgo,h0,hne⟩:=hall (Vc J D) (by omega) (by simpa[pend] using hwg)
  by_cases hv:Vc J D=0
  ·obtain⟨m₂,hk⟩:=h0 hv
   refine dF hR ha hcom hgo (lz hcom.dis (.refl Wg w) ow) hwg (tag':=.ke) (.ke hk) ?_ (by simp[rem,hJ]) (.inl (by simp only[phi];omega))
   have e:((Vc J D+pend .w1:Nat):Int)*KK=0:=by rw[hv];simp[pend]
   rw[e]
   exact .fin trivial (allQuit_of ho hv)
  ·obtain⟨m₂,hk⟩:=hne hv
   exact dF hR ha hcom hgo (lz hcom.dis (.refl Wg w) ow) hwg (tag':=.w2 (Vc J D)) (.w2 hk) (hmode.reopen trivial trivial rfl (fun vs e=>by cases e;omega)) (by simp[rem,hJ]) (.inl (by simp only[phi];omega))
 ·obtain⟨a',w',es,hgo,⟨rfl,hes⟩,hg'⟩:=hstep w (RG.refl w)
  exact dF hR ha hcom hgo (qW hcom.dis ⟨rfl,hes⟩) hwg (tag':=.w1) (by rw[pF hes];exact .w1 hg') hmode (by simp[rem,hJ]) (.inr ⟨rfl,by omega⟩)
set_option maxHeartbeats 3200000 in
theorem vb (hR:∀j γ w w1,Rel γ w w1→Res j γ w→Res j γ w1)(hXd:∀i k b o,i≠k→Xs i b o→¬Xs k b o)(hN:n<2147483648)
  (hAn:∀γ g w,WgLive ty Wg w→Anch γ g w→∃m,Goes P true (RG ty Wg γ) (DS Wg) (SW1 P ty Wg End Anch γ) m g w)
  (ha:gs[0]?=some a) (hcs:CS P ty Wg End Anch n Xs Res (Γ 0) tag f0 d0 a w) (hcom:Com P ty Wg C wb Shun L Res J gs w t D Γ d0) (hwg:WgAt ty Wg w st sm) (hmode:ConcN.Mode J D tag st sm) (hrem:J+rem tag=L+n) (hrun:a.status= .running):
  ∃m₁ ops,runT P (crowd gs w sl) 0=(.next m₁,ops)∧(s7 P ty Wg C wb Shun L End n Res m₁ (t++ops)∨∃μ',Lt2 μ' (phi n (Vc J D) tag+Ssum J D,f0+2*Fsum J D)∧iA P ty Wg C wb Shun L End Anch n Xs Res μ' m₁ (t++ops)):=by
 have hV:=vm L D hcom.old hcom.LJ
 have hlive:WgLive ty Wg w:=⟨_,_,hwg⟩
 have go:(∃m₁ ops μ',runT P (crowd gs w sl) 0=(.next m₁,ops)∧Lt2 μ' (phi n (Vc J D) tag+Ssum J D,f0+2*Fsum J D)∧iA P ty Wg C wb Shun L End Anch n Xs Res μ' m₁ (t++ops))→
   ∃m₁ ops,runT P (crowd gs w sl) 0=(.next m₁,ops)∧(s7 P ty Wg C wb Shun L End n Res m₁ (t++ops)∨∃μ',Lt2 μ' (phi n (Vc J D) tag+Ssum J D,f0+2*Fsum J D)∧iA P ty Wg C wb Shun L End Anch n Xs Res μ' m₁ (t++ops)):=
  fun⟨m₁,ops,μ',h1,h2,h3⟩=>⟨m₁,ops,h1,.inr ⟨μ',h2,h3⟩⟩
 have idle:∀{a':Goroutine} {w':World} {es:Array Event} {f':Nat},stepG P true a w= .go a' w' es→DS Wg w w' es→CS P ty Wg End Anch n Xs Res (Γ 0) tag f' d0 a' w'→f'<f0→
   ∃m₁ ops μ',runT P (crowd gs w sl) 0=(.next m₁,ops)∧Lt2 μ' (phi n (Vc J D) tag+Ssum J D,f0+2*Fsum J D)∧iA P ty Wg C wb Shun L End Anch n Xs Res μ' m₁ (t++ops):=by
  intro a' w' es f' hgo hD hcs' hf
  obtain⟨rfl,hes⟩:=hD
  exact dF hR ha hcom hgo (qW hcom.dis ⟨rfl,hes⟩) hwg (by rw[pF hes];exact hcs') hmode hrem (.inr ⟨rfl,hf⟩)
 have own:∀{a':Goroutine} {w':World} {es:Array Event} {f':Nat},stepG P true a w= .go a' w' es→Gua (Γ 0) w w' es→CS P ty Wg End Anch n Xs Res ((Γ 0).grow w w') tag f' d0 a' w'→f'<f0→
   ∃m₁ ops μ',runT P (crowd gs w sl) 0=(.next m₁,ops)∧Lt2 μ' (phi n (Vc J D) tag+Ssum J D,f0+2*Fsum J D)∧iA P ty Wg C wb Shun L End Anch n Xs Res μ' m₁ (t++ops):=by
  intro a' w' es f' hgo hg hcs' hf
  have hA:w'.heap[Wg]?=w.heap[Wg]?:=hg.fr.block Wg (bU hcom.dis.w0 hcom.dis.size) fun hs=>hcom.dis.wa 0 (.inl hs)
  have hdf:deafBehind d0 es=d0:=deafBehind_idle (fun e he=>by rcases hg.ev e he with(⟨a,wr,rfl,_⟩|rfl)|⟨r,wr,rfl,_⟩<;>simp) d0
  exact dF hR ha hcom hgo (oZ hcom.dis hg) (hwg.of_block hA) (by rw[hdf];exact hcs') hmode hrem (.inr ⟨rfl,hf⟩)
 have book:∀{a':Goroutine} {w':World} {es:Array Event} {tag':CTag} {f':Nat} {st' sm':Int},stepG P true a w= .go a' w' es→Aside Wg w w'→WgAt ty Wg w' st' sm'→(∀e∈es,Bk Wg e)→CS P ty Wg End Anch n Xs Res (Γ 0) tag' f' (deafBehind d0 es) a' w'→
   ConcN.Mode J D tag' st' sm'→rem tag'=rem tag→(phi n (Vc J D) tag'<phi n (Vc J D) tag∨(phi n (Vc J D) tag'=phi n (Vc J D) tag∧f'<f0))→
   ∃m₁ ops μ',runT P (crowd gs w sl) 0=(.next m₁,ops)∧Lt2 μ' (phi n (Vc J D) tag+Ssum J D,f0+2*Fsum J D)∧iA P ty Wg C wb Shun L End Anch n Xs Res μ' m₁ (t++ops):=
  fun hgo hAs hwg' hbk hcs' hmode' hr hlt=>dF hR ha hcom hgo (lz hcom.dis hAs hbk) hwg' hcs' hmode' (by rw[hr];exact hrem) hlt
 have skcase:∀{r m2:Nat},tag= .sp r 5→d0=0→r<n→(Γ 0).X=Xr n Xs (n-(r+1))→m2≤f0→Goes P true (RG ty Wg (Γ 0)) (DS Wg) (SKdS P ty Wg n Xs Res (n-(r+1)) (Spw P ty Wg Anch n Xs Res r) (Γ 0)) m2 a w→
   ∃m₁ ops μ',runT P (crowd gs w sl) 0=(.next m₁,ops)∧Lt2 μ' (phi n (Vc J D) tag+Ssum J D,f0+2*Fsum J D)∧iA P ty Wg C wb Shun L End Anch n Xs Res μ' m₁ (t++ops):=by
  intro r m2 ht hd hr hX hm h
  subst ht
  subst hd
  rcases Goes.cases h with hstop|⟨m',rfl,hstep⟩
  ·obtain⟨_,a',hgo,m₂,hk⟩:=hstop w (RG.refl w)
   exact book hgo (.refl Wg w) hwg rJ (.sa hr hX hk) (hmode.reopen trivial trivial rfl (by simp)) rfl (.inl (by simp only[phi];omega))
  ·obtain⟨a',w',es,hgo,hD,hg'⟩:=hstep w (RG.refl w)
   exact idle hgo hD (.sk hr hX hg') (by omega)
 have kdcase:∀{m2:Nat},tag= .kd→d0=0→m2≤f0→Goes P true (RG ty Wg (Γ 0)) (DS Wg) (SKd P ty Wg Anch (Γ 0)) m2 a w→
   ∃m₁ ops μ',runT P (crowd gs w sl) 0=(.next m₁,ops)∧Lt2 μ' (phi n (Vc J D) tag+Ssum J D,f0+2*Fsum J D)∧iA P ty Wg C wb Shun L End Anch n Xs Res μ' m₁ (t++ops):=by
  intro m2 ht hd hm h
  subst ht
  subst hd
  simp only[rem] at hrem
  rcases Goes.cases h with hstop|⟨m',rfl,hstep⟩
  ·obtain⟨_,a',hgo,m₂,hk⟩:=hstop w (RG.refl w)
   exact book hgo (.refl Wg w) hwg rJ (.anch hk) (hmode.reopen trivial trivial rfl (by simp)) rfl (.inl (by simp only[phi];omega))
  ·obtain⟨a',w',es,hgo,hD,hg'⟩:=hstep w (RG.refl w)
   exact idle hgo hD (.kd hg') (by omega)
 have sgcase:∀{r s m2:Nat},tag= .sp r s→(s=2∨(s=1∧m2=f0))→d0=0→r<n→(Γ 0).X=Xr n Xs (n-(r+1))→ @GoesG P (noPh P) true (SGo P ty Wg n Xs Res (n-(r+1)) (Spw P ty Wg Anch n Xs Res r)) m2 (Γ 0) a w→
   ∃m₁ ops μ',runT P (crowd gs w sl) 0=(.next m₁,ops)∧Lt2 μ' (phi n (Vc J D) tag+Ssum J D,f0+2*Fsum J D)∧iA P ty Wg C wb Shun L End Anch n Xs Res μ' m₁ (t++ops):=by
  intro r s m2 ht hs hd hr hX h
  subst ht
  subst hd
  have hpnd:∀s,s≤3→pend (.sp r s)=1:=fun s hs=>by simp[pend,hs]
  have hs3:s≤3:=by omega
  simp only[rem] at hrem
  rcases @GoesG.cases P (noPh P) _ _ _ _ _ _ h with hstop|⟨m',rfl,_,hstep|hph⟩
  ·obtain⟨_,a',child,hsp,⟨m₂,hwk⟩,hnext⟩:=hstop w (Rel.refl _ _)
   obtain⟨ho,rfl,rfl,_⟩:=hmode.open_inv trivial
   have hrun':=runT_crowd_spawn (P:=P) (sl:=sl) (i:=0) ha (by simpa using hsp)
   rw[hcom.size] at hrun'
   have hcom':=hcom.spawnG hXd (j:=n-(r+1)) (by omega) (by omega) hX (a':=a') (x:={g:=0,fn:=a.frame.fn,pos:=a.frame.place,act:=.go (J+1)}) (y:={g:=J+1,fn:=child.frame.fn,pos:=a.frame.place,act:=.start}) ⟨rfl,rfl⟩ ⟨rfl,rfl⟩ hwk
   have eV:Vc (J+1) (upd D J ⟨7,m₂+41,0⟩)=Vc J D+1:=by
    simp only[Vc,sumTo,upd_same]
    rw[sumTo_upd_out D _ cnt (aN _)];rfl
   have eS:Ssum (J+1) (upd D J ⟨7,m₂+41,0⟩)=Ssum J D+7:=by
    simp only[Ssum,sumTo,upd_same]
    rw[sumTo_upd_out D _ WD.stage (aN _)]
   have ho':OpenSt (J+1) (upd D J ⟨7,m₂+41,0⟩):=fun i hi=>by
    by_cases e:i=J
    ·subst e;rw[upd_same];simp
    ·rw[upd_ne D _ e];exact ho i (by omega)
   have ha':((gs.setIfInBounds 0 a').push child)[0]?=some a':=by
    rw[Array.getElem?_push_lt (by simp[hcom.size]),←eH]
    simp[hcom.size]
   have est:∀tag',pend tag'=0→((Vc J D+pend (.sp r s):Nat):Int)*KK=((Vc (J+1) (upd D J ⟨7,m₂+41,0⟩)+pend tag':Nat):Int)*KK:=fun tag' hp=>by rw[eV,hp,hpnd s hs3]
   have ge:∀k,n-(r+1)+1=k→(upd (upd Γ 0 ((Γ 0).give n Xs (n-(r+1)+1))) (J+1) ((Γ 0).take (Xs (n-(r+1))))) 0=(Γ 0).give n Xs k:=fun k hk=>by rw[upd_ne _ _ (by omega),upd_same,hk]
   cases r with
   |zero=>
    obtain⟨m₃,hk⟩:=hnext
    refine⟨_,_,(phi n (Vc (J+1) (upd D J ⟨7,m₂+41,0⟩)) .kd+Ssum (J+1) (upd D J ⟨7,m₂+41,0⟩),(m₃+61)+2*Fsum (J+1) (upd D J ⟨7,m₂+41,0⟩)),hrun',Prod.Lex.left _ _ (by simp only[phi];omega),
     _,w,sl,J+1,_,_,.kd,m₃+61,0,a',_,_,rfl,ha',?_,hcom',hwg,?_,by simp only[rem];omega,rfl⟩
    ·rw[ge _ rfl];exact .ku hk
    ·rw[est .kd rfl]
     exact .opn trivial ho' (by simp)
   |succ r'=>
    obtain⟨m₃,hk⟩:=hnext
    have ej:n-(r'+1+1)+1=n-(r'+1):=by omega
    refine⟨_,_,(phi n (Vc (J+1) (upd D J ⟨7,m₂+41,0⟩)) (.sp r' 5)+Ssum (J+1) (upd D J ⟨7,m₂+41,0⟩),(m₃+61)+2*Fsum (J+1) (upd D J ⟨7,m₂+41,0⟩)),hrun',Prod.Lex.left _ _ (by simp only[phi];omega),
     _,w,sl,J+1,_,_,.sp r' 5,m₃+61,0,a',_,_,rfl,ha',?_,hcom',hwg,?_,by simp only[rem];omega,rfl⟩
    ·rw[ge _ ej]
     rw[ej] at hk
     exact .su (by omega) rfl hk
    ·rw[est (.sp r' 5) rfl]
     exact .opn trivial ho' (by simp)
  ·obtain⟨a',w',es,hgo,hgua,hg'⟩:=goes_elim (hstep w (Rel.refl _ _))
   have hA:w'.heap[Wg]?=w.heap[Wg]?:=hgua.fr.block Wg (bU hcom.dis.w0 hcom.dis.size) fun hs=>hcom.dis.wa 0 (.inl hs)
   have hdf:deafBehind 0 es=0:=deafBehind_idle (fun e he=>by rcases hgua.ev e he with(⟨a,wr,rfl,_⟩|rfl)|⟨r,wr,rfl,_⟩<;>simp) 0
   refine dF hR ha hcom hgo (oZ hcom.dis hgua) (hwg.of_block hA) (tag':=.sp r 1) (by rw[hdf];exact .sg hr hX hg') (hmode.reopen trivial trivial (by rw[hpnd s hs3,hpnd 1 (by omega)]) (by simp)) (by simpa[rem] using hrem) ?_
   rcases hs with rfl|⟨rfl,rfl⟩
   ·exact .inl (by simp only[phi];omega)
   ·exact .inr ⟨rfl,by omega⟩
  ·exact(hph w (Rel.refl _ _)).elim
 cases hcs with
 |su hr hX h=>
  rcases @GoesG.cases P (noPh P) _ _ _ _ _ _ h with hstop|⟨m',rfl,_,hstep|hph⟩
  ·exact go (skcase rfl rfl hr hX (by omega) ((hstop w (Rel.refl _ _)).1 hlive))
  ·obtain⟨a',w',es,hgo,hgua,hg'⟩:=goes_elim (hstep w (Rel.refl _ _))
   exact go (own hgo hgua (.su hr hX hg') (by omega))
  ·exact(hph w (Rel.refl _ _)).elim
 |sk hr hX h=>exact go (skcase rfl rfl hr hX (aN _) h)
 |sa hr hX h=>
  rename_i r
  rcases Goes.cases h with hstop|⟨m',rfl,hstep⟩
  ·obtain⟨_,hall⟩:=hstop w (RG.refl w)
   obtain⟨ho,rfl,rfl,_⟩:=hmode.open_inv trivial
   simp only[rem] at hrem
   obtain⟨a',hgo,m₂,hk⟩:=hall (Vc J D) (by omega) (by simpa[pend] using hwg)
   refine go (book hgo (aside_setCell w (stA Wg) _) (hwg.setSt _) oy (.se hr hX hk) ?_ rfl (.inl (by simp only[phi];omega)))
   have e:(((Vc J D:Nat):Int)+1)*KK=((Vc J D+pend (.sp r 3):Nat):Int)*KK:=by simp[pend]
   rw[e]
   exact .opn trivial ho (by simp)
  ·obtain⟨a',w',es,hgo,hD,hg'⟩:=hstep w (RG.refl w)
   exact go (idle hgo hD (.sa hr hX hg') (by omega))
 |se hr hX h=>
  rcases Goes.cases h with hstop|⟨m',rfl,hstep⟩
  ·obtain⟨_,a',hgo,m₂,hk⟩:=hstop w (RG.refl w)
   exact go (book hgo (.refl Wg w) hwg z7 (.sl hr hX hk) (hmode.reopen trivial trivial rfl (by simp)) rfl (.inl (by simp only[phi];omega)))
  ·obtain⟨a',w',es,hgo,hD,hg'⟩:=hstep w (RG.refl w)
   exact go (idle hgo hD (.se hr hX hg') (by omega))
 |sl hr hX h=>
  rcases Goes.cases h with hstop|⟨m',rfl,hstep⟩
  ·obtain⟨m₂,hk⟩:=hstop w (RG.refl w)
   exact go (sgcase rfl (.inl rfl) rfl hr hX hk)
  ·obtain⟨a',w',es,hgo,hD,hg'⟩:=hstep w (RG.refl w)
   exact go (idle hgo hD (.sl hr hX hg') (by omega))
 |sg hr hX h=>exact go (sgcase rfl (.inr ⟨rfl,rfl⟩) rfl hr hX h)
 |ku h=>
  rcases @GoesG.cases P (noPh P) _ _ _ _ _ _ h with hstop|⟨m',rfl,_,hstep|hph⟩
  ·exact go (kdcase rfl rfl (by omega) ((hstop w (Rel.refl _ _)).1 hlive))
  ·obtain⟨a',w',es,hgo,hgua,hg'⟩:=goes_elim (hstep w (Rel.refl _ _))
   exact go (own hgo hgua (.ku hg') (by omega))
  ·exact(hph w (Rel.refl _ _)).elim
 |kd h=>exact go (kdcase rfl rfl (aN _) h)
 |anch h=>
  simp only[rem] at hrem
  rcases Goes.cases h with hstop|⟨m',rfl,hstep⟩
  ·obtain⟨m₂,hk⟩:=hAn _ a w hlive (hstop w (RG.refl w))
   obtain⟨m₁,ops,μ',h1,h2,h3⟩:=GJ (sl:=sl) (Xs:=Xs) hR hN ha hcom hwg (hmode.reopen trivial trivial rfl (by simp)) (by omega) hk
   exact⟨m₁,ops,h1,.inr ⟨μ',lt2_trans h2 (Prod.Lex.left _ _ (by simp only[phi];omega)),h3⟩⟩
  ·obtain⟨a',w',es,hgo,hD,hg'⟩:=hstep w (RG.refl w)
   exact go (idle hgo hD (.anch hg') (by omega))
 |w1 h=>exact go (GJ hR hN ha hcom hwg hmode (by simpa[rem] using hrem) h)
 |w2 h=>
  rename_i vs
  simp only[rem] at hrem
  rcases Goes.cases h with hstop|⟨m',rfl,hstep⟩
  ·obtain⟨_,hall⟩:=hstop w (RG.refl w)
   obtain⟨ho,rfl,rfl,hw2⟩:=hmode.open_inv trivial
   obtain⟨hle,h1⟩:=hw2 vs rfl
   obtain⟨hhit,hmiss⟩:=hall (Vc J D) (by omega) (by simpa[pend] using hwg)
   by_cases e:Vc J D=vs
   ·obtain⟨a',hgo,m₂,hk⟩:=hhit e
    exact go (book hgo (aside_setCell w (stA Wg) _) (hwg.setSt _) oy (.w3 hk) (.reg trivial ho (by omega)) rfl (.inl (by simp only[phi];omega)))
   ·obtain⟨a',hgo,m₂,hk⟩:=hmiss e
    exact go (book hgo (.refl Wg w) hwg ow (.anch hk) (hmode.reopen trivial trivial rfl (by simp)) rfl (.inl (by simp only[phi];omega)))
  ·obtain⟨a',w',es,hgo,hD,hg'⟩:=hstep w (RG.refl w)
   exact go (idle hgo hD (.w2 hg') (by omega))
 |w3 h=>
  rcases Goes.cases h with hstop|⟨m',rfl,hstep⟩
  ·obtain⟨_,hoff,hblk,htake⟩:=hstop w (RG.refl w)
   cases hmode with
   |opn h1 _ _=>exact h1.elim
   |reg h1 h2 h3=>exact go (book (hblk ⟨_,hwg⟩) (.refl Wg w) hwg (by simp) (.blk hstop) (.reg trivial h2 h3) rfl (.inr ⟨rfl,by omega⟩))
   |last L h1 h2 h3 h4=>exact go (book (hblk ⟨_,hwg⟩) (.refl Wg w) hwg (by simp) (.blk hstop) (.last L trivial h2 h3 h4) rfl (.inr ⟨rfl,by omega⟩))
   |sema h2=>
    obtain⟨a',hgo,m₂,hk⟩:=htake hwg
    exact go (book hgo (aside_setCell w (smA Wg) _) (hwg.setSm 0) xw (.w4 hk) (.fin trivial h2) rfl (.inl (by simp only[phi];omega)))
   |fin h1 _=>exact h1.elim
  ·obtain⟨a',w',es,hgo,hD,hg'⟩:=hstep w (RG.refl w)
   exact go (idle hgo hD (.w3 hg') (by omega))
 |blk h=>simp at hrun
 |w4 h=>
  rcases Goes.cases h with hstop|⟨m',rfl,hstep⟩
  ·obtain⟨_,hx⟩:=hstop w (RG.refl w)
   obtain⟨hq,rfl,rfl⟩:=hmode.fin_inv trivial
   obtain⟨a',hgo,m₂,hk⟩:=hx hwg
   exact go (book hgo (.refl Wg w) hwg ow (.ke hk) (.fin trivial hq) rfl (.inl (by simp only[phi];omega)))
  ·obtain⟨a',w',es,hgo,hD,hg'⟩:=hstep w (RG.refl w)
   exact go (idle hgo hD (.w4 hg') (by omega))
 |ke h=>
  rcases Goes.cases h with hstop|⟨m',rfl,hstep⟩
  ·obtain⟨_,a',hgo,m₂,hk⟩:=hstop w (RG.refl w)
   obtain⟨hq,rfl,rfl⟩:=hmode.fin_inv trivial
   exact go (book hgo (.refl Wg w) hwg z7 (.acq hk) (.fin trivial hq) rfl (.inl (by simp only[phi];omega)))
  ·obtain⟨a',w',es,hgo,hD,hg'⟩:=hstep w (RG.refl w)
   exact go (idle hgo hD (.ke hg') (by omega))
 |acq h=>
  rcases Goes.cases h with hstop|⟨m',rfl,hstep⟩
  ·obtain⟨_,a',hgo,hrun',hend⟩:=hstop w (RG.refl w)
   obtain⟨hq,rfl,rfl⟩:=hmode.fin_inv trivial
   obtain rfl:J=L+n:=by simpa[rem] using hrem
   have hrunT:=runT_crowd_go (P:=P) (sl:=sl) (i:=0) ha (by simpa using hgo)
   have hcom':=hcom.step0 hR (a:=a) (a':=a') (fn:=a.frame.fn) (pos:=a.frame.place) (qV hcom.dis (.inr rfl)) hlive
   have e1:MemOp.ofEvents 0 a.frame.fn a.frame.place #[mk (.acquire (stA Wg))]= #[{g:=0,fn:=a.frame.fn,pos:=a.frame.place,act:=.mark (.acquire (stA Wg))}]:=by rw[ofEvents_eq];simp[mk,MemAct.ofEvent]
   have hy:(t++ #[({g:=0,fn:=a.frame.fn,pos:=a.frame.place,act:=.mark (.acquire (stA Wg))}:MemOp)])[t.size]?=some {g:=0,fn:=a.frame.fn,pos:=a.frame.place,act:=.mark (.acquire (stA Wg))}:=by simp
   refine⟨_,_,hrunT,.inl ⟨_,w,sl,D,_,a',rfl,get_map_set_same _ _ _ (by rw[hcom.size];omega),hrun',hend,hcom',hq,t.size,by rw[e1,act?_of hy],by rw[e1];simp[Trace.g?],by rw[e1];exact⟨0,by simp[Trace.g?],by rw[deaf_old (aN _)];exact hcom.deaf0⟩,fun i hL hi=>?_⟩⟩
   obtain⟨r,hr⟩:=hcom.rel i hL hi (by rw[hq i hi];omega)
   exact⟨r,hr.appOther g_of_ofEvents (by omega),lt_of_act? hr.act⟩
  ·obtain⟨a',w',es,hgo,hD,hg'⟩:=hstep w (RG.refl w)
   exact go (idle hgo hD (.acq hg') (by omega))
end
end Go.Proofs.Ytbmnihglaokhmaa.Am
namespace Go.Proofs.Ytbmnihglaokhmaa.Am
open Go Go.RowKit Go.Conc Go.ConcN
open Go.ConcR (KK wgBlock WgAt stA smA rd wr mk DC0 Bk g_of_ofEvents ofEvent_loc_mark ofEvent_cell again_blocked bk_of_mute)
section
variable {P:Program} {ty:TypeId} {Wg C:Nat} {wb:World} {Shun:Loc→Prop} {L:Nat} {End:Goroutine→Prop} {Anch:Gh→Goroutine→World→Prop} {n:Nat} {Xs:Nat→Nat→Nat→Prop} {Res:Nat→Gh→World→Prop}
 {gs:Array Goroutine} {w w':World} {sl:Option (Nat×Nat)} {J:Nat} {D:Nat→WD} {Γ:Nat→Gh} {tag:CTag} {f0 d0:Nat} {a:Goroutine} {t:Trace} {st sm:Int}
theorem WS.running_of {Rs:Gh→World→Prop}{γ:Gh}{s m d:Nat}{g:Goroutine}(h:WS P ty Wg Rs γ s m d g w)(hs:s≠1):g.status= .running:=h.status.elim id fun x=>absurd x.2 hs
theorem qw (hAr:∀γ g w,Anch γ g w→g.status= .running)(ha:gs[0]?=some a)(hcs:CS P ty Wg End Anch n Xs Res (Γ 0) tag f0 d0 a w)(hcom:Com P ty Wg C wb Shun L Res J gs w t D Γ d0)(hmode:ConcN.Mode J D tag st sm):
  ∃(i:Nat) (g:Goroutine),gs[i]?=some g∧g.status= .running:=by
 rcases hcs.status hAr with⟨hs,_⟩|⟨_,rfl⟩
 ·exact⟨0,a,ha,hs⟩
 ·cases hmode with
  |opn h1 _ _=>exact h1.elim
  |reg _ _ h3=>
   obtain⟨i,hi,h5⟩:=exists_counted h3
   obtain⟨g,hg,hs⟩:=hcom.wk i hi
   exact⟨i+1,g,hg,hs.running_of (by omega)⟩
  |last L _ h2 h3 _=>
   obtain⟨g,hg,hs⟩:=hcom.wk L h2
   exact⟨L+1,g,hg,hs.running_of (by omega)⟩
  |fin h1 _=>exact h1.elim
theorem vH (hAr:∀γ g w,Anch γ g w→g.status= .running)(ha:gs[0]?=some a)(hcs:CS P ty Wg End Anch n Xs Res (Γ 0) tag f0 d0 a w)(hcom:Com P ty Wg C wb Shun L Res J gs w t D Γ d0):∀g∈gs,awake g:=by
 intro g hg tm
 obtain⟨i,hi⟩:=Array.mem_iff_getElem?.1 hg
 cases i with
 |zero=>
  rw[ha] at hi;cases hi
  rcases hcs.status hAr with⟨hs,_⟩|⟨hs,_⟩<;>rw[hs]<;>simp
 |succ i=>
  have hlt:i<J:=by have:=(dN.1 hi).1;rw[hcom.size] at this;omega
  obtain⟨g',hg',hs⟩:=hcom.wk i hlt
  rw[hi] at hg';cases hg'
  rcases hs.status with h|⟨h,_⟩<;>rw[h]<;>simp
theorem tB (hR:∀j γ w w1,Rel γ w w1→Res j γ w→Res j γ w1)(hXd:∀i k b o,i≠k→Xs i b o→¬Xs k b o)(hN:n<2147483648)(hAr:∀γ g w,Anch γ g w→g.status= .running)
  (hAn:∀γ g w,WgLive ty Wg w→Anch γ g w→∃m,Goes P true (RG ty Wg γ) (DS Wg) (SW1 P ty Wg End Anch γ) m g w) (μ:Nat×Nat):∀(m:Machine) (t:Trace),iA P ty Wg C wb Shun L End Anch n Xs Res μ m t→
  ∃k m' t',runNT P k m t=(.next m',t')∧s7 P ty Wg C wb Shun L End n Res m' t':=by
 induction μ using(Prod.lex Nat.lt_wfRel Nat.lt_wfRel).wf.induction with
 |_ μ ih=>
  rintro m t ⟨gs,w,sl,J,D,Γ,tag,f0,d0,a,st,sm,rfl,ha,hcs,hcom,hwg,hmode,hrem,rfl⟩
  obtain⟨i,g,d,sl',hg,hrun,hstep⟩:=crowd_pick (P:=P) (w:=w) (sl:=sl) (vH hAr ha hcs hcom) (qw hAr ha hcs hcom hmode)
  have hcs':=hcs.rely (DM ty Wg (Γ 0) w d)
  have hcom':=hcom.at hR d
  have hwg':WgAt ty Wg (w.at d) st sm:=hwg
  have fin:∀m₁ ops μ',stepT P (crowd gs w sl)=(.next m₁,ops)→Lt2 μ' (phi n (Vc J D) tag+Ssum J D,f0+2*Fsum J D)→iA P ty Wg C wb Shun L End Anch n Xs Res μ' m₁ (t++ops)→
    ∃k m' t',runNT P k (crowd gs w sl) t=(.next m',t')∧s7 P ty Wg C wb Shun L End n Res m' t':=by
   intro m₁ ops μ' h1 h2 h3
   obtain⟨k,m',t',e1,e2⟩:=ih μ' h2 m₁ _ h3
   exact⟨k+1,m',t',by simp only[runNT,h1];exact e1,e2⟩
  cases i with
  |zero=>
   rw[ha] at hg;cases hg
   obtain⟨m₁,ops,h1,h2⟩:=vb (sl:=sl') hR hXd hN hAn ha hcs' hcom' hwg' hmode hrem hrun
   rcases h2 with h2|⟨μ',h2,h3⟩
   ·exact⟨1,m₁,t++ops,by simp only[runNT,hstep,h1],h2⟩
   ·exact fin m₁ ops μ' (hstep.trans h1) h2 h3
  |succ i=>
   have hi:i<J:=by have:=(dN.1 hg).1;rw[hcom.size] at this;omega
   obtain⟨m₁,ops,μ',h1,h2,h3⟩:=vd (sl:=sl') hR hAr hN ha hcs' hcom' hwg' hmode hrem hi hg hrun
   exact fin m₁ ops μ' (hstep.trans h1) h2 h3
def Γ0 (γ:Gh)(g:Nat):Gh:=if g=0 then γ else gh0
theorem Fi (k:Nat):¬gh0.A k:=fun h=>h.elim id id
theorem rP {B:Nat}{A0:Nat→Prop}{q:Nat→Nat}(hXd:∀i k b o,i≠k→Xs i b o→¬Xs k b o)(hXc:∀i b o,Xs i b o→b=C)(hP:Past Shun B t)(hg:∀(i:Nat) (op:MemOp),t[i]?=some op→op.g<gs.size)(h0:gs[0]?=some a)(hL:Leavers P t gs q)
  (hB:B≤Wg) (hwg:WgAt ty Wg w 0 0) (hCW:C<Wg) (hA:∀k,A0 k→k<Wg∧k≠C) (hS:∀a:Addr,Shun (.cell a)→¬A0 a.block∧a.block≠C)
  (h:Spw P ty Wg Anch n Xs Res n ⟨fun _=>False,A0,Xr n Xs 0⟩ a w):
  ∃μ,iA P ty Wg C w Shun (gs.size-1) End Anch n Xs Res μ (crowd gs w sl) t:=by
 have hlt:0<gs.size:=(dN.1 h0).1
 have hWlt:Wg<w.heap.size:=(dN.1 hwg).1
 let γ0:Gh:=⟨fun _=>False,A0,Xr n Xs 0⟩
 have g0:Γ0 γ0 0=γ0:=rfl
 have gn:∀k,k≠0→Γ0 γ0 k=gh0:=fun k hk=>by simp[Γ0,hk]
 have cs:∀k,k=0∨k≠0:=fun k=>by omega
 have hAA:∀i k,(Γ0 γ0 i).A k→A0 k:=fun i k hk=>by
  rcases cs i with rfl|e
  ·exact hk.elim False.elim id
  ·rw[gn i e] at hk;exact(Fi k hk).elim
 have hSS:∀i k,¬(Γ0 γ0 i).S k:=fun i k hk=>by
  rcases cs i with rfl|e
  ·exact hk
  ·rw[gn i e] at hk;exact hk
 have hXX:∀i b o,(Γ0 γ0 i).X b o→i=0∧b=C:=fun i b o hx=>by
  rcases cs i with rfl|e
  ·obtain⟨j,_,_,hx⟩:=hx
   exact⟨rfl,hXc j b o hx⟩
  ·rw[gn i e] at hx;exact hx.elim
 have hdis:Dis Wg C w.heap.size (Γ0 γ0) w:=⟨fun i j _ k hk=>(hSS i k hk).elim,fun i j hij b o h1 h2=>hij ((hXX i b o h1).1.trans (hXX j b o h2).1.symm),fun i b o hx=>(hXX i b o hx).2,fun i hk=>(hA _ (hAA i _ hk)).2 rfl,
  fun i hk=>by have:=(hA _ (hAA i _ hk)).1;omega,fun i k hk=>by have:=(hA _ (hAA i _ hk)).1;omega,fun i k hk=>(hSS i k hk).elim,by omega,by omega,hWlt,aN _⟩
 have hone:∀i,(⟨1,q (i+1),Deaf t (i+1)⟩:WD).stage=1:=fun _=>rfl
 have hcom:Com P ty Wg C w Shun (gs.size-1) Res (gs.size-1) gs w t (fun i=>⟨1,q (i+1),Deaf t (i+1)⟩) (Γ0 γ0) 0:=by
  refine⟨by omega,fun i hi=>?_,fun i _=>rfl,aN _,fun i hi=>gn i (by omega),hdis,?_,fun k=>?_,hP.hears,fun i hi=>rfl,fun i h1 h2=>by omega,⟨Fr.refl _ _,fun c T fz hc=>⟨c,hc,rfl⟩⟩⟩
  ·have hi':i+1<gs.size:=by omega
   exact⟨gs[i+1],eH hi',.quit (.inl hi) (hL.old (i+1) _ (by omega) (eH hi'))⟩
  ·have e1:gs.size-1+1=gs.size:=by omega
   rw[e1]
   refine TL.begin hP hg (by omega) (fun l hl=>?_) (fun g l hl=>?_) (fun g l hl=>?_)
   ·obtain⟨a,rfl,ha⟩:=hl
    show¬a.block<B
    omega
   ·rcases hl with⟨a,rfl,hl|hl⟩|⟨r,rfl,hl⟩
    ·exact(hSS g _ hl).elim
    ·exact⟨(hXX g _ _ hl).1,rfl,fun hs=>(hS a hs).2 (hXX g _ _ hl).2⟩
    ·exact(hSS g _ hl).elim
   ·obtain⟨a,rfl,hl⟩:=hl
    rcases cs g with rfl|e
    ·exact⟨rfl,rfl,fun hs=>(hS a hs).1 hl⟩
    ·rw[gn g e] at hl;exact hl.elim
  ·intro hk
   have:=hP.seen _ (Array.mem_of_getElem? (bj.1 hk).choose_spec.1)
   rw[(bj.1 hk).choose_spec.2] at this
   exact absurd this (by show¬Wg<B;omega)
 have hVz:Vc (gs.size-1) (fun i=>(⟨1,q (i+1),Deaf t (i+1)⟩:WD))=0:=by
  have:=vm (gs.size-1) (fun i=>(⟨1,q (i+1),Deaf t (i+1)⟩:WD)) (fun _ _=>rfl) (aN _)
  omega
 have hmode:∀tag,isOpen tag→pend tag=0→(∀vs,tag≠ .w2 vs)→ConcN.Mode (gs.size-1) (fun i=>(⟨1,q (i+1),Deaf t (i+1)⟩:WD)) tag 0 0:=fun tag h1 h2 h3=>by
  have:=ConcN.Mode.opn (j:=gs.size-1) (D:=fun i=>(⟨1,q (i+1),Deaf t (i+1)⟩:WD)) h1 (fun i _=>.inr (.inr (.inr rfl))) (fun vs e=>absurd e (h3 vs))
  simpa[hVz,h2] using this
 cases n with
 |zero=>
  obtain⟨m,hk⟩:=h
  exact⟨_,gs,w,sl,gs.size-1,_,Γ0 γ0,.kd,m+61,0,a,0,0,rfl,h0,.ku hk,hcom,hwg,hmode .kd trivial rfl (by simp),by simp[rem],rfl⟩
 |succ r=>
  obtain⟨m,hk⟩:=h
  have e0:r+1-(r+1)=0:=by omega
  refine⟨_,gs,w,sl,gs.size-1,_,Γ0 γ0,.sp r 5,m+61,0,a,0,0,rfl,h0,.su (Nat.lt_succ_self r) (by rw[e0];rfl) hk,hcom,hwg,hmode (.sp r 5) trivial rfl (by simp),by simp[rem],rfl⟩
theorem wh {m:Machine}(h:s7 P ty Wg C wb Shun L End n Res m t):
  ∃(gs:Array Goroutine) (w:World) (sl:Option (Nat×Nat)) (a:Goroutine) (q:Nat→Nat) (Γ:Nat→Gh),m=crowd gs w sl∧gs[0]?=some a∧a.status= .running∧End a∧Leavers P t gs q∧Past (fun l=>Shun l∨ShN Wg l) w.heap.size t∧
   (∀(i:Nat) (op:MemOp),t[i]?=some op→op.g<gs.size)∧Base Wg C wb w∧Dis Wg C wb.heap.size Γ w∧∀i,i<n→Res i (Γ (L+i+1)) w:=by
 obtain⟨gs,w,sl,D,Γ,a,rfl,h0,hrun,hend,hcom,hq,qa,h1,h2,h3,h4⟩:=h
 have wkq:∀i,i<L+n→∃g,gs[i+1]?=some g∧QuitsD P (D i).fuel (D i).deaf g∧Rs L Res i (Γ (i+1)) w:=fun i hi=>by
  obtain⟨g,hg,hs⟩:=hcom.wk i hi
  have h1:=hq i hi
  revert hs
  generalize (D i).stage=s at h1
  generalize (D i).fuel=m
  generalize (D i).deaf=d
  intro hs
  subst h1
  cases hs with
  |quit hx hq=>exact⟨g,hg,hq,hx⟩
 refine⟨gs,w,sl,a,fun i=>(D (i-1)).fuel,Γ,rfl,h0,hrun,hend,⟨fun i g hi hg=>?_,fun j hj=>Deaf_absent fun i op hi e=>?_⟩,hcom.tl.finish (a:=stA Wg) (q:=qa) (fun g hL hN=>?_) hcom.norel h1 h2 h3 hcom.deaf0,fun i op hi=>by rw[hcom.size];exact hcom.tl.gs i op hi,hcom.base,hcom.dis,fun i hi=>?_⟩
 ·have hlt:i-1<L+n:=by have:=(dN.1 hg).1;rw[hcom.size] at this;omega
  obtain⟨g',hg',hq',_⟩:=wkq (i-1) hlt
  have e1:i-1+1=i:=by omega
  rw[e1,hg] at hg'
  obtain rfl:=bm hg'
  have:=hcom.deafW (i-1) hlt
  rw[e1] at this
  rw[this];exact hq'
 ·have:=hcom.tl.gs i op hi
  have:=hcom.size
  omega
 ·obtain⟨r,hr,hrq⟩:=h4 (g-1) (by omega) (by omega)
  rw[show g-1+1=g by omega] at hr
  exact⟨r,hr,hrq⟩
 ·obtain⟨_,_,_,hx⟩:=wkq (L+i) (by omega)
  rcases hx with hx|hx
  ·omega
  ·rwa [show L+i-L=i by omega] at hx
end
end Go.Proofs.Ytbmnihglaokhmaa.Am
namespace Go.Proofs.Ytbmnihglaokhmaa.Am
open Go Go.RowKit Go.Conc Go.ConcN
structure Ctx (P:Program)(γ:Gh)(gs:Array Goroutine)(w:World)(t:Trace)(q:Nat→Nat)(Shun:Loc→Prop):Prop where
 lv:Leavers P t gs q
 past:Past Shun w.heap.size t
 gs:∀(i:Nat) (op:MemOp),t[i]?=some op→op.g<gs.size
 cell:∀a:Addr,Shun (.cell a)→¬γ.A a.block∧a.block<w.heap.size
 obj:∀r,Shun (.obj r)→¬γ.A r∧r<w.heap.size
 low:∀k,γ.A k→k<w.heap.size
def Gh.plus (γ:Gh)(N:Nat→Prop):Gh:=⟨fun k=>γ.S k∨N k,γ.R,γ.X⟩
structure Got (γ:Gh)(w w':World)(N:Nat→Prop)(Shun Shun':Loc→Prop):Prop where
 new:∀k,N k→w.heap.size≤k∧k<w'.heap.size
 cell:∀a:Addr,Shun' (.cell a)→(Shun (.cell a)∨w.heap.size≤a.block∧¬N a.block)∧a.block<w'.heap.size
 obj:∀r,Shun' (.obj r)→(Shun (.obj r)∨w.heap.size≤r∧¬N r)∧r<w'.heap.size
 fr:Fr γ.S w w'
def DJ (P:Program)(γ:Gh)(g:Goroutine)(w:World)(K:Gh→Goroutine→World→Prop):Prop:=
 ∀(gs:Array Goroutine) (sl:Option (Nat×Nat)) (t:Trace) (q:Nat→Nat) (Shun:Loc→Prop),gs[0]?=some g→Ctx P γ gs w t q Shun→
  ∃(k:Nat) (gs':Array Goroutine) (g':Goroutine) (w':World) (sl':Option (Nat×Nat)) (t':Trace) (q':Nat→Nat) (Shun':Loc→Prop) (N:Nat→Prop),
   runNT P k (crowd gs w sl) t=(.next (crowd gs' w' sl'),t')∧gs'[0]?=some g'∧Leavers P t' gs' q'∧Past Shun' w'.heap.size t'∧(∀(i:Nat) (op:MemOp),t'[i]?=some op→op.g<gs'.size)∧Got γ w w' N Shun Shun'∧K (γ.plus N) g' w'
@[reducible] def kW (P:Program):PhC P where
 ph:=DJ P
 mono h hk gs sl t q Shun h0 hc:=let ⟨k,gs',g',w',sl',t',q',Shun',N,h1,h2,h3,h4,h5,h6,h7⟩:=h gs sl t q Shun h0 hc;⟨k,gs',g',w',sl',t',q',Shun',N,h1,h2,h3,h4,h5,h6,hk _ _ _ h7⟩
 frame:=by
  intro γ γ2 g w K hS hA hX h gs sl t q Shun h0 hc
  obtain⟨k,gs',g',w',sl',t',q',Shun',N,h1,h2,h3,h4,h5,h6,h7⟩:=h gs sl t q Shun h0 ⟨hc.lv,hc.past,hc.gs,fun a ha=>⟨fun hn=>(hc.cell a ha).1 (hA _ hn),(hc.cell a ha).2⟩,fun r hr=>⟨fun hn=>(hc.obj r hr).1 (hA _ hn),(hc.obj r hr).2⟩,fun k hk=>hc.low k (hA k hk)⟩
  exact⟨k,gs',g',w',sl',t',q',Shun',N,h1,h2,h3,h4,h5,⟨h6.new,h6.cell,h6.obj,Fr.mono h6.fr hS⟩,γ.plus N,N,h7,h6.new,fun _=>Iff.rfl,fun _=>Iff.rfl,rfl,rfl,rfl,rfl,Fr.mono h6.fr fun k hk=>.inr hk⟩
section
variable {P:Program} {γ:Gh} {gs:Array Goroutine} {w w':World} {t:Trace} {q:Nat→Nat} {Shun:Loc→Prop} {Stop:Gh→Goroutine→World→Prop} {g:Goroutine} {sl:Option (Nat×Nat)} {es:Array Event}
theorem Ctx.at (h:Ctx P γ gs w t q Shun)(d:Nat):Ctx P γ gs (w.at d) t q Shun:=⟨h.lv,h.past,h.gs,h.cell,h.obj,h.low⟩
theorem Ctx.got {N:Nat→Prop}{gs':Array Goroutine}{t':Trace}{q':Nat→Nat}{Shun':Loc→Prop}(h:Ctx P γ gs w t q Shun)(h3:Leavers P t' gs' q')(h4:Past Shun' w'.heap.size t')(h5:∀(i:Nat) (op:MemOp),t'[i]?=some op→op.g<gs'.size)(h6:Got γ w w' N Shun Shun'):
  Ctx P (γ.plus N) gs' w' t' q' Shun':=by
 have hA:∀k,(γ.plus N).A k→γ.A k∨N k:=fun k hk=>hk.elim (fun x=>x.imp .inl (fun h=>h)) (fun x=>.inl (.inr x))
 refine⟨h3,h4,h5,fun a ha=>⟨fun hn=>?_,(h6.cell a ha).2⟩,fun r hr=>⟨fun hn=>?_,(h6.obj r hr).2⟩,fun k hk=>(hA k hk).elim (fun x=>bU (h.low k x) h6.fr.size) fun x=>(h6.new k x).2⟩
 ·rcases (h6.cell a ha).1 with hs|⟨h1,h2⟩
  ·rcases hA _ hn with x|x
   ·exact(h.cell a hs).1 x
   ·have:=(h.cell a hs).2;have:=(h6.new _ x).1;omega
  ·rcases hA _ hn with x|x
   ·have:=h.low _ x;omega
   ·exact h2 x
 ·rcases (h6.obj r hr).1 with hs|⟨h1,h2⟩
  ·rcases hA _ hn with x|x
   ·exact(h.obj r hs).1 x
   ·have:=(h.obj r hs).2;have:=(h6.new _ x).1;omega
  ·rcases hA _ hn with x|x
   ·have:=h.low _ x;omega
   ·exact h2 x
theorem Ctx.evL (h:Ctx P γ gs w t q Shun)(hs:w.heap.size≤w'.heap.size){e:Event}(he:EvOK (γ.grow w w') w'.heap.size e):EvL Shun w'.heap.size e:=by
 have hA:∀k,(γ.grow w w').A k→γ.A k∨w.heap.size≤k:=fun k hk=>hk.elim (fun x=>x.imp .inl And.left) (fun x=>.inl (.inr x))
 rcases he with(⟨a,wr,rfl,hb,hx,_⟩|rfl)|⟨r,wr,rfl,hb,hx⟩
 ·refine⟨fun x hx' hs=>?_,by simp,by simp,hb⟩
  simp only[MemAct.ofEvent,MemAct.touch?,aK] at hx'
  subst hx'
  obtain⟨h1,h2⟩:=h.cell a hs
  rcases hA _ (hx.elim .inl id) with y|y
  ·exact absurd y h1
  ·omega
 ·exact⟨fun x hx=>by simp[MemAct.ofEvent,MemAct.touch?] at hx,by simp,by simp,trivial⟩
 ·have e1:MemAct.ofEvent ⟨.obj r,wr,false⟩= .access ⟨.obj r,wr,false⟩:=by cases wr<;>rfl
  refine⟨fun x hx' hs=>?_,by simp,by simp,by rw[e1];exact hb⟩
  simp only[e1,MemAct.touch?,aK] at hx'
  subst hx'
  obtain⟨h1,h2⟩:=h.obj r hs
  rcases hA _ (.inl hx) with y|y
  ·exact absurd y h1
  ·omega
theorem Ctx.own (h:Ctx P γ gs w t q Shun)(h0:gs[0]?=some g){g':Goroutine}(hg:Gua γ w w' es):Ctx P (γ.grow w w') ((gs.map (woken P g g' w')).setIfInBounds 0 g') w' (t++MemOp.ofEvents 0 g.frame.fn g.frame.place es) q Shun:=by
 have hlt:0<gs.size:=(dN.1 h0).1
 have hsz:((gs.map (woken P g g' w')).setIfInBounds 0 g').size=gs.size:=by simp
 refine⟨⟨fun j x hj hx=>?_,fun j hj=>?_⟩,(h.past.mono hg.fr.size).own fun e he=>h.evL hg.fr.size (hg.ev e he),fun i op hi=>?_,fun a ha=>⟨fun hn=>?_,bU (h.cell a ha).2 hg.fr.size⟩,fun r hr=>⟨fun hn=>?_,bU (h.obj r hr).2 hg.fr.size⟩,fun k hk=>?_⟩
 ·have hne:0≠j:=by omega
  rw[kQ hne,Array.getElem?_map] at hx
  obtain⟨y,hy,rfl⟩:=bj.1 hx
  have hq:=h.lv.old j y hj hy
  rw[woken_quitsD hq,Deaf_other t (by omega) _ (fun op hop=>by obtain⟨e,_,rfl⟩:=jm hop;rfl)]
  exact hq
 ·rw[Deaf_other t (g':=0) (by omega) _ (fun op hop=>by obtain⟨e,_,rfl⟩:=jm hop;rfl)]
  exact h.lv.above j (by omega)
 ·rw[hsz]
  rcases getElem?_append_cases hi with⟨_,hi'⟩|⟨_,hiu⟩
  ·exact h.gs i op hi'
  ·obtain⟨e,_,rfl⟩:=jm hiu;exact hlt
 ·rcases hn with(hn|hn)|hn
  ·exact(h.cell a ha).1 (.inl hn)
  ·have:=(h.cell a ha).2;omega
  ·exact(h.cell a ha).1 (.inr hn)
 ·rcases hn with(hn|hn)|hn
  ·exact(h.obj r hr).1 (.inl hn)
  ·have:=(h.obj r hr).2;omega
  ·exact(h.obj r hr).1 (.inr hn)
 ·rcases hk with(hn|hn)|hn
  ·exact bU (h.low k (.inl hn)) hg.fr.size
  ·exact hn.2
  ·exact bU (h.low k (.inr hn)) hg.fr.size
theorem Ctx.slip (h:Ctx P γ gs w t q Shun){i k:Nat}{gi g':Goroutine}(hi:gs[i]?=some gi)(hpos:0<i)(hm:∀e∈es,e.mute=true)(hq':QuitsD P k (deafBehind (Deaf t i) es) g'):
  Ctx P γ ((gs.map (woken P gi g' w)).setIfInBounds i g') w (t++MemOp.ofEvents i gi.frame.fn gi.frame.place es) (upd q i k) Shun:=by
 have hlt:i<gs.size:=(dN.1 hi).1
 have hsz:((gs.map (woken P gi g' w)).setIfInBounds i g').size=gs.size:=by simp
 refine⟨⟨fun j x hj hx=>?_,fun j hj=>?_⟩,h.past.mute (by omega) hm,fun j op hj=>?_,h.cell,h.obj,h.low⟩
 ·by_cases hji:i=j
  ·subst hji
   rw[Array.getElem?_setIfInBounds_self_of_lt (by simpa using hlt)] at hx
   obtain rfl:=bm hx
   rw[upd_same,Deaf_own]
   exact hq'
  ·rw[kQ hji,Array.getElem?_map] at hx
   obtain⟨y,hy,rfl⟩:=bj.1 hx
   have hqj:=h.lv.old j y hj hy
   rw[woken_quitsD hqj,upd_ne q k (cq hji),Deaf_other t hji _ (fun op hop=>by obtain⟨e,_,rfl⟩:=jm hop;rfl)]
   exact hqj
 ·rw[Deaf_other t (g':=i) (by omega) _ (fun op hop=>by obtain⟨e,_,rfl⟩:=jm hop;rfl)]
  exact h.lv.above j (by omega)
 ·rw[hsz]
  rcases getElem?_append_cases hj with⟨_,hj'⟩|⟨_,hju⟩
  ·exact h.gs j op hj'
  ·obtain⟨e,_,rfl⟩:=jm hju;exact hlt
theorem Ctx.awake (h:Ctx P γ gs w t q Shun)(h0:gs[0]?=some g)(hrun:g.status= .running):∀x∈gs,Conc.awake x:=by
 intro x hx
 obtain⟨i,hi,rfl⟩:=Array.mem_iff_getElem.1 hx
 rcases Nat.eq_zero_or_pos i with rfl|hpos
 ·have:gs[0]=g:=by simpa[eH hi] using h0
  rw[this];exact awake_of (.inl hrun)
 ·exact awake_of ((h.lv.old i _ hpos (eH hi)).status.elim .inl fun x=>.inr (.inr x))
theorem zR:∀(n:Nat) (M:Nat) (γ:Gh) (gs:Array Goroutine) (g:Goroutine) (w:World) (sl:Option (Nat×Nat)) (t:Trace) (q:Nat→Nat) (Shun:Loc→Prop),sumTo gs.size q≤M→gs[0]?=some g→Ctx P γ gs w t q Shun→ @GoesG P (kW P) true Stop n γ g w→
  ∃(k:Nat) (γ':Gh) (gs':Array Goroutine) (g':Goroutine) (w':World) (sl':Option (Nat×Nat)) (t':Trace) (q':Nat→Nat) (Shun':Loc→Prop),runNT P k (crowd gs w sl) t=(.next (crowd gs' w' sl'),t')∧gs'[0]?=some g'∧Ctx P γ' gs' w' t' q' Shun'∧∀w1,Rel γ' w' w1→Stop γ' g' w1:=by
 intro n
 induction n with
 |zero=>exact fun M γ gs g w sl t q Shun _ h0 hc hG=>⟨0,γ,gs,g,w,sl,t,q,Shun,rfl,h0,hc,hG⟩
 |succ n ihn=>
  intro M
  induction M with
  |zero=>
   intro γ gs g w sl t q Shun hM h0 hc hG
   rcases hG with hstop|⟨hrun,hstep⟩|⟨hrun,hph⟩
   ·exact⟨0,γ,gs,g,w,sl,t,q,Shun,rfl,h0,hc,hstop⟩
   ·obtain⟨i,gi,d,sl',hi,hg,hst⟩:=crowd_pick (P:=P) (w:=w) (sl:=sl) (hc.awake h0 hrun) ⟨0,g,h0,hrun⟩
    rcases Nat.eq_zero_or_pos i with rfl|hpos
    ·obtain rfl:gi=g:=by rw[h0] at hi;exact(bm hi).symm
     obtain⟨g',w',es,hgo,hgua,hG'⟩:=goes_elim (hstep (w.at d) (Rel.at _ _ _))
     have hrunT:=runT_crowd_go (P:=P) (sl:=sl') (i:=0) hi (show stepG P (0==0) gi (w.at d)=_ from hgo)
     have hlt:0<gs.size:=(dN.1 h0).1
     obtain⟨k,γ',gs',g2,w2,sl2,t2,q2,Shun2,hr,hz⟩:=ihn _ (γ.grow (w.at d) w') ((gs.map (woken P gi g' w')).setIfInBounds 0 g') g' w' sl' (t++MemOp.ofEvents 0 gi.frame.fn gi.frame.place es) q Shun (aN _) (by simp[hlt]) ((hc.at d).own h0 hgua) hG'
     exact⟨k+1,γ',gs',g2,w2,sl2,t2,q2,Shun2,by simp only[runNT,hst,hrunT];exact hr,hz⟩
    ·exfalso
     have hlt:i<gs.size:=(dN.1 hi).1
     have hq:=hc.lv.old i gi hpos hi
     have h0q:q i=0:=by have:=le_sumTo (f:=q) hlt;omega
     rw[h0q] at hq
     rw[hq.1] at hg;cases hg
   ·obtain⟨k,gs',g',w',sl',t',q',Shun',N,h1,h2,h3,h4,h5,h6,h7⟩:=hph w (Rel.refl _ _) gs sl t q Shun h0 hc
    obtain⟨k2,γ',gs2,g2,w2,sl2,t2,q2,Shun2,hr,hz⟩:=ihn _ (γ.plus N) gs' g' w' sl' t' q' Shun' (aN _) h2 (hc.got h3 h4 h5 h6) h7
    exact⟨k+k2,γ',gs2,g2,w2,sl2,t2,q2,Shun2,by rw[runNT_add,h1];exact hr,hz⟩
  |succ M ihM=>
   intro γ gs g w sl t q Shun hM h0 hc hG
   rcases hG with hstop|⟨hrun,hstep⟩|⟨hrun,hph⟩
   ·exact⟨0,γ,gs,g,w,sl,t,q,Shun,rfl,h0,hc,hstop⟩
   ·obtain⟨i,gi,d,sl',hi,hg,hst⟩:=crowd_pick (P:=P) (w:=w) (sl:=sl) (hc.awake h0 hrun) ⟨0,g,h0,hrun⟩
    rcases Nat.eq_zero_or_pos i with rfl|hpos
    ·obtain rfl:gi=g:=by rw[h0] at hi;exact(bm hi).symm
     obtain⟨g',w',es,hgo,hgua,hG'⟩:=goes_elim (hstep (w.at d) (Rel.at _ _ _))
     have hrunT:=runT_crowd_go (P:=P) (sl:=sl') (i:=0) hi (show stepG P (0==0) gi (w.at d)=_ from hgo)
     have hlt:0<gs.size:=(dN.1 h0).1
     obtain⟨k,γ',gs',g2,w2,sl2,t2,q2,Shun2,hr,hz⟩:=ihn _ (γ.grow (w.at d) w') ((gs.map (woken P gi g' w')).setIfInBounds 0 g') g' w' sl' (t++MemOp.ofEvents 0 gi.frame.fn gi.frame.place es) q Shun (aN _) (by simp[hlt]) ((hc.at d).own h0 hgua) hG'
     exact⟨k+1,γ',gs',g2,w2,sl2,t2,q2,Shun2,by simp only[runNT,hst,hrunT];exact hr,hz⟩
    ·have hlt:i<gs.size:=(dN.1 hi).1
     have hq:=hc.lv.old i gi hpos hi
     have hi0:(i==0)=false:=by simp;omega
     cases hqi:q i with
     |zero=>rw[hqi] at hq;rw[hq.1] at hg;cases hg
     |succ k=>
      rw[hqi] at hq
      rcases hq with⟨hf,_⟩|⟨_,g',es,hm,hstp,hq'⟩
      ·rw[hf] at hg;cases hg
      have hrunT:=runT_crowd_go (P:=P) (sl:=sl') (i:=i) hi (by rw[hi0];exact hstp (w.at d))
      have hsz:((gs.map (woken P gi g' (w.at d))).setIfInBounds i g').size=gs.size:=by simp
      have hsum:sumTo gs.size (upd q i k)+(k+1)=sumTo gs.size q+k:=by
       have:=sumTo_upd q k id hlt
       simpa[hqi] using this
      obtain⟨k2,γ',gs',g2,w2,sl2,t2,q2,Shun2,hr,hz⟩:=ihM γ ((gs.map (woken P gi g' (w.at d))).setIfInBounds i g') g (w.at d) sl' (t++MemOp.ofEvents i gi.frame.fn gi.frame.place es) (upd q i k) Shun (by rw[hsz];omega)
       (by
        have hne:i≠0:=by omega
        rw[kQ hne,Array.getElem?_map,h0]
        simp[woken_run hrun]) ((hc.at d).slip hi hpos hm hq') (.inr (.inl ⟨hrun,fun w1 h1=>hstep w1 ((Rel.at _ _ _).trans h1)⟩))
      exact⟨k2+1,γ',gs',g2,w2,sl2,t2,q2,Shun2,by simp only[runNT,hst,hrunT];exact hr,hz⟩
   ·obtain⟨k,gs',g',w',sl',t',q',Shun',N,h1,h2,h3,h4,h5,h6,h7⟩:=hph w (Rel.refl _ _) gs sl t q Shun h0 hc
    obtain⟨k2,γ',gs2,g2,w2,sl2,t2,q2,Shun2,hr,hz⟩:=ihn _ (γ.plus N) gs' g' w' sl' t' q' Shun' (aN _) h2 (hc.got h3 h4 h5 h6) h7
    exact⟨k+k2,γ',gs2,g2,w2,sl2,t2,q2,Shun2,by rw[runNT_add,h1];exact hr,hz⟩
theorem xa {fn:Func}{b:Frame}{a:Act}{todo:List Item}{v:Value}(hn:b.kind= .normal)(hd:a.defers=[])(hf:P.funcs[b.fn]?=some fn)(hi:P.inits.idxOf? b.fn=none)
  (hr:(results fn a.tmps).run P w= .ok v w):stepG P true (G {b.at a todo with mode:=.returning} []) w= .ended (.done v) w (seen P b.fn ((results fn a.tmps).events P w #[])):=by
 simp[G,stepG,unwind,doReturn,Frame.at,hn,hd,hf,hi,hr,GStep.after]
theorem zf {f:FuncId}{args:Array Value}{n:Nat}{Post:Gh→Value→World→Prop}{Post':Value→World→Prop}(h:@CallsG P (kW P) true f args n γ w Post)(hi:P.inits.idxOf? f=none)(hlow:∀k,γ.A k→k<w.heap.size)(hp:∀γ' v w',Post γ' v w'→Post' v w'):
  ∃M last o w' t',runNT P (M+1) (solo (G (Frame.enter P f args .normal) []) w) #[]=(.ended o w',t')∧runN P M (solo (G (Frame.enter P f args .normal) []) w)= .next last∧step P last= .ended o w'∧Conc.Good P Post' last o w' t':=by
 obtain⟨fn,hf,h⟩:=h
 rw[solo_eq_crowd]
 have hsh:∀l,¬(fun _:Loc=>False) l:=fun _ h=>h
 obtain⟨k,γ',gs',g',w',sl',t',q',Shun',hr,h0,hc,hst⟩:=zR n _ γ #[G (Frame.enter P f args .normal) []] _ w none #[] (fun _=>0) (fun _=>False) (aN _) rfl ⟨leavers_one _ _,past_nil.mono (gJ _),fun i op hi=>by simp at hi,fun _ h=>h.elim,fun _ h=>h.elim,hlow⟩ (h [])
 have hend:Goes P true AtRel (fun _ _ _=>False) (AtEnd P Shun' w'.heap.size Post') 0 g' w':=by
  rintro w1 ⟨d,rfl⟩
  obtain⟨a,todo,v,e1,e2,e3,e4,e5⟩:=hst (w'.at d) (Rel.at _ _ _)
  subst e1
  refine⟨rfl,v,_,xa (b:=base f) rfl e2 hf hi e3,fun e he=>?_,hp _ _ _ e5⟩
  exact hc.evL (w':=w') (aN _) (by rw[Gh.grow_same γ' rfl];exact e4 e (mem_seen he))
 obtain⟨M,last,o,w2,t2,e1,e2,e3,e4⟩:=beside_ends (P:=P) (sl:=sl') (fun _ _ _ h=>h.elim) h0 hc.lv hc.past hend
 refine⟨k+M,last,o,w2,t2,?_,?_,e3,e4⟩
 ·rw[mj,runNT_add,hr];exact e1
 ·rw[runN_add,←runNT_fst P _ _ #[],hr];exact e2
end
end Go.Proofs.Ytbmnihglaokhmaa.Am
namespace Go.Proofs.Ytbmnihglaokhmaa.Am
open Go Go.RowKit Go.Conc Go.ConcN
open Go.ConcR (KK wgBlock WgAt stA smA rd wr mk DC0)
def World.plus (w:World)(o:Obj):World:={w with heap:=w.heap.push o}
section
variable {P:Program} {γ:Gh} {t:Trace} {Shun:Loc→Prop} {g g1:Goroutine} {o:Obj}
theorem Bc:∀(M:Nat) (gs:Array Goroutine) (w:World) (sl:Option (Nat×Nat)) (t:Trace) (q:Nat→Nat),sumTo gs.size q≤M→gs[0]?=some g→Ctx P γ gs w t q Shun→g.status= .running→(∀d,stepG P true g (w.at d)= .go g1 (World.plus (w.at d) o) #[])→
  ∃(k:Nat) (gs':Array Goroutine) (d:Nat) (sl':Option (Nat×Nat)) (t':Trace) (q':Nat→Nat),runNT P k (crowd gs w sl) t=(.next (crowd gs' (World.plus (w.at d) o) sl'),t')∧gs'[0]?=some g1∧Leavers P t' gs' q'∧Past Shun w.heap.size t'∧
   ∀(i:Nat) (op:MemOp),t'[i]?=some op→op.g<gs'.size:=by
 have own:∀(gs:Array Goroutine) (w:World) (sl sl':Option (Nat×Nat)) (t:Trace) (q:Nat→Nat) (d:Nat),gs[0]?=some g→Ctx P γ gs w t q Shun→(∀d,stepG P true g (w.at d)= .go g1 (World.plus (w.at d) o) #[])→stepT P (crowd gs w sl)=runT P (crowd gs (w.at d) sl') 0→
   ∃(k:Nat) (gs':Array Goroutine) (d:Nat) (sl':Option (Nat×Nat)) (t':Trace) (q':Nat→Nat),runNT P k (crowd gs w sl) t=(.next (crowd gs' (World.plus (w.at d) o) sl'),t')∧gs'[0]?=some g1∧Leavers P t' gs' q'∧Past Shun w.heap.size t'∧
    ∀(i:Nat) (op:MemOp),t'[i]?=some op→op.g<gs'.size:=by
  intro gs w sl sl' t q d h0 hc hstep hst
  have hgo:=hstep d
  have hrunT:=runT_crowd_go (P:=P) (sl:=sl') (i:=0) h0 (show stepG P (0==0) g (w.at d)=_ from hgo)
  have hlt:0<gs.size:=(dN.1 h0).1
  have hc':=(hc.at d).own (g':=g1) (w':=World.plus (w.at d) o) (es:=#[]) h0 ⟨⟨rfl,rfl,rfl,by simp[World.plus],fun i hi _=>by show ((w.at d).heap.push o)[i]?=_;simp[Array.getElem?_push,Nat.ne_of_lt hi]⟩,fun e he=>by simp at he⟩
  have e0:MemOp.ofEvents 0 g.frame.fn g.frame.place #[]= #[]:=by rw[ofEvents_eq];simp
  rw[e0] at hrunT hc'
  rw[Array.append_empty] at hc'
  exact⟨1,_,d,sl',t,q,by simp only[runNT,hst,hrunT,Array.append_empty],by simp[hlt],hc'.lv,hc.past,hc'.gs⟩
 intro M
 induction M with
 |zero=>
  intro gs w sl t q hM h0 hc hrun hstep
  obtain⟨i,gi,d,sl',hi,hg,hst⟩:=crowd_pick (P:=P) (w:=w) (sl:=sl) (hc.awake h0 hrun) ⟨0,g,h0,hrun⟩
  rcases Nat.eq_zero_or_pos i with rfl|hpos
  ·exact own gs w sl sl' t q d h0 hc hstep hst
  ·exfalso
   have hlt:i<gs.size:=(dN.1 hi).1
   have hq:=hc.lv.old i gi hpos hi
   have h0q:q i=0:=by have:=le_sumTo (f:=q) hlt;omega
   rw[h0q] at hq
   rw[hq.1] at hg;cases hg
 |succ M ihM=>
  intro gs w sl t q hM h0 hc hrun hstep
  obtain⟨i,gi,d,sl',hi,hg,hst⟩:=crowd_pick (P:=P) (w:=w) (sl:=sl) (hc.awake h0 hrun) ⟨0,g,h0,hrun⟩
  rcases Nat.eq_zero_or_pos i with rfl|hpos
  ·exact own gs w sl sl' t q d h0 hc hstep hst
  ·have hlt:i<gs.size:=(dN.1 hi).1
   have hq:=hc.lv.old i gi hpos hi
   have hi0:(i==0)=false:=by simp;omega
   cases hqi:q i with
   |zero=>rw[hqi] at hq;rw[hq.1] at hg;cases hg
   |succ k=>
    rw[hqi] at hq
    rcases hq with⟨hf,_⟩|⟨_,g',es,hm,hstp,hq'⟩
    ·rw[hf] at hg;cases hg
    have hrunT:=runT_crowd_go (P:=P) (sl:=sl') (i:=i) hi (by rw[hi0];exact hstp (w.at d))
    have hsz:((gs.map (woken P gi g' (w.at d))).setIfInBounds i g').size=gs.size:=by simp
    have hsum:sumTo gs.size (upd q i k)+(k+1)=sumTo gs.size q+k:=by
     have:=sumTo_upd q k id hlt
     simpa[hqi] using this
    obtain⟨k2,gs',d2,sl2,t2,q2,hr,hz⟩:=ihM ((gs.map (woken P gi g' (w.at d))).setIfInBounds i g') (w.at d) sl' (t++MemOp.ofEvents i gi.frame.fn gi.frame.place es) (upd q i k) (by rw[hsz];omega)
     (by
      have hne:i≠0:=by omega
      rw[kQ hne,Array.getElem?_map,h0]
      simp[woken_run hrun]) ((hc.at d).slip hi hpos hm hq') hrun (fun d2=>hstep d2)
    exact⟨k2+1,gs',d2,sl2,t2,q2,by simp only[runNT,hst,hrunT];exact hr,hz⟩
end
structure Joined (C n:Nat)(Res:Nat→Gh→World→Prop)(w w':World)(Γ:Nat→Gh):Prop where
 fr:Fr (fun k=>k=C) w w'
 more:w.heap.size<w'.heap.size
 pay:∀(c:Array Value) (T:TypeId) (fz:Nat×Nat),w.heap[C]?=some (Obj.cells c T fz)→∃c':Array Value,w'.heap[C]?=some (Obj.cells c' T fz)∧c'.size=c.size
 res:∀i,i<n→Res i (Γ i) w'
 new:∀i k,(Γ i).S k→w.heap.size<k
 low:∀i k,(Γ i).A k→k<w'.heap.size∧k≠C∧k≠w.heap.size
 own:∀i j,i≠j→∀k,(Γ i).S k→¬(Γ j).A k
section
variable {P:Program} {ty:TypeId} {C:Nat} {End:Goroutine→Prop} {Anch:Gh→Goroutine→World→Prop} {n:Nat} {Xs:Nat→Nat→Nat→Prop} {Res:Nat→Gh→World→Prop} {γ:Gh} {g g1:Goroutine} {w:World} {K:Gh→Goroutine→World→Prop}
theorem BB (hR:∀j γ w w1,Rel γ w w1→Res j γ w→Res j γ w1)(hXd:∀i k b o,i≠k→Xs i b o→¬Xs k b o)(hXc:∀i b o,Xs i b o→b=C)(hN:n<2147483648)(hAr:∀γ g w,Anch γ g w→g.status= .running)
  (hAn:∀γ g w1,WgLive ty w.heap.size w1→Anch γ g w1→∃m,Goes P true (RG ty w.heap.size γ) (DS w.heap.size) (SW1 P ty w.heap.size End Anch γ) m g w1)
  (hC:γ.S C) (hrun:g.status= .running) (hnew:∀d,stepG P true g (w.at d)= .go g1 (World.plus (w.at d) (wgBlock ty 0 0)) #[])
  (hscript:(∀k,γ.A k→k<w.heap.size)→∀d,Spw P ty w.heap.size Anch n Xs Res n ⟨fun _=>False,fun k=>γ.A k∧k≠C,Xr n Xs 0⟩ g1 (World.plus (w.at d) (wgBlock ty 0 0)))
  (hK:∀g' w' Γ,End g'→g'.status= .running→Joined C n Res w w' Γ→K (γ.plus fun k=>w.heap.size<k∧k<w'.heap.size) g' w'):DJ P γ g w K:=by
 intro gs sl t q Shun h0 hc
 obtain⟨k1,gs1,d,sl1,t1,q1,r1,h01,L1,P1,G1⟩:=Bc (o:=wgBlock ty 0 0) _ gs w sl t q (aN _) h0 hc hrun hnew
 have hCl:C<w.heap.size:=hc.low C (.inl hC)
 have hwg:WgAt ty w.heap.size (World.plus (w.at d) (wgBlock ty 0 0)) 0 0:=by
  show (w.heap.push _)[w.heap.size]?=_
  simp
 obtain⟨μ,hI⟩:=rP (P:=P) (ty:=ty) (Wg:=w.heap.size) (C:=C) (Shun:=Shun) (End:=End) (Anch:=Anch) (n:=n) (Xs:=Xs) (Res:=Res) (gs:=gs1) (w:=World.plus (w.at d) (wgBlock ty 0 0)) (sl:=sl1) (a:=g1) (t:=t1) (A0:=fun k=>γ.A k∧k≠C)
  hXd hXc P1 G1 h01 L1 (aN _) hwg hCl (fun k hk=>⟨hc.low k hk.1,hk.2⟩) (fun a ha=>⟨fun hn=>(hc.cell a ha).1 hn.1,fun e=>(hc.cell a ha).1 (e▸ .inl hC)⟩) (hscript hc.low d)
 obtain⟨k2,m2,t2,r2,hE⟩:=tB hR hXd hN hAr hAn μ _ _ hI
 obtain⟨gs2,w2,sl2,a2,q2,Γ,rfl,h02,hrun2,hend,L2,P2,G2,hb,hdis,hres⟩:=wh hE
 have hsz:(World.plus (w.at d) (wgBlock ty 0 0)).heap.size=w.heap.size+1:=by simp[World.plus,World.at]
 have hold:∀i,i<w.heap.size→(World.plus (w.at d) (wgBlock ty 0 0)).heap[i]?=w.heap[i]?:=fun i hi=>by
  show (w.heap.push _)[i]?=_
  simp[Array.getElem?_push,Nat.ne_of_lt hi]
 have hmore:w.heap.size<w2.heap.size:=by have:=hb.fr.size;omega
 have hfr:Fr (fun k=>k=C) w w2:=⟨hb.fr.os,hb.fr.tape,hb.fr.output,by omega,fun i hi hn=>(hb.fr.block i (by omega) fun h=>h.elim (fun e=>by omega) hn).trans (hold i hi)⟩
 refine⟨k1+k2,gs2,a2,w2,sl2,t2,q2,_,fun k=>w.heap.size<k∧k<w2.heap.size,by rw[runNT_add,r1];exact r2,h02,L2,P2,G2,⟨fun k hk=>⟨Nat.le_of_lt hk.1,hk.2⟩,fun a ha=>?_,fun r hr=>?_,Fr.mono hfr fun k hk=>hk▸hC⟩,?_⟩
 ·rcases ha with ha|⟨a',e,ha⟩
  ·exact⟨.inl ha,Nat.lt_trans (hc.cell a ha).2 hmore⟩
  ·cases e
   exact⟨.inr ⟨Nat.le_of_eq ha.symm,fun hn=>by omega⟩,by omega⟩
 ·rcases hr with hr|⟨a',e,_⟩
  ·exact⟨.inl hr,Nat.lt_trans (hc.obj r hr).2 hmore⟩
  ·cases e
 ·refine hK a2 w2 (fun i=>Γ (gs1.size-1+i+1)) hend hrun2 ⟨hfr,hmore,fun c T fz hcc=>hb.pay c T fz ((hold C hCl).trans hcc),hres,fun i k hk=>?_,fun i k hk=>⟨hdis.low _ k hk,fun e=>hdis.ca _ (e▸hk),fun e=>hdis.wa _ (e▸hk)⟩,fun i j hij k hk=>hdis.own _ _ (by omega) k hk⟩
  have:=hdis.new _ k hk
  omega
end
end Go.Proofs.Ytbmnihglaokhmaa.Am
namespace Go.Proofs.Ytbmnihglaokhmaa.Am
open Go Go.RowKit Go.ChangeShapes Go.WideShapes Go.ChangeAt Go.Conc Go.ConcN
section
variable {H:Type} {enc:TypeId×Value→H} {P:Program}
theorem wU {f:Func}{s:ChangeSpec}{apart fresh handsOn again:Bool}{W W':World}{args:Array Value}{v:Value}{ds gs:List (DataW H)}{before pa pv:List MemPlace}
  (hW:DataW.Whole enc P f.params.toList s.vars apart W args.toList ds gs before)
  (hres:∀(b:Nat) (sp:Nat→Bool) (hd:Bool),DataW.TrodAll enc P W' b sp hd f.resultTypes.toList (v.resultList f.resultTypes.size) (s.fn H (ds++gs)).results [])
  (hargs:∀sp:Nat→Bool,(∀p∈before,sp p.block=true)→DataW.TrodAll enc P W' 0 sp true f.params.toList args.toList (s.fn H (ds++gs)).args pa)
  (hvars:∀sp:Nat→Bool,(∀p∈before,sp p.block=true)→DataW.TrodVars enc P W' sp s.vars (s.fn H (ds++gs)).vars pv)
  (hps:before=pa++pv) (hb:Below W.heap.size W W')
  (hok:∀(j:Nat) (t:TypeId) (r:Value),f.resultTypes[j]?=some t→(v.resultList f.resultTypes.size)[j]?=some r→Value.okWide P W' .any 0 t r):
  s.post enc P f apart fresh handsOn again W args v W':=by
 have hlt:∀p∈before,p.block<W.heap.size:=fun p hp=>hW.lt p hp
 have hold:∀p∈before,(fun b=>decide (b<W.heap.size)) p.block=true:=fun p hp=>by simpa using hlt p hp
 refine⟨ds,gs,before,[],pa,pv,hW,hres _ _ _,hargs _ hold,hvars _ hold,World.keptBut_mono (fun p hp=>⟨hp,?_⟩) (hb.frame (· ∈before)),fun _=>?_⟩
 ·rw[hps,cm] at hp
  exact Or.inr hp
 ·obtain⟨_,_,_,_,_,hz,hn⟩:=hW
  refine⟨hok,_,_,([]++pa)++pv,⟨[]++pa,pv,trodAll_append (hargs _ (fun _ _=>rfl)) (hres _ _ _),hvars _ (fun _ _=>rfl),rfl,?_,?_⟩,?_⟩
  ·intro b off hp
   have hin:MemPlace.cell b off∈before:=by rw[hps];simpa using hp
   rw[hb.frozen (hlt _ hin)]
   exact hz b off hin
  ·intro ha
   have:=hn ha
   rw[hps] at this
   simpa using this
  ·intro p hp _
   rw[hps]
   simpa using hp
end
theorem A9 {P:Program}{f:FuncId}{vs:List V}(h:@bt P (kW P) f vs [] (.bool true) [])(hi:P.inits.idxOf? f=none){w:World}{args:Array Value}(hl:(aB vs).length=args.size)
  (hr:∀i,i<(aB vs).length→Rep (fun k=>k<w.heap.size) w ((aB vs).getD i .undef) (args.getD i undef))
  (hg:∀g x,look Gl g=some x→g<w.heap.size∧∃ad,w.cell? ⟨g,0,none⟩=some (.iface x.1 (.pointer (some ad))):=by intro g x h;cases h)
  (ht:∀g zs,look Gt g=some zs→g<w.heap.size∧∃T fz,w.heap[g]?=some (.cells (zs.map (Value.int .u64)).toArray T fz):=by intro g x h;cases h):
  ∃M last o w' t',runNT P (M+1) (solo (G (Frame.enter P f args .normal) []) w) #[]=(.ended o w',t')∧runN P M (solo (G (Frame.enter P f args .normal) []) w)= .next last∧step P last= .ended o w'∧
   Conc.Good P (fun v W'=>v= .bool true∧Below w.heap.size w W') last o w' t':=by
 have hno:∀k,¬oV (fun _=>⟨0,0,0,0⟩) (toH []) k:=by
  rintro k ⟨b,x,hb,-⟩
  cases hb
 obtain⟨_,n,hc⟩:=h
 have hs:SimN P [] ⟨oV (fun _=>⟨0,0,0,0⟩) (toH []),fun k=>k<w.heap.size,fun _ _=>False⟩ 0 (fun _=>⟨0,0,0,0⟩) [] (toH []) jD w:=by
  refine⟨fun k hk=>.inr hk,fun k hk=>.inl (.inl hk),Fr.refl _ _,rfl,rfl,?_,?_,?_,?_,?_⟩
  ·intro k d hk;cases hk
  ·intro b x hx;cases hx
  ·intro b x hx;cases hx
  ·intro b b' x x' hx;cases hx
  ·exact⟨fun g x hx=>⟨⟨.inl (.inr (hg g x hx).1),hno g,(hg g x hx).1⟩,(hg g x hx).2⟩,fun g x hx=>⟨⟨.inl (.inr (ht g x hx).1),hno g,(ht g x hx).1⟩,(ht g x hx).2⟩⟩
 have c1:=hc true ⟨oV (fun _=>⟨0,0,0,0⟩) (toH []),fun k=>k<w.heap.size,fun _ _=>False⟩ w (fun _=>⟨0,0,0,0⟩) args rfl hs hl fun i hi=>.pure ((hr i hi).mono fun b hb=>⟨⟨⟨hb,.inl (.inr hb)⟩,fun b x hx=>(by cases hx)⟩,rfl⟩)
 letI:=kW P
 have c2:=CallsG.frame (γ2:=⟨oV (fun _=>⟨0,0,0,0⟩) (toH []),fun k=>k<w.heap.size,fun _ _=>False⟩) (fun _ h=>h) (fun _ h=>h) (fun _ _ h=>h) c1
 refine zf c2 hi (fun k hk=>hk.elim (fun h=>absurd h (hno k)) id) ?_
 rintro γ' v w' ⟨γ1,N,⟨ρ',_,_,hv⟩,hf⟩
 exact⟨hv.bool_inv,hf.fr.os,hf.fr.tape,hf.fr.output,hf.fr.size,fun k hk=>hf.fr.block k hk fun h=>h.elim (fun h=>h (.inr hk)) (hno k)⟩
theorem xx {w:World}{a:Addr}{v:Value}(h:w.cell? a=some v):a.block<w.heap.size:=by
 rcases cY a.block w.heap.size with hl|hl
 ·exact hl
 ·have:w.heap[a.block]?=none:=by simp[hl]
  simp[World.cell?,this] at h
theorem Dd {w:World}{l:List D}{a:Addr}{n cap:Nat}{g:Nat→Value}(hn:l.length=n)(hcap:n≤cap)(hmax:cap≤maxLen)(hl:∀e∈l,e.cells=[e]∧e.pure0=true)
  (hc:∀i,i<n→w.cell? (a.add i)=some (g i)) (hr:∀i,i<n→Rep (fun k=>k<w.heap.size) w (l.getD i .undef) (g i)):Rep (fun k=>k<w.heap.size) w (.lst l) (.slice (some a) n cap):=by
 cases l with
 |nil=>
  simp only[mg] at hn
  subst hn
  exact .none _ _ (fun h=>by cases h) hmax
 |cons x l=>
  have hp:0<n:=by rw[←hn];simp
  have hsz:szl (x::l)=1:=by show x.cells.length=1;rw[(hl x (bh ..)).1];rfl
  obtain⟨b,off,spot⟩:=a
  have hspot:spot=none:=by simpa[Addr.add] using World.cell?_spot (hc 0 hp)
  subst hspot
  have h0:=xx (hc 0 hp)
  refine .lst _ n b off cap (fun i _=>g i) hn hcap hmax h0 ?_ (by rw[hsz];omega) ?_ ?_
  ·intro e he
   rw[hsz]
   exact⟨by rw[(hl e he).1];rfl,by rw[(hl e he).1];simp[(hl e he).2]⟩
  ·intro i j hi hj
   rw[hsz] at hj⊢
   obtain rfl:j=0:=by omega
   have:=hc i hi
   rw[Go.WideShapes.add_plain] at this
   rw[Nat.mul_one,Nat.add_zero]
   exact this
  ·intro i j hi hj
   rw[hsz] at hj
   obtain rfl:j=0:=by omega
   have hi':i<(x::l).length:=by omega
   have e:(x::l).getD i .undef=(x::l)[i]:=by simp[aX,a6 hi']
   have h1:=(hl _ (fh hi')).1
   have h2:=hr i hi
   rw[e] at h2⊢
   rw[h1]
   exact h2
theorem Hd {H:Type}{enc:TypeId×Value→H}{P:Program}{W:World}{sp:Nat→Bool}{hd:Bool}{t e:TypeId}{v:Value}{d:DataW H}{p:List MemPlace}{base:Nat}(ht:P.underlying t=some (.slice e))(he:P.underlying e=some (.int .u8))(hc:P.cellsOf e=1)
  (hv:Value.okWide P W .any base t v) (h:DataW.Trod enc P W 0 sp hd t v d p):∃c:List Int,(∀x∈c,0≤x∧x≤255)∧Rep (fun k=>k<W.heap.size) W (V.lst (.int .u8) c).toD v:=by
 obtain⟨a0,len0,cap0,rfl⟩:=okWide_slice ht hv
 obtain⟨fuel,h⟩:=h
 rcases open_ints ht he hc h with⟨h1,-⟩|⟨a,len,cap,zs,h1,h2,h3,h4,h5,-,h6,h7⟩
 ·have h1:[Value.slice a0 len0 cap0]=[.slice none 0 0]:=h1
  cases h1
  exact⟨[],by simp,.none _ _ (fun _=>rfl) (gJ _)⟩
 ·have h1:[Value.slice a0 len0 cap0]=[.slice (some a) len cap]:=h1
  cases h1
  have hle:len0≤zs.length:=by rw[h5];split<;>omega
  have hlen:(zs.take len0).length=len0:=by rw[nz];omega
  refine⟨zs.take len0,fun x hx=>bounds_u8 (h7 x (pX hx)),?_⟩
  show Rep _ _ (.lst ((zs.take len0).map (aj (.int .u8)))) _
  refine Dd (g:=fun i=>.int .u8 (zs.getD i 0)) (by rw[bH,hlen]) h3 h4 ?_ (fun i hi=>h6 i (by omega)) ?_
  ·intro e he
   obtain⟨z,_,rfl⟩:=aP.1 he
   exact⟨rfl,rfl⟩
  ·intro i hi
   have e1:((zs.take len0).map (aj (.int .u8))).getD i .undef= .int .u8 (zs.getD i 0):=by
    have hi2:i<zs.length:=by omega
    simp[aX,cd,jt,hi,a6 hi2,aj]
   rw[e1]
   exact .int _ _
theorem wC {H:Type}{enc:TypeId×Value→H}{P:Program}{W:World}{sp:Nat→Bool}{hd:Bool}{t e:TypeId}{k:IntKind}{cs:List Value}{fuel:Nat}{x:DataW H×List MemPlace}(ht:P.underlying t=some (.slice e))(he:P.underlying e=some (.int k))(hc:P.cellsOf e=1)
  (h:DataW.trod enc P W 0 sp hd fuel t cs=some x):∃(c:List Int) (v:Value),cs=[v]∧Rep (fun b=>b<W.heap.size) W (.lst (c.map (.int k))) v:=by
 rcases open_ints ht he hc h with⟨h1,-⟩|⟨a,len,cap,zs,h1,h2,h3,h4,h5,-,h6,h7⟩
 ·exact⟨[],_,h1,.none _ _ (fun _=>rfl) (gJ _)⟩
 ·have hle:len≤zs.length:=by rw[h5];split<;>omega
  have hlen:(zs.take len).length=len:=by rw[nz];omega
  refine⟨zs.take len,_,h1,?_⟩
  refine Dd (g:=fun i=>.int k (zs.getD i 0)) (by rw[bH,hlen]) h3 h4 ?_ (fun i hi=>h6 i (by omega)) ?_
  ·intro e he
   obtain⟨z,_,rfl⟩:=aP.1 he
   exact⟨rfl,rfl⟩
  ·intro i hi
   have e1:((zs.take len).map (D.int k)).getD i .undef= .int k (zs.getD i 0):=by
    have hi2:i<zs.length:=by omega
    simp[aX,cd,jt,hi,a6 hi2]
   rw[e1]
   exact .int _ _
theorem iL {H:Type}{enc:TypeId×Value→H}{P:Program}{W:World}{sp:Nat→Bool}{hd:Bool}{t:TypeId}{k:IntKind}{v:Value}{fuel:Nat}{x:DataW H×List MemPlace}(ht:P.underlying t=some (.int k))(h:DataW.trod enc P W 0 sp hd fuel t [v]=some x):∃n,v= .int k n:=by
 obtain⟨n,h1,-,-⟩:=DataW.trod_int ht h
 simp only[List.cons.injEq,and_true] at h1
 exact⟨n,h1⟩
theorem Do {H:Type}{enc:TypeId×Value→H}{P:Program}{W:World}{sp:Nat→Bool}{hd:Bool}{t:TypeId}{fs:Array Field}{v:Value}{d:DataW H}{p:List MemPlace}{base:Nat}(ht:P.underlying t=some (.struct fs))(hs:P.cellsOf t=fs.size)(hf:(fs.toList.zipIdx.all fun q=>q.1.offset==q.2 && P.cellsOf q.1.type==1)=true)
  (hv:Value.okWide P W .any base t v) (h:DataW.Trod enc P W 0 sp hd t v d p):∃vs:Array Value,v= .agg vs∧vs.size=fs.size∧∀(i:Nat) (f:Field),fs[i]?=some f→∃fuel y,DataW.trod enc P W 0 sp hd fuel f.type [vs.getD i undef]=some y:=by
 obtain⟨vs,rfl,hsz⟩:=okWide_struct ht hv
 obtain⟨fuel,h⟩:=h
 obtain⟨xs,n,-,-,-,hl,hx⟩:=DataW.trod_struct ht h
 refine⟨vs,rfl,by omega,fun i f hi=>?_⟩
 have hi':=(dN.1 hi).1
 have h1:=hx i f hi
 rw[bc] at hf
 have h2:=hf (f,i) (List.mem_zipIdx_iff_getElem?.2 (by simpa using hi))
 simp only[b6,beq_iff_eq] at h2
 have hvi:i<vs.size:=by omega
 refine⟨n,xs[i],?_⟩
 have e:((Value.agg vs).cells.toList.drop f.offset).take (P.cellsOf f.type)=[vs.getD i undef]:=by
  rw[h2.1,h2.2]
  show (vs.toList.drop i).take 1=_
  rw[nB (by simpa using hvi)]
  simp[bV,hvi]
 rw[←e,h1,a6 (by omega)]
theorem Db {ok:Nat→Prop}{W:World}{ds:List D}{vs:Array Value}(hl:ds.length=vs.size)(h:∀i,i<ds.length→Rep ok W (ds.getD i .undef) (vs.getD i undef)):Rep ok W (.agg ds) (.agg vs):=.agg ds vs hl h
def zV (W:World)(T:Ty)(x:T.den)(cs:List Value):Prop:=cs.length=T.sz∧∀j,j<T.sz→Rep (fun k=>k<W.heap.size) W ((aj T x).cells.getD j .undef) (cs.getD j undef)
theorem xX {α:Type}{p:Nat→α→Prop}:∀n,(∀i,i<n→∃d,p i d)→∃l:List α,l.length=n∧∀i (h:i<l.length),p i l[i]
 |0,_=>⟨[],rfl,fun i h=>absurd h (Nat.not_lt_zero i)⟩
 |n+1,h=>by
  obtain⟨l,hl,hp⟩:=xX n fun i hi=>h i (by omega)
  obtain⟨d,hd⟩:=h n (by omega)
  refine⟨l++[d],by simp[hl],fun i hi=>?_⟩
  rcases cY i l.length with hlt|hge
  ·rw[List.getElem_append_left hlt]
   exact hp i hlt
  ·obtain rfl:i=l.length:=by simp at hi;omega
   rw[List.getElem_append_right (aN _)]
   simpa[hl] using hd
theorem row_cells {H:Type}{enc:TypeId×Value→H}{P:Program}{W:World}{sp:Nat→Bool}{hd:Bool}{t e:TypeId}{T:Ty}{cs:List Value}{fuel:Nat}{x:DataW H×List MemPlace}(hp:T.pure=true)(ht:P.underlying t=some (.slice e))(hc:P.cellsOf e=T.sz)
  (hel:∀fuel cs x,DataW.trod enc P W 0 sp hd fuel e cs=some x→∃d,zV W T d cs) (h:DataW.trod enc P W 0 sp hd fuel t cs=some x):∃(l:List T.den) (v:Value),cs=[v]∧Rep (fun b=>b<W.heap.size) W (V.lst T l).toD v:=by
 rcases DataW.trod_slice ht h with⟨h1,-⟩|⟨a,len,cap,elems,rest,n,-,h1,-,-,hl,hm,hlen,hel2,-,-⟩
 ·exact⟨[],_,h1,.none _ _ (fun _=>rfl) (gJ _)⟩
 ·have each:∀i,i<len→∃d:T.den,∃cs',W.cells? 0 (a.add (i*T.sz)) T.sz=some cs'∧zV W T d cs':=by
   intro i hi
   have h2:=hel2 i hi
   rw[a6 (by omega),hc,bu] at h2
   obtain⟨cs',h3,h4⟩:=h2
   obtain⟨d,hd⟩:=hel _ _ _ h4
   exact⟨d,cs',h3,hd⟩
  obtain⟨l,hll,hlp⟩:=xX len each
  refine⟨l,_,h1,?_⟩
  show Rep _ W (.lst (l.map (aj T))) _
  by_cases hz:l=[]
  ·subst hz
   subst hll
   exact .none _ _ (fun h=>by cases h) hm
  ·have hpos:0<l.length:=List.length_pos_iff.2 hz
   have hsz:szl (l.map (aj T))=T.sz:=by
    cases l with
    |nil=>exact absurd rfl hz
    |cons y l=>exact(d8 T y).1
   have cell:∀i j,i<l.length→j<T.sz→∃v,W.cell? ((a.add (i*T.sz)).add j)=some v∧Rep (fun k=>k<W.heap.size) W ((aj T (l[i]?.getD (l[0]'hpos))).cells.getD j .undef) v:=by
    intro i j hi hj
    obtain⟨cs',h3,h4,h5⟩:=hlp i hi
    have h6:=(World.cells?_some h3).2.2 j hj
    have hj':j<cs'.length:=by omega
    refine⟨cs'[j],by rw[h6,a6 hj'],?_⟩
    have:=h5 j hj
    rw[a6 hi]
    simp only[aX (l:=cs'),a6 hj',e9] at this
    exact this
   obtain⟨b,off,spot⟩:=a
   obtain⟨v0,hv0,-⟩:=cell 0 0 hpos T.sz_pos
   have hspot:spot=none:=by simpa[Addr.add] using World.cell?_spot hv0
   subst hspot
   have hb:=xx hv0
   refine .lst _ len b off cap (fun i j=>(W.cell? ⟨b,off+i*T.sz+j,none⟩).getD undef) (by simpa using hll) hl hm (by simpa[Addr.add] using hb) ?_ (by rw[hsz];exact T.sz_pos) ?_ ?_
   ·intro e he
    obtain⟨y,-,rfl⟩:=aP.1 he
    rw[hsz]
    exact iG hp y
   ·intro i j hi hj
    rw[hsz] at hj⊢
    obtain⟨v,hv,-⟩:=cell i j (by omega) hj
    rw[Go.WideShapes.add_plain,Go.WideShapes.add_plain] at hv
    rw[hv]
    rfl
   ·intro i j hi hj
    rw[hsz] at hj
    obtain⟨v,hv,hr⟩:=cell i j (by omega) hj
    rw[Go.WideShapes.add_plain,Go.WideShapes.add_plain] at hv
    rw[hv]
    have e:(l.map (aj T)).getD i .undef=aj T (l[i]?.getD (l[0]'hpos)):=by
     have:i<l.length:=by omega
     simp[aX,a6 this]
    rw[e]
    exact hr
theorem sO {H:Type}{enc:TypeId×Value→H}{P:Program}{W:World}{sp:Nat→Bool}{hd:Bool}{t:TypeId}{fs:Array Field}{cs:List Value}{fuel:Nat}{x:DataW H×List MemPlace}(ht:P.underlying t=some (.struct fs))(hs:P.cellsOf t=fs.size)(hf:(fs.toList.zipIdx.all fun q=>q.1.offset==q.2 && P.cellsOf q.1.type==1)=true)
  (h:DataW.trod enc P W 0 sp hd fuel t cs=some x):cs.length=fs.size∧∀(i:Nat) (f:Field),fs[i]?=some f→∃fuel y,DataW.trod enc P W 0 sp hd fuel f.type [cs.getD i undef]=some y:=by
 obtain⟨xs,n,-,-,hlc,hl,hx⟩:=DataW.trod_struct ht h
 refine⟨by omega,fun i f hi=>?_⟩
 have hi':=(dN.1 hi).1
 have h1:=hx i f hi
 rw[bc] at hf
 have h2:=hf (f,i) (List.mem_zipIdx_iff_getElem?.2 (by simpa using hi))
 simp only[b6,beq_iff_eq] at h2
 have hci:i<cs.length:=by omega
 refine⟨n,xs[i],?_⟩
 have e:(cs.drop f.offset).take (P.cellsOf f.type)=[cs.getD i undef]:=by
  have e2:(cs.drop i).take 1=[cs[i]]:=by rw[nB hci];rfl
  rw[h2.1,h2.2,e2]
  simp[aX,hci]
 rw[←e,h1,a6 (by omega)]
end Go.Proofs.Ytbmnihglaokhmaa.Am
namespace Go.Proofs.Ytbmnihglaokhmaa.Am
open Go Go.RowKit
theorem EB {φ K:Prop}(h:φ)(k:K):ct φ K:=⟨h,k⟩
theorem Gg {b:Bool}{K:Prop}(h:b=true)(k:K):Mk b K:=⟨h,k⟩
theorem D2 {k:IntKind}{z:Int}{K:Int→Prop}(h:Fm k z)(g:K z):Ari k z K:=.inl ⟨h,g⟩
theorem D1 {z:Int}{K:Int→Prop}(h:-9223372036854775808≤z∧z≤9223372036854775807)(g:K z):Ari .i64 z K:=.inl ⟨h,g⟩
theorem DE {α:Type}{xs:List α}{i:Int}{K:Nat→α→Prop}(h0:0≤i)(hl:i.toNat<xs.length)(h:∀x,xs[i.toNat]?=some x→K i.toNat x):nD xs i K:=
 ⟨h0,xs[i.toNat],a6 hl,h _ (a6 hl)⟩
theorem Fk {α:Type}{xs:List α}{i:Int}{K:Nat→α→Prop}{x:α}(h0:0≤i)(hx:xs[i.toNat]?=some x)(h:K i.toNat x):nD xs i K:=⟨h0,x,hx,h⟩
theorem AN {α:Type}{xs:List α}{i:Nat}{K:α→Prop}(hl:i<xs.length)(h:∀x,xs[i]?=some x→K x):fF xs i K:=
 ⟨xs[i],a6 hl,h _ (a6 hl)⟩
theorem Fh {α:Type}{xs:List α}{i:Nat}{K:α→Prop}{x:α}(hx:xs[i]?=some x)(h:K x):fF xs i K:=⟨x,hx,h⟩
theorem DF {α:Type}{xs:List α}{i:Nat}{K:Nat→α→Prop}(hl:i<xs.length)(h:∀x,xs[i]?=some x→K i x):nD xs (i:Int) K:=
 ⟨Int.natCast_nonneg i,xs[i],a6 hl,h _ (a6 hl)⟩
theorem Ew {α:Type}{xs:List α}{i:Nat}{K:Nat→α→Prop}{x:α}(hx:xs[i]?=some x)(h:K i x):nD xs (i:Int) K:=⟨Int.natCast_nonneg i,x,hx,h⟩
theorem DB {α:Type}{xs:List α}{i:Nat}{K:α→Prop}(hl:i<xs.length)(h:∀x,xs[i]?=some x→K x):fF xs (i:Int).toNat K:=AN hl h
theorem Et {α:Type}{xs:List α}{i:Nat}{K:α→Prop}{x:α}(hx:xs[i]?=some x)(h:K x):fF xs (i:Int).toNat K:=⟨x,hx,h⟩
theorem vX {b:Bool}{A B:Prop}(hb:b=true)(h:A):j7 b A B:=⟨fun _=>h,fun h=>by rw[hb] at h;cases h⟩
theorem vW {b:Bool}{A B:Prop}(hb:b=false)(h:B):j7 b A B:=⟨(fun h=>by rw[hb] at h;cases h),fun _=>h⟩
theorem Ab {b:Bool}{A B:Prop}(hb:b=false)(h:A):j7 (!b) A B:=vX (by rw[hb];rfl) h
theorem Aa {b:Bool}{A B:Prop}(hb:b=true)(h:B):j7 (!b) A B:=vW (by rw[hb];rfl) h
theorem D7 {p:Prop}[Decidable p]{A B:Prop}(hp:p)(h:A):j7 (decide p) A B:=vX (decide_eq_true hp) h
theorem D6 {p:Prop}[Decidable p]{A B:Prop}(hp:¬p)(h:B):j7 (decide p) A B:=vW (decide_eq_false hp) h
theorem Gx {p:Prop}[Decidable p]{A B:Prop}(h:p→A)(k:¬p→B):j7 (decide p) A B:=⟨fun h'=>h (of_decide_eq_true h'),fun h'=>k (of_decide_eq_false h')⟩
theorem Fc {A B:Prop}(h:A):j7 true A B:=⟨fun _=>h,fun h=>by cases h⟩
theorem Fa {A B:Prop}(h:B):j7 false A B:=⟨(by intro h;cases h),fun _=>h⟩
theorem Fb {b:Bool}{A B:Prop}(h:b=true→A)(k:b=false→B):j7 b A B:=⟨h,k⟩
theorem dE {P:Program}[PhC P]{f:FuncId}{vs:List V}{hin:VH}{K:V→VH→Prop}{r:V}{hout:VH}(h:bt P f vs hin r hout)(k:K r hout):dR P f vs hin K:=⟨r,hout,h,k⟩
theorem FK {P:Program}[PhC P]{f:FuncId}{vs:List V}{hin:VH}{K:V→VH→Prop}{α:Type}{R:α→Prop}{r:α→V}{hout:α→VH}(h:∃a,R a∧bt P f vs hin (r a) (hout a))(k:∀a,R a→K (r a) (hout a)):dR P f vs hin K:=by
 obtain⟨a,h1,h2⟩:=h
 exact⟨r a,hout a,h2,k a h1⟩
theorem EU {x:VB}{A B:Prop}(h:A):gP x x A B:=.inl ⟨rfl,h⟩
theorem ET {y x:VB}{A B:Prop}(h:B):gP y x A B:=.inr h
theorem DK {α:Type}{A:Prop}{B:α→Prop}(h:A):jv none A B:=⟨(fun _=>h),(fun x hx=>nomatch hx)⟩
theorem DL {α:Type}{x:α}{A:Prop}{B:α→Prop}(h:B x):jv (some x) A B:=⟨(fun hx=>nomatch hx),(fun y hy=>bm hy▸h)⟩
theorem EJ {α:Type}{o:Option α}{x:α}{A:Prop}{B:α→Prop}(he:o=some x)(h:B x):jv o A B:=by subst he;exact DL h
theorem EI {α:Type}{o:Option α}{A:Prop}{B:α→Prop}(he:o=none)(h:A):jv o A B:=by subst he;exact DK h
theorem go {P Q:Prop}(h:Q)(s:Q→P:=by with_reducible first
  |exact Gg (by kernel_rfl)|exact Fc|exact Fa|exact vX (by assumption)|exact vW (by assumption)|exact Ab rfl|exact Aa rfl|exact Ab (by assumption)|exact Aa (by assumption)
  |exact D7 (by first|assumption|omega|exact trivial|exact rfl)|exact D6 (by first|assumption|omega)|exact Ft (by assumption)
  |exact EB (by first|omega|assumption|decide|((try unfold nG);(try simp only[List.length_set,ck,dZ,mg,bH,ij]);omega))
  |exact D1 (by omega)|exact Ew (by assumption)|exact Fk (by omega) (by assumption)|exact Et (by assumption)|exact Fh (by assumption)
  |exact EU|exact ET|exact DK|exact DL|exact EJ (by assumption)|exact EI (by assumption)|exact D2 (by simp only[Fm];omega)):P:=s h
theorem G3 {α:Type}{P:Prop}{C Q:α→Prop}(h:∀x,C x→Q x)(s:(∀x,C x→Q x)→P:=by with_reducible first
  |exact DF (by omega)|exact DE (by omega) (by omega)|exact DB (by omega)|exact AN (by first|omega|(simp only[dZ,mg,List.length_set,ck];omega))):P:=s h
theorem Hs (n:Int)(h:-9223372036854775808≤n∧n≤9223372036854775807):IntKind.i64.wrap n=n:=by rw[IntKind.wrap_i64];omega
theorem Hp {x y:Int}(hx:0≤x∧x<4611686018427387904)(hy:0≤y∧y<4611686018427387904):0≤IntKind.i64.wrap ((BitVec.ofInt IntKind.i64.bits x^^^BitVec.ofInt IntKind.i64.bits y).toNat:Nat):=by
 have hb:IntKind.i64.bits=64:=rfl
 rw[hb]
 have h1:(BitVec.ofInt 64 x).toNat<2^62:=by rw[BitVec.toNat_ofInt];omega
 have h2:(BitVec.ofInt 64 y).toNat<2^62:=by rw[BitVec.toNat_ofInt];omega
 have h3:(BitVec.ofInt 64 x^^^BitVec.ofInt 64 y).toNat<2^62:=by rw[BitVec.toNat_xor];exact Nat.xor_lt_two_pow h1 h2
 rw[Hs _ (by omega)]
 omega
variable {P:Program} {N:Nat} {K:Id→Prop}
end Go.Proofs.Ytbmnihglaokhmaa.Am
namespace Go.Proofs.Ytbmnihglaokhmaa.Am
open Go Go.RowKit
variable {P:Program} {N:Nat} {K:Id→Prop} {σ:VSt} {Q:Exit→VSt→Prop}
def FU {α:Type}(m:Nat)(fs ts:List Nat)(st:α→VSt)(p:α→Prop)(e:Exit)(σ:VSt):Prop:=
 match e with
 | .normal=>ld m fs ts σ fun σ2=>∃a,p a∧σ2=st a
 |_=>False
end Go.Proofs.Ytbmnihglaokhmaa.Am
namespace Go.Proofs.Ytbmnihglaokhmaa.Am
open Go Go.RowKit Go.Conc
variable {P:Program} {N:Nat} {K:Id→Prop} {Q:Exit→VSt→Prop} {σ:VSt}
theorem LoopG.mono [PhC P]{main:Bool}{c:Code}{n n':Nat}{Q:Gh→Exit→Act→World→Prop}{γ:Gh}{a:Act}{w:World}(h:LoopG P main c n Q γ a w)(hn:n≤n'):LoopG P main c n' Q γ a w:=
 fun b k cs Stop m hk hc=>(h b k cs Stop m hk hc).mono (by omega)
theorem pi {Φ:Nat→Nat→Prop}(hm:∀i n n',Φ i n→n≤n'→Φ i n'):∀(L:List Nat),(∀i∈L,∃n,Φ i n)→∃n,∀i∈L,Φ i n
 |[],_=>⟨0,by simp⟩
 |i::L,h=>by
  obtain⟨n1,h1⟩:=h i (bh ..)
  obtain⟨n2,h2⟩:=pi hm L fun j hj=>h j (bl _ hj)
  refine⟨max n1 n2,fun j hj=>?_⟩
  rcases a9.1 hj with rfl|hj
  ·exact hm _ _ _ h1 (Nat.le_max_left _ _)
  ·exact hm _ _ _ (h2 j hj) (Nat.le_max_right _ _)
theorem qK {L:List Nat}{i:Nat}(hi:i∈L):(L.filter fun j=>j !=i).length<L.length:=by
 rcases cY (L.filter fun j=>j !=i).length L.length with h|h
 ·exact h
 ·exfalso
  have:=List.filter_eq_self.1 (List.Sublist.eq_of_length_le (List.filter_sublist) h) i hi
  simp at this
def Gj (m:Nat)(fs ts:List Nat)(id:Nat)(σF:VSt):Exit→VSt→Prop
 | .exit i,σ=>i=id∧ld m fs ts σ fun σ2=>σ2=σF
 |_,_=>False
def la (x y:Nat)(σ:VSt):VSt:=⟨(y,.ff)::(x,.tup [.ff])::σ.t,σ.h,σ.n⟩
def ji (x y r k i n:Nat)(left:List Nat)(p:Int×Int)(j:Nat)(σ:VSt):VSt:=
 ⟨(y,.tt)::(x,.tup [.tt,.int .i64 p.1,.int .i64 p.2])::σ.t,put r (.it k i n (left.filter fun q=>q !=j) (some j)) σ.h,σ.n⟩
theorem uT [PhC P]{main:Bool}{dfs:List Deferred}{γ:Gh}{ρ0:Id→Pl}{a:Act}{w:World}{id x y it r k i n:Nat}{o1 o2:Oper}{left:List Nat}{cur:Option Nat}{l:List (Int×Int)}
  (ho1:o1.op= .next (.tmp it) false) (hd1:o1.dst=some x) (hg1:o1.guard=none) (ho2:o2.op= .extract (.tmp x) 0) (hd2:o2.dst=some y) (hg2:o2.guard=none) (hx:x<N) (hy:y<N)
  (h1:look σ.t it=some (.ptr r 0)) (h2:look σ.h r=some (.it k i n left cur)) (h3:look (toH σ.h) (k,i)=some (fK l)) (h4:l.length=n) (hs:SimS P dfs γ N ρ0 K σ.toD a w):
  wpG P main (.region id #[o1,o2] false) 5 (fun γ' e a' w'=>e= .normal∧(((∀j,j∉left)∧SimS P dfs γ' N ρ0 K (la x y σ).toD a' w')∨∃j p,j∈left∧l[j]?=some p∧SimS P dfs γ' N ρ0 K (ji x y r k i n left p j σ).toD a' w')) γ a w:=by
 obtain⟨hfr,hK,ρ,hρ,s⟩:=hs
 have hm:evalF σ.toD.t σ.toD.h (.tmp it)=some (.ptr (r,0) 0):=by
  have e1:aW σ.toD.t (.tmp it)=some (.ptr (r,0) 0):=by simp only[aW,VSt.toD,cx,h1,aM,V.toD]
  unfold evalF
  rw[e1,aM]
  have e2:look (toH σ.h) (r,0)=some (wD (k,i) n left cur):=aI h2 rfl
  simp only[Am.fwd,VSt.toD,e2,wD]
 have hrB:look σ.toD.h (r,0)=some (wD (k,i) n left cur):=aI h2 rfl
 have hopn:=Bw (main:=main) ho1 hm hrB h3 h4 s
 have hext:∀(t:List (Nat×D)) (h:HL) (b:Bool) (ds:List D),look t x=some (.tup (.bool b::ds))→OpS P N o2 t h (.bool b) [] []:=fun t h b ds hl=>by
  refine uw (m:=false) (fun n=>?_) (fun k hk=>by unfold vz iN at hk;rw[ho2] at hk;cases hk)
  rw[ho2]
  simp only[cQ,aW,hl,bp,iB,fi,aM]
 have fin:∀(γ':Gh) (a':Act) (w':World) (d:D) (u:HL) (b:Bool) (ds:List D) (σ2:VSt),d= .tup (.bool b::ds)→(∀z,look σ2.toD.t z=look ((y,D.bool b)::(x,d)::σ.toD.t) z)→(∀c,look σ2.toD.h c=look (puts u σ.toD.h) c)→σ2.n=σ.n→(∀z∈u,z.1.1<σ.n)→
   sZ P dfs N ρ σ.toD.t σ.toD.h (puts u σ.toD.h) a o1.dst d γ' a' w'→OpsG P main #[o1,o2] [1] 3 (fun γ' e a' w'=>e= .normal∧SimS P dfs γ' N ρ0 K σ2.toD a' w') γ' a' w':=by
  rintro γ' a' w' d u b ds σ2 rfl e1 e2 e3 hu ⟨v,ρ',rfl,g1,g2,g3⟩
  have s1:SimN P dfs γ' N ρ' (eA o1.dst (.tup (.bool b::ds)) σ.toD.t) (puts u σ.toD.h) (a.put o1.dst v) w':=Sim.putO g2 (fun z hz=>by rw[hd1] at hz;cases hz;exact hx) g3
  obtain⟨n2,hn2⟩:=hext (eA o1.dst (.tup (.bool b::ds)) σ.toD.t) (puts u σ.toD.h) b ds (by rw[cE,if_pos hd1])
  have hop:=(sD (main:=main) (o:=o2) (R:=fun d' u'=>d'= .bool b∧u'=[]) s1 fun w s=>?_)
  ·have:=OpsG.mono (iP (main:=main) (ops:=#[o1,o2]) (i:=1) (rest:=[]) (o:=o2) (n1:=1) (n2:=1) rfl (by simp[Region.wanted,hg2]) (hop.mono (aN _) (K':=fun γ' a' w'=>OpsG P main #[o1,o2] [] 1 (fun γ' e a' w'=>e= .normal∧SimS P dfs γ' N ρ0 K σ2.toD a' w') γ' a' w') ?_)) (show 1+1≤3 by omega)
   ·exact this
   ·rintro γ2 a2 w2 ⟨d',u',⟨rfl,rfl⟩,v2,ρ2,rfl,q1,q2,q3⟩
    refine jU ⟨rfl,fun c hc=>?_,fun c hc=>?_,ρ2,fun c hc=>?_,?_⟩
    ·rw[e2]
     rw[aS _ _ _ fun z hz he=>?_]
     ·exact hfr c (by rw[show σ.toD.n=σ.n from rfl,←e3];exact hc)
     ·have:=hu z hz
      rw[he] at this
      have hc':σ.n≤c.1:=by rw[←e3];exact hc
      omega
    ·have:=gr u σ.toD.h c (hK c hc)
     unfold Live at this⊢
     rw[e2];exact this
    ·exact(q1 c (gr u σ.toD.h c (hK c hc))).trans ((g1 c (hK c hc)).trans (hρ c hc))
    ·refine Sim.congr (Sim.putO q2 (fun z hz=>by rw[hd2] at hz;cases hz;exact hy) q3) (fun z=>?_) fun c=>?_
     ·rw[e1,cE,cE,hd1,hd2]
      simp only[look,aK]
      by_cases c1:z=y
      ·simp[c1]
      ·rw[if_neg c1,if_neg (cq c1)]
       by_cases c2:z=x
       ·simp[c2]
       ·rw[if_neg c2,if_neg (cq c2)]
     ·rw[e2];rfl
  ·have hd:cQ P false o2.op (eA o1.dst (.tup (.bool b::ds)) σ.toD.t) (puts u σ.toD.h) 0=some (.bool b,[]):=by
    rw[ho2]
    have hl:look (eA o1.dst (.tup (.bool b::ds)) σ.toD.t) x=some (.tup (.bool b::ds)):=by rw[cE,if_pos hd1]
    simp only[cQ,aW,hl,bp,iB,fi,aM]
   obtain⟨hlt,hcx⟩:=s.tmp x _ (by rw[cE,if_pos hd1])
   obtain⟨vs,hv1,hv2,hv3⟩:=hcx.tup_inv
   have hb0:=(hv3 0 (by simp)).bool_inv
   have hpos:0<vs.size:=by rw[←hv2];simp
   have hv0:vs[0]?=some (.bool b):=by
    rw[eH hpos]
    simpa[bV,hpos] using hb0
   refine⟨.value (.bool b),.bool b,w,ρ',.bool b,[],?_,.inr rfl,?_,Ext.refl _ _,s,.bool _,rfl,rfl⟩
   ·simp[execOp,ho2,Act.eval,hv1,Instr.extract,hv0]
   ·simp[execOp,ho2,Act.eval,hv1,Instr.extract,hv0]
 have hreg:=iP (main:=main) (ops:=#[o1,o2]) (i:=0) (rest:=[1]) (o:=o1) (n1:=1) (n2:=3) (Q:=fun γ' e a' w'=>e= .normal∧(((∀j,j∉left)∧SimS P dfs γ' N ρ0 K (la x y σ).toD a' w')∨∃j p,j∈left∧l[j]?=some p∧SimS P dfs γ' N ρ0 K (ji x y r k i n left p j σ).toD a' w')) rfl (by simp[Region.wanted,hg1]) (hopn.mono (aN _) ?_)
 ·exact lb hreg
 ·rintro γ' a' w' ⟨d,u,hR,hD⟩
  rcases hR with⟨r0,rfl,rfl⟩|⟨j,p,r0,r1,rfl,rfl⟩
  ·have:=fin γ' a' w' _ [] false [] (la x y σ) rfl (fun z=>rfl) (fun c=>rfl) rfl (by simp) hD
   exact fun b k cs Stop m hk hc=>this b k cs Stop m hk fun γ' e a' w' q=>hc γ' e a' w' ⟨q.1,.inl ⟨r0,q.2⟩⟩
  ·have hlt:r<σ.n:=by
    rcases cY r σ.n with h|h
    ·exact h
    ·have:=hfr (r,0) h
     rw[hrB] at this;cases this
   have:=fin γ' a' w' _ [((r,0),wD (k,i) n (left.filter fun q=>q !=j) (some j))] true [.int .i64 p.1,.int .i64 p.2] (ji x y r k i n left p j σ) rfl (fun z=>rfl) (fun c=>?_) rfl (by simp;exact hlt) hD
   ·exact fun b k cs Stop m hk hc=>this b k cs Stop m hk fun γ' e a' w' q=>hc γ' e a' w' ⟨q.1,.inr ⟨j,p,r0,r1,q.2⟩⟩
   ·exact((eu h2 rfl (y:=.it k i n (left.filter fun q=>q !=j) (some j)) rfl).1 c).symm
theorem ov [PhC P]{α:Type}{id x y it r k i n:Nat}{o1 o2:Oper}{rest:Code}{m:Nat}(hK:KB m K)
  (ho1:o1.op= .next (.tmp it) false) (hd1:o1.dst=some x) (hg1:o1.guard=none) (ho2:o2.op= .extract (.tmp x) 0) (hd2:o2.dst=some y) (hg2:o2.guard=none) (hx:x<N) (hy:y<N)
  (fs ts:List Nat) (st:α→VSt) (p:α→Prop) (lf:α→List Nat) (cur:α→Option Nat) (l:α→List (Int×Int)) (a0:α) (h0:p a0) (hg:ld m fs ts σ fun σ'=>σ'=st a0)
  (h1:∀a,p a→look (st a).t it=some (.ptr r 0)∧look (st a).h r=some (.it k i n (lf a) (cur a))∧look (toH (st a).h) (k,i)=some (fK (l a))∧(l a).length=n)
  (idF:Nat) (fs2 ts2:List Nat) (σF:VSt) (done:∀a,p a→(∀j,j∉lf a)→At P N K rest (Gj m fs2 ts2 idF σF) (la x y (st a)))
  (round:∀a j q,p a→j∈lf a→(l a)[j]?=some q→At P N K rest (Dx (fun σ'=>ld m fs ts σ' fun σ2=>∃b,p b∧(lf b).length<(lf a).length∧σ2=st b) (fun _ _=>False)) (ji x y r k i n (lf a) q j (st a)))
  (hQ:Q (.exit idF) σF):At P N K (.loop (.seq (.region id #[o1,o2] false) rest)) Q σ:=by
 have key:∀(c:Nat) (a:α),(lf a).length=c→p a→∃n,∀main dfs γ ρ0 a' w,SimS P dfs γ N ρ0 K (st a).toD a' w→LoopG P main (.seq (.region id #[o1,o2] false) rest) n (fun γ' e' a' w'=>e'= .exit idF∧SimS P dfs γ' N ρ0 K σF.toD a' w') γ a' w:=by
  intro c
  induction c using Nat.strongRecOn with
  |_ c ih=>
   intro a hc hp
   obtain⟨q1,q2,q3,q4⟩:=h1 a hp
   have hdone:∃n,(∀j,j∉lf a)→∀main dfs γ ρ0 a' w,SimS P dfs γ N ρ0 K (la x y (st a)).toD a' w→wpG P main rest n (fun γ' e a' w'=>e= .exit idF∧SimS P dfs γ' N ρ0 K σF.toD a' w') γ a' w:=by
    by_cases hn:∀j,j∉lf a
    ·obtain⟨e,σ1,⟨n1,hb⟩,hq⟩:=done a hp hn
     refine⟨n1,fun _ main dfs γ ρ0 a' w hs=>(hb main dfs γ ρ0 a' w hs).mono (aN _) ?_⟩
     rintro γ' e' a2 w2 ⟨rfl,hs2⟩
     have:=hq ⟨_,_,_,_,_,hs2⟩
     cases e' with
     |exit id'=>
      obtain⟨rfl,hz⟩:=this
      obtain⟨σ2,hw,rfl⟩:=ig (P:=P) (N:=N) hK hz
      exact⟨rfl,hw _ _ _ _ _ hs2⟩
     |_=>exact this.elim
    ·exact⟨0,fun h=>absurd h hn⟩
   obtain⟨nd,hnd⟩:=hdone
   have hround:∃n',∀j∈lf a,∀q,(l a)[j]?=some q→∀main dfs γ ρ0 a' w,SimS P dfs γ N ρ0 K (ji x y r k i n (lf a) q j (st a)).toD a' w→wpG P main rest n' (fun γ' e a' w'=>match e with
     | .normal=>LoopG P main (.seq (.region id #[o1,o2] false) rest) n' (fun γ' e' a' w'=>e'= .exit idF∧SimS P dfs γ' N ρ0 K σF.toD a' w') γ' a' w'
     |e=>e= .exit idF∧SimS P dfs γ' N ρ0 K σF.toD a' w') γ a' w:=by
    have hone:∀j∈lf a,∃n',∀q,(l a)[j]?=some q→∀main dfs γ ρ0 a' w,SimS P dfs γ N ρ0 K (ji x y r k i n (lf a) q j (st a)).toD a' w→wpG P main rest n' (fun γ' e a' w'=>match e with
      | .normal=>LoopG P main (.seq (.region id #[o1,o2] false) rest) n' (fun γ' e' a' w'=>e'= .exit idF∧SimS P dfs γ' N ρ0 K σF.toD a' w') γ' a' w'
      |e=>e= .exit idF∧SimS P dfs γ' N ρ0 K σF.toD a' w') γ a' w:=by
     intro j hj
     cases hq:(l a)[j]? with
     |none=>exact⟨0,fun q h=>by cases h⟩
     |some q=>
      obtain⟨e,σ1,⟨n1,hb⟩,hr⟩:=round a j q hp hj hq
      by_cases hreal:jk P N K σ1.toD
      ·have hr:=hr hreal
       cases e with
       |normal=>
        obtain⟨σ2,hw,b,p1,p2,rfl⟩:=ig (P:=P) (N:=N) hK hr
        obtain⟨n2,h2⟩:=ih _ (by omega) b rfl p1
        refine⟨max n1 n2,fun q' hq' main dfs γ ρ0 a' w hs=>?_⟩
        cases hq'
        refine(hb main dfs γ ρ0 a' w hs).mono (Nat.le_max_left _ _) ?_
        rintro γ' e' a2 w2 ⟨rfl,hs2⟩
        exact(h2 _ _ _ _ _ _ (hw _ _ _ _ _ hs2)).mono (Nat.le_max_right _ _)
       |_=>exact hr.elim
      ·refine⟨n1,fun q' hq' main dfs γ ρ0 a' w hs=>?_⟩
       cases hq'
       refine(hb main dfs γ ρ0 a' w hs).mono (aN _) ?_
       rintro γ' e' a2 w2 ⟨rfl,hs2⟩
       exact absurd ⟨_,_,_,_,_,hs2⟩ hreal
    obtain⟨n',hn'⟩:=pi (Φ:=fun j n'=>∀q,(l a)[j]?=some q→∀main dfs γ ρ0 a' w,SimS P dfs γ N ρ0 K (ji x y r k i n (lf a) q j (st a)).toD a' w→wpG P main rest n' (fun γ' e a' w'=>match e with
      | .normal=>LoopG P main (.seq (.region id #[o1,o2] false) rest) n' (fun γ' e' a' w'=>e'= .exit idF∧SimS P dfs γ' N ρ0 K σF.toD a' w') γ' a' w'
      |e=>e= .exit idF∧SimS P dfs γ' N ρ0 K σF.toD a' w') γ a' w) (fun j n1 n2 h hle q hq main dfs γ ρ0 a' w hs=>(h q hq main dfs γ ρ0 a' w hs).mono hle fun γ' e a2 w2 h2=>by
       cases e with
       |normal=>exact LoopG.mono h2 hle
       |_=>exact h2) (lf a) hone
    exact⟨n',fun j hj q hq=>hn' j hj q hq⟩
   obtain⟨nr,hnr⟩:=hround
   refine⟨(5+max nd nr+1)+nr+1,fun main dfs γ ρ0 a' w hs=>LoopG.round (sX ((uT (main:=main) ho1 hd1 hg1 ho2 hd2 hg2 hx hy q1 q2 q3 q4 hs).mono (aN _) ?_))⟩
   rintro γ' e' a2 w2 ⟨rfl,hcase⟩
   simp only
   rcases hcase with⟨hn,hs2⟩|⟨j,q,hj,hq,hs2⟩
   ·refine(hnd hn main dfs γ' ρ0 a2 w2 hs2).mono (Nat.le_max_left _ _) ?_
    rintro γ3 e3 a3 w3 ⟨rfl,hs3⟩
    exact⟨rfl,hs3⟩
   ·refine(hnr j hj q hq main dfs γ' ρ0 a2 w2 hs2).mono (Nat.le_max_right _ _) ?_
    intro γ3 e3 a3 w3 h3
    cases e3<;>exact h3
 obtain⟨σ0,w0,rfl⟩:=ig (P:=P) (N:=N) hK hg
 obtain⟨n,hn⟩:=key _ a0 rfl h0
 exact⟨.exit idF,σF,.pre w0 ⟨n+1,fun main dfs γ ρ0 a' w hs=>vr (hn main dfs γ ρ0 a' w hs)⟩,fun _=>hQ⟩
def iW:List V→Nat→(List Int→List V→Prop)→Prop
 |l,0,K=>K [] l
 | .int .i64 x::l,m+1,K=>iW l m fun xs r=>K (x::xs) r
 |_,_+1,_=>False
theorem lW:∀{m:Nat} {l:List V} {K:List Int→List V→Prop},iW l m K→∃xs r,aB l=xs.map (aj (.int .i64))++aB r∧K xs r
 |0,l,K,h=>⟨[],l,rfl,by cases l<;>exact h⟩
 |m+1,[],K,h=>by simp only[iW] at h
 |m+1,v::l,K,h=>by
  unfold iW at h
  split at h
  ·rename_i e;cases e
  ·rename_i _ x l' m' e1 e2
   cases e1;cases e2
   obtain⟨xs,r,h1,h2⟩:=lW h
   exact⟨x::xs,r,by simp only[aB,V.toD,bI,fR,h1,aj],h2⟩
  ·exact h.elim
def FP (h:VH)(b p m:Nat)(K:VH→Prop):Prop:=
 dB h b fun x=>(match x with
  | .var T cs=>pO cs p fun pre=>iW (cs.drop p) m fun xs post=>zz b (.vari T pre m (.int .i64) xs post) h K
  |_=>False)
theorem vL [PhC P]{c:Code}{t:VT}{h:VH}{n:Nat}(b p m:Nat)(hk:FP h b p m fun h'=>At P N K c Q ⟨t,h',n⟩):At P N K c Q ⟨t,h,n⟩:=by
 obtain⟨x,h1,hk⟩:=bn hk
 split at hk
 ·rename_i T cs
  obtain⟨hl,hk⟩:=lX hk
  obtain⟨xs,post,h2,hk⟩:=lW hk
  have ha:=n5 hk
  refine xv (σ':=⟨t,put b _ h,n⟩) (fun _ _ _ _ _ hs=>hs.congr (fun _=>rfl) (fun d=>?_) rfl) ha
  show look (toH (put b _ h)) d=look (toH h) d
  rw[az,az,aD]
  split
  ·rename_i e
   rw[e,h1]
   have:VB.blks (.vari T (cs.take p) m (.int .i64) xs post)=VB.blks (.var T cs):=by
    simp only[VB.blks]
    rw[cV,←h2]
    congr 2
    rw[ci,ci,ci,←jr,List.take_append_drop]
   simp only[bp,this]
  ·rfl
 ·exact hk.elim
end Go.Proofs.Ytbmnihglaokhmaa.Am
namespace Go.Proofs.Ytbmnihglaokhmaa.Am
open Go
def Θ:TT:=[
  (3,⟨.int .i64,1,8,some (.int .i64 0),some (.int .i64),false⟩),
  (5,⟨.int .u8,1,1,some (.int .u8 0),some (.int .u8),false⟩),
  (65,⟨.int .u64,1,8,some (.int .u64 0),some (.int .u64),false⟩),
  (68,⟨.int .u32,1,4,some (.int .u32 0),some (.int .u32),false⟩),
  (4,⟨.bool,1,1,some (.bool false),some (.bool),false⟩),
  (22,⟨.slice 5,1,24,some (.nils),some (.lst (.int .u8)),false⟩),
  (23,⟨.slice 3,1,24,some (.nils),some (.lst (.int .i64)),false⟩),
  (26,⟨.slice 38,1,24,some (.nils),some (.lst (.txn)),false⟩),
  (29,⟨.slice 4,1,24,some (.nils),some (.lst (.bool)),false⟩),
  (35,⟨.slice 23,1,24,some (.nils),some (.lst (.lst (.int .i64))),false⟩),
  (42,⟨.slice 86,1,24,some (.nils),some (.lst (.txn)),false⟩),
  (56,⟨.slice 74,1,24,some (.nils),none,false⟩),
  (25,⟨.struct [(23,0,1),(3,1,1)],2,32,some (.agg [.nils,.int .i64 0]),some (.led),false⟩),
  (38,⟨.struct [(3,0,1),(3,1,1),(3,2,1),(3,3,1)],4,32,some (.agg [.int .i64 0,.int .i64 0,.int .i64 0,.int .i64 0]),some (.txn),false⟩),
  (41,⟨.struct [(23,0,1),(3,1,1)],2,32,some (.agg [.nils,.int .i64 0]),some (.led),false⟩),
  (60,⟨.struct [(58,0,6),(3,6,1)],7,56,some (.agg [.int .i64 0,.int .i64 0,.int .i64 0,.int .i64 0,.int .i64 0,.int .i64 0,.int .i64 0]),none,false⟩),
  (62,⟨.struct [],0,0,some (.agg []),none,false⟩),
  (63,⟨.struct [],0,0,some (.agg []),none,false⟩),
  (64,⟨.struct [],0,0,some (.agg []),none,false⟩),
  (67,⟨.struct [(63,0,0),(64,0,0),(65,0,1)],1,8,some (.agg [.int .u64 0]),none,false⟩),
  (70,⟨.struct [(62,0,0),(67,0,1),(68,1,1)],2,16,some (.agg [.int .u64 0,.int .u32 0]),none,false⟩),
  (74,⟨.struct [(72,0,1),(3,1,1),(29,2,1)],3,40,some (.agg [.nilm,.int .i64 0,.nils]),none,false⟩),
  (86,⟨.struct [(3,0,1),(3,1,1),(3,2,1),(3,3,1)],4,32,some (.agg [.int .i64 0,.int .i64 0,.int .i64 0,.int .i64 0]),some (.txn),false⟩),
  (112,⟨.struct [(22,0,1),(3,1,1)],2,32,some (.agg [.nils,.int .i64 0]),none,false⟩),
  (54,⟨.ptr 60,1,8,some (.nilp),none,false⟩),
  (72,⟨.map 3 3,1,8,some (.nilm),none,false⟩),
  (88,⟨.ptr 112,1,8,some (.nilp),none,false⟩),
  (58,⟨.arr 6 3,6,48,some (.agg [.int .i64 0,.int .i64 0,.int .i64 0,.int .i64 0,.int .i64 0,.int .i64 0]),none,false⟩)]
theorem bf:TT.ok Try.prog Θ:=TT.okB_ok (by kernel_rfl)
theorem po:Try.prog.follows .mixedOrders=true:=by kernel_rfl
structure Hid (Q:Prop):Prop where
 h:Q
theorem FL:(∀(p:Prop) [Decidable p],(decide p=true)=p)∧(∀(p:Prop) [Decidable p],(decide p=false)=¬p)∧(∀b:Bool,((!b)=true)=(b=false))∧(∀b:Bool,((!b)=false)=(b=true))∧(∀(α:Type) [BEq α] [LawfulBEq α] (a b:α),((a==b)=true)=(a=b))∧(∀(α:Type) [BEq α] [LawfulBEq α] (a b:α),((a !=b)=true)=¬a=b)∧(∀(α:Type) [BEq α] [LawfulBEq α] (a b:α),((a==b)=false)=¬a=b)∧(∀(α:Type) [BEq α] [LawfulBEq α] (a b:α),((a !=b)=false)=(a=b))∧∀(α:Type) (a b:α),(a≠b)=¬a=b:=by
 refine⟨fun p _=>by simp,fun p _=>by simp,fun b=>by simp,fun b=>by simp,fun α _ _ a b=>by simp,fun α _ _ a b=>by simp,fun α _ _ a b=>by simp,fun α _ _ a b=>by simp,fun α a b=>rfl⟩
theorem cr {P:Program}[PhC P]{h:VH}{n:Nat}{f:FuncId}{vs vs':List V}{K:V→VH→List Nat→Prop}{hin hout:VH}{r:V}{Q:Prop}(hc:bt P f vs' hin r hout)(k:Q)(s:bt P f vs' hin r hout→Hid Q→cO P h n f vs K:=by
  intro hc h
  refine kS ?_
  conv=>whnf
  with_reducible refine dE hc ?_
  conv=>whnf
  exact h.h):cO P h n f vs K:=s hc ⟨k⟩
theorem co {P:Program}[PhC P]{h:VH}{n:Nat}{f:FuncId}{vs vs':List V}{K:V→VH→List Nat→Prop}{hin hout:VH}{r:V}{Q:Prop}(hc:bt P f vs' hin r hout)(k:Q)(s:bt P f vs' hin r hout→Hid Q→cO P h n f vs K:=by
  intro hc h
  refine vV ?_
  conv=>whnf
  with_reducible refine dE hc ?_
  conv=>whnf
  exact h.h):cO P h n f vs K:=s hc ⟨k⟩
theorem sa {α:Type}{P:Prop}{C Q:α→Prop}(h:∀x,C x→Q x)(s:(∀x,C x→Q x)→P:=by
  intro h
  with_reducible first|refine DF (by omega) fun x hx=>?_|refine DE (by omega) (by omega) fun x hx=>?_|refine DB (by omega) fun x hx=>?_|refine AN (by first|omega|(simp only[dZ,mg,List.length_set,ck];omega)) fun x hx=>?_
  conv=>whnf
  exact h x hx):P:=s h
theorem sb {b:Bool}{A B C D Q R:Prop}(h:C→Q)(k:D→R)(s:(C→Q)→(D→R)→j7 b A B:=by
  intro h k
  with_reducible refine Fb (fun hq=>?_) (fun hq=>?_)
  ·first|(have _:True→True:=h;((try simp only[FL] at hq)<;>omega))|((try simp only[FL] at hq);(conv=>whnf);exact h hq)
  ·first|(have _:True→True:=k;((try simp only[FL] at hq)<;>omega))|((try simp only[FL] at hq);(conv=>whnf);exact k hq)):j7 b A B:=s h k
theorem st {P Q:Prop}(h:Q)(s:Hid Q→P:=by
  intro h
  (first|(with_reducible first|apply mA|apply tr)|((first|with_reducible apply kg bf|refine go ?_|(with_reducible first|apply nM|apply mz|apply kb|apply kh|refine kf bf po (by kernel_rfl) ?_))<;>conv=>whnf))
  repeat(first|(with_reducible first|apply mA|apply tr)|((first|with_reducible apply kg bf|refine go ?_|(with_reducible first|apply nM|apply mz|apply kb|apply kh|refine kf bf po (by kernel_rfl) ?_))<;>conv=>whnf))
  exact h.h):P:=s ⟨h⟩
theorem G5 {P Q:Prop}(h:Q)(s:Hid Q→P:=by
  intro h
  (first|(with_reducible first|apply mA)|((first|with_reducible apply kg bf|refine go ?_|(with_reducible first|apply nM|apply mz|apply kb|apply kh|refine kf bf po (by kernel_rfl) ?_))<;>conv=>whnf))
  repeat(first|(with_reducible first|apply mA)|((first|with_reducible apply kg bf|refine go ?_|(with_reducible first|apply nM|apply mz|apply kb|apply kh|refine kf bf po (by kernel_rfl) ?_))<;>conv=>whnf))
  exact h.h):P:=s ⟨h⟩
theorem G4 {P Q:Prop}(h:Q)(s:Hid Q→P:=by
  intro h
  (first|(with_reducible first|apply mA)|((first|with_reducible apply kg bf|refine go ?_|(with_reducible first|apply mz|apply kb|apply kh|refine kf bf po (by kernel_rfl) ?_))<;>conv=>whnf))
  repeat(first|(with_reducible first|apply mA)|((first|with_reducible apply kg bf|refine go ?_|(with_reducible first|apply mz|apply kb|apply kh|refine kf bf po (by kernel_rfl) ?_))<;>conv=>whnf))
  exact h.h):P:=s ⟨h⟩
set_option linter.unusedSectionVars false
variable [PhC Try.prog]
attribute [local irreducible] Mk ct Ari fF nD j7 cO dR jv gP At bt
set_option maxRecDepth 10000
def mm (n lo hi:Int):Bool:=decide (lo≤n) && decide (n≤hi)
theorem Ex (n lo hi:Int):bt Try.prog 89 [.int .i64 n,.int .i64 lo,.int .i64 hi] [] (.bool (mm n lo hi)) []:=by
 refine bg bf Try.func89 rfl rfl false 0 4 rfl rfl rfl rfl fun K hK hb1 hb2=>?_;simp only[bD,enc,Nat.reduceAdd]
 (repeat' first|refine st ?_|refine sa fun xe hxe=>?_|refine sb (fun hq=>?_) fun hq=>?_|exact aC)
 all_goals (refine⟨?_,rfl⟩;simp_all[mm])
 omega
def bZ (t:Txn):Bool:=mm t.a 0 5 && (mm t.b 0 5 && (t.a !=t.b && (mm t.s 1 99 && mm t.e 0 9)))
theorem jj (a b s e:Int):bt Try.prog 77 [.agg [.int .i64 a,.int .i64 b,.int .i64 s,.int .i64 e]] [] (.bool (bZ ⟨a,b,s,e⟩)) []:=by
 refine bg bf Try.func77 rfl rfl false 0 4 rfl rfl rfl rfl fun K hK hb1 hb2=>?_;simp only[bD,enc,Nat.reduceAdd]
 (repeat' first|refine st ?_|refine sa fun xe hxe=>?_|refine sb (fun hq=>?_) fun hq=>?_|refine cr (Ex _ _ _) ?_|exact aC)
 all_goals (refine⟨?_,rfl⟩;simp_all[bZ])
def kV (l:Led):Bool:=(l.b.all fun x=>mm x 0 999) && ((l.b.length==6) && mm l.f 0 5994)
theorem qi (b:List Int)(f:Int):bt Try.prog 76 [.agg [.lst (.int .i64) b,.int .i64 f]] [] (.bool (kV ⟨b,f⟩)) []:=by
 refine bg bf Try.func76 rfl rfl false 0 4 rfl rfl rfl rfl fun K hK hb1 hb2=>?_;simp only[bD,enc,Nat.reduceAdd]
 simp[aB,V.toD,bnd,aj,D.cells] at hb1
 (repeat' first|refine st ?_|refine sa fun xe hxe=>?_|refine sb (fun hq=>?_) fun hq=>?_|refine cr (Ex _ _ _) ?_|exact aC)
 refine bw hK [] [1,2,3] (fun i:Nat=>⟨[(1,.ptr 4 0),(2,.bool false),(3,.int .i64 i)],[(4,.var 25 [.lst (.int .i64) b,.int .i64 f])],5⟩) (fun i=>i≤b.length∧∀x∈b.take i,mm x 0 999=true) (fun i=>b.length-i) 0 ⟨by simp,by simp⟩ rfl ?_
 rintro i ⟨hi,hall⟩
 (repeat' first|refine st ?_|refine sa fun xe hxe=>?_|refine sb (fun hq=>?_) fun hq=>?_|refine cr (Ex _ _ _) ?_|exact aC)
 ·refine⟨?_,rfl⟩
  have:kV ⟨b,f⟩=false:=by
   simp only[kV,mi]
   left
   rw[List.all_eq_false]
   exact⟨xe,dm hxe,by rw[hq];simp⟩
  rw[this]
 ·refine⟨i+1,⟨by omega,fun y hy=>?_⟩,by omega,rfl⟩
  obtain⟨hlt,rfl⟩:=cz.1 hxe
  rw[pW hlt] at hy
  rcases cm.1 hy with hy|hy
  ·exact hall y hy
  ·rw[bd.1 hy];exact hq
 all_goals
  have hal:(b.all fun x=>mm x 0 999)=true:=by
   rw[bc]
   rw[ii (by omega)] at hall
   exact hall
  refine⟨?_,rfl⟩
  simp only[kV,hal,Bool.true_and]
 ·have:(b.length==6)=true:=by simp;omega
  rw[this];rfl
 ·have:(b.length==6)=false:=by simp;omega
  rw[this];rfl
def gd (l:Led)(m:Int):Bool:=kV l && decide (l.f≤5994-9*m)
theorem EO (b:List Int)(f:Int)(m:Int)(hm:0≤m∧m≤100):bt Try.prog 38 [.agg [.lst (.int .i64) b,.int .i64 f],.int .i64 m] [] (.bool (gd ⟨b,f⟩ m)) []:=by
 refine bg bf Try.func38 rfl rfl false 0 4 rfl rfl rfl rfl fun K hK hb1 hb2=>?_;simp only[bD,enc,Nat.reduceAdd]
 (repeat' first|refine st ?_|refine sa fun xe hxe=>?_|refine sb (fun hq=>?_) fun hq=>?_|refine cr (qi _ _) ?_|exact aC)
 all_goals (refine⟨?_,rfl⟩;simp_all[gd])
theorem wd (b:List Int)(f:Int)(h:b.length≤1000000):bt Try.prog 40 [.agg [.lst (.int .i64) b,.int .i64 f]] [] (.agg [.ref 4,.int .i64 f]) [(4,.row 3 (.int .i64) b)]:=by
 refine bg bf Try.func40 rfl rfl false 0 4 rfl rfl rfl rfl fun K hK hb1 hb2=>?_;simp only[bD,enc,Nat.reduceAdd]
 (repeat' first|refine st ?_|refine sa fun xe hxe=>?_|refine sb (fun hq=>?_) fun hq=>?_|exact aC)
 exact⟨rfl,rfl⟩
def mV (l:Led):Prop:=l.b.length=6∧(∀x∈l.b,0≤x∧x≤999)∧0≤l.f∧l.f≤100000
def cM (l:Led)(t:Txn):Bool:=bZ t && (!decide (l.b.getD t.a.toNat 0<t.s+t.e) && !decide (999<l.b.getD t.b.toNat 0+t.s))
def bP (l:Led)(t:Txn):Led:=if cM l t then⟨(l.b.set t.a.toNat (l.b.getD t.a.toNat 0-t.s-t.e)).set t.b.toNat (l.b.getD t.b.toNat 0+t.s),l.f+t.e⟩ else l
theorem eq {b:List Int}{f:Int}(h:mV ⟨b,f⟩){i:Int}(h0:0≤i)(h5:i≤5):b[i.toNat]?=some (b.getD i.toNat 0)∧0≤b.getD i.toNat 0∧b.getD i.toNat 0≤999:=by
 obtain⟨h1,h2,_⟩:=h
 simp only at h1 h2
 have hl:i.toNat<b.length:=by omega
 have e:b[i.toNat]?=some (b.getD i.toNat 0):=by rw[aX,a6 hl];rfl
 exact⟨e,h2 _ (dm e)⟩
theorem dQ {x y s e:Int}(h:bZ ⟨x,y,s,e⟩=true):(0≤x∧x≤5)∧(0≤y∧y≤5)∧x≠y∧(1≤s∧s≤99)∧0≤e∧e≤9:=by
 simpa[bZ,mm,and_assoc] using h
theorem Cq (b:List Int)(f x y s e:Int)(hok:mV ⟨b,f⟩):bt Try.prog 42 [.agg [.lst (.int .i64) b,.int .i64 f],.agg [.int .i64 x,.int .i64 y,.int .i64 s,.int .i64 e]] []
  (.tup [.agg [.lst (.int .i64) (bP ⟨b,f⟩ ⟨x,y,s,e⟩).b,.int .i64 (bP ⟨b,f⟩ ⟨x,y,s,e⟩).f],.bool (cM ⟨b,f⟩ ⟨x,y,s,e⟩)]) []:=by
 have hlen:b.length=6:=hok.1
 have hf:0≤f∧f≤100000:=hok.2.2
 refine bg bf Try.func42 rfl rfl true 0 4 rfl rfl rfl rfl fun K hK hb1 hb2=>?_;simp only[bD,enc,Nat.reduceAdd]
 cases hv:bZ ⟨x,y,s,e⟩
 ·(repeat' first|refine st ?_|refine sa fun xe hxe=>?_|refine sb (fun hq=>?_) fun hq=>?_|refine cr (jj _ _ _ _) ?_|((with_reducible refine kS ?_);(conv=>whnf);(first|with_reducible refine dE (wd _ _ (by omega)) ?_);conv=>whnf)|exact aC)
  exact⟨by simp[bP,cM,hv],rfl⟩
 ·obtain⟨hx,hy,hxy,hs,he⟩:=dQ hv
  obtain⟨hx1,hx2⟩:=eq hok hx.1 hx.2
  obtain⟨hy1,hy2⟩:=eq hok hy.1 hy.2
  have hyset:(b.set x.toNat (b.getD x.toNat 0-s-e))[y.toNat]?=some (b.getD y.toNat 0):=by rw[List.getElem?_set_ne (by omega)];exact hy1
  generalize hbx:b.getD x.toNat 0=bx at *
  generalize hby:b.getD y.toNat 0=bv at *
  (repeat' first|refine st ?_|refine sa fun xe hxe=>?_|refine sb (fun hq=>?_) fun hq=>?_|refine cr (jj _ _ _ _) ?_|((with_reducible refine kS ?_);(conv=>whnf);(first|with_reducible refine dE (wd _ _ (by omega)) ?_);conv=>whnf)|exact aC)
  all_goals (refine⟨?_,rfl⟩;simp_all[bP,cM])
end Go.Proofs.Ytbmnihglaokhmaa.Am
namespace Go.Proofs.Ytbmnihglaokhmaa.Am
open Go
set_option linter.unusedSectionVars false
variable [PhC Try.prog]
attribute [local irreducible] Mk ct Ari fF nD j7 cO dR jv gP At bt
set_option maxRecDepth 10000
theorem ut {b:List Int}{f m:Int}(hm:0≤m)(h:gd ⟨b,f⟩ m=true):mV ⟨b,f⟩∧f≤5994-9*m:=by
 simp[gd,kV,mm] at h
 obtain⟨⟨h1,h2,h3⟩,h4⟩:=h
 exact⟨⟨h2,h1,h3.1,by simp only;omega⟩,h4⟩
theorem Bt {l:Led}{t:Txn}(h:mV l)(hf:l.f+9≤100000):mV (bP l t)∧l.f≤(bP l t).f∧(bP l t).f≤l.f+9:=by
 unfold bP
 split
 ·rename_i hs
  simp only[cM,b6,iZ,decide_eq_false_iff_not] at hs
  obtain⟨hv,h1,h2⟩:=hs
  obtain⟨hx,hy,hxy,hs,he⟩:=dQ hv
  obtain⟨hx1,hx2⟩:=eq (b:=l.b) (f:=l.f) h hx.1 hx.2
  obtain⟨hy1,hy2⟩:=eq (b:=l.b) (f:=l.f) h hy.1 hy.2
  obtain⟨g1,g2,g3,g4⟩:=h
  refine⟨⟨by simpa using g1,fun z hz=>?_,by simp only;omega,by simp only;omega⟩,by simp only;omega,by simp only;omega⟩
  simp only at hz
  rcases List.mem_or_eq_of_mem_set hz with hz|rfl
  ·rcases List.mem_or_eq_of_mem_set hz with hz|rfl
   ·exact g2 z hz
   ·omega
  ·omega
 ·exact⟨h,Int.le_refl _,by omega⟩
def bR (l:Led):List Txn→Led
 |[]=>l
 |t::ts=>bR (bP l t) ts
def dx (l:Led):List Txn→List Bool
 |[]=>[]
 |t::ts=>cM l t::dx (bP l t) ts
theorem m4:∀(l:Led) (ts:List Txn) (t:Txn),bR l (ts++[t])=bP (bR l ts) t
 |l,[],t=>rfl
 |l,x::ts,t=>by simp only[fR,bR,m4]
theorem m5:∀(l:Led) (ts:List Txn) (t:Txn),dx l (ts++[t])=dx l ts++[cM (bR l ts) t]
 |l,[],t=>rfl
 |l,x::ts,t=>by simp only[fR,dx,bR,m5]
theorem fP:∀(l:Led) (ts:List Txn),(dx l ts).length=ts.length
 |l,[]=>rfl
 |l,x::ts=>by simp[dx,fP]
theorem nZ:∀(l:Led) (ts:List Txn),mV l→l.f+9*ts.length≤100000→mV (bR l ts)∧(bR l ts).f≤l.f+9*ts.length
 |l,[],h,_=>⟨h,by simp[bR]⟩
 |l,t::ts,h,hf=>by
  simp only[dZ] at hf⊢
  obtain⟨h1,h2,h3⟩:=Bt (t:=t) h (by omega)
  obtain⟨h4,h5⟩:=nZ (bP l t) ts h1 (by omega)
  exact⟨h4,by simp only[bR];omega⟩
def m6 (l:Led)(ts:List Txn):Bool:=gd l 16 && decide (ts.length≤16)
theorem Hj {b:List Int}{f:Int}{ts:List Txn}(h:m6 ⟨b,f⟩ ts=true):gd ⟨b,f⟩ 16=true∧ts.length≤16∧mV ⟨b,f⟩∧f+9*ts.length≤100000:=by
 simp only[m6,b6,decide_eq_true_eq] at h
 obtain⟨h1,h2⟩:=ut (by omega) h.1
 exact⟨h.1,h.2,h1,by omega⟩
end Go.Proofs.Ytbmnihglaokhmaa.Am
namespace Go.Proofs.Ytbmnihglaokhmaa.Am
open Go
set_option linter.unusedSectionVars false
variable [PhC Try.prog]
def dT (t u:Txn):Bool:=t.a==u.a||(t.a==u.b||(t.b==u.a||t.b==u.b))
theorem rO {t u:Txn}(h:dT t u=false):t.a≠u.a∧t.a≠u.b∧t.b≠u.a∧t.b≠u.b:=by
 simpa[dT] using h
theorem mF {t u:Txn}(h:dT t u=false):dT u t=false:=by
 obtain⟨h1,h2,h3,h4⟩:=rO h
 simp[dT,cq h1,cq h2,cq h3,cq h4]
theorem i9 {x y:Int}(hx:0≤x)(hy:0≤y)(h:x≠y):x.toNat≠y.toNat:=by omega
theorem aY {l:List Int}{i j:Nat}{v d:Int}(h:i≠j):(l.set i v).getD j d=l.getD j d:=by simp[aX,List.getElem?_set_ne h]
theorem bO {l:List Int}{i:Nat}{v d:Int}(h:i<l.length):(l.set i v).getD i d=v:=by simp[aX,List.getElem?_set_self h]
theorem j1 {l:Led}{t:Txn}{a:Nat}(ha:t.a.toNat≠a)(hb:t.b.toNat≠a):(bP l t).b.getD a 0=l.b.getD a 0:=by
 unfold bP
 split
 ·simp only;rw[aY hb,aY ha]
 ·rfl
theorem na {l:Led}{t:Txn}:(bP l t).b.length=l.b.length:=by
 unfold bP;split<;>simp
theorem ic {l:Led}{t u:Txn}(ht:bZ t=true)(hu:bZ u=true)(h:dT t u=false):cM (bP l t) u=cM l u:=by
 obtain⟨h1,h2,h3,h4⟩:=rO h
 obtain⟨t1,t2,-⟩:=dQ (x:=t.a) (y:=t.b) (s:=t.s) (e:=t.e) ht
 obtain⟨u1,u2,-⟩:=dQ (x:=u.a) (y:=u.b) (s:=u.s) (e:=u.e) hu
 unfold cM
 rw[j1 (i9 t1.1 u1.1 h1) (i9 t2.1 u1.1 h3),j1 (i9 t1.1 u2.1 h2) (i9 t2.1 u2.1 h4)]
theorem zM {l:Led}{t u:Txn}(ht:bZ t=true)(hu:bZ u=true)(h:dT t u=false):bP (bP l t) u=bP (bP l u) t:=by
 have e1:=ic (l:=l) ht hu h
 have e2:=ic (l:=l) hu ht (mF h)
 obtain⟨h1,h2,h3,h4⟩:=rO h
 obtain⟨t1,t2,-⟩:=dQ (x:=t.a) (y:=t.b) (s:=t.s) (e:=t.e) ht
 obtain⟨u1,u2,-⟩:=dQ (x:=u.a) (y:=u.b) (s:=u.s) (e:=u.e) hu
 have n1:=i9 t1.1 u1.1 h1
 have n2:=i9 t1.1 u2.1 h2
 have n3:=i9 t2.1 u1.1 h3
 have n4:=i9 t2.1 u2.1 h4
 have key:∀(m:Led) (x:Txn),bP m x=if cM m x then⟨(m.b.set x.a.toNat (m.b.getD x.a.toNat 0-x.s-x.e)).set x.b.toNat (m.b.getD x.b.toNat 0+x.s),m.f+x.e⟩ else m:=fun m x=>rfl
 rw[key (bP l t) u,e1,key (bP l u) t,e2,key l t,key l u]
 cases cM l t<;>cases cM l u<;>simp only[if_true,if_false,eZ]
 rw[Led.mk.injEq]
 refine⟨?_,by omega⟩
 rw[aY n3,aY n1,aY n4,aY n2,aY (cq n2),aY (cq n1),aY (cq n4),aY (cq n3)]
 apply pZ
 intro i
 simp only[List.getElem?_set,List.length_set]
 by_cases c1:u.b.toNat=i<;>by_cases c2:u.a.toNat=i<;>by_cases c3:t.b.toNat=i<;>by_cases c4:t.a.toNat=i<;>simp only[c1,c2,c3,c4,if_true,if_false]<;>first|rfl|(exfalso;omega)|skip
def dV (ts:List Txn)(s:Led×List Bool)(i:Nat):Led×List Bool:=match ts[i]? with|some t=>(bP s.1 t,s.2.set i (cM s.1 t))|none=>s
def df (ts:List Txn)(s:Led×List Bool)(σ:List Nat):Led×List Bool:=σ.foldl (dV ts) s
theorem iS (ts:List Txn)(s:Led×List Bool)(σ τ:List Nat):df ts s (σ++τ)=df ts (df ts s σ) τ:=List.foldl_append ..
def confI (ts:List Txn)(i j:Nat):Bool:=match ts[i]?,ts[j]? with|some t,some u=>dT t u|_,_=>false
theorem wc {ts:List Txn}{i j:Nat}(h:confI ts i j=false):confI ts j i=false:=by
 unfold confI at h⊢
 cases hi:ts[i]? with
 |none=>cases ts[j]?<;>rfl
 |some t=>cases hj:ts[j]? with
  |none=>rfl
  |some u=>rw[hi,hj] at h;exact mF h
theorem Gq {ts:List Txn}(hv:∀t∈ts,bZ t=true){s:Led×List Bool}{i j:Nat}(hij:i≠j)(h:confI ts i j=false):dV ts (dV ts s i) j=dV ts (dV ts s j) i:=by
 unfold dV confI at *
 cases hi:ts[i]? with
 |none=>rfl
 |some t=>
  cases hj:ts[j]? with
  |none=>simp
  |some u=>
   rw[hi,hj] at h
   have ht:=hv t (dm hi)
   have hu:=hv u (dm hj)
   simp only
   rw[zM ht hu h,ic ht hu h,ic hu ht (mF h),List.set_comm _ _ hij]
theorem B9 {ts:List Txn}(hv:∀t∈ts,bZ t=true){i:Nat}:∀{β:List Nat} {s:Led×List Bool},(∀j∈β,i≠j∧confI ts i j=false)→df ts (dV ts s i) β=dV ts (df ts s β) i
 |[],s,_=>rfl
 |j::β,s,h=>by
  obtain⟨h1,h2⟩:=h j (bh ..)
  show df ts (dV ts (dV ts s i) j) β=_
  rw[Gq hv h1 h2,B9 hv fun k hk=>h k (bl _ hk)]
  rfl
theorem pE {ts:List Txn}(hv:∀t∈ts,bZ t=true):∀(n:Nat) (σ:List Nat) (s:Led×List Bool),σ.Nodup→(∀i,i∈σ↔i<n)→σ.Pairwise (fun i j=>confI ts i j=true→i<j)→df ts s σ=df ts s (List.range n)
 |0,σ,s,_,hm,_=>by
  cases σ with
  |nil=>rfl
  |cons i σ=>exact absurd ((hm i).1 (bh ..)) (by omega)
 |n+1,σ,s,hn,hm,hp=>by
  obtain⟨α,β,rfl⟩:=List.append_of_mem ((hm n).2 (by omega))
  rw[List.nodup_append] at hn
  obtain⟨n1,n2,n3⟩:=hn
  rw[List.nodup_cons] at n2
  have hb:∀j∈β,n≠j∧confI ts n j=false:=by
   intro j hj
   have hne:n≠j:=fun e=>n2.1 (e▸hj)
   refine⟨hne,?_⟩
   have hlt:=(hm j).1 (dA _ (bl _ hj))
   rw[List.pairwise_append] at hp
   have:=(List.pairwise_cons.1 hp.2.1).1 j hj
   cases hc:confI ts n j with
   |false=>rfl
   |true=>have:=this hc;omega
  have e1:df ts s (α++n::β)=dV ts (df ts s (α++β)) n:=by
   rw[iS,iS]
   show df ts (dV ts (df ts s α) n) β=_
   rw[B9 hv hb]
  rw[e1,pE hv n (α++β) s ?_ ?_ ?_,gO,iS]
  ·rfl
  ·rw[List.nodup_append]
   exact⟨n1,n2.2,fun a ha b hb=>n3 a ha b (bl _ hb)⟩
  ·intro i
   rw[cm]
   have:=hm i
   rw[cm,a9] at this
   constructor
   ·intro hi
    have h1:i<n+1:=this.1 (hi.imp id .inr)
    have h2:i≠n:=by
     rintro rfl
     rcases hi with hi|hi
     ·exact n3 i hi i (bh ..) rfl
     ·exact n2.1 hi
    omega
   ·intro hi
    rcases this.2 (by omega) with h|h|h
    ·exact .inl h
    ·omega
    ·exact .inr h
  ·rw[List.pairwise_append] at hp⊢
   exact⟨hp.1,(List.pairwise_cons.1 hp.2.1).2,fun a ha b hb=>hp.2.2 a ha b (bl _ hb)⟩
theorem jg (ts:List Txn):∀(σ:List Nat) (s:Led×List Bool),(df ts s σ).2.length=s.2.length
 |[],s=>rfl
 |i::σ,s=>by
  show (df ts (dV ts s i) σ).2.length=_
  rw[jg ts σ]
  unfold dV
  split<;>simp
theorem pD (ts:List Txn)(l:Led)(o:List Bool)(ho:o.length=ts.length):∀k,k≤ts.length→df ts (l,o) (List.range k)=(bR l (ts.take k),dx l (ts.take k)++o.drop k)
 |0,_=>by simp[df,bR,dx]
 |k+1,hk=>by
  have ht:ts.take (k+1)=ts.take k++[ts[k]]:=pW (by omega)
  rw[gO,iS,pD ts l o ho k (by omega),ht,m4,m5]
  have hd:o.drop k=o[k]::o.drop (k+1):=nB (by omega)
  have hl:(dx l (ts.take k)).length=k:=by rw[fP,nz];omega
  simp only[df,List.foldl_cons,List.foldl_nil,dV,a6 (show k<ts.length by omega)]
  rw[List.set_append_right _ _ (by omega),hl,hd,Nat.sub_self,List.set_cons_zero]
  simp
theorem pC (ts:List Txn):∀(σ:List Nat) (l:Led) (o:List Bool),(∀i∈σ,i<ts.length)→(df ts (l,o) σ).1=bR l (σ.map fun i=>ts.getD i ⟨0,0,0,0⟩)
 |[],l,o,_=>rfl
 |i::σ,l,o,h=>by
  have hi:=h i (bh ..)
  have hg:ts[i]?=some (ts.getD i ⟨0,0,0,0⟩):=by rw[aX,a6 hi];rfl
  show (df ts (dV ts (l,o) i) σ).1=_
  simp only[dV,hg,bI,bR]
  exact pC ts σ _ _ fun j hj=>h j (bl _ hj)
structure LanesOK (ts:List Txn)(lanes:List (List Nat)):Prop where
 up:∀L∈lanes,L.Pairwise (· < ·)
 apart:lanes.Pairwise fun L M=>∀x∈L,∀y∈M,confI ts x y=false
 nodup:lanes.flatten.Nodup
 mem:∀i,i∈lanes.flatten↔i<ts.length
theorem LanesOK.run {ts:List Txn}(hv:∀t∈ts,bZ t=true){lanes:List (List Nat)}(h:LanesOK ts lanes)(s:Led×List Bool):df ts s lanes.flatten=df ts s (List.range ts.length):=by
 refine pE hv _ _ s h.nodup h.mem ?_
 rw[List.pairwise_flatten]
 exact⟨fun L hL=>(h.up L hL).imp (fun {i j} (hlt:i<j) (_:confI ts i j=true)=>hlt),h.apart.imp fun hx x hxL y hyM hc=>by rw[hx x hxL y hyM] at hc;cases hc⟩
end Go.Proofs.Ytbmnihglaokhmaa.Am
namespace Go.Proofs.Ytbmnihglaokhmaa.Am
open Go
set_option linter.unusedSectionVars false
variable [PhC Try.prog]
def fV (lab:List Int)(n f:Nat):List Nat:=(List.range n).filter fun i=>lab.getD i 0==(f:Int)
def cK (lab:List Int)(n:Nat):Nat→List (List Nat)
 |0=>[]
 |f+1=>cK lab n f++(if fV lab n f=[] then[] else[fV lab n f])
structure LabOK (ts:List Txn)(lab:List Int):Prop where
 rng:∀i,i<ts.length→0≤lab.getD i 0∧lab.getD i 0<ts.length
 conf:∀i j,i<ts.length→j<ts.length→confI ts i j=true→lab.getD i 0=lab.getD j 0
theorem oR {lab:List Int}{n f i:Nat}:i∈fV lab n f↔i<n∧lab.getD i 0=(f:Int):=by
 simp[fV]
theorem kU {lab:List Int}{n:Nat}:∀{k:Nat} {L:List Nat},L∈cK lab n k→∃f,f<k∧L=fV lab n f∧L≠[]
 |0,L,h=>by cases h
 |k+1,L,h=>by
  simp only[cK,cm] at h
  rcases h with h|h
  ·obtain⟨f,h1,h2⟩:=kU h;exact⟨f,by omega,h2⟩
  ·split at h
   ·cases h
   ·rename_i hne
    rw[bd] at h
    exact⟨k,by omega,h,by rw[h];exact hne⟩
theorem jM {lab:List Int}{n i:Nat}:∀{k:Nat},i∈(cK lab n k).flatten↔i<n∧0≤lab.getD i 0∧lab.getD i 0<(k:Int)
 |0=>by
  simp only[cK,List.flatten_nil,d6,false_iff]
  rintro⟨h1,h2,h3⟩;omega
 |k+1=>by
  simp only[cK,List.flatten_append,cm,jM (k:=k)]
  have e:i∈(if fV lab n k=[] then([]:List (List Nat)) else[fV lab n k]).flatten↔i∈fV lab n k:=by
   split
   ·rename_i h;simp[h]
   ·simp
  rw[e,oR]
  constructor
  ·rintro(⟨h1,h2,h3⟩|⟨h1,h2⟩)
   ·exact⟨h1,h2,by omega⟩
   ·exact⟨h1,by omega,by omega⟩
  ·rintro⟨h1,h2,h3⟩
   by_cases h:lab.getD i 0=(k:Int)
   ·exact .inr ⟨h1,h⟩
   ·exact .inl ⟨h1,h2,by omega⟩
theorem xQ (lab:List Int)(n f:Nat):(fV lab n f).Pairwise (· < ·):=List.Pairwise.filter _ List.pairwise_lt_range
theorem lB {lab:List Int}{n:Nat}:∀k,(cK lab n k).flatten.Nodup
 |0=>by simp[cK]
 |k+1=>by
  simp only[cK,List.flatten_append,List.nodup_append]
  refine⟨lB k,?_,fun a ha b hb he=>?_⟩
  ·split
   ·simp
   ·simp only[List.flatten_cons,List.flatten_nil,il]
    exact(xQ lab n k).imp fun h=>Nat.ne_of_lt h
  ·have h1:=jM.1 ha
   have h2:b∈fV lab n k:=by
    split at hb
    ·cases hb
    ·simpa using hb
   rw[oR] at h2
   rw[he] at h1
   omega
theorem lA {ts:List Txn}{lab:List Int}(h:LabOK ts lab):∀k,(cK lab ts.length k).Pairwise fun L M=>∀x∈L,∀y∈M,confI ts x y=false
 |0=>by simp[cK]
 |k+1=>by
  simp only[cK,List.pairwise_append]
  refine⟨lA h k,?_,fun L hL M hM x hx y hy=>?_⟩
  ·split<;>simp
  ·obtain⟨f,hf,rfl,_⟩:=kU hL
   have hM':y∈fV lab ts.length k:=by
    split at hM
    ·cases hM
    ·rw[bd] at hM;exact hM▸hy
   rw[oR] at hx hM'
   cases hc:confI ts x y with
   |false=>rfl
   |true=>have:=h.conf x y hx.1 hM'.1 hc;omega
theorem pe {ts:List Txn}{lab:List Int}(h:LabOK ts lab):LanesOK ts (cK lab ts.length ts.length) where
 up:=fun L hL=>by obtain⟨f,_,rfl,_⟩:=kU hL;exact xQ ..
 apart:=lA h _
 nodup:=lB _
 mem:=fun i=>by
  rw[jM]
  exact⟨fun h=>h.1,fun hi=>⟨hi,h.rng i hi⟩⟩
def wJ (lab:List Int)(i k:Nat):List Int:=(lab.set i (min (lab.getD i 0) (lab.getD k 0))).set k (min (lab.getD i 0) (lab.getD k 0))
def dX (ts:List Txn)(i:Nat)(lab:List Int)(k:Nat):List Int:=if confI ts i k=true then wJ lab i k else lab
def rowS (ts:List Txn)(lab:List Int)(i:Nat):List Int:=(List.range i).foldl (dX ts i) lab
def fW (ts:List Txn)(lab:List Int):List Int:=(List.range ts.length).foldl (rowS ts) lab
def kT (n:Nat):List Int:=(List.range n).map fun i:Nat=>(i:Int)
def cu (ts:List Txn):Nat→List Int
 |0=>kT ts.length
 |r+1=>fW ts (cu ts r)
theorem Bf (lab:List Int)(i k:Nat):(wJ lab i k).length=lab.length:=by simp[wJ]
theorem lI {lab:List Int}{i k:Nat}(hi:i<lab.length)(hk:k<lab.length)(j:Nat):(wJ lab i k).getD j 0=if j=i∨j=k then min (lab.getD i 0) (lab.getD k 0) else lab.getD j 0:=by
 unfold wJ
 by_cases c1:k=j
 ·subst c1
  rw[bO (by simpa using hk),if_pos (.inr rfl)]
 ·rw[aY c1]
  by_cases c2:i=j
  ·subst c2
   rw[bO hi,if_pos (.inl rfl)]
  ·rw[aY c2,if_neg (by omega)]
structure Keeps (ts:List Txn)(lab lab':List Int):Prop where
 len:lab'.length=lab.length
 le:∀j,lab'.getD j 0≤lab.getD j 0
 low:∀j,0≤lab.getD j 0→0≤lab'.getD j 0∨∃i,i<lab.length∧lab.getD i 0<0
 shut:∀m,(∀i k,i<lab.length→k<lab.length→confI ts i k=true→(lab.getD i 0≤m↔lab.getD k 0≤m))→∀j,lab'.getD j 0≤m↔lab.getD j 0≤m
theorem Keeps.refl (ts:List Txn)(lab:List Int):Keeps ts lab lab:=⟨rfl,fun _=>Int.le_refl _,fun _ h=>.inl h,fun _ _ _=>Iff.rfl⟩
theorem Keeps.trans {ts:List Txn}{a b c:List Int}(h:Keeps ts a b)(k:Keeps ts b c):Keeps ts a c:=by
 refine⟨k.len.trans h.len,fun j=>Int.le_trans (k.le j) (h.le j),fun j hj=>?_,fun m hm j=>?_⟩
 ·rcases h.low j hj with h1|h1
  ·rcases k.low j h1 with h2|⟨i,hi,h2⟩
   ·exact .inl h2
   ·rcases Int.lt_or_le (a.getD i 0) 0 with h3|h3
    ·exact .inr ⟨i,by rw[←h.len];exact hi,h3⟩
    ·rcases h.low i h3 with h4|h4
     ·omega
     ·exact .inr h4
  ·exact .inr h1
 ·have hb:=h.shut m hm
  exact(k.shut m (fun i q hi hq hc=>by rw[hb i,hb q];exact hm i q (by rw[←h.len];exact hi) (by rw[←h.len];exact hq) hc) j).trans (hb j)
theorem fM {ts:List Txn}{lab:List Int}{i k:Nat}(hi:i<lab.length)(hk:k<lab.length):Keeps ts lab (dX ts i lab k):=by
 unfold dX
 split
 ·rename_i hc
  refine⟨Bf ..,fun j=>?_,fun j hj=>?_,fun m hm j=>?_⟩
  ·rw[lI hi hk]
   split
   ·rename_i h;rcases h with rfl|rfl<;>omega
   ·exact Int.le_refl _
  ·rw[lI hi hk]
   split
   ·rcases Int.lt_or_le (lab.getD i 0) 0 with h1|h1
    ·exact .inr ⟨i,hi,h1⟩
    ·rcases Int.lt_or_le (lab.getD k 0) 0 with h2|h2
     ·exact .inr ⟨k,hk,h2⟩
     ·exact .inl (by omega)
   ·exact .inl hj
  ·rw[lI hi hk]
   have:=hm i k hi hk hc
   split
   ·rename_i h
    rcases h with rfl|rfl<;>omega
   ·exact Iff.rfl
 ·exact Keeps.refl ..
theorem dk {ts:List Txn}{f:List Int→Nat→List Int}{n:Nat}(hf:∀lab k,k<n→lab.length=ts.length→Keeps ts lab (f lab k)):∀(L:List Nat) (lab:List Int),(∀k∈L,k<n)→lab.length=ts.length→Keeps ts lab (L.foldl f lab)
 |[],lab,_,_=>Keeps.refl ..
 |k::L,lab,hL,hl=>by
  have h1:=hf lab k (hL k (bh ..)) hl
  exact h1.trans (dk hf L _ (fun j hj=>hL j (bl _ hj)) (h1.len.trans hl))
theorem rowS_keeps {ts:List Txn}{lab:List Int}{i:Nat}(hi:i<ts.length)(hl:lab.length=ts.length):Keeps ts lab (rowS ts lab i):=
 dk (n:=i) (fun lab k hk hl=>fM (by omega) (by omega)) _ _ (fun k hk=>by simpa using hk) hl
theorem gj {ts:List Txn}{lab:List Int}(hl:lab.length=ts.length):Keeps ts lab (fW ts lab):=
 dk (n:=ts.length) (fun lab k hk hl=>rowS_keeps hk hl) _ _ (fun k hk=>by simpa using hk) hl
theorem rowS_spreads {ts:List Txn}{lab:List Int}{i k:Nat}(hi:i<ts.length)(hk:k<i)(hl:lab.length=ts.length)(hc:confI ts i k=true){m:Int}(hm:lab.getD i 0≤m∨lab.getD k 0≤m):(rowS ts lab i).getD i 0≤m∧(rowS ts lab i).getD k 0≤m:=by
 unfold rowS
 have e:List.range i=List.range k++k::(List.range i).drop (k+1):=by
  have h1:=(List.take_append_drop k (List.range i)).symm
  have h2:(List.range i).take k=List.range k:=by rw[List.take_range];congr 1;omega
  rw[h2] at h1
  have h3:(List.range i).drop k=k::(List.range i).drop (k+1):=by
   have:=nB (l:=List.range i) (i:=k) (by simpa using hk)
   simpa using this
  rw[h3] at h1
  exact h1
 rw[e,List.foldl_append,List.foldl_cons]
 have k1:=dk (ts:=ts) (n:=i) (f:=dX ts i) (fun lab j hj hl=>fM (by omega) (by omega)) (List.range k) lab (fun j hj=>Nat.lt_trans (gL.1 hj) hk) hl
 generalize (List.range k).foldl (dX ts i) lab=l1 at *
 have hl1:l1.length=ts.length:=k1.len.trans hl
 have k2:Keeps ts (dX ts i l1 k) (((List.range i).drop (k+1)).foldl (dX ts i) (dX ts i l1 k)):=dk (ts:=ts) (n:=i) (fun lab j hj hl=>fM (by omega) (by omega)) _ _ (fun j hj=>by
  have:=List.mem_of_mem_drop hj
  simpa using this) ((fM (by omega) (by omega)).len.trans hl1)
 have g:∀j,j=i∨j=k→(dX ts i l1 k).getD j 0≤m:=by
  intro j hj
  unfold dX
  rw[if_pos hc,lI (by omega) (by omega),if_pos hj]
  have:=k1.le i
  have:=k1.le k
  omega
 exact⟨Int.le_trans (k2.le i) (g i (.inl rfl)),Int.le_trans (k2.le k) (g k (.inr rfl))⟩
theorem pB {ts:List Txn}{lab:List Int}{i k:Nat}(hi:i<ts.length)(hk:k<i)(hl:lab.length=ts.length)(hc:confI ts i k=true){m:Int}(hm:lab.getD i 0≤m∨lab.getD k 0≤m):(fW ts lab).getD i 0≤m∧(fW ts lab).getD k 0≤m:=by
 unfold fW
 have e:List.range ts.length=List.range i++i::(List.range ts.length).drop (i+1):=by
  have h1:=(List.take_append_drop i (List.range ts.length)).symm
  have h2:(List.range ts.length).take i=List.range i:=by rw[List.take_range];congr 1;omega
  rw[h2] at h1
  have h3:(List.range ts.length).drop i=i::(List.range ts.length).drop (i+1):=by
   have:=nB (l:=List.range ts.length) (i:=i) (by simpa using hi)
   simpa using this
  rw[h3] at h1
  exact h1
 rw[e,List.foldl_append,List.foldl_cons]
 have k1:=dk (ts:=ts) (n:=ts.length) (f:=rowS ts) (fun lab j hj hl=>rowS_keeps hj hl) (List.range i) lab (fun j hj=>Nat.lt_trans (gL.1 hj) hi) hl
 generalize (List.range i).foldl (rowS ts) lab=l1 at *
 have hl1:l1.length=ts.length:=k1.len.trans hl
 have k2:Keeps ts (rowS ts l1 i) (((List.range ts.length).drop (i+1)).foldl (rowS ts) (rowS ts l1 i)):=dk (ts:=ts) (n:=ts.length) (fun lab j hj hl=>rowS_keeps hj hl) _ _ (fun j hj=>by
  have:=List.mem_of_mem_drop hj
  simpa using this) ((rowS_keeps hi hl1).len.trans hl1)
 have hm1:l1.getD i 0≤m∨l1.getD k 0≤m:=hm.imp (fun h=>Int.le_trans (k1.le i) h) (fun h=>Int.le_trans (k1.le k) h)
 obtain⟨g1,g2⟩:=rowS_spreads hi hk hl1 hc hm1
 exact⟨Int.le_trans (k2.le i) g1,Int.le_trans (k2.le k) g2⟩
def nE (lab:List Int)(m:Int):Nat:=lab.countP fun x=>decide (x≤m)
def yn (ts:List Txn)(lab:List Int)(m:Int):Prop:=∀i k,i<lab.length→k<lab.length→confI ts i k=true→(lab.getD i 0≤m↔lab.getD k 0≤m)
theorem tx:∀{a b:List Int} {m:Int},b.length=a.length→(∀j,b.getD j 0≤a.getD j 0)→nE a m≤nE b m∧∀j,j<a.length→b.getD j 0≤m→¬a.getD j 0≤m→nE a m<nE b m
 |[],[],m,_,_=>⟨aN _,fun j hj=>by simp at hj⟩
 |[],_::_,m,h,_=>by simp at h
 |_::_,[],m,h,_=>by simp at h
 |x::a,y::b,m,hl,h=>by
  have h0:y≤x:=by simpa using h 0
  obtain⟨h1,h2⟩:=tx (a:=a) (b:=b) (m:=m) (by simpa using hl) fun j=>by simpa using h (j+1)
  simp only[nE,List.countP_cons,decide_eq_true_eq] at *
  refine⟨?_,fun j hj c1 c2=>?_⟩
  ·split<;>split<;>omega
  ·cases j with
   |zero=>
    simp only[List.getD_cons_zero] at c1 c2
    rw[if_neg c2,if_pos c1];omega
   |succ j=>
    have:=h2 j (by simpa using hj) (by simpa using c1) (by simpa using c2)
    split<;>split<;>omega
theorem da (ts:List Txn):∀r,(cu ts r).length=ts.length
 |0=>by simp[cu,kT]
 |r+1=>(gj (da ts r)).len.trans (da ts r)
theorem oB {ts:List Txn}{i k:Nat}(h:confI ts i k=true):confI ts k i=true:=by
 cases hc:confI ts k i with
 |true=>rfl
 |false=>rw[wc hc] at h;cases h
theorem vZ {ts:List Txn}{i k:Nat}(h:confI ts i k=true)(lab:List Int)(m:Int)(hs:∀a b,b<a→a<lab.length→confI ts a b=true→(lab.getD a 0≤m↔lab.getD b 0≤m))(hi:i<lab.length)(hk:k<lab.length):lab.getD i 0≤m↔lab.getD k 0≤m:=by
 rcases Nat.lt_trichotomy i k with hlt|rfl|hlt
 ·exact(hs k i hlt hk (oB h)).symm
 ·exact Iff.rfl
 ·exact hs i k hlt hi h
theorem o6 (ts:List Txn)(m:Int):∀r,yn ts (cu ts r) m∨(∃i,i<ts.length∧(i:Int)≤m)→yn ts (cu ts r) m∨r+1≤nE (cu ts r) m
 |0,h=>by
  rcases h with h|⟨i,hi,him⟩
  ·exact .inl h
  ·right
   have:0<nE (cu ts 0) m:=by
    unfold nE
    rw[List.countP_pos_iff]
    exact⟨(i:Int),aP.2 ⟨i,gL.2 hi,rfl⟩,by simpa using him⟩
   omega
 |r+1,h=>by
  have hl:=da ts r
  have hk:=gj (ts:=ts) hl
  by_cases hs:yn ts (cu ts r) m
  ·left
   intro i k hi hk' hc
   have e:=hk.shut m hs
   show (fW ts (cu ts r)).getD i 0≤m↔(fW ts (cu ts r)).getD k 0≤m
   rw[e i,e k]
   have hl2:(cu ts (r+1)).length=ts.length:=da ts (r+1)
   exact hs i k (by omega) (by omega) hc
  ·-- not shut: someone comes in
   obtain⟨a,b,hba,ha,hc,hne⟩:∃a b,b<a∧a<(cu ts r).length∧confI ts a b=true∧¬((cu ts r).getD a 0≤m↔(cu ts r).getD b 0≤m):=by
    rcases fa (∃a b,b<a∧a<(cu ts r).length∧confI ts a b=true∧¬((cu ts r).getD a 0≤m↔(cu ts r).getD b 0≤m)) with h|h
    ·exact h
    ·exfalso
     refine hs fun i k hi hk hc=>vZ hc _ _ (fun a b hba ha hc=>?_) hi hk
     rcases fa ((cu ts r).getD a 0≤m↔(cu ts r).getD b 0≤m) with h2|h2
     ·exact h2
     ·exact absurd ⟨a,b,hba,ha,hc,h2⟩ h
   have hone:∃i,i<ts.length∧(i:Int)≤m:=by
    rcases h with h|h
    ·-- shut next,but m is below all
     rcases fa (∃i,i<ts.length∧(i:Int)≤m) with h2|h2
     ·exact h2
     ·exfalso
      have hneg:m<0:=by
       rcases Int.lt_or_le m 0 with h3|h3
       ·exact h3
       ·exact absurd ⟨0,by omega,h3⟩ h2
      have hpos:∀r j,j<ts.length→0≤(cu ts r).getD j 0:=by
       intro r
       induction r with
       |zero=>intro j hj;simp[cu,kT,aX,hj]
       |succ r ih=>
        intro j hj
        rcases (gj (ts:=ts) (da ts r)).low j (ih j hj) with h4|⟨i,hi,h4⟩
        ·exact h4
        ·rw[da] at hi
         have:=ih i hi;omega
      have h5:=hpos r a (by omega)
      have h6:=hpos r b (by omega)
      exact hne ⟨fun h=>by omega,fun h=>by omega⟩
    ·exact h
   rcases o6 ts m r (.inr hone) with h1|h1
   ·exact absurd h1 hs
   ·right
    have hor:(cu ts r).getD a 0≤m∨(cu ts r).getD b 0≤m:=by
     rcases fa ((cu ts r).getD a 0≤m) with h2|h2
     ·exact .inl h2
     ·rcases fa ((cu ts r).getD b 0≤m) with h3|h3
      ·exact .inr h3
      ·exact absurd ⟨fun h=>absurd h h2,fun h=>absurd h h3⟩ hne
    obtain⟨g1,g2⟩:=pB (ts:=ts) (by omega) hba hl hc hor
    have hstep:=(tx (a:=cu ts r) (b:=fW ts (cu ts r)) (m:=m) hk.len hk.le).2
    have:nE (cu ts r) m<nE (fW ts (cu ts r)) m:=by
     rcases fa ((cu ts r).getD a 0≤m) with h2|h2
     ·have h3:¬(cu ts r).getD b 0≤m:=fun h=>hne ⟨fun _=>h,fun _=>h2⟩
      exact hstep b (by omega) g2 h3
     ·exact hstep a ha g1 h2
    show r+1+1≤nE (fW ts (cu ts r)) m
    omega
theorem CO (ts:List Txn):LabOK ts (cu ts ts.length):=by
 have hpos:∀r j,j<ts.length→0≤(cu ts r).getD j 0∧(cu ts r).getD j 0≤j:=by
  intro r
  induction r with
  |zero=>intro j hj;simp[cu,kT,aX,hj]
  |succ r ih=>
   intro j hj
   have hk:=gj (ts:=ts) (da ts r)
   refine⟨?_,Int.le_trans (hk.le j) (ih j hj).2⟩
   rcases hk.low j (ih j hj).1 with h4|⟨i,hi,h4⟩
   ·exact h4
   ·rw[da] at hi
    have:=(ih i hi).1;omega
 have hshut:∀m:Int,0≤m→yn ts (cu ts ts.length) m:=by
  intro m hm
  rcases Nat.eq_zero_or_pos ts.length with h0|hp
  ·intro i k hi
   rw[da] at hi;omega
  ·rcases o6 ts m ts.length (.inr ⟨0,hp,hm⟩) with h|h
   ·exact h
   ·exfalso
    have:nE (cu ts ts.length) m≤(cu ts ts.length).length:=List.countP_le_length
    rw[da] at this
    omega
 refine⟨fun i hi=>⟨(hpos _ i hi).1,by have:=(hpos ts.length i hi).2;omega⟩,fun i j hi hj hc=>?_⟩
 have hl:=da ts ts.length
 have h1:=(hshut _ (hpos ts.length i hi).1 i j (by omega) (by omega) hc).1 (Int.le_refl _)
 have h2:=(hshut _ (hpos ts.length j hj).1 i j (by omega) (by omega) hc).2 (Int.le_refl _)
 omega
end Go.Proofs.Ytbmnihglaokhmaa.Am
namespace Go.Proofs.Ytbmnihglaokhmaa.Am
open Go
set_option linter.unusedSectionVars false
variable [PhC Try.prog]
def uU (hi lo:Int)(lab:List Int)(k:Nat):List Int:=if lab.getD k 0=hi then lab.set k lo else lab
def eW (lab:List Int)(hi lo:Int)(m:Nat):List Int:=(List.range m).foldl (uU hi lo) lab
def f7 (ts:List Txn)(i:Nat)(lab:List Int)(j:Nat):List Int:=if lab.getD i 0≠lab.getD j 0∧confI ts i j=true then eW lab (max (lab.getD i 0) (lab.getD j 0)) (min (lab.getD i 0) (lab.getD j 0)) (i+1) else lab
def rowI (ts:List Txn)(lab:List Int)(i:Nat):List Int:=(List.range i).foldl (f7 ts i) (lab.set i (i:Int))
def iM (ts:List Txn)(k:Nat):List Int:=(List.range k).foldl (rowI ts) (List.replicate ts.length 0)
theorem m3 {lab:List Int}{hi lo:Int}(hne:lo≠hi):∀m,m≤lab.length→(eW lab hi lo m).length=lab.length∧∀k,(eW lab hi lo m).getD k 0=if k<m∧lab.getD k 0=hi then lo else lab.getD k 0
 |0,_=>⟨rfl,fun k=>by simp[eW]⟩
 |m+1,hm=>by
  obtain⟨h1,h2⟩:=m3 (lab:=lab) hne m (by omega)
  have e:eW lab hi lo (m+1)=uU hi lo (eW lab hi lo m) m:=by simp[eW,gO,List.foldl_append]
  rw[e]
  have hmm:=h2 m
  rw[if_neg (by omega)] at hmm
  unfold uU
  by_cases c:lab.getD m 0=hi
  ·rw[hmm,if_pos c]
   refine⟨by simpa using h1,fun k=>?_⟩
   by_cases ek:m=k
   ·subst ek
    rw[bO (by omega),if_pos ⟨by omega,c⟩]
   ·rw[aY ek,h2 k]
    by_cases c2:k<m∧lab.getD k 0=hi
    ·rw[if_pos c2,if_pos ⟨by omega,c2.2⟩]
    ·rw[if_neg c2,if_neg (by omega)]
  ·rw[hmm,if_neg c]
   refine⟨h1,fun k=>?_⟩
   rw[h2 k]
   by_cases c2:k<m∧lab.getD k 0=hi
   ·rw[if_pos c2,if_pos ⟨by omega,c2.2⟩]
   ·rw[if_neg c2,if_neg]
    rintro⟨h3,h4⟩
    rcases cY k m with h5|h5
    ·exact c2 ⟨h5,h4⟩
    ·have:k=m:=by omega
     subst this;exact c h4
structure InvI (ts:List Txn)(i j:Nat)(lab:List Int):Prop where
 len:lab.length=ts.length
 rng:∀k,k≤i→0≤lab.getD k 0∧lab.getD k 0≤k
 old:∀a b,a<i→b<i→confI ts a b=true→lab.getD a 0=lab.getD b 0
 new:∀b,b<j→confI ts i b=true→lab.getD i 0=lab.getD b 0
theorem zp {ts:List Txn}{i j:Nat}{lab:List Int}(hi:i<ts.length)(hj:j<i)(h:InvI ts i j lab):InvI ts i (j+1) (f7 ts i lab j):=by
 unfold f7
 split
 ·rename_i hc
  obtain⟨hne,hc⟩:=hc
  have ri:=h.rng i (aN _)
  have rj:=h.rng j (by omega)
  obtain⟨h1,h2⟩:=m3 (lab:=lab) (hi:=max (lab.getD i 0) (lab.getD j 0)) (lo:=min (lab.getD i 0) (lab.getD j 0)) (by omega) (i+1) (by have:=h.len;omega)
  generalize eW lab (max (lab.getD i 0) (lab.getD j 0)) (min (lab.getD i 0) (lab.getD j 0)) (i+1)=lab' at *
  refine⟨h1.trans h.len,fun k hk=>?_,fun a b ha hb hab=>?_,fun b hb hib=>?_⟩
  ·rw[h2]
   have:=h.rng k hk
   split
   ·rename_i c;omega
   ·exact this
  ·rw[h2,h2,h.old a b ha hb hab]
   by_cases c:lab.getD b 0=max (lab.getD i 0) (lab.getD j 0)
   ·rw[if_pos ⟨by omega,c⟩,if_pos ⟨by omega,c⟩]
   ·rw[if_neg (fun h=>c h.2),if_neg (fun h=>c h.2)]
  ·rw[h2,h2]
   have hbi:b<i:=by omega
   rcases cY b j with hlt|hge
   ·have e:=h.new b hlt hib
    rw[←e]
    by_cases c:lab.getD i 0=max (lab.getD i 0) (lab.getD j 0)
    ·rw[if_pos ⟨by omega,c⟩,if_pos ⟨by omega,c⟩]
    ·rw[if_neg (fun h=>c h.2),if_neg (fun h=>c h.2)]
   ·obtain rfl:b=j:=by omega
    by_cases c:lab.getD i 0≤lab.getD b 0
    ·rw[if_neg (by omega),if_pos (by omega)];omega
    ·rw[if_pos (by omega),if_neg (by omega)];omega
 ·rename_i hc
  refine⟨h.len,h.rng,h.old,fun b hb hib=>?_⟩
  rcases cY b j with hlt|hge
  ·exact h.new b hlt hib
  ·obtain rfl:b=j:=by omega
   rcases fa (lab.getD i 0=lab.getD b 0) with h1|h1
   ·exact h1
   ·exact absurd ⟨h1,hib⟩ hc
theorem rowI_inv {ts:List Txn}{i:Nat}{lab:List Int}(hi:i<ts.length)(hl:lab.length=ts.length)(hr:∀k,k<i→0≤lab.getD k 0∧lab.getD k 0≤k)(ho:∀a b,a<i→b<i→confI ts a b=true→lab.getD a 0=lab.getD b 0):∀j,j≤i→InvI ts i j ((List.range j).foldl (f7 ts i) (lab.set i (i:Int)))
 |0,_=>by
  refine⟨by simpa using hl,fun k hk=>?_,fun a b ha hb hab=>?_,fun b hb=>by omega⟩
  ·by_cases e:i=k
   ·subst e;simp only[List.range_zero,List.foldl_nil];rw[bO (by omega)];omega
   ·simp only[List.range_zero,List.foldl_nil];rw[aY e];exact hr k (by omega)
  ·simp only[List.range_zero,List.foldl_nil]
   rw[aY (by omega),aY (by omega)]
   exact ho a b ha hb hab
 |j+1,hj=>by
  rw[gO,List.foldl_append]
  exact zp hi (by omega) (rowI_inv hi hl hr ho j (by omega))
theorem o5 (ts:List Txn):∀i,i≤ts.length→(iM ts i).length=ts.length∧(∀k,k<i→0≤(iM ts i).getD k 0∧(iM ts i).getD k 0≤k)∧∀a b,a<i→b<i→confI ts a b=true→(iM ts i).getD a 0=(iM ts i).getD b 0
 |0,_=>⟨by simp[iM],fun k hk=>by omega,fun a b ha=>by omega⟩
 |i+1,hi=>by
  obtain⟨h1,h2,h3⟩:=o5 ts i (by omega)
  have e:iM ts (i+1)=rowI ts (iM ts i) i:=by simp[iM,gO,List.foldl_append]
  rw[e]
  have:=rowI_inv (by omega) h1 h2 h3 i (aN _)
  refine⟨this.len,fun k hk=>this.rng k (by omega),fun a b ha hb hab=>?_⟩
  rcases Nat.lt_trichotomy a b with hlt|rfl|hlt
  ·rcases cY b i with hb'|hb'
   ·exact this.old a b (by omega) hb' hab
   ·obtain rfl:b=i:=by omega
    exact(this.new a hlt (oB hab)).symm
  ·rfl
  ·rcases cY a i with ha'|ha'
   ·exact this.old a b ha' (by omega) hab
   ·obtain rfl:a=i:=by omega
    exact this.new b hlt hab
theorem CN (ts:List Txn):LabOK ts (iM ts ts.length):=by
 obtain⟨h1,h2,h3⟩:=o5 ts ts.length (aN _)
 exact⟨fun i hi=>⟨(h2 i hi).1,by have:=(h2 i hi).2;omega⟩,fun i j hi hj hc=>h3 i j hi hj hc⟩
def di (ts:List Txn)(L:List Nat):List Txn:=L.map fun i=>ts.getD i ⟨0,0,0,0⟩
def jo (us:List Txn)(a:Nat):Prop:=∃t∈us,t.a.toNat=a∨t.b.toNat=a
def Gw (us:List Txn)(b b':List Int):Prop:=∀a,jo us a→b.getD a 0=b'.getD a 0
theorem uX:∀(us:List Txn) (l:Led),(bR l us).b.length=l.b.length
 |[],_=>rfl
 |t::us,l=>(uX us _).trans na
theorem k9:∀(us:List Txn) (l:Led) {a:Nat},¬jo us a→(bR l us).b.getD a 0=l.b.getD a 0
 |[],_,_,_=>rfl
 |t::us,l,a,h=>by
  show (bR (bP l t) us).b.getD a 0=_
  rw[k9 us _ fun⟨u,hu,hc⟩=>h ⟨u,bl _ hu,hc⟩]
  exact j1 (fun e=>h ⟨t,bh ..,.inl e⟩) fun e=>h ⟨t,bh ..,.inr e⟩
theorem rm {vs:List Txn}:∀(us:List Txn),(∀t∈us,t∈vs∧bZ t=true)→∀(l l':Led),l.b.length=6→l'.b.length=6→(∀a,jo vs a→l.b.getD a 0=l'.b.getD a 0)→
  dx l us=dx l' us∧(bR l us).f-l.f=(bR l' us).f-l'.f∧∀a,jo vs a→(bR l us).b.getD a 0=(bR l' us).b.getD a 0
 |[],_,l,l',_,_,ha=>⟨rfl,by simp[bR],ha⟩
 |t::us,h,l,l',hl,hl',ha=>by
  obtain⟨ht,hv⟩:=h t (bh ..)
  obtain⟨t1,t2,t3,-⟩:=dQ (x:=t.a) (y:=t.b) (s:=t.s) (e:=t.e) hv
  have ea:=ha t.a.toNat ⟨t,ht,.inl rfl⟩
  have eb:=ha t.b.toNat ⟨t,ht,.inr rfl⟩
  have ev:cM l t=cM l' t:=by unfold cM;rw[ea,eb]
  have hne:=i9 t1.1 t2.1 t3
  have es:(bP l t).f-l.f=(bP l' t).f-l'.f∧∀a,jo vs a→(bP l t).b.getD a 0=(bP l' t).b.getD a 0:=by
   unfold bP
   rw[←ev]
   cases cM l t with
   |false=>exact⟨by simp,ha⟩
   |true=>
    refine⟨by simp only[if_true];omega,fun a hta=>?_⟩
    simp only[if_true]
    by_cases c1:t.b.toNat=a
    ·subst c1
     rw[bO (by simp;omega),bO (by simp;omega),eb]
    ·rw[aY c1,aY c1]
     by_cases c2:t.a.toNat=a
     ·subst c2
      rw[bO (by omega),bO (by omega),ea]
     ·rw[aY c2,aY c2]
      exact ha a hta
  obtain⟨g1,g2,g3⟩:=rm us (fun u hu=>h u (bl _ hu)) (bP l t) (bP l' t) (na.trans hl) (na.trans hl') es.2
  refine⟨by simp only[dx,ev,g1],?_,g3⟩
  show (bR (bP l t) us).f-l.f=(bR (bP l' t) us).f-l'.f
  omega

end Go.Proofs.Ytbmnihglaokhmaa.Am
