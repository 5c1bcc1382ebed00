/- sync.WaitGroup's Wait, beside others. A region whose last operation is done by hand; a store of one's own cells that others may come to read; from the machine with types back to steps. Lanes: the closure that a goroutine runs. For a phase: which temporaries a region leaves alone; what awaits may be said more widely; the state behind the join. Lanes: the phase: all lanes' goroutines are started, then awaited. Lanes: the starter's script. (PhC: named) Lanes: the starter's script, walked. (PhC: named) Lanes: the phase as a whole. (PhC: named) Lanes: behind the join. (PhC: named) Lanes: the phase, -/
import Derived.Test.YtbmnihglaokhmaaLN8
set_option linter.unusedSimpArgs false
set_option linter.unusedVariables false
set_option maxHeartbeats 1000000
namespace Go.Proofs.Ytbmnihglaokhmaa.Am
open Go Go.RowKit Go.Conc Go.ConcN Go.Conc.Lib Go.ConcR.Gen Go.ConcN.Gen
open Go.ConcR (KK wgBlock WgAt stA smA rd wr mk DC0)
def EndG (P:Program)(gR g:Goroutine):Prop:=∀main w,Goes P main (fun _ _=>True) DC0 (fun g _=>g=gR) 40 g w
theorem bF (_:True)(_:True):True:=trivial
theorem EndG.goes {P:Program}[PhC P]{main:Bool}{gR g:Goroutine}{Stop:Gh→Goroutine→World→Prop}{γ:Gh}{n:Nat}(h:EndG P gR g){w:World}(hG:GoesG P main Stop n γ gR w):GoesG P main Stop (n+40) γ g w:=by
 have key:∀(m:Nat) (g:Goroutine) (w:World),GoesG P main Stop n γ gR w→Goes P main (fun _ _=>True) DC0 (fun g _=>g=gR) m g w→GoesG P main Stop (n+m) γ g w:=by
  intro m
  induction m with
  |zero=>intro g w hG h;rw[h w trivial];exact hG
  |succ m ih=>
   intro g w hG h
   rcases h with h|⟨h1,h2⟩
   ·rw[h w trivial];exact hG.mono (by omega)
   ·refine GoesG.step (n:=n+m) h1 fun w1 hr=>?_
    obtain⟨g',w',es,e1,⟨rfl,rfl⟩,e3⟩:=goes_elim (h2 w1 trivial)
    rw[e1]
    refine⟨Gua.idle _ _,?_⟩
    rw[Gh.grow_same γ rfl]
    exact ih g' _ (hG.rely hr) e3
 exact key 40 g w hG (h main w)
def AnchG (L:WgLink)(Wg:Nat)(c:Frame)(cs:List Frame)(_:Gh)(g:Goroutine)(_:World):Prop:=
 ∃T:Array Value,g=G ((base L.wait).at ⟨T,[]⟩ [.code (L7 L),.inLoop (L7 L),.inBlock 0]) (c::cs)∧T.size=84∧T[0]?=some (.pointer (some ⟨Wg,0,none⟩))
theorem AnchG.running {L:WgLink}{Wg:Nat}{c:Frame}{cs:List Frame}{γ:Gh}{g:Goroutine}{w:World}(h:AnchG L Wg c cs γ g w):g.status= .running:=by
 obtain⟨T,rfl,_⟩:=h;rfl
section
variable {L:WgLink} {P:Program} {Wg:Nat} {γ:Gh} {b₀:Frame} {a₀:Act} {ops₀:Array Oper} {i₀:Nat} {rest₀:List Nat} {k₀:List Item} {cs:List Frame}
set_option maxRecDepth 100000 in
set_option maxHeartbeats 8000000 in
theorem xl (H:WgLib P L)(g:Goroutine)(w:World)(hF:WgLive L.tWg Wg w)(h:AnchG L Wg (b₀.at a₀ (.inRegion ops₀ (i₀::rest₀)::k₀)) cs γ g w):
  ∃m,Goes P true (RG L.tWg Wg γ) (DS Wg) (SW1 P L.tWg Wg (EndG P (G (b₀.at (a₀.put ((ops₀[i₀]?).bind (·.dst)) (.tuple #[])) (.inRegion ops₀ rest₀::k₀)) cs)) (AnchG L Wg (b₀.at a₀ (.inRegion ops₀ (i₀::rest₀)::k₀)) cs) γ) m g w:=by
 lib_facts
 have hRr:∀w,RG L.tWg Wg γ w w:=fun w=>RG.refl w
 obtain⟨T,rfl,hT84,t0⟩:=h
 obtain⟨v0,v1,v2,v3,v4,v5,v6,v7,v8,v9,v10,v11,v12,v13,v14,v15,v16,v17,v18,v19,v20,v21,v22,v23,v24,v25,v26,v27,v28,v29,v30,v31,v32,v33,v34,v35,v36,v37,v38,v39,v40,v41,v42,v43,v44,v45,v46,v47,v48,v49,v50,v51,v52,v53,v54,v55,v56,v57,v58,v59,v60,v61,v62,v63,v64,v65,v66,v67,v68,v69,v70,v71,v72,v73,v74,v75,v76,v77,v78,v79,v80,v81,v82,v83,rfl⟩:=array84 T hT84
 clear hT84
 simp only[List.getElem?_toArray,fi,aK] at t0
 subst t0
 refine⟨40,cI ?_⟩
 simp only[L7,body_wait,waitFn,e9]
 u_c stepG_block aa hF
 u_c stepG_seq aa hF
 u_reg aa hF
 u_op aa hF
 u_op aa hF
 u_op aa hF
 u_call H.f_uLoad (nm_uLoad L) uLoadFn aa hF
 u_c stepG_seq aa hF
 u_reg aa hF
 u_op aa hF
 u_c stepG_region_end aa hF
 u_c stepG_seq aa hF
 u_reg aa hF
 u_op aa hF
 u_op aa hF
 u_op aa hF
 refine Goes.stop (fun w₁ h₁=>?_)
 replace hF:=aa hF h₁
 clear h₁
 refine⟨rfl,fun v hv hw=>?_⟩
 rcases Nat.eq_zero_or_pos v with rfl|hvp
 ·replace hw:WgAt L.tWg Wg w₁ 0 0:=by simpa using hw
  refine⟨_,stepG_load_atomic (v:=0) rfl rfl (by k_ne) rfl H.f_loadU64 (x_loadU64_n L) (x_loadU64_b L) (x_loadU64_x L) .u64 (x_loadU64_f L) rfl hw.cellSt,fun _=>⟨70,cI ?_⟩,fun h=>absurd rfl h⟩
  clear hw
  walk_nrm
  u_op aa hF
  u_c stepG_region_end aa hF
  u_c stepG_ret' aa hF
  u_leave1 H.f_uLoad aa hF
  u_op aa hF
  u_c stepG_region_end aa hF
  u_c stepG_seq aa hF
  u_reg aa hF
  u_op aa hF
  u_op aa hF
  u_op aa hF
  u_op aa hF
  u_c stepG_region_end aa hF
  u_c stepG_seq aa hF
  u_reg aa hF
  u_op aa hF
  u_op aa hF
  u_op aa hF
  u_op aa hF
  u_c stepG_region_end aa hF
  u_c stepG_seq aa hF
  u_c stepG_seq aa hF
  u_reg aa hF
  u_op aa hF
  u_op aa hF
  u_c stepG_region_end aa hF
  u_cond true aa hF
  u_c stepG_seq aa hF
  u_cond true aa hF
  u_c stepG_seq aa hF
  u_reg aa hF
  refine Goes.stop (fun w₅ h₅=>?_)
  replace hF:=aa hF h₅
  clear h₅
  refine⟨rfl,_,stepG_mark0 .enable (by simp) rfl rfl (by k_ne) rfl H.f_enable (x_enable_n L) (x_enable_b L) (x_enable_x L) (x_enable_f L),30,cI ?_⟩
  walk_nrm
  u_c stepG_region_end aa hF
  u_reg aa hF
  u_op aa hF
  u_conv H.underlying_tWgP H.room_tWg (WgLive.cell0 hF).choose_spec aa hF
  refine Goes.stop (fun w₆ h₆=>?_)
  clear h₆ hF
  refine⟨rfl,_,stepG_markAt .acquire (by simp) rfl rfl (by k_ne) rfl H.f_acquire (x_acquire_n L) (x_acquire_b L) (x_acquire_x L) (x_acquire_f L) (by simp[Act.eval,stA]),by rfl,fun main w=>?_⟩
  have hU:=aC
  walk_nrm
  u_c stepG_region_end bF hU
  u_c stepG_seq bF hU
  u_c stepG_seq bF hU
  u_reg bF hU
  u_op bF hU
  u_op bF hU
  u_op bF hU
  u_op bF hU
  u_op bF hU
  u_op bF hU
  u_op bF hU
  u_op bF hU
  u_skip bF hU
  u_skip bF hU
  u_op bF hU
  u_c stepG_region_end bF hU
  u_cond false bF hU
  u_c stepG_skip bF hU
  u_c stepG_ret' bF hU
  u_leave0 H.f_wait bF hU
  exact Goes.stop fun _ _=>rfl
 ·obtain⟨S,hS⟩:∃S:Int,(v:Int)*KK=S:=⟨_,rfl⟩
  have a1:S/4294967296=(v:Int):=by rw[←hS];simp only[KK];omega
  have b1:bits .and .u64 S 2147483648=0:=by rw[←hS];have:=st_flag v 0 (by omega) (by omega);simpa[KK] using this
  have b2:bits .and .u64 S 2147483647=0:=by rw[←hS];have:=st_waiters v 0 (by omega) (by omega);simpa[KK] using this
  have c1:IntKind.i32.wrap (v:Int)=(v:Int):=by rw[IntKind.wrap_i32];omega
  have w1:IntKind.u64.wrap (S+1)=S+1:=by rw[IntKind.wrap_u64,←hS];simp only[KK];omega
  have q3:decide ((v:Int)<0)=false:=decide_eq_false (by omega)
  have q4:decide (0<(v:Int))=true:=decide_eq_true (by omega)
  have q5:((v:Int)==0)=false:=by simp;omega
  have q6:decide ((v:Int)=0)=false:=decide_eq_false (by omega)
  rw[hS] at hw
  refine⟨_,stepG_load_atomic (v:=S) rfl rfl (by k_ne) rfl H.f_loadU64 (x_loadU64_n L) (x_loadU64_b L) (x_loadU64_x L) .u64 (x_loadU64_f L) rfl hw.cellSt,fun h0=>absurd h0 (by omega),fun _=>⟨80,cI ?_⟩⟩
  clear hw
  walk_nrm
  u_op aa hF
  u_c stepG_region_end aa hF
  u_c stepG_ret' aa hF
  u_leave1 H.f_uLoad aa hF
  u_op aa hF
  u_c stepG_region_end aa hF
  u_c stepG_seq aa hF
  u_reg aa hF
  u_op aa hF
  u_op aa hF
  u_op aa hF
  u_op aa hF
  u_c stepG_region_end aa hF
  u_c stepG_seq aa hF
  u_reg aa hF
  u_op aa hF
  u_op aa hF
  u_op aa hF
  u_op aa hF
  u_c stepG_region_end aa hF
  u_c stepG_seq aa hF
  u_c stepG_seq aa hF
  u_reg aa hF
  u_op aa hF
  u_op aa hF
  u_c stepG_region_end aa hF
  u_cond false aa hF
  u_c stepG_skip aa hF
  u_c stepG_seq aa hF
  u_reg aa hF
  u_op aa hF
  u_op aa hF
  u_op aa hF
  u_op aa hF
  u_op aa hF
  u_op aa hF
  u_call H.f_uCas (nm_uCas L) uCasFn aa hF
  u_c stepG_seq aa hF
  u_reg aa hF
  u_op aa hF
  u_c stepG_region_end aa hF
  u_c stepG_seq aa hF
  u_reg aa hF
  u_op aa hF
  u_op aa hF
  u_op aa hF
  u_op aa hF
  u_op aa hF
  refine Goes.stop (fun w₂ h₂=>?_)
  replace hF:=aa hF h₂
  clear h₂
  refine⟨rfl,fun v' hv' hw=>⟨fun e=>?_,fun e=>?_⟩⟩
  ·subst e
   rw[hS] at hw⊢
   refine⟨_,(stepG_cas_hit (v:=S) (n:=S+1) rfl rfl (by k_ne) rfl H.f_casU64 (x_casU64_n L) (x_casU64_b L) (x_casU64_x L) .u64 (x_casU64_f L) rfl rfl rfl hw.cellSt (hw.thaw 0)).trans (by rfl),121,xE (m:=60) (n:=60) ?_ hRr⟩
   replace hF:WgLive L.tWg Wg (w₂.setCell (stA Wg) (.int .u64 (S+1))):=⟨_,_,hw.setSt _⟩
   clear hw
   walk_nrm
   u_op aa hF
   u_c stepG_region_end aa hF
   u_c stepG_ret' aa hF
   u_leave1 H.f_uCas aa hF
   u_c stepG_region_end aa hF
   u_cond true aa hF
   u_c stepG_seq aa hF
   u_c stepG_seq aa hF
   u_reg aa hF
   u_op aa hF
   u_op aa hF
   u_op aa hF
   u_op aa hF
   u_c stepG_region_end aa hF
   u_cond true aa hF
   u_reg aa hF
   u_op aa hF
   u_op aa hF
   u_op aa hF
   u_conv H.underlying_tPU32 H.room_tU32 (WgLive.cell1 hF).choose_spec aa hF
   refine Goes.stop (fun w₃ h₃=>?_)
   replace hF:=aa hF h₃
   clear h₃
   refine⟨rfl,_,_,wY (a:=⟨Wg,1,none⟩) rfl,stepG_markAt .write (by simp) rfl rfl (by k_ne) rfl H.f_raceWrite (x_raceWrite_n L) (x_raceWrite_b L) (x_raceWrite_x L) (x_raceWrite_f L) (ad:=⟨Wg,1,none⟩) (by simp[Act.eval]),?_⟩
   walk_nrm
   u_c stepG_region_end aa hF
   u_c stepG_seq aa hF
   u_reg aa hF
   u_op aa hF
   u_c stepG_region_end aa hF
   u_c stepG_seq aa hF
   u_c stepG_seq aa hF
   u_reg aa hF
   u_op aa hF
   u_op aa hF
   u_op aa hF
   u_op aa hF
   u_skip aa hF
   u_op aa hF
   u_c stepG_region_end aa hF
   u_cond false aa hF
   u_c stepG_skip aa hF
   u_c stepG_seq aa hF
   u_reg aa hF
   u_op aa hF
   u_op aa hF
   u_op aa hF
   u_op aa hF
   refine Goes.stop (fun w₃ h₃=>?_)
   replace hF:=aa hF h₃
   clear h₃
   refine⟨rfl,rfl,fun ⟨st,hw⟩=>stepG_semacquire_wait rfl rfl rfl H.f_semacquire (x_semacquire_n L) (x_semacquire_b L) (x_semacquire_x L) (x_semacquire_f L) (by simp[Act.eval,smA]) hw.cellSm,fun hf=>?_⟩
   refine⟨_,(stepG_semacquire (n:=1) rfl rfl (by k_ne) rfl H.f_semacquire (x_semacquire_n L) (x_semacquire_b L) (x_semacquire_x L) (x_semacquire_f L) (by simp[Act.eval,smA]) hf.cellSm (by k_ne) (hf.thaw 1)).trans (by rfl),50,cI ?_⟩
   replace hF:WgLive L.tWg Wg (w₃.setCell (smA Wg) (.int .u32 0)):=⟨_,_,hf.setSm 0⟩
   clear hf
   walk_nrm
   u_c stepG_region_end aa hF
   u_c stepG_seq aa hF
   u_reg aa hF
   u_op aa hF
   u_op aa hF
   u_op aa hF
   u_call H.f_uLoad (nm_uLoad L) uLoadFn aa hF
   u_c stepG_seq aa hF
   u_reg aa hF
   u_op aa hF
   u_c stepG_region_end aa hF
   u_c stepG_seq aa hF
   u_reg aa hF
   u_op aa hF
   u_op aa hF
   u_op aa hF
   refine Goes.stop (fun w₄ h₄=>?_)
   replace hF:=aa hF h₄
   clear h₄
   refine⟨rfl,fun hw=>⟨_,stepG_load_atomic (v:=0) rfl rfl (by k_ne) rfl H.f_loadU64 (x_loadU64_n L) (x_loadU64_b L) (x_loadU64_x L) .u64 (x_loadU64_f L) rfl hw.cellSt,50,cI ?_⟩⟩
   clear hw
   walk_nrm
   u_op aa hF
   u_c stepG_region_end aa hF
   u_c stepG_ret' aa hF
   u_leave1 H.f_uLoad aa hF
   u_op aa hF
   u_op aa hF
   u_c stepG_region_end aa hF
   u_c stepG_seq aa hF
   u_cond true aa hF
   u_c stepG_seq aa hF
   u_reg aa hF
   refine Goes.stop (fun w₅ h₅=>?_)
   replace hF:=aa hF h₅
   clear h₅
   refine⟨rfl,_,stepG_mark0 .enable (by simp) rfl rfl (by k_ne) rfl H.f_enable (x_enable_n L) (x_enable_b L) (x_enable_x L) (x_enable_f L),30,cI ?_⟩
   walk_nrm
   u_c stepG_region_end aa hF
   u_reg aa hF
   u_op aa hF
   u_conv H.underlying_tWgP H.room_tWg (WgLive.cell0 hF).choose_spec aa hF
   refine Goes.stop (fun w₆ h₆=>?_)
   clear h₆ hF
   refine⟨rfl,_,stepG_markAt .acquire (by simp) rfl rfl (by k_ne) rfl H.f_acquire (x_acquire_n L) (x_acquire_b L) (x_acquire_x L) (x_acquire_f L) (by simp[Act.eval,stA]),by rfl,fun main w=>?_⟩
   have hU:=aC
   walk_nrm
   u_c stepG_region_end bF hU
   u_c stepG_seq bF hU
   u_c stepG_seq bF hU
   u_reg bF hU
   u_op bF hU
   u_c stepG_region_end bF hU
   u_cond false bF hU
   u_c stepG_skip bF hU
   u_c stepG_ret' bF hU
   u_leave0 H.f_wait bF hU
   exact Goes.stop fun _ _=>rfl
  ·refine⟨_,stepG_cas_miss (v:=(v':Int)*KK) (old:=S) (n:=S+1) rfl rfl (by k_ne) rfl H.f_casU64 (x_casU64_n L) (x_casU64_b L) (x_casU64_x L) .u64 (x_casU64_f L) rfl rfl rfl hw.cellSt (hw.thaw 0) (by rw[←hS];simp only[KK];omega),20,cI ?_⟩
   clear hw
   walk_nrm
   u_op aa hF
   u_c stepG_region_end aa hF
   u_c stepG_ret' aa hF
   u_leave1 H.f_uCas aa hF
   u_c stepG_region_end aa hF
   u_cond false aa hF
   u_c stepG_skip aa hF
   u_c stepG_inBlock aa hF
   u_c stepG_inLoop aa hF
   exact Goes.stop fun w₃ h₃=>⟨_,rfl,by simp,by simp⟩
set_option maxRecDepth 100000 in
theorem xm (H:WgLib P L)(w:World)(hF:WgLive L.tWg Wg w):
  Goes P true (RG L.tWg Wg γ) (DS Wg) (SKd P L.tWg Wg (AnchG L Wg (b₀.at a₀ (.inRegion ops₀ (i₀::rest₀)::k₀)) cs) γ) 60
   (G ((base L.wait).at ⟨#[.pointer (some ⟨Wg,0,none⟩)]++Array.replicate ((waitFn L).ntmps-1) undef,[]⟩ [.code (body_wait L)]) (b₀.at a₀ (.inRegion ops₀ (i₀::rest₀)::k₀)::cs)) w:=by
 lib_facts
 simp only[body_wait,waitFn,e9]
 walk_nrm
 refine cI ?_
 u_c stepG_seq aa hF
 u_cond true aa hF
 u_reg aa hF
 refine Goes.stop (fun w₁ h₁=>?_)
 replace hF:=aa hF h₁
 clear h₁
 refine⟨rfl,_,stepG_mark0 .disable (by simp) rfl rfl (by k_ne) rfl H.f_disable (x_disable_n L) (x_disable_b L) (x_disable_x L) (x_disable_f L),3,cI ?_⟩
 walk_nrm
 u_c stepG_region_end aa hF
 u_c stepG_block aa hF
 u_c stepG_loop aa hF
 exact Goes.stop (fun w₂ h₂=>⟨_,rfl,by simp,by simp⟩)
end
end Go.Proofs.Ytbmnihglaokhmaa.Am
namespace Go.Proofs.Ytbmnihglaokhmaa.Am
open Go Go.RowKit Go.Conc
section
variable {P:Program} [PhC P] {main:Bool} {nn:Nat} {Q0 Q:Gh→Exit→Act→World→Prop}
theorem cU {o:Oper}{y:Nat→Option Bool}(h:o.guard=none):Region.wanted o y=true:=by unfold Region.wanted;rw[h]
theorem yF {ops:Array Oper}{o:Oper}(hg:∀(i:Nat) (o':Oper),ops[i]?=some o'→o'.guard=none)(hgo:o.guard=none)
  (hr:∀l:Array Bool,l.size=ops.size→(Region.ready .any ops l=[]→Region.ready .any (ops.push o) (l.push false)=[ops.size])∧(Region.ready .any ops l≠[]→Region.ready .any (ops.push o) (l.push false)=Region.ready .any ops l))
  (hr2:∀l:Array Bool,l.size=ops.size→Region.ready .any ops l=[]→Region.ready .any (ops.push o) ((l.push false).setIfInBounds ops.size true)=[])
  (hk:∀γ a w,Q0 γ .normal a w→OpG P main o nn γ a w fun γ' a' w'=>Q γ' .normal a' w'):
  ∀(fuel:Nat) (l:Array Bool) (γ:Gh) (a:Act) (w:World),l.size=ops.size→ju P main .any ops nn Q0 fuel l γ a w→ju P main .any (ops.push o) nn Q (fuel+1) (l.push false) γ a w:=by
 have last:∀(fuel:Nat) (l:Array Bool) (γ:Gh) (a:Act) (w:World),l.size=ops.size→Region.ready .any ops l=[]→Q0 γ .normal a w→ju P main .any (ops.push o) nn Q (fuel+1) (l.push false) γ a w:=by
  intro fuel l γ a w hl he hq
  have e:=(hr l hl).1 he
  refine⟨fun h=>by(rw[e] at h;cases h),fun i hi=>?_⟩
  rw[e,bd] at hi
  subst hi
  refine⟨o,by simp,.inl ⟨cU hgo,(hk _ _ _ hq).mono (aN _) fun γ' a' w' q=>?_⟩⟩
  have e2:=hr2 l hl he
  cases fuel with
  |zero=>exact⟨e2,q⟩
  |succ fuel=>exact⟨fun _=>q,fun i hi=>by rw[e2] at hi;cases hi⟩
 intro fuel
 induction fuel with
 |zero=>exact fun l γ a w hl h=>last 0 l γ a w hl h.1 h.2
 |succ fuel ih=>
  intro l γ a w hl h
  by_cases he:Region.ready .any ops l=[]
  ·exact last _ l γ a w hl he (h.1 he)
  have e:=(hr l hl).2 he
  refine⟨fun h=>absurd (e.symm.trans h) he,fun i hi=>?_⟩
  rw[e] at hi
  obtain⟨o',ho',h2⟩:=h.2 i hi
  have hi':i<ops.size:=(dN.1 ho').1
  have hgn:=hg i o' ho'
  have es:(l.push false).setIfInBounds i true=(l.setIfInBounds i true).push false:=by
   apply Array.ext'
   simp only[Array.toList_setIfInBounds,Array.toList_push]
   rw[List.set_append_left _ _ (by rw[nA];omega)]
  refine⟨o',by rw[Array.getElem?_push,if_neg (by omega)];exact ho',?_⟩
  rcases h2 with⟨_,h2⟩|⟨h2,_⟩
  ·refine .inl ⟨cU hgn,h2.mono (aN _) fun γ' a' w' q=>?_⟩
   rw[es]
   exact ih _ _ _ _ (by simpa using hl) q
  ·rw[cU hgn] at h2;cases h2
theorem ka {md:Region.Mode}{ops:Array Oper}{Q':Gh→Exit→Act→World→Prop}(hq:∀γ a w,Q0 γ .normal a w→Q' γ .normal a w){nn':Nat}(hn:nn≤nn'):∀(fuel:Nat) (l:Array Bool) (γ:Gh) (a:Act) (w:World),ju P main md ops nn Q0 fuel l γ a w→ju P main md ops nn' Q' fuel l γ a w
 |0,_,_,_,_,h=>⟨h.1,hq _ _ _ h.2⟩
 |fuel+1,l,γ,a,w,h=>⟨fun e=>hq _ _ _ (h.1 e),fun i hi=>by
  obtain⟨o,ho,h2⟩:=h.2 i hi
  exact⟨o,ho,h2.imp (fun⟨h3,h4⟩=>⟨h3,h4.mono hn fun _ _ _ q=>ka hq hn fuel _ _ _ _ q⟩) fun⟨h3,h4⟩=>⟨h3,ka hq hn fuel _ _ _ _ h4⟩⟩⟩
end
section
variable {P:Program} [PhC P] {N:Nat} {K:Id→Prop}
def xo (P:Program)[PhC P](N:Nat)(K:Id→Prop)(ops:Array Oper)(σ σ':St):Prop:=
 ∃nn,∀main dfs γ ρ0 a w,SimS P dfs γ N ρ0 K σ a w→ju P main .any ops nn (fun γ' e a' w'=>e= .normal∧SimS P dfs γ' N ρ0 K σ' a' w') ops.size (Array.replicate ops.size false) γ a w
theorem vQ {ops:Array Oper}{σ σ1:St}{L:List (Oper×Rc)}(dep:Nat→List Nat)(hok:Reg.okB ops dep=true)(h1:L.map (·.1)=ops.toList)(h2:TRun P ops N σ.t σ.h σ.n L)(hC:DU dep L)
  (h3:∀x,look σ1.t x=look (ib (fun _=>true) 0 L σ.t) x) (h4:∀x,look σ1.h x=look (gt (fun _=>true) 0 L σ.h) x) (h5:(∀b:Id,σ.n≤b.1→look σ.h b=none)→∀b:Id,σ1.n≤b.1→look σ1.h b=none):xo P N K ops σ σ1:=by
 obtain⟨nn,h2⟩:=h2.bound
 refine⟨nn,?_⟩
 rintro main dfs γ ρ0 a w ⟨hn,hK,ρ,hρ,s⟩
 have hm0:∀i,gE (Array.replicate ops.size false) i=false:=by
  intro i
  unfold gE
  rw[bV,Array.getElem?_replicate]
  split<;>rfl
 have hQ:∀γ' ρ' a' w',(∀b,K b→ρ' b=ρ0 b)→SimN P dfs γ' N ρ' (ib (fun _=>true) 0 L σ.t) (gt (fun _=>true) 0 L σ.h) a' w'→Exit.normal=Exit.normal∧SimS P dfs γ' N ρ0 K σ1 a' w':=
  fun γ' ρ' a' w' hρ' s'=>⟨rfl,h5 hn,fun b hb=>by
   have:=iU (fun _=>true) L 0 σ.h b (hK b hb)
   unfold Live at this⊢
   rw[h4]
   exact this,ρ',hρ',Sim.congr s' h3 h4⟩
 exact px (Q:=fun γ' e a' w'=>e= .normal∧SimS P dfs γ' N ρ0 K σ1 a' w') hok h1 h2 hn hC (ρ0:=ρ0) (L0:=K) hK hQ ops.size (List.range ops.size) _ γ a _ ρ (by simp) (by simp) (fun i hi _=>gL.2 hi)
  (fun k o ho hmk=>absurd hmk (by rw[hm0];simp)) hρ (by rw[oc _ _ _ _ fun i _=>hm0 i,oa _ _ _ _ fun i _=>hm0 i];exact s)
def AtA (P:Program)[PhC P](N:Nat)(K:Id→Prop)(ops:Array Oper)(Q:VSt→Prop)(σ:VSt):Prop:=∃σ',xo P N K ops σ.toD σ'.toD∧(jk P N K σ'.toD→Q σ')
theorem Cr {Θ:TT}(hΘ:Θ.ok P){ops:Array Oper}{Q:VSt→Prop}{σ:VSt}(hok:Reg.okB ops (yQ ops)=true)(h:jy P Θ ops (yQ ops) true N ops.toList 0 [] σ Q):AtA P N K ops Q σ:=by
 rcases fa (jz σ) with hn|hn
 ·obtain⟨σ',h1,h2⟩:=kI hΘ hn h
  obtain⟨L,l1,l2,l3,l4,l5,l6⟩:=h2 [] fun _=>⟨rfl,fun i o r hi=>by simp at hi⟩
  refine⟨σ',(vQ (yQ ops) hok l1 l2 ?_ l3 l4 fun _=>l5),fun _=>h1⟩
  intro i j oi ri oj rj hij hi hj hdp
  exact l6 rfl i j oi ri oj rj (by omega) (by simpa using hi) hj (by simpa using hdp)
 ·exact⟨σ,⟨0,fun main dfs γ ρ0 a w hs=>absurd hs.1 hn⟩,fun ⟨dfs,γ,ρ0,a,w,hs⟩=>absurd hs.1 hn⟩
theorem AtA.go {α:Type}{ops:Array Oper}{m:Nat}(hK:KB m K){fs ts:List Nat}{st:α→VSt}{p:α→Prop}{σ:VSt}(h:AtA P N K ops (fun σ'=>ld m fs ts σ' fun σ2=>∃x,p x∧σ2=st x) σ):
  ∃nn,∀main dfs γ ρ0 a w,SimS P dfs γ N ρ0 K σ.toD a w→ju P main .any ops nn (fun γ' e a' w'=>e= .normal∧∃x,p x∧SimS P dfs γ' N ρ0 K (st x).toD a' w') ops.size (Array.replicate ops.size false) γ a w:=by
 obtain⟨σ',⟨nn,h1⟩,h2⟩:=h
 refine⟨nn,fun main dfs γ ρ0 a w hs=>ka (fun γ' a' w' q=>⟨rfl,?_⟩) (aN _) _ _ _ _ _ (h1 main dfs γ ρ0 a w hs)⟩
 obtain⟨σ2,hw,x,hx,rfl⟩:=ig hK (h2 ⟨_,_,_,_,_,q.2⟩)
 exact⟨x,hx,hw _ _ _ _ _ q.2⟩
theorem At.go {α:Type}{c:Code}{m:Nat}(hK:KB m K){fs ts:List Nat}{st:α→VSt}{p:α→Prop}{σ:VSt}(h:At P N K c (FU m fs ts st p) σ):
  ∃n,∀main dfs γ ρ0 a w,SimS P dfs γ N ρ0 K σ.toD a w→wpG P main c n (fun γ' e a' w'=>e= .normal∧∃x,p x∧SimS P dfs γ' N ρ0 K (st x).toD a' w') γ a w:=by
 obtain⟨e,σ',⟨n,h1⟩,h2⟩:=h
 refine⟨n,fun main dfs γ ρ0 a w hs=>(h1 main dfs γ ρ0 a w hs).mono (aN _) ?_⟩
 rintro γ' e' a' w' ⟨rfl,q⟩
 have h3:=h2 ⟨_,_,_,_,_,q⟩
 cases e' with
 |normal=>
  obtain⟨σ2,hw,x,hx,rfl⟩:=ig hK h3
  exact⟨rfl,x,hx,hw _ _ _ _ _ q⟩
 |_=>exact h3.elim
end
theorem kL {P:Program}(g o:Nat)(t:TypeId):∀(vs:List Value) (i:Nat) (cur:Array Value) (w:World) (es:Array Event),w.heap[g]?=some (.cells cur t (0,0))→o+i+vs.length≤cur.size→(∀v∈vs,v.oneCell'=true)→
  ∀ev∈(storeCells ⟨g,o,none⟩ vs i).events P w es,ev∈es∨∃j,j<vs.length∧ev=⟨.cell ⟨g,o+i+j,none⟩,true,false⟩
 |[],_,_,_,_,_,_,_=>fun ev h=>.inl (by simpa[storeCells] using h)
 |v::rest,i,cur,w,es,hg,hl,h1=>fun ev h=>by
  have hi:o+i<cur.size:=by simp at hl;omega
  have hadd:(⟨g,o,none⟩:Addr).add i=⟨g,o+i,none⟩:=by unfold Addr.add;split<;>simp_all
  have hcell:w.cell? ⟨g,o+i,none⟩=some cur[o+i]:=by simp[World.cell?,hg,hi]
  have hfro:w.frozen? ⟨g,o+i,none⟩=false:=by simp[World.frozen?,hg]
  have hst:(store ((⟨g,o,none⟩:Addr).add i) v).run P w= .ok () (w.setRow g (cur.setIfInBounds (o+i) v)):=by
   rw[hadd,run_store P w _ v _ (h1 v (by simp)),hcell]
   simp[hfro,setCell_eq_setRow w g (o+i) cur t (0,0) v hg]
  have hev:(store ((⟨g,o,none⟩:Addr).add i) v).events P w es=es.push ⟨.cell ⟨g,o+i,none⟩,true,false⟩:=by
   rw[hadd,events_store P w es _ v _ (h1 v (by simp)),hcell]
   simp only[hfro,eZ,if_false]
   rfl
  simp only[storeCells,Sem.events_bind,hst,Result.evThen_ok,hev] at h
  rcases kL g o t rest (i+1) _ _ _ (setRow_heap w g cur _ t _ hg) (by simp at hl⊢;omega) (fun x hx=>h1 x (by simp[hx])) ev h with h|⟨j,hj,rfl⟩
  ·rcases Array.mem_push.1 h with h|rfl
   ·exact .inl h
   ·exact .inr ⟨0,by simp,rfl⟩
  ·exact .inr ⟨j+1,by simp;omega,by rw[show o+(i+1)+j=o+i+(j+1) by omega]⟩
section
variable {P:Program} {γ:Gh} {a:Act} {w:World}
theorem C2 {o:Oper}{x y:Operand}{T:TypeId}(hop:o.op= .store T x y){C p:Nat}{vs:Array Value}(hx:a.eval x= .pointer (some ⟨C,p,none⟩))(hy:a.eval y= .agg vs)(hone:∀v∈vs,v.oneCell'=true)(hsz:sizeT P T=some vs.size)(hX:∀j,j<vs.size→γ.X C (p+j))
  (hpos:0<vs.size) {E:TypeId} (hC:∃c:Array Value,w.heap[C]?=some (.cells c E (0,0))∧p+vs.size≤c.size) {K:Gh→Act→World→Prop}
  (hK:∀(w1:World) (c:Array Value),(∀b o,γ.X b o→¬γ.A b)→Rel γ w w1→w1.heap[C]?=some (.cells c E (0,0))→p+vs.size≤c.size→K γ (a.put o.dst undef) (w1.setRow C (c.toList.take p++vs.toList++c.toList.drop (p+vs.size)).toArray)):@OpG P (pubPh P) false o 1 γ a w K:=by
 intro ops i rest b k cs Stop m hk ho hw hc
 refine @GoesG.phase P (pubPh P) false Stop γ _ w m rfl fun w1 hr=>fun hxa=>?_
 obtain⟨c0,h0,hsz0⟩:=hC
 obtain⟨c,hc1,hcs⟩:=hr.shape C (p+0) (hX 0 hpos) c0 E (0,0) h0
 have hle:p+vs.size≤c.size:=by omega
 have hst:=run_storeCells_at P C p E vs.toList 0 c w1 hc1 (by simpa using hle) (fun v hv=>hone v (by simpa using hv))
 simp only[Nat.add_zero,nA] at hst
 have hrun:(execOp a.eval o).run P w1= .ok .skip (w1.setRow C (c.toList.take p++vs.toList++c.toList.drop (p+vs.size)).toArray):=by
  unfold execOp
  simp only[hop,hx,hy,Instr.storeAt,Instr.sureAddr,storeVar,Sem.run_bind,Sem.run_pure,Result.andThen_ok,bS hsz,Value.cells]
  rw[if_neg (by simp)]
  simp only[hst,Result.andThen_ok,Sem.run_bind,Sem.run_pure]
 refine⟨_,_,_,stepG_none ho hw hk hrun,⟨rfl,rfl,rfl,setRow_size _ _ _,fun b' hb'=>?_,fun b' c' T' fz hc'=>?_,fun b' o' hn=>?_,fun e he=>?_⟩,hc _ _ _ (hK w1 c hxa hr hc1 hle)⟩
 ·exact setRow_other _ _ _ _ fun e=>hb' (p+0) (e▸hX 0 hpos)
 ·by_cases e:b'=C
  ·subst e
   rw[hc1] at hc'
   cases hc'
   refine⟨_,setRow_heap _ _ _ _ _ _ hc1,?_⟩
   simp
   omega
  ·exact⟨c',(setRow_other _ _ _ _ e).trans hc',rfl⟩
 ·by_cases e:b'=C
  ·subst e
   have hno:¬(p≤o'∧o'<p+vs.size):=fun h=>hn (by have:=hX (o'-p) (by omega);rwa [show p+(o'-p)=o' by omega] at this)
   rw[cell_setRow_same _ _ _ _ _ _ _ hc1]
   have e1:w1.cell? ⟨b',o',none⟩=c[o']?:=by simp[World.cell?,hc1]
   rw[e1,List.getElem?_toArray,←Array.getElem?_toList]
   have hl1:(c.toList.take p).length=p:=by simp;omega
   by_cases h1:o'<p
   ·rw[cV,gg (by omega),List.getElem?_take_of_lt h1]
   ·have h2:p+vs.size≤o':=by omega
    rw[jq (by simp;omega),List.getElem?_drop]
    congr 1
    simp
    omega
  ·exact World.cell?_of_block (setRow_other _ _ _ _ e)
 ·have hm:=mem_listed he
  unfold execOp at hm
  have hsev:∀es:Array Event,(Go.sizeOf T).events P w1 es=es:=fun es=>events_sizeOf P w1 es T
  simp only[hop,hx,hy,Instr.storeAt,Instr.sureAddr,storeVar,Sem.events_bind,Sem.run_bind,Sem.run_pure,Sem.events_pure,Result.andThen_ok,Result.evThen_ok,bS hsz,Value.cells,hsev] at hm
  rw[if_neg (by simp)] at hm
  simp only[hst,Result.andThen_ok,Result.evThen_ok] at hm
  rcases kL C p E vs.toList 0 c w1 #[] hc1 (by simpa using hle) (fun v hv=>hone v (by simpa using hv)) e hm with h|⟨j,hj,rfl⟩
  ·simp at h
  ·exact⟨C,p+0+j,rfl,by simpa using hX j (by simpa using hj),(dN.1 hc1).1⟩
end
def Fixd (C:Nat)(γ:Gh)(w:World)(γ':Gh)(w':World):Prop:=γ'.X=γ.X∧¬γ'.S C∧ShpB C w w'∧C<w'.heap.size
section
variable {P:Program} {main:Bool} {C o:Nat} {γ0:Gh} {w0:World} {Stop:Gh→Goroutine→World→Prop}
theorem Fixd.rely {γ:Gh}{w w1:World}(h:Fixd C γ0 w0 γ w)(hx:γ0.X C o)(hr:Rel γ w w1):Fixd C γ0 w0 γ w1:=
 ⟨h.1,h.2.1,h.2.2.1.trans (hr.shape C o (by rw[h.1];exact hx)),bU h.2.2.2 hr.size⟩
theorem Fixd.own {γ:Gh}{w w':World}{es:Array Event}(h:Fixd C γ0 w0 γ w)(hg:Gua γ w w' es):Fixd C γ0 w0 (γ.grow w w') w':=
 ⟨h.1,fun hn=>hn.elim h.2.1 fun hn=>by have:=h.2.2.2;omega,h.2.2.1.trans (ShpB.of (hg.fr.block C h.2.2.2 h.2.1)),bU h.2.2.2 hg.fr.size⟩
theorem y5 (hx:γ0.X C o):∀(n:Nat) (γ:Gh) (g:Goroutine) (w:World),Fixd C γ0 w0 γ w→ @GoesG P (pubPh P) main Stop n γ g w→ @GoesG P (pubPh P) main (fun γ' g' w'=>Stop γ' g' w'∧Fixd C γ0 w0 γ' w') n γ g w:=by
 intro n
 induction n with
 |zero=>exact fun γ g w hf h w1 hr=>⟨h w1 hr,hf.rely hx hr⟩
 |succ n ih=>
  intro γ g w hf h
  rcases h with h|⟨hs,h⟩|⟨hs,h⟩
  ·exact .inl fun w1 hr=>⟨h w1 hr,hf.rely hx hr⟩
  ·exact .inr (.inl ⟨hs,fun w1 h1=>fo (h w1 h1) fun g' w' es ⟨d,x⟩=>⟨d,ih _ _ _ ((hf.rely hx h1).own d) x⟩⟩)
  ·refine .inr (.inr ⟨hs,fun w1 h1=>fun hxa=>?_⟩)
   obtain⟨g',w',es,e1,hp,x⟩:=h w1 h1 hxa
   have hf1:=hf.rely hx h1
   exact⟨g',w',es,e1,hp,ih _ _ _ ⟨hf1.1,hf1.2.1,hf1.2.2.1.trans (hp.shape C),by rw[hp.size];exact hf1.2.2.2⟩ x⟩
theorem C1 {o':Oper}{n:Nat}{γ:Gh}{a:Act}{w:World}{K:Gh→Act→World→Prop}(hx:γ0.X C o)(hf:Fixd C γ0 w0 γ w)(hK:∀γ a w w1,Rel γ w w1→K γ a w→K γ a w1)(h:@OpG P (pubPh P) main o' n γ a w K):
  @OpG P (pubPh P) main o' n γ a w fun γ' a' w'=>K γ' a' w'∧Fixd C γ0 w0 γ' w':=by
 intro ops i rest b k cs Stop m hk ho hw hc
 have h1:@GoesG P (pubPh P) main (fun γ' g' w'=>∃a',g'=G (b.at a' (.inRegion ops rest::k)) cs∧K γ' a' w') (0+n) γ (G (b.at a (.inRegion ops (i::rest)::k)) cs) w:=
  h ops i rest b k cs _ 0 hk ho hw fun γ' a' w' q=>fun w1 hr=>⟨a',rfl,hK _ _ _ _ hr q⟩
 rw[gM] at h1
 refine @GoesG.bind P (pubPh P) main _ _ _ _ _ _ _ (y5 hx n _ _ _ hf h1) fun γ' g' w' hst=>?_
 obtain⟨⟨a',rfl,q⟩,f⟩:=hst w' (Rel.refl _ _)
 exact hc _ _ _ ⟨q,f⟩
theorem qC [PhC P]{md:Region.Mode}{ops:Array Oper}{nn:Nat}{Q:Gh→Exit→Act→World→Prop}(hQ:∀γ a w w1,Rel γ w w1→Q γ .normal a w→Q γ .normal a w1):∀(fuel:Nat) (l:Array Bool) (γ:Gh) (a:Act) (w w1:World),Rel γ w w1→ju P main md ops nn Q fuel l γ a w→ju P main md ops nn Q fuel l γ a w1
 |0,_,_,_,_,_,hr,h=>⟨h.1,hQ _ _ _ _ hr h.2⟩
 |fuel+1,l,γ,a,w,w1,hr,h=>⟨fun e=>hQ _ _ _ _ hr (h.1 e),fun i hi=>by
  obtain⟨o,ho,h2⟩:=h.2 i hi
  exact⟨o,ho,h2.imp (fun⟨h3,h4⟩=>⟨h3,fun ops i rest b k cs Stop m hk ho hw hc=>(h4 ops i rest b k cs Stop m hk ho hw hc).rely hr⟩) fun⟨h3,h4⟩=>⟨h3,qC hQ fuel _ _ _ _ _ hr h4⟩⟩⟩
theorem oq {md:Region.Mode}{ops:Array Oper}{nn:Nat}{Q:Gh→Exit→Act→World→Prop}(hx:γ0.X C o)(hQ:∀γ a w w1,Rel γ w w1→Q γ .normal a w→Q γ .normal a w1):∀(fuel:Nat) (l:Array Bool) (γ:Gh) (a:Act) (w:World),Fixd C γ0 w0 γ w→ @ju P (pubPh P) main md ops nn Q fuel l γ a w→
  @ju P (pubPh P) main md ops nn (fun γ' e a' w'=>Q γ' e a' w'∧Fixd C γ0 w0 γ' w') fuel l γ a w
 |0,_,_,_,_,hf,h=>⟨h.1,h.2,hf⟩
 |fuel+1,l,γ,a,w,hf,h=>⟨fun e=>⟨h.1 e,hf⟩,fun i hi=>by
  obtain⟨o',ho,h2⟩:=h.2 i hi
  refine⟨o',ho,h2.imp (fun⟨h3,h4⟩=>⟨h3,?_⟩) fun⟨h3,h4⟩=>⟨h3,oq hx hQ fuel _ _ _ _ hf h4⟩⟩
  refine @OpG.mono P (pubPh P) main _ _ _ _ _ _ _ _ (C1 (K:=fun γ' a' w'=>@ju P (pubPh P) main md ops nn Q fuel (l.setIfInBounds i true) γ' a' w') hx hf (fun γ a w w1 hr q=>@qC P main (pubPh P) _ _ _ _ hQ _ _ _ _ _ _ hr q) h4) (aN _) ?_
  rintro γ' a' w' ⟨q,f⟩
  exact oq hx hQ fuel _ _ _ _ f q⟩
end
end Go.Proofs.Ytbmnihglaokhmaa.Am
namespace Go.Proofs.Ytbmnihglaokhmaa.Am
open Go Go.RowKit Go.Conc Go.ConcN Go.Conc.Lib Go.ConcR.Gen Go.ConcN.Gen
open Go.ConcR (KK wgBlock WgAt stA smA rd wr mk DC0)
attribute [local irreducible] Mk ct Ari fF nD j7 cO dR jv gP At bt
set_option maxRecDepth 10000
noncomputable def body33:Code:=Try.f33.body.getD .skip
noncomputable def ops33:Array Oper:=match body33 with| .seq _ (.region _ ops _)=>ops|_=>#[]
noncomputable def pre33:Array Oper:=ops33.pop
noncomputable def last33:Oper:=ops33.getD 7 default
noncomputable def ops33d:Array Oper:=match body33 with| .seq (.region _ ops _) _=>ops|_=>#[]
theorem yI:body33= .seq (.region 0 ops33d false) (.region 1 ops33 true):=by kernel_rfl
theorem BA:ops33=pre33.push last33:=by kernel_rfl
section
variable [PhC Try.prog]
theorem C6 (b0 b1 b2 b3 b4 b5:Int)(ts:List Txn)(L:List Nat)(hb:mV ⟨[b0,b1,b2,b3,b4,b5],0⟩)(hv:∀t∈ts,bZ t=true)(hL:∀i∈L,i<ts.length)(hl:L.length≤16)(wg:Value)(C n cp j:Nat)(hj:j<n):
  AtA Try.prog 13 (fun _=>False) pre33 (fun σ'=>ld 0 [] [11,12] σ' fun σ2=>∃_:Unit,True∧σ2=
   ⟨[(11,.agg [.mp 4,.int .i64 (bR ⟨b7 [b0,b1,b2,b3,b4,b5] (di ts L),0⟩ (di ts L)).f,.ref 5]),(12,.val (.pointer (some ⟨C,j*3,none⟩)))],
    [(4,.map ((dS [b0,b1,b2,b3,b4,b5] (di ts L)).map fun p=>(p.1,(bR ⟨b7 [b0,b1,b2,b3,b4,b5] (di ts L),0⟩ (di ts L)).b.getD p.1.toNat 0))),(5,.row 4 .bool (dx ⟨b7 [b0,b1,b2,b3,b4,b5] (di ts L),0⟩ (di ts L)))],6⟩)
  ⟨[(0,.val wg),(1,.dbox [.int .i64 b0,.int .i64 b1,.int .i64 b2,.int .i64 b3,.int .i64 b4,.int .i64 b5]),(2,.dbox [.lst .txn ts]),(3,.dbox [.lst (.int .i64) (L.map fun i:Nat=>(i:Int))]),(4,.dbox [.val (.slice (some ⟨C,0,none⟩) n cp)]),(5,.dbox [.int .i64 (j:Int)])],[],4⟩:=by
 refine Cr bf (by kernel_rfl) ?_
 conv=>whnf
 have hr:=zE b0 b1 b2 b3 b4 b5 ts L hb hv hL hl
 generalize bR ⟨b7 [b0,b1,b2,b3,b4,b5] (di ts L),0⟩ (di ts L)=R at *
 generalize dx ⟨b7 [b0,b1,b2,b3,b4,b5] (di ts L),0⟩ (di ts L)=O at *
 generalize dS [b0,b1,b2,b3,b4,b5] (di ts L)=M at *
 have hjn:0≤(j:Int)∧(j:Int)<(n:Int):=by omega
 (repeat' first|refine st ?_|refine sa fun xe hxe=>?_|refine sb (fun hq=>?_) fun hq=>?_|refine cr (hr) ?_|exact aC)
 refine⟨(),trivial,?_⟩
 simp
end
def LaneRes (C j:Nat)(m:List (Int×Int))(fees:Int)(bs:List Bool)(γ:Gh)(w:World):Prop:=
 ∃dfs ρ t a,SimN Try.prog dfs γ 13 ρ t (toH [(4,.map m),(5,.row 4 .bool bs)]) a w∧(∀i,i<3→γ.X C (j*3+i))∧
  w.cell? ⟨C,j*3+0,none⟩=some (.map (some (ρ (4,0)).blk))∧w.cell? ⟨C,j*3+1,none⟩=some (.int .i64 fees)∧
  w.cell? ⟨C,j*3+2,none⟩=some (.slice (some ⟨(ρ (5,0)).blk,0,none⟩) (ρ (5,0)).len (ρ (5,0)).cap)
theorem LaneRes.rely {C j:Nat}{m:List (Int×Int)}{fees:Int}{bs:List Bool}{γ:Gh}{w w1:World}(hr:Rel γ w w1)(h:LaneRes C j m fees bs γ w):LaneRes C j m fees bs γ w1:=by
 obtain⟨dfs,ρ,t,a,s,hX,c0,c1,c2⟩:=h
 exact⟨dfs,ρ,t,a,SimN.rely s hr,hX,(hr.cell _ _ (hX 0 (by omega))).trans c0,(hr.cell _ _ (hX 1 (by omega))).trans c1,(hr.cell _ _ (hX 2 (by omega))).trans c2⟩
def D3:Frame:=baseD 33
noncomputable def bot:Frame:={(default:Frame) with fn:=Try.prog.funcs.size,defers:=[],mode:=.panicking [goexitEntry]}
def vU (cs:Array Value):Deferred:={target:=.fn (.func 33) cs,args:=#[]}
theorem zA (T:Array Value):QuitsD Try.prog 2 0 (G {D3.at ⟨T,[]⟩ [] with mode:=.returning} [bot]):=by
 refine QuitsD.ctl (g':=G bot []) rfl (fun w=>?_) ?_
 ·have hr:Try.f33.results= #[]:=by kernel_rfl
  simp[G,stepG,unwind,doReturn,results,Frame.at,D3,baseD,bot,Try.func33,hr,seen,GStep.after,goexitEntry]
 refine QuitsD.ctl (g':={G bot [] with status:=.finished}) rfl (fun w=>?_) ⟨rfl,rfl⟩
 simp[G,stepG,unwind,bot,goexitEntry,Frame.catches]
 rfl
theorem CA:Try.f33.body=some body33:=by kernel_rfl
theorem yM (v0 v1 v2 v3 v4 v5:Value)(w:World):stepG Try.prog false (born Try.prog (vU #[v0,v1,v2,v3,v4,v5])) w=
  .go (G (D3.at ⟨#[v0,v1,v2,v3,v4,v5,undef,undef,undef,undef,undef,undef,undef],[]⟩ [.code body33]) [bot]) w #[]:=by
 have hn : (Try.f33.name == "runtime.NumGoroutine") = false := by kernel_rfl
 have hn' : ¬ Try.f33.name = "runtime.NumGoroutine" := by simpa using hn
 have ht:Try.f33.ntmps=13:=by kernel_rfl
 simp[born,vU,stepG,unwind,callDeferred,invoke,callFunc,Try.func33,hn',CA,ht,seen,GStep.after,G,Frame.enter,Frame.at,D3,baseD,bot]
theorem EW:∀l:Array Bool,l.size=pre33.size→(Region.ready .any pre33 l=[]→Region.ready .any (pre33.push last33) (l.push false)=[pre33.size])∧(Region.ready .any pre33 l≠[]→Region.ready .any (pre33.push last33) (l.push false)=Region.ready .any pre33 l):=by
 intro l hl
 obtain⟨l⟩:=l
 replace hl:l.length=7:=hl
 obtain⟨c0,c1,c2,c3,c4,c5,c6,rfl⟩:∃c0 c1 c2 c3 c4 c5 c6,l=[c0,c1,c2,c3,c4,c5,c6]:=by
  match l,hl with|[c0,c1,c2,c3,c4,c5,c6],_=>exact⟨c0,c1,c2,c3,c4,c5,c6,rfl⟩
 clear hl
 revert c0 c1 c2 c3 c4 c5 c6
 decide+kernel
theorem Ds:∀l:Array Bool,l.size=pre33.size→Region.ready .any pre33 l=[]→Region.ready .any (pre33.push last33) ((l.push false).setIfInBounds pre33.size true)=[]:=by
 intro l hl
 obtain⟨l⟩:=l
 replace hl:l.length=7:=hl
 obtain⟨c0,c1,c2,c3,c4,c5,c6,rfl⟩:∃c0 c1 c2 c3 c4 c5 c6,l=[c0,c1,c2,c3,c4,c5,c6]:=by
  match l,hl with|[c0,c1,c2,c3,c4,c5,c6],_=>exact⟨c0,c1,c2,c3,c4,c5,c6,rfl⟩
 clear hl
 revert c0 c1 c2 c3 c4 c5 c6
 decide+kernel
section
variable {Wg C n cp j:Nat} {E:TypeId} {b0 b1 b2 b3 b4 b5:Int} {ts:List Txn} {L:List Nat} {γ:Gh} {w:World} {ρ0:Id→Pl} {v1 v2 v3 v4 v5:Value}
attribute [local instance] pubPh
set_option maxHeartbeats 4000000 in
theorem FA {v0:Value}{dfs:List Deferred}(hb:mV ⟨[b0,b1,b2,b3,b4,b5],0⟩)(hv:∀t∈ts,bZ t=true)(hL:∀i∈L,i<ts.length)(hl:L.length≤16)(hj:j<n){a0:Act}
  (hs:SimN Try.prog dfs γ 13 ρ0 (toT [(0,.val v0),(1,.dbox [.int .i64 b0,.int .i64 b1,.int .i64 b2,.int .i64 b3,.int .i64 b4,.int .i64 b5]),(2,.dbox [.lst .txn ts]),(3,.dbox [.lst (.int .i64) (L.map fun i:Nat=>(i:Int))]),(4,.dbox [.val (.slice (some ⟨C,0,none⟩) n cp)]),(5,.dbox [.int .i64 (j:Int)])]) [] a0 w)
  (hX:∀i,i<3→γ.X C (j*3+i)) (hS:¬γ.S C) (hC:∃c:Array Value,w.heap[C]?=some (.cells c E (0,0))∧j*3+3≤c.size):
  ∃m,@wpG Try.prog (pubPh Try.prog) false (.region 1 ops33 true) m (fun γ' e a' w'=>e= .normal∧a'.defers=dfs∧
   LaneRes C j ((dS [b0,b1,b2,b3,b4,b5] (di ts L)).map fun p=>(p.1,(bR ⟨b7 [b0,b1,b2,b3,b4,b5] (di ts L),0⟩ (di ts L)).b.getD p.1.toNat 0))
    (bR ⟨b7 [b0,b1,b2,b3,b4,b5] (di ts L),0⟩ (di ts L)).f (dx ⟨b7 [b0,b1,b2,b3,b4,b5] (di ts L),0⟩ (di ts L)) γ' w') γ a0 w:=by
 obtain⟨nn,hpre⟩:=@AtA.go Try.prog (pubPh Try.prog) 13 (fun _=>False) _ _ 0 (fun b hb=>hb.elim) _ _ _ _ _ (@C6 (pubPh Try.prog) b0 b1 b2 b3 b4 b5 ts L hb hv hL hl v0 C n cp j hj)
 generalize bR ⟨b7 [b0,b1,b2,b3,b4,b5] (di ts L),0⟩ (di ts L)=R at *
 generalize dx ⟨b7 [b0,b1,b2,b3,b4,b5] (di ts L),0⟩ (di ts L)=O at *
 generalize dS [b0,b1,b2,b3,b4,b5] (di ts L)=M at *
 obtain⟨cC,hC1,hC2⟩:=hC
 have hCl:C<w.heap.size:=(dN.1 hC1).1
 have hgs:pre33.toList.all (fun o=>o.guard.isNone)=true:=by kernel_rfl
 refine⟨_,@j5 Try.prog (pubPh Try.prog) false _ _ _ _ 1 ops33 (nn+1) po fun w1 h1=>?_⟩
 have h1':Rel γ w (w1.at (w1.drawn+1)):=h1.trans (Rel.at _ _ _)
 have hp:=hpre false dfs γ ρ0 a0 _ ⟨fun b _=>rfl,fun b hb=>hb.elim,ρ0,fun b hb=>hb.elim,SimN.rely hs h1'⟩
 have hf0:Fixd C γ w γ (w1.at (w1.drawn+1)):=⟨rfl,hS,h1'.shape C _ (hX 0 (by omega)),bU hCl h1'.size⟩
 have hp2:=oq (hX 0 (by omega)) (fun γ' a' w' w2 hr q=>⟨rfl,by
  obtain⟨_,x,hx,q1,q2,ρ,q3,q4⟩:=q
  exact⟨x,hx,q1,q2,ρ,q3,SimN.rely q4 hr⟩⟩) _ _ _ _ _ hf0 hp
 have hp3:=@ka Try.prog (pubPh Try.prog) false _ _ _ _ _ (fun _ _ _ q=>q) (nn+1) (Nat.le_succ nn) _ _ _ _ _ hp2
 rw[BA,Array.size_push,Array.replicate_succ]
 refine @yF Try.prog (pubPh Try.prog) false _ _ _ _ _ (fun i o' h=>?_) (by kernel_rfl) EW Ds ?_ _ _ _ _ _ (by simp) hp3
 ·have:=bc.1 hgs o' (j6.2 (Array.mem_of_getElem? h))
  simpa using this
 rintro γ' a' w' ⟨⟨-,x,-,q1,q2,ρ,q3,s⟩,f1,f2,f3,f4⟩
 have e12:=(Sim.eval s (x:=.tmp 12) (d:=.val (.pointer (some ⟨C,j*3,none⟩))) rfl).val_inv.1
 obtain⟨vs,e11,hvl,hvc⟩:=(Sim.eval s (x:=.tmp 11) (d:=.agg [.mp (4,0),.int .i64 R.f,.ref (5,0)]) rfl).agg_inv
 obtain⟨y0,y1,y2,rfl⟩:∃y0 y1 y2,vs= #[y0,y1,y2]:=by
  obtain⟨l⟩:=vs
  match l,hvl with|[y0,y1,y2],_=>exact⟨y0,y1,y2,rfl⟩
 have k0:=(hvc 0 (by simp)).mp_inv.2
 have k1:=(hvc 1 (by simp)).int_inv
 have k2:=(hvc 2 (by simp)).ref_inv.2
 simp only[List.getElem_toArray,bV,List.getElem?_toArray,fi,List.getElem?_cons_succ,e9] at k0 k1 k2
 obtain⟨c',c1,c2⟩:=f3 cC E (0,0) hC1
 have hX':∀i,i<3→γ'.X C (j*3+i):=fun i hi=>by rw[f1];exact hX i hi
 refine OpG.mono (n:=1) (C2 (T:=74) (x:=.tmp 12) (y:=.tmp 11) (by kernel_rfl) e12 e11 ?_ (by kernel_rfl) hX' (by simp) ⟨c',c1,show j*3+3≤c'.size by omega⟩ fun w1 c hxa hr hc1 hle=>?_) (by omega) fun _ _ _ q=>q
 ·subst k0 k1 k2
  simp[Value.oneCell']
 have hnA:¬γ'.A C:=hxa C _ (hX' 0 (by omega))
 have hsz:(w1.setRow C (c.toList.take (j*3)++(#[y0,y1,y2]:Array Value).toList++c.toList.drop (j*3+(#[y0,y1,y2]:Array Value).size)).toArray).heap.size=w1.heap.size:=setRow_size _ _ _
 have s2:SimN Try.prog dfs γ' 13 ρ _ _ a' (w1.setRow C (c.toList.take (j*3)++(#[y0,y1,y2]:Array Value).toList++c.toList.drop (j*3+(#[y0,y1,y2]:Array Value).size)).toArray):=
  SimN.next s (fun _ h=>h) (fun _ h=>h) (fun _ h=>.inl h) (fun k hk hA=>(setRow_other _ _ _ _ fun(e:k=C)=>hnA (e▸hA)).trans (hr.toFr.block k hk fun hn=>hn hA)) (by rw[hsz];exact hr.size)
 have cel:∀i v,(#[y0,y1,y2]:Array Value).toList[i]?=some v→(w1.setRow C (c.toList.take (j*3)++(#[y0,y1,y2]:Array Value).toList++c.toList.drop (j*3+(#[y0,y1,y2]:Array Value).size)).toArray).cell? ⟨C,j*3+i,none⟩=some v:=by
  intro i v hi
  have hi3:i<3:=by have:=(cz.1 hi).1;simpa using this
  rw[cell_setRow_same _ _ _ _ _ _ _ hc1,List.getElem?_toArray,cV]
  have hl1:(c.toList.take (j*3)).length=j*3:=by simp at hle⊢;omega
  rw[jq (by omega),hl1,gg (by simp;omega),show j*3+i-j*3=i by omega]
  exact hi
 refine⟨rfl,s2.defers,dfs,ρ,_,a',s2,hX',cel 0 _ ?_,cel 1 _ ?_,cel 2 _ ?_⟩
 ·rw[k0];rfl
 ·rw[k1];rfl
 ·rw[k2];rfl
set_option maxHeartbeats 4000000 in
theorem vp (hb:mV ⟨[b0,b1,b2,b3,b4,b5],0⟩)(hv:∀t∈ts,bZ t=true)(hL:∀i∈L,i<ts.length)(hl:L.length≤16)(hj:j<n)
  (hs:SimN Try.prog [dcall 34 #[.pointer (some ⟨Wg,0,none⟩)]] γ 13 ρ0 (toT [(0,.val (.pointer (some ⟨Wg,0,none⟩))),(1,.dbox [.int .i64 b0,.int .i64 b1,.int .i64 b2,.int .i64 b3,.int .i64 b4,.int .i64 b5]),(2,.dbox [.lst .txn ts]),(3,.dbox [.lst (.int .i64) (L.map fun i:Nat=>(i:Int))]),(4,.dbox [.val (.slice (some ⟨C,0,none⟩) n cp)]),(5,.dbox [.int .i64 (j:Int)])]) []
   ⟨#[.pointer (some ⟨Wg,0,none⟩),v1,v2,v3,v4,v5,undef,undef,undef,undef,undef,undef,undef],[dcall 34 #[.pointer (some ⟨Wg,0,none⟩)]]⟩ w)
  (hX:∀i,i<3→γ.X C (j*3+i)) (hS:¬γ.S C) (hC:∃c:Array Value,w.heap[C]?=some (.cells c E (0,0))∧j*3+3≤c.size):
  ∃m,@GoesG Try.prog (pubPh Try.prog) false (WDone Try.prog 70 Wg
   (LaneRes C j ((dS [b0,b1,b2,b3,b4,b5] (di ts L)).map fun p=>(p.1,(bR ⟨b7 [b0,b1,b2,b3,b4,b5] (di ts L),0⟩ (di ts L)).b.getD p.1.toNat 0))
    (bR ⟨b7 [b0,b1,b2,b3,b4,b5] (di ts L),0⟩ (di ts L)).f (dx ⟨b7 [b0,b1,b2,b3,b4,b5] (di ts L),0⟩ (di ts L)))) m γ (born Try.prog (vU #[.pointer (some ⟨Wg,0,none⟩),v1,v2,v3,v4,v5])) w:=by
 obtain⟨m,hreg⟩:=FA hb hv hL hl hj hs hX hS hC
 have er:List.range ops33d.size=[0]:=by kernel_rfl
 have eo:ops33d[0]?=some (ops33d.getD 0 default):=by kernel_rfl
 have eg:(ops33d.getD 0 default).guard=none:=by kernel_rfl
 have ed:(ops33d.getD 0 default).dst=none:=by kernel_rfl
 have ep:(ops33d.getD 0 default).op= .defer {callee:=.value (.func 34),args:=#[.tmp 0],argTypes:=#[70]}:=by kernel_rfl
 refine⟨3+m+5,GoesG.quiet rfl (fun w=>yM _ _ _ _ _ _ w) ?_⟩
 rw[yI]
 refine GoesG.quiet rfl (fun w=>stepG_seq) ?_
 refine GoesG.quiet rfl (fun w=>stepG_region) ?_
 rw[er]
 refine GoesG.quiet rfl (fun w=>stepG_defer eo (cU eg) (by simp[D3,baseD]) ep) ?_
 rw[ed]
 simp only[List.map_toArray,bI,dt]
 refine GoesG.quiet rfl (fun w=>stepG_region_end) ?_
 refine hreg D3 [] [bot] _ 3 (by simp[D3,baseD]) ?_
 rintro γ' e ⟨T,D⟩ w' ⟨rfl,hd,hR⟩
 simp only at hd
 subst hd
 refine GoesG.quiet (n:=2) rfl (fun w=>stepG_end) ?_
 refine GoesG.quiet (n:=1) rfl (fun w=>stepG_unwind_enter rfl iY.f_done (nm_done zb) rfl) ?_
 refine GoesG.stop fun w1 hr=>⟨hR.rely hr,fun hlive=>Fd iY rfl (zA T) w1 hlive,rfl⟩
end
end Go.Proofs.Ytbmnihglaokhmaa.Am
namespace Go.Proofs.Ytbmnihglaokhmaa.Am
open Go Go.RowKit Go.Conc Go.ConcN
open Go.ConcR (KK wgBlock WgAt stA smA rd wr mk DC0)
def Off (L:List Oper)(a a':Act):Prop:=∀k:Nat,(∀o∈L,o.dst≠some k)→a'.tmps.getD k undef=a.tmps.getD k undef
theorem gF {a:Act}{dst:Option Nat}{v:Value}{k:Nat}(h:dst≠some k):(a.put dst v).tmps.getD k undef=a.tmps.getD k undef:=by
 cases dst with
 |none=>rfl
 |some d=>
  have:d≠k:=fun e=>h (by rw[e])
  simp[Act.put,bV,kQ this]
theorem Off.cons {o:Oper}{L:List Oper}{a a':Act}{v:Value}(h:Off L (a.put o.dst v) a'):Off (o::L) a a':=fun k hk=>(h k fun o' ho'=>hk o' (bl _ ho')).trans (gF (hk o (bh ..)))
section
variable {P:Program} {N:Nat} {K:Id→Prop}
theorem uy [PhC P]{main:Bool}{dfs:List Deferred}{nn:Nat}{ops:Array Oper}{ρ0:Id→Pl}{Q:Gh→Exit→Act→World→Prop}:∀(L:List (Oper×Rc)) (k:Nat) (t:List (Nat×D)) (h:HL) (n:Nat) (γ:Gh) (a:Act) (w:World) (ρ:Id→Pl),TRunN P ops N nn t h n L→(∀b:Id,n≤b.1→look h b=none)→
  (∀b,K b→Live h b)→(∀b,K b→ρ b=ρ0 b)→(∀i,ops[k+i]?=(L[i]?).map (·.1))→SimN P dfs γ N ρ t h a w→
  (∀γ ρ a' w,(∀b,K b→ρ b=ρ0 b)→SimN P dfs γ N ρ (ib (fun _=>true) k L t) (gt (fun _=>true) k L h) a' w→Off (L.map (·.1)) a a'→Q γ .normal a' w)→OpsG P main ops (List.range' k L.length) (L.length*(nn+1)+1) Q γ a w
 |[],k,t,h,n,γ,a,w,ρ,_,_,_,hρ,_,s,hq=>by simpa using jU (hq γ ρ a w hρ s fun _ _=>rfl)
 |(o,r)::L,k,t,h,n,γ,a,w,ρ,hT,hn,hK,hρ,hops,s,hq=>by
  obtain⟨⟨rfl,h1,h2,h3⟩,h4,h5⟩:=hT
  simp only[dZ,List.range'_succ]
  have ho:ops[k]?=some o:=by simpa using hops 0
  have hn':∀b:Id,r.n'≤b.1→look (puts r.u h) b=none:=by
   intro b hb
   rw[aS _ _ _ fun x hx e=>by have:=h2 x hx;rw[e] at this;omega]
   exact hn b (by omega)
  have nxt:∀(γ':Gh) (ρ':Id→Pl) (v:Value) (w':World),Ext h ρ ρ'→SimN P dfs γ' N ρ' (eA o.dst r.d t) (puts r.u h) (a.put o.dst v) w'→OpsG P main ops (List.range' (k+1) L.length) (L.length*(nn+1)+1) Q γ' (a.put o.dst v) w':=by
   intro γ' ρ' v w' hex s'
   exact uy L (k+1) _ _ r.n' _ _ w' ρ' h5 hn' (fun b hb=>gr _ _ _ (hK b hb)) (fun b hb=>(hex b (hK b hb)).trans (hρ b hb)) (fun i=>by rw[show k+1+i=k+(i+1) by omega];exact hops (i+1)) s' fun γ ρ a' w q1 q2 q3=>hq γ ρ a' w q1 q2 q3.cons
  have en:(L.length+1)*(nn+1)+1=(nn+1)+(L.length*(nn+1)+1):=by rw[Nat.succ_mul];omega
  rw[en]
  rcases h4 with⟨g1,g2⟩|⟨g1,g2,g3,g4⟩
  ·have hw:=g2 t h (fun x hx=>rfl) (fun b hb=>rfl) main dfs γ ρ a w s
   refine(iP (n1:=nn) (n2:=L.length*(nn+1)+1) ho (Sim.guard s g1) (hw.mono (aN _) ?_)).mono (by omega)
   rintro γ' a' w' ⟨v,ρ',rfl,hex,q1,q2⟩
   exact nxt γ' ρ' v w' hex (Sim.putO q1 h3 q2)
  ·refine OpsG.mono (n:=L.length*(nn+1)+1+1) (iu ho (Sim.guard s g1) (nxt γ ρ undef w (Ext.refl _ _) ?_)) (by omega)
   rw[g2,g3]
   exact Sim.putO s h3 (.tup [] #[] rfl fun i hi=>absurd hi (Nat.not_lt_zero i))
def xp (P:Program)[PhC P](N:Nat)(K:Id→Prop)(ops:Array Oper)(σ σ':St):Prop:=
 ∃n,∀main dfs γ ρ0 a w (id:Nat),SimS P dfs γ N ρ0 K σ a w→wpG P main (.region id ops false) n (fun γ' e a' w'=>e= .normal∧SimS P dfs γ' N ρ0 K σ' a' w'∧Off ops.toList a a') γ a w
theorem vR [PhC P]{ops:Array Oper}{σ σ1:St}{L:List (Oper×Rc)}(h1:L.map (·.1)=ops.toList)(h2:TRun P ops N σ.t σ.h σ.n L)
  (h3:∀x,look σ1.t x=look (ib (fun _=>true) 0 L σ.t) x) (h4:∀x,look σ1.h x=look (gt (fun _=>true) 0 L σ.h) x) (h5:(∀b:Id,σ.n≤b.1→look σ.h b=none)→∀b:Id,σ1.n≤b.1→look σ1.h b=none):xp P N K ops σ σ1:=by
 obtain⟨nn,h2⟩:=h2.bound
 refine⟨L.length*(nn+1)+1+1,?_⟩
 rintro main dfs γ ρ0 a w id ⟨hn,hK,ρ,hρ,s⟩
 refine lb ?_
 have hlen:ops.size=L.length:=by have:=congrArg List.length h1;simpa using this.symm
 have hops:∀i:Nat,ops[0+i]?=(L[i]?).map (fun x:Oper×Rc=>x.1):=by
  intro i
  have:=congrArg (fun l:List Oper=>l[i]?) h1
  simpa using this.symm
 rw[hlen,List.range_eq_range']
 exact uy (Q:=fun γ' e a' w'=>e= .normal∧SimS P dfs γ' N ρ0 K σ1 a' w'∧Off ops.toList a a') L 0 _ _ _ γ a w ρ h2 hn hK hρ hops s fun γ' ρ' a' w' hρ' s' hoff=>⟨rfl,⟨h5 hn,fun b hb=>by
   have:=iU (fun _=>true) L 0 σ.h b (hK b hb)
   unfold Live at this⊢
   rw[h4]
   exact this,ρ',hρ',Sim.congr s' h3 h4⟩,by rw[←h1];exact hoff⟩
def AtT (P:Program)[PhC P](N:Nat)(K:Id→Prop)(ops:Array Oper)(Q:VSt→Prop)(σ:VSt):Prop:=∃σ',xp P N K ops σ.toD σ'.toD∧(jk P N K σ'.toD→Q σ')
theorem nN [PhC P]{Θ:TT}(hΘ:Θ.ok P){ops:Array Oper}{Q:VSt→Prop}{σ:VSt}(h:jy P Θ ops (fun _=>[]) false N ops.toList 0 [] σ Q):AtT P N K ops Q σ:=by
 rcases fa (jz σ) with hn|hn
 ·obtain⟨σ',h1,h2⟩:=kI hΘ hn h
  obtain⟨L,l1,l2,l3,l4,l5,_⟩:=h2 [] fun h=>by cases h
  exact⟨σ',vR l1 l2 l3 l4 fun _=>l5,fun _=>h1⟩
 ·exact⟨σ,⟨0,fun main dfs γ ρ0 a w id hs=>absurd hs.1 hn⟩,fun ⟨dfs,γ,ρ0,a,w,hs⟩=>absurd hs.1 hn⟩
theorem AtT.go [PhC P]{α:Type}{ops:Array Oper}{m:Nat}(hK:KB m K){fs ts:List Nat}{st:α→VSt}{p:α→Prop}{σ:VSt}(h:AtT P N K ops (fun σ'=>ld m fs ts σ' fun σ2=>∃x,p x∧σ2=st x) σ):
  ∃n,∀main dfs γ ρ0 a w (id:Nat),SimS P dfs γ N ρ0 K σ.toD a w→wpG P main (.region id ops false) n (fun γ' e a' w'=>e= .normal∧(∃x,p x∧SimS P dfs γ' N ρ0 K (st x).toD a' w')∧Off ops.toList a a') γ a w:=by
 obtain⟨σ',⟨n,h1⟩,h2⟩:=h
 refine⟨n,fun main dfs γ ρ0 a w id hs=>(h1 main dfs γ ρ0 a w id hs).mono (aN _) ?_⟩
 rintro γ' e a' w' ⟨rfl,q,hoff⟩
 obtain⟨σ2,hw,x,hx,rfl⟩:=ig hK (h2 ⟨_,_,_,_,_,q⟩)
 exact⟨rfl,⟨x,hx,hw _ _ _ _ _ q⟩,hoff⟩
end
section
variable {P:Program} {main:Bool} {ty:TypeId} {Wg:Nat} {R:World→World→Prop} {D:World→World→Array Event→Prop} {Stop Stop':Goroutine→World→Prop} {End End':Goroutine→Prop} {Anch Anch':Gh→Goroutine→World→Prop} {γ:Gh} {g:Goroutine} {w:World}
theorem Goes.wide (hs:∀g w,Stop g w→Stop' g w):∀{n:Nat} {g:Goroutine} {w:World},Goes P main R D Stop n g w→Goes P main R D Stop' n g w
 |0,_,_,h=>fun w1 h1=>hs _ _ (h w1 h1)
 |n+1,g,w,h=>by
  rcases h with h|⟨h1,h2⟩
  ·exact .inl fun w1 hr=>hs _ _ (h w1 hr)
  ·exact .inr ⟨h1,fun w1 hr=>fo (h2 w1 hr) fun g' w' es ⟨d,x⟩=>⟨d,Goes.wide hs x⟩⟩
theorem SAcq.wide (hE:∀g,End g→End' g)(h:SAcq P Wg End g w):SAcq P Wg End' g w:=by
 obtain⟨h1,g',h2,h3,h4⟩:=h
 exact⟨h1,g',h2,h3,hE _ h4⟩
theorem SKe.wide (hE:∀g,End g→End' g)(h:SKe P ty Wg End γ g w):SKe P ty Wg End' γ g w:=by
 obtain⟨h1,g',h2,m,h3⟩:=h
 exact⟨h1,g',h2,m,Goes.wide (fun _ _=>SAcq.wide hE) h3⟩
theorem SW4.wide (hE:∀g,End g→End' g)(h:SW4 P ty Wg End γ g w):SW4 P ty Wg End' γ g w:=by
 obtain⟨h1,h2⟩:=h
 refine⟨h1,fun hw=>?_⟩
 obtain⟨g',h3,m,h4⟩:=h2 hw
 exact⟨g',h3,m,Goes.wide (fun _ _=>SKe.wide hE) h4⟩
theorem SW3.wide (hE:∀g,End g→End' g)(h:SW3 P ty Wg End γ g w):SW3 P ty Wg End' γ g w:=by
 obtain⟨h1,h2,h3,h4⟩:=h
 refine⟨h1,h2,h3,fun hw=>?_⟩
 obtain⟨g',h5,m,h6⟩:=h4 hw
 exact⟨g',h5,m,Goes.wide (fun _ _=>SW4.wide hE) h6⟩
theorem SW2.wide (hE:∀g,End g→End' g)(hA:∀g w,Anch γ g w→Anch' γ g w){vs:Nat}(h:SW2 P ty Wg End Anch γ vs g w):SW2 P ty Wg End' Anch' γ vs g w:=by
 obtain⟨h1,h2⟩:=h
 refine⟨h1,fun v hv hw=>⟨fun e=>?_,fun e=>?_⟩⟩
 ·obtain⟨g',h3,m,h4⟩:=(h2 v hv hw).1 e
  exact⟨g',h3,m,Goes.wide (fun _ _=>SW3.wide hE) h4⟩
 ·obtain⟨g',h3,m,h4⟩:=(h2 v hv hw).2 e
  exact⟨g',h3,m,Goes.wide hA h4⟩
theorem SW1.wide (hE:∀g,End g→End' g)(hA:∀g w,Anch γ g w→Anch' γ g w)(h:SW1 P ty Wg End Anch γ g w):SW1 P ty Wg End' Anch' γ g w:=by
 obtain⟨h1,h2⟩:=h
 refine⟨h1,fun v hv hw=>?_⟩
 obtain⟨g',h3,h4,h5⟩:=h2 v hv hw
 refine⟨g',h3,fun e=>?_,fun e=>?_⟩
 ·obtain⟨m,h6⟩:=h4 e
  exact⟨m,Goes.wide (fun _ _=>SKe.wide hE) h6⟩
 ·obtain⟨m,h6⟩:=h5 e
  exact⟨m,Goes.wide (fun _ _=>SW2.wide hE hA) h6⟩
theorem SKd.wide (hA:∀g w,Anch γ g w→Anch' γ g w)(h:SKd P ty Wg Anch γ g w):SKd P ty Wg Anch' γ g w:=by
 obtain⟨h1,g',h2,m,h3⟩:=h
 exact⟨h1,g',h2,m,Goes.wide hA h3⟩
end
section
variable {P:Program} {dfs:List Deferred} {γ:Gh} {N:Nat} {ρ ρ':Id→Pl} {t t':List (Nat×D)} {h h':HL} {a a':Act} {w w':World}
theorem A3 (s:SimN P dfs γ N ρ t h a w){bC:Id}{E E':TypeId}{l l':List D}(hC:look h bC=some (.row E l))(hfr:Fr (fun k=>k=(ρ bC).blk) w w')(hmore:w.heap.size<w'.heap.size)
  (hd:a'.defers=dfs) (hs:a'.tmps.size=N) (ht:∀k d,look t' k=some d→look t k=some d∧a'.tmps.getD k undef=a.tmps.getD k undef)
  (New:Id→Blk→Prop) (hblk:∀b x,look h' b=some x→b≠bC→(look h b=some x∧ρ' b=ρ b)∨(New b x∧look h b=none)) (hC':look h' bC=some (.row E' l')) (hρC:ρ' bC=ρ bC)
  (hrow:BlkOK P ((γ.plus fun k=>w.heap.size<k∧k<w'.heap.size).At w') ρ' h' w' bC (.row E' l'))
  (hnew:∀b x,New b x→(w.heap.size<(ρ' b).blk∧(ρ' b).blk<w'.heap.size)∧BlkOK P ((γ.plus fun k=>w.heap.size<k∧k<w'.heap.size).At w') ρ' h' w' b x)
  (hinj:∀b b' x x',New b x→New b' x'→(ρ' b).blk=(ρ' b').blk→b=b') (hlive:∀b,Live h b→Live h' b∧ρ' b=ρ b):
  SimN P dfs (γ.plus fun k=>w.heap.size<k∧k<w'.heap.size) N ρ' t' h' a' w':=by
 have hCo:=SimN.own s hC rfl
 have hold:∀k,k<w.heap.size→k≠(ρ bC).blk→w'.heap[k]?=w.heap[k]?:=fun k hk hne=>hfr.block k hk hne
 have hok:∀k,okOf (γ.At w) ρ h w k→okOf ((γ.plus fun k=>w.heap.size<k∧k<w'.heap.size).At w') ρ' h' w' k∧w'.heap[k]?=w.heap[k]?:=by
  rintro k ⟨⟨hk,hA⟩,hm⟩
  have hne:(ρ bC).blk≠k:=hm bC _ hC rfl
  have hA':γ.A k:=hA.elim id fun h=>by omega
  refine⟨⟨⟨by omega,.inl (hA'.imp .inl id)⟩,fun b x hx hmu=>?_⟩,hold k hk fun e=>hne e.symm⟩
  by_cases e:b=bC
  ·subst e;rw[hρC];exact hne
  rcases hblk b x hx e with⟨h1,h2⟩|⟨h1,_⟩
  ·rw[h2];exact hm b x h1 hmu
  ·have:=(hnew b x h1).1;omega
 refine⟨fun k hk=>.inr hk,fun k hk=>.inl (.inl hk),Fr.refl _ _,hd,hs,fun k d hk=>?_,fun b x hx=>?_,fun b x hx hl=>?_,fun b b' x x' hx hx' hl hl' he=>?_,fun g x hx=>?_,fun g zs hx=>?_⟩
 ·obtain⟨h1,h2⟩:=ht k d hk
  refine⟨(s.tmp k d h1).1,?_⟩
  rw[h2]
  exact(s.tmp k d h1).2.mono hlive hok
 ·by_cases e:b=bC
  ·subst e
   rw[hC'] at hx
   cases hx
   exact hrow
  rcases hblk b x hx e with⟨h1,h2⟩|⟨h1,_⟩
  ·refine BlkOK.monoA (s.blk b x h1) h2 hlive hok fun hm=>hold _ (SimN.own s h1 (bz hm)).1 fun e2=>e (s.inj b bC x _ h1 hC (bz hm) rfl e2)
  ·exact(hnew b x h1).2
 ·by_cases e:b=bC
  ·subst e
   rw[hρC]
   exact⟨by have:=hCo.1;omega,.inl (.inl hCo.2)⟩
  rcases hblk b x hx e with⟨h1,h2⟩|⟨h1,_⟩
  ·rw[h2]
   have:=SimN.own s h1 hl
   exact⟨by omega,.inl (.inl this.2)⟩
  ·have:=(hnew b x h1).1
   exact⟨this.2,.inl (.inr this)⟩
 ·have key:∀b x,look h' b=some x→x.live=true→(∃y,look h b=some y∧y.live=true∧ρ' b=ρ b)∨New b x:=by
   intro b x hx hl
   by_cases e:b=bC
   ·subst e;exact .inl ⟨_,hC,rfl,hρC⟩
   ·exact(hblk b x hx e).imp (fun⟨h1,h2⟩=>⟨x,h1,hl,h2⟩) And.left
  rcases key b x hx hl with⟨y,q1,q2,q3⟩|q1<;>rcases key b' x' hx' hl' with⟨y',r1,r2,r3⟩|r1
  ·rw[q3,r3] at he
   exact s.inj b b' y y' q1 r1 q2 r2 he
  ·rw[q3] at he
   have:=(hnew b' x' r1).1
   have:=(SimN.own s q1 q2).1
   omega
  ·rw[r3] at he
   have:=(hnew b x q1).1
   have:=(SimN.own s r1 r2).1
   omega
  ·exact hinj b b' x x' q1 r1 he
 ·obtain⟨⟨q1,q2,q3⟩,ad,q4⟩:=s.gl.1 g x hx
  have hA:γ.A g:=q1.elim id fun h=>by omega
  have hne:g≠(ρ bC).blk:=fun e=>q2 (e▸hCo.2)
  exact⟨⟨.inl (hA.imp .inl id),fun h=>h.elim q2 fun h=>by omega,by omega⟩,ad,(World.cell?_of_block (w:=w) (hold g q3 hne)).trans q4⟩
 ·obtain⟨⟨q1,q2,q3⟩,T,fz,q4⟩:=s.gl.2 g zs hx
  have hA:γ.A g:=q1.elim id fun h=>by omega
  have hne:g≠(ρ bC).blk:=fun e=>q2 (e▸hCo.2)
  exact⟨⟨.inl (hA.imp .inl id),fun h=>h.elim q2 fun h=>by omega,by omega⟩,T,fz,(hold g q3 hne).trans q4⟩
end
structure FixN (C Wg:Nat)(γ0:Gh)(w0:World)(γ:Gh)(w:World):Prop where
 X:γ.X=γ0.X
 S:¬γ.S C
 shape:∀o,γ0.X C o→ShpB C w0 w
 c:C<w.heap.size
 A:¬γ.A Wg
 wg:Wg<w.heap.size
section
variable {P:Program} {main:Bool} {C Wg:Nat} {γ0:Gh} {w0:World} {Stop:Gh→Goroutine→World→Prop}
theorem FixN.rely {γ:Gh}{w w1:World}(h:FixN C Wg γ0 w0 γ w)(hr:Rel γ w w1):FixN C Wg γ0 w0 γ w1:=
 ⟨h.X,h.S,fun o ho=>(h.shape o ho).trans (hr.shape C o (by rw[h.X];exact ho)),bU h.c hr.size,h.A,bU h.wg hr.size⟩
theorem FixN.own {γ:Gh}{w w':World}{es:Array Event}(h:FixN C Wg γ0 w0 γ w)(hg:Gua γ w w' es):FixN C Wg γ0 w0 (γ.grow w w') w':=
 ⟨h.X,fun hn=>hn.elim h.S fun hn=>by have:=h.c;omega,fun o ho=>(h.shape o ho).trans (ShpB.of (hg.fr.block C h.c h.S)),bU h.c hg.fr.size,fun hn=>by
  rcases hn with(hn|hn)|hn
  ·exact h.A (.inl hn)
  ·have:=h.wg;omega
  ·exact h.A (.inr hn),bU h.wg hg.fr.size⟩
theorem wy:∀(n:Nat) (γ:Gh) (g:Goroutine) (w:World),FixN C Wg γ0 w0 γ w→ @GoesG P (noPh P) main Stop n γ g w→ @GoesG P (noPh P) main (fun γ' g' w'=>Stop γ' g' w'∧FixN C Wg γ0 w0 γ' w') n γ g w:=by
 intro n
 induction n with
 |zero=>exact fun γ g w hf h w1 hr=>⟨h w1 hr,hf.rely hr⟩
 |succ n ih=>
  intro γ g w hf h
  rcases h with h|⟨hs,h⟩|⟨hs,h⟩
  ·exact .inl fun w1 hr=>⟨h w1 hr,hf.rely hr⟩
  ·exact .inr (.inl ⟨hs,fun w1 h1=>fo (h w1 h1) fun g' w' es ⟨d,x⟩=>⟨d,ih _ _ _ ((hf.rely h1).own d) x⟩⟩)
  ·exact(h w (Rel.refl _ _)).elim
theorem Ci {c:Code}{n:Nat}{Q:Gh→Exit→Act→World→Prop}{γ:Gh}{a:Act}{w:World}(hf:FixN C Wg γ0 w0 γ w)(hQ:∀γ e a w w1,Rel γ w w1→Q γ e a w→Q γ e a w1)(hn:∀γ e a w,Q γ e a w→e= .normal)(h:@wpG P (noPh P) main c n Q γ a w):
  @wpG P (noPh P) main c n (fun γ' e a' w'=>Q γ' e a' w'∧FixN C Wg γ0 w0 γ' w') γ a w:=by
 intro b k cs Stop m hk hc
 have h1:@GoesG P (noPh P) main (fun γ' g' w'=>∃a',g'=G (b.at a' k) cs∧Q γ' .normal a' w') (0+n) γ (G (b.at a (.code c::k)) cs) w:=
  h b k cs _ 0 hk fun γ' e a' w' q=>by
   have e0:=hn _ _ _ _ q
   subst e0
   exact fun w1 hr=>⟨a',rfl,hQ _ _ _ _ _ hr q⟩
 rw[gM] at h1
 refine @GoesG.bind P (noPh P) main _ _ _ _ _ _ _ (wy n _ _ _ hf h1) fun γ' g' w' hst=>?_
 obtain⟨⟨a',rfl,q⟩,f⟩:=hst w' (Rel.refl _ _)
 exact hc _ _ _ _ ⟨q,f⟩
end
theorem rt {P:Program}{dfs dfs':List Deferred}{γ γ':Gh}{N N':Nat}{ρ:Id→Pl}{t t':List (Nat×D)}{h:HL}{a a':Act}{w:World}(s:SimN P dfs γ N ρ t h a w)(hA:∀k,okOf (γ.At w) ρ h w k→γ'.A k)(hS:∀k,γ'.S k→γ.S k∨w.heap.size≤k)(hG:∀g,γ.A g→¬γ.S g→γ'.A g)
  (hd:a'.defers=dfs') (hs:a'.tmps.size=N') (ht:∀k d,look t' k=some d→k<N'∧Rep (okOf (γ.At w) ρ h w) w d (a'.tmps.getD k undef)):SimN P dfs' γ' N' ρ t' [] a' w:=by
 have hok:∀k,okOf (γ.At w) ρ h w k→okOf (γ'.At w) ρ [] w k∧w.heap[k]?=w.heap[k]?:=fun k hk=>⟨⟨⟨hk.1.1,.inl (hA k hk)⟩,fun b x hx=>(by cases hx)⟩,rfl⟩
 refine⟨fun k hk=>.inr hk,fun k hk=>.inl (.inl hk),Fr.refl _ _,hd,hs,fun k d hk=>⟨(ht k d hk).1,.pure ((ht k d hk).2.mono hok)⟩,fun b x hx=>(by cases hx),fun b x hx=>(by cases hx),fun b b' x x' hx=>(by cases hx),fun g x hx=>?_,fun g zs hx=>?_⟩
 ·obtain⟨⟨q1,q2,q3⟩,ad,q4⟩:=s.gl.1 g x hx
  have hA:γ.A g:=q1.elim id fun h=>by omega
  exact⟨⟨.inl (hG g hA q2),fun h=>(hS g h).elim q2 fun h=>by omega,q3⟩,ad,q4⟩
 ·obtain⟨⟨q1,q2,q3⟩,T,fz,q4⟩:=s.gl.2 g zs hx
  have hA:γ.A g:=q1.elim id fun h=>by omega
  exact⟨⟨.inl (hG g hA q2),fun h=>(hS g h).elim q2 fun h=>by omega,q3⟩,T,fz,q4⟩
theorem w7 {P:Program}{dfs dfs':List Deferred}{γ γ':Gh}{N N':Nat}{ρ:Id→Pl}{t t':List (Nat×D)}{h:HL}{a a':Act}{w:World}(s:SimN P dfs γ N ρ t h a w)(hS:∀k,γ'.S k→γ.S k∨w.heap.size≤k)(hG:∀g,γ.A g→¬γ.S g→γ'.A g)
  (hd:a'.defers=dfs') (hs:a'.tmps.size=N') (ht:∀k d,look t' k=some d→k<N'∧Rep (fun k=>k<w.heap.size∧γ'.A k) w d (a'.tmps.getD k undef)):SimN P dfs' γ' N' ρ t' [] a' w:=by
 have hok:∀k,(k<w.heap.size∧γ'.A k)→okOf (γ'.At w) ρ [] w k∧w.heap[k]?=w.heap[k]?:=fun k hk=>⟨⟨⟨hk.1,.inl hk.2⟩,fun b x hx=>(by cases hx)⟩,rfl⟩
 refine⟨fun k hk=>.inr hk,fun k hk=>.inl (.inl hk),Fr.refl _ _,hd,hs,fun k d hk=>⟨(ht k d hk).1,.pure ((ht k d hk).2.mono hok)⟩,fun b x hx=>(by cases hx),fun b x hx=>(by cases hx),fun b b' x x' hx=>(by cases hx),fun g x hx=>?_,fun g zs hx=>?_⟩
 ·obtain⟨⟨q1,q2,q3⟩,ad,q4⟩:=s.gl.1 g x hx
  have hA:γ.A g:=q1.elim id fun h=>by omega
  exact⟨⟨.inl (hG g hA q2),fun h=>(hS g h).elim q2 fun h=>by omega,q3⟩,ad,q4⟩
 ·obtain⟨⟨q1,q2,q3⟩,T,fz,q4⟩:=s.gl.2 g zs hx
  have hA:γ.A g:=q1.elim id fun h=>by omega
  exact⟨⟨.inl (hG g hA q2),fun h=>(hS g h).elim q2 fun h=>by omega,q3⟩,T,fz,q4⟩
end Go.Proofs.Ytbmnihglaokhmaa.Am
namespace Go.Proofs.Ytbmnihglaokhmaa.Am
open Go Go.RowKit Go.Conc Go.ConcN Go.Conc.Lib Go.ConcR.Gen Go.ConcN.Gen
open Go.ConcR (KK wgBlock WgAt stA smA rd wr mk DC0)
attribute [local irreducible] Mk ct Ari fF nD j7 cO dR jv gP At bt
set_option maxRecDepth 10000
noncomputable def body8:Code:=Try.f8.body.getD .skip
noncomputable def c7:Code:=match body8 with| .seq _ (.seq _ (.seq _ (.seq _ (.seq _ (.seq _ c)))))=>c|_=>.skip
noncomputable def fst7:Code→Code| .seq x _=>x|_=>.skip
noncomputable def snd7:Code→Code| .seq _ y=>y|_=>.skip
noncomputable def in7:Code→Code| .block _ c=>c| .loop c=>c|_=>.skip
noncomputable def ops7:Code→Array Oper| .region _ ops _=>ops|_=>#[]
noncomputable def o7:Array Oper:=ops7 (fst7 c7)
noncomputable def o8:Array Oper:=ops7 (fst7 (fst7 (snd7 c7)))
noncomputable def B8:Code:=in7 (in7 (snd7 (fst7 (snd7 c7))))
noncomputable def o9:Array Oper:=ops7 (fst7 B8)
noncomputable def in8:Code:=in7 (fst7 (snd7 (snd7 B8)))
noncomputable def o10:Array Oper:=ops7 (fst7 in8)
noncomputable def o11:Array Oper:=ops7 (fst7 (snd7 in8))
noncomputable def o12:Array Oper:=ops7 (snd7 (snd7 in8))
noncomputable def o13:Array Oper:=ops7 (snd7 (snd7 (snd7 B8)))
noncomputable def o14:Array Oper:=ops7 (fst7 (snd7 (snd7 c7)))
noncomputable def rest8:Code:=snd7 (snd7 (snd7 c7))
section
variable [PhC Try.prog] (b0 b1 b2 b3 b4 b5:Int) (ts:List Txn) (LL:List (List Int)) (C Wg n cp:Nat)
def tau (i:Nat):VSt:=⟨[(3,.dbox [.lst .txn ts]),(8,.dbox [.val (.slice (some ⟨C,0,none⟩) n cp)]),(9,.dbox [.int .i64 b0,.int .i64 b1,.int .i64 b2,.int .i64 b3,.int .i64 b4,.int .i64 b5]),(10,.val (.pointer (some ⟨Wg,0,none⟩))),(42,.lst (.lst (.int .i64)) LL),(43,.int .i64 n),(44,.int .i64 i)],[],4⟩
theorem Gi (hn:LL.length=n):AtT Try.prog 109 (fun _=>False) o8 (fun σ'=>ld 0 [] [3,8,9,10,42,43,44] σ' fun σ2=>∃_:Unit,True∧σ2=tau b0 b1 b2 b3 b4 b5 ts LL C Wg n cp 0)
  ⟨[(3,.dbox [.lst .txn ts]),(8,.dbox [.val (.slice (some ⟨C,0,none⟩) n cp)]),(9,.dbox [.int .i64 b0,.int .i64 b1,.int .i64 b2,.int .i64 b3,.int .i64 b4,.int .i64 b5]),(10,.val (.pointer (some ⟨Wg,0,none⟩))),(7,.lst (.lst (.int .i64)) LL)],[],4⟩:=by
 refine nN bf ?_
 conv=>whnf
 (repeat' first|refine st ?_|refine sa fun xe hxe=>?_|refine sb (fun hq=>?_) fun hq=>?_|exact aC)
 refine⟨(),trivial,?_⟩
 rw[hn]
 rfl
theorem Fx (i:Nat):AtT Try.prog 109 (fun _=>False) o9 (fun σ'=>ld 0 [] [3,8,9,10,42,43,44,45] σ' fun σ2=>∃_:Unit,True∧σ2=⟨(tau b0 b1 b2 b3 b4 b5 ts LL C Wg n cp i).t++[(45,.bool (decide (i<n)))],[],4⟩) (tau b0 b1 b2 b3 b4 b5 ts LL C Wg n cp i):=by
 refine nN bf ?_
 conv=>whnf
 (repeat' first|refine st ?_|refine sa fun xe hxe=>?_|refine sb (fun hq=>?_) fun hq=>?_|exact aC)
 refine⟨(),trivial,?_⟩
 simp only[tau,Int.ofNat_lt,fR,d5]
theorem Fu (i:Nat)(L:List Int)(hn:LL.length=n)(hL:LL[i]?=some L):AtT Try.prog 109 (fun _=>False) o10 (fun σ'=>ld 0 [] [3,8,9,10,42,43,44,11,12] σ' fun σ2=>∃_:Unit,True∧σ2=⟨(tau b0 b1 b2 b3 b4 b5 ts LL C Wg n cp i).t++[(11,.ptr 4 0),(12,.ptr 5 0)],[(4,.var 3 [.int .i64 i]),(5,.var 23 [.lst (.int .i64) L])],6⟩)
  ⟨(tau b0 b1 b2 b3 b4 b5 ts LL C Wg n cp i).t++[(45,.bool (decide (i<n)))],[],4⟩:=by
 have hi:i<LL.length:=(cz.1 hL).1
 refine nN bf ?_
 conv=>whnf
 (repeat' first|refine st ?_|refine sa fun xe hxe=>?_|refine sb (fun hq=>?_) fun hq=>?_|exact aC)
 refine⟨(),trivial,?_⟩
 rfl
omit [PhC Try.prog] in
theorem Fv (i:Nat)(L:List Int):Weak Try.prog 109 (fun _=>False) (VSt.toD ⟨(tau b0 b1 b2 b3 b4 b5 ts LL C Wg n cp i).t++[(11,.ptr 4 0),(12,.ptr 5 0)],[(4,.var 3 [.int .i64 i]),(5,.var 23 [.lst (.int .i64) L])],6⟩)
  (VSt.toD ⟨(tau b0 b1 b2 b3 b4 b5 ts LL C Wg n cp i).t++[(11,.dbox [.int .i64 i]),(12,.dbox [.lst (.int .i64) L])],[],4⟩):=by
 refine Weak.trans (pU [(4,0),(5,0)]) (pV (g:=id) ⟨fun b x' hx=>(by cases hx),fun b c x y hx=>(by cases hx)⟩ (fun k d' hk=>?_) (fun b hb=>hb.elim) fun b _=>rfl)
 simp only[VSt.toD,tau,toT,fR,d5,bI,dt,look] at hk
 repeat' split at hk
 all_goals first
  |(subst_vars;cases hk;first|exact⟨_,rfl,.pure _ rfl⟩|exact⟨_,rfl,.box _ _ rfl⟩)
  |cases hk
theorem Fw (i:Nat)(hi:i<100):AtT Try.prog 109 (fun _=>False) o13 (fun σ'=>ld 0 [] [3,8,9,10,42,43,44] σ' fun σ2=>∃_:Unit,True∧σ2=tau b0 b1 b2 b3 b4 b5 ts LL C Wg n cp (i+1)) (tau b0 b1 b2 b3 b4 b5 ts LL C Wg n cp i):=by
 refine nN bf ?_
 conv=>whnf
 (repeat' first|refine st ?_|refine sa fun xe hxe=>?_|refine sb (fun hq=>?_) fun hq=>?_|exact aC)
 refine⟨(),trivial,?_⟩
 simp[tau]
end
end Go.Proofs.Ytbmnihglaokhmaa.Am
namespace Go.Proofs.Ytbmnihglaokhmaa.Am
open Go Go.RowKit Go.Conc Go.ConcN Go.Conc.Lib Go.ConcR.Gen Go.ConcN.Gen
open Go.ConcR (KK wgBlock WgAt stA smA rd wr mk DC0)
attribute [local irreducible] Mk ct Ari fF nD j7 cO dR jv gP At bt
set_option maxRecDepth 10000
noncomputable def Y9:Code:=snd7 B8
noncomputable def Z9:Code:=snd7 Y9
noncomputable def c14:Code:=snd7 (snd7 c7)
theorem Gs:B8= .seq (.region 9 o9 false) Y9:=by kernel_rfl
theorem Gv:Y9= .seq (.cond (.tmp 45) .skip (.exit 0)) Z9:=by kernel_rfl
theorem GK:Z9= .seq (.block 1 in8) (.region 13 o13 false):=by kernel_rfl
theorem Gb:in8= .seq (.region 10 o10 false) (.seq (.region 11 o11 false) (.region 12 o12 false)):=by kernel_rfl
theorem FQ:c14= .seq (.region 14 o14 false) rest8:=by kernel_rfl
theorem GM:c7= .seq (.region 7 o7 false) (.seq (.seq (.region 8 o8 false) (.block 0 (.loop B8))) c14):=by kernel_rfl
theorem Gm:List.range o11.size=[0]:=by kernel_rfl
theorem Gn:List.range o12.size=[0,1]:=by kernel_rfl
theorem Gp:List.range o14.size=[0]:=by kernel_rfl
theorem GD:o11[0]?=some (o11.getD 0 default):=by kernel_rfl
theorem GS:o12[0]?=some (o12.getD 0 default):=by kernel_rfl
theorem F5:o12[1]?=some (o12.getD 1 default):=by kernel_rfl
theorem GE:o14[0]?=some (o14.getD 0 default):=by kernel_rfl
theorem GT:(o11.getD 0 default).guard=none:=by kernel_rfl
theorem GU:(o12.getD 0 default).guard=none:=by kernel_rfl
theorem Gc:(o12.getD 1 default).guard=none:=by kernel_rfl
theorem GV:(o14.getD 0 default).guard=none:=by kernel_rfl
theorem GW:(o11.getD 0 default).op= .call {callee:=.value (.func 32),args:=#[.tmp 10,.const (.int .i64 1)],argTypes:=#[70,3]}:=by kernel_rfl
theorem GX:(o12.getD 0 default).op= .makeFunc (.func 33) #[] #[.tmp 10,.tmp 9,.tmp 3,.tmp 12,.tmp 8,.tmp 11]:=by kernel_rfl
theorem Gk:(o12.getD 1 default).op= .go {callee:=.value (.tmp 50),args:=#[],argTypes:=#[]}:=by kernel_rfl
theorem GY:(o14.getD 0 default).op= .call {callee:=.value (.func 36),args:=#[.tmp 10],argTypes:=#[70]}:=by kernel_rfl
theorem GN:(o11.getD 0 default).dst=some 49:=by kernel_rfl
theorem GO:(o12.getD 0 default).dst=some 50:=by kernel_rfl
theorem FV:(o12.getD 1 default).dst=none:=by kernel_rfl
theorem GP:(o14.getD 0 default).dst=some 52:=by kernel_rfl
def Dl:List Nat:=[10,42,43,44,45,46,47,48,11,12,49,50,51]
def tF (L:List Oper):Bool:=L.all fun o=>match o.dst with|some d=>Dl.contains d|none=>true
def Keep (a0 a:Act):Prop:=∀k,k∉Dl→a.tmps.getD k undef=a0.tmps.getD k undef
theorem Keep.off {L:List Oper}{a0 a a':Act}(h:Keep a0 a)(hL:tF L=true)(ho:Off L a a'):Keep a0 a':=fun k hk=>(ho k fun o hm e=>by
 have:=bc.1 hL o hm
 rw[e] at this
 exact hk (by simpa using this)).trans (h k hk)
theorem Keep.put {a0 a:Act}{d:Nat}{v:Value}(h:Keep a0 a)(hd:d∈Dl):Keep a0 (a.put (some d) v):=fun k hk=>(gF fun e=>hk (by cases e;exact hd)).trans (h k hk)
theorem GQ:tF o8.toList=true:=by kernel_rfl
theorem GB:tF o9.toList=true:=by kernel_rfl
theorem F1:tF o10.toList=true:=by kernel_rfl
theorem F2:tF o13.toList=true:=by kernel_rfl
section
variable {P:Program} {main:Bool} {b:Frame} {a:Act} {k:List Item} {cs:List Frame} {w:World}
theorem dJ {c x y:Code}(e:c= .seq x y):stepG P main (G (b.at a (.code c::k)) cs) w= .go (G (b.at a (.code x:: .code y::k)) cs) w:=by subst e;exact stepG_seq
theorem qF {ops:Array Oper}{i:Nat}{rest:List Nat}{o:Oper}{f:FuncId}{fn:Func}{c:Code}{args:Array Operand}{ats:Array TypeId}{vs:Array Value}(ho:ops[i]?=some o)(hw:Region.wanted o (yielded ops a.tmps)=true)(hk:b.kind≠ .early)
  (hop : o.op = .call { callee := .value (.func f), args, argTypes := ats }) (hf : P.funcs[f]? = some fn) (hname : (fn.name == "runtime.NumGoroutine") = false) (hb : fn.body = some c) (hv : args.map a.eval = vs) :
  stepG P main (G (b.at a (.inRegion ops (i::rest)::k)) cs) w= .go (G ((base f).at {tmps:=vs++Array.replicate (fn.ntmps-vs.size) undef,defers:=[]} [.code c]) (b.at a (.inRegion ops (i::rest)::k)::cs)) w #[]:=by
 have hb':fn.body.isNone=false:=by rw[hb];rfl
 rw[stepG_enter ho hw hk (run_call_body hop hf hname hb'),hv,enter_at _ hf hb]
 have:listed P b.fn a o w= #[]:=by unfold listed;rw[events_call_body hop hf hname hb'];exact seen_none P _
 rw[this]
theorem qm {ops:Array Oper}{i:Nat}{rest:List Nat}{o:Oper}{f:Fn}{args:Array Operand}{vs:Array Value}(ho:ops[i]?=some o)(hw:Region.wanted o (yielded ops a.tmps)=true)(hk:b.kind≠ .early)
  (hop:o.op= .makeFunc f #[] args) (hv:args.map a.eval=vs):
  stepG P main (G (b.at a (.inRegion ops (i::rest)::k)) cs) w= .go (G (b.at (a.put o.dst (.func f #[] vs)) (.inRegion ops rest::k)) cs) w #[]:=by
 have hr:(execOp a.eval o).run P w= .ok (.value (.func f #[] vs)) w:=by
  unfold execOp
  simp[hop,Instr.makeFunc,hv]
 have he:(execOp a.eval o).events P w #[]= #[]:=by
  unfold execOp
  simp[hop,Instr.makeFunc]
 rw[stepG_value ho hw hk hr]
 unfold listed
 rw[he,seen_none]
theorem CH {ops:Array Oper}{i:Nat}{rest:List Nat}{o:Oper}{f:FuncId}{x:Operand}{vs:Array Value}(ho:ops[i]?=some o)(hw:Region.wanted o (yielded ops a.tmps)=true)(hk:b.kind≠ .early)
  (hop:o.op= .go {callee:=.value x,args:=#[],argTypes:=#[]}) (hx:a.eval x= .func (.func f) #[] vs):
  stepG P main (G (b.at a (.inRegion ops (i::rest)::k)) cs) w= .spawn (G (b.at (a.put o.dst undef) (.inRegion ops rest::k)) cs) (born P {target:=.fn (.func f) vs,args:=#[]}) w #[]:=by
 have hr:(execOp a.eval o).run P w= .ok (.spawn {target:=.fn (.func f) vs,args:=#[]}) w:=by
  unfold execOp
  simp[hop,resolve,Deferred.ofValue,hx]
 have he:(execOp a.eval o).events P w #[]= #[]:=by
  unfold execOp
  simp[hop,resolve,Deferred.ofValue,hx]
 rw[stepG_spawn ho hw hk hr rfl]
 unfold listed
 rw[he,seen_none]
end
def sY (B:List Int)(ts:List Txn)(L:List Nat):List (Int×Int):=(dS B (di ts L)).map fun p=>(p.1,(bR ⟨b7 B (di ts L),0⟩ (di ts L)).b.getD p.1.toNat 0)
def CR (B:List Int)(ts:List Txn)(L:List Nat):Int:=(bR ⟨b7 B (di ts L),0⟩ (di ts L)).f
def zd (B:List Int)(ts:List Txn)(L:List Nat):List Bool:=dx ⟨b7 B (di ts L),0⟩ (di ts L)
def Xs8 (C:Nat)(j b o:Nat):Prop:=b=C∧j*3≤o∧o<j*3+3
def qb (B:List Int)(ts:List Txn)(lanes:List (List Nat))(C j:Nat):Gh→World→Prop:=LaneRes C j (sY B ts (lanes.getD j [])) (CR B ts (lanes.getD j [])) (zd B ts (lanes.getD j []))
def DV (dfs:List Deferred)(a0 a:Act):Prop:=a.defers=dfs∧a.tmps.size=109∧Keep a0 a
def nf (dfs:List Deferred)(a0:Act)(b:Frame)(k:List Item)(cs:List Frame)(Wg:Nat)(γ:Gh)(g:Goroutine)(w:World):Prop:=
 ∃a,DV dfs a0 a∧AnchG zb Wg (b.at a (.inRegion o14 [0]:: .code rest8::k)) cs γ g w
def E5 (dfs:List Deferred)(a0:Act)(b:Frame)(k:List Item)(cs:List Frame)(g:Goroutine):Prop:=
 ∃a,DV dfs a0 a∧EndG Try.prog (G (b.at (a.put (some 52) (.tuple #[])) (.inRegion o14 []:: .code rest8::k)) cs) g
section
variable {dfs:List Deferred} {a0:Act} {b:Frame} {k:List Item} {cs:List Frame} {Wg C n cp:Nat} {b0 b1 b2 b3 b4 b5:Int} {ts:List Txn} {lanes:List (List Nat)}
structure Good8 (dfs:List Deferred)(a0:Act)(Wg C n cp:Nat)(b0 b1 b2 b3 b4 b5:Int)(ts:List Txn)(lanes:List (List Nat))(i:Nat)(γ:Gh)(a:Act)(w:World):Prop where
 sim:∃ρ,SimN Try.prog dfs γ 109 ρ (toT (tau b0 b1 b2 b3 b4 b5 ts (lanes.map fun L=>L.map fun i:Nat=>(i:Int)) C Wg n cp i).t) [] a w
 keep:Keep a0 a
 X:γ.X=Xr n (Xs8 C) i
 shape:i<n→∃c:Array Value,w.heap[C]?=some (.cells c 74 (0,0))∧n*3≤c.size
 fx:FixN C Wg γ w γ w
noncomputable def Stop8 (dfs:List Deferred) (a0:Act) (b:Frame) (k:List Item) (cs:List Frame) (Wg C n:Nat) (B:List Int) (ts:List Txn) (lanes:List (List Nat)):Nat→Gh→Goroutine→World→Prop
 |0=>SWait Try.prog 70 Wg (nf dfs a0 b k cs Wg)
 |r+1=>SAdd Try.prog 70 Wg n (Xs8 C) (qb B ts lanes C) (n-(r+1)) (Spw Try.prog 70 Wg (nf dfs a0 b k cs Wg) n (Xs8 C) (qb B ts lanes C) r)
theorem BW {B:List Int}{r:Nat}{γ:Gh}{g:Goroutine}{w:World}{m:Nat}(h:@GoesG Try.prog (noPh Try.prog) true (Stop8 dfs a0 b k cs Wg C n B ts lanes r) m γ g w):
  Spw Try.prog 70 Wg (nf dfs a0 b k cs Wg) n (Xs8 C) (qb B ts lanes C) r γ g w:=by
 cases r<;>exact⟨m,h⟩
theorem zJ {N:Nat}{γ:Gh}{ρ0:Id→Pl}{σ:St}{a:Act}{w w1:World}(hr:Rel γ w w1)(h:SimS Try.prog dfs γ N ρ0 (fun _=>False) σ a w):SimS Try.prog dfs γ N ρ0 (fun _=>False) σ a w1:=by
 obtain⟨q1,q2,ρ,q3,s⟩:=h
 exact⟨q1,q2,ρ,q3,SimN.rely s hr⟩
theorem lT {N:Nat}{γ:Gh}{ρ:Id→Pl}{t:VT}{a:Act}{w:World}(s:SimN Try.prog dfs γ N ρ (toT t) [] a w):SimS Try.prog dfs γ N ρ (fun _=>False) (VSt.toD ⟨t,[],4⟩) a w:=
 ⟨fun b _=>rfl,fun b hb=>hb.elim,ρ,fun b hb=>hb.elim,s⟩
end
end Go.Proofs.Ytbmnihglaokhmaa.Am
namespace Go.Proofs.Ytbmnihglaokhmaa.Am
open Go Go.RowKit Go.Conc Go.ConcN Go.Conc.Lib Go.ConcR.Gen Go.ConcN.Gen
open Go.ConcR (KK wgBlock WgAt stA smA rd wr mk DC0)
attribute [local irreducible] Mk ct Ari fF nD j7 cO dR jv gP At bt
set_option maxRecDepth 10000
section
attribute [local instance] noPh
variable {dfs:List Deferred} {a0:Act} {b:Frame} {k:List Item} {cs:List Frame} {Wg C n cp:Nat} {b0 b1 b2 b3 b4 b5:Int} {ts:List Txn} {lanes:List (List Nat)}
def QT (dfs:List Deferred)(ρ0:Id→Pl)(σ:VSt)(L:List Oper)(a:Act)(γ':Gh)(e:Exit)(a':Act)(w':World):Prop:=e= .normal∧(∃_:Unit,SimS Try.prog dfs γ' 109 ρ0 (fun _=>False) σ.toD a' w')∧Off L a a'
theorem QT.rely {ρ0:Id→Pl}{σ:VSt}{L:List Oper}{a:Act}:∀γ e a' w w1,Rel γ w w1→QT dfs ρ0 σ L a γ e a' w→QT dfs ρ0 σ L a γ e a' w1:=fun γ e a' w w1 hr ⟨q1,⟨x,q2⟩,q3⟩=>⟨q1,⟨x,zJ hr q2⟩,q3⟩
theorem uS {ops:Array Oper}{fs ts:List Nat}{σ σ1:VSt}(h:AtT Try.prog 109 (fun _=>False) ops (fun σ'=>ld 0 fs ts σ' fun σ2=>∃_:Unit,True∧σ2=σ1) σ):
  ∃m,∀dfs γ γ0 w0 ρ0 a w (id C Wg:Nat),SimS Try.prog dfs γ 109 ρ0 (fun _=>False) σ.toD a w→FixN C Wg γ0 w0 γ w→wpG Try.prog true (.region id ops false) m (fun γ' e a' w'=>QT dfs ρ0 σ1 ops.toList a γ' e a' w'∧FixN C Wg γ0 w0 γ' w') γ a w:=by
 obtain⟨m,h⟩:=AtT.go (P:=Try.prog) (K:=fun _=>False) (m:=0) (fun b hb=>hb.elim) h
 refine⟨m,fun dfs γ γ0 w0 ρ0 a w id C Wg hs hf=>Ci hf QT.rely (fun γ e a w q=>q.1) ((h true dfs γ ρ0 a w id hs).mono (aN _) ?_)⟩
 rintro γ' e a' w' ⟨rfl,⟨x,_,q⟩,o⟩
 exact⟨rfl,⟨x,q⟩,o⟩
theorem DZ {a:Act}{v:Value}(h:a.eval (.tmp 10)=v):(#[.tmp 10]:Array Operand).map a.eval= #[v]:=by simp[h]
theorem D0 {a:Act}{v:Value}(h:a.eval (.tmp 10)=v):(#[.tmp 10,.const (.int .i64 1)]:Array Operand).map a.eval= #[v,.int .i64 1]:=by
 simp only[List.map_toArray,bI,dt,h];rfl
theorem y6 (hk:b.kind≠ .early):∃m,∀γ a w,Good8 dfs a0 Wg C n cp b0 b1 b2 b3 b4 b5 ts lanes n γ a w→GoesG Try.prog true (Stop8 dfs a0 b k cs Wg C n [b0,b1,b2,b3,b4,b5] ts lanes 0) m γ (G (b.at a (.code B8:: .inLoop B8:: .inBlock 0:: .code c14::k)) cs) w:=by
 obtain⟨n9,h9⟩:=uS (Fx b0 b1 b2 b3 b4 b5 ts (lanes.map fun L=>L.map fun i:Nat=>(i:Int)) C Wg n cp n)
 refine⟨6+n9+1,?_⟩
 rintro γ a w ⟨⟨ρ,s⟩,hkeep,hX,hsh,hfx⟩
 refine GoesG.quiet rfl (fun w=>dJ Gs) ?_
 refine h9 dfs γ γ w ρ a w 9 C Wg (lT s) hfx b _ cs _ 6 hk ?_
 rintro γ' e a' w' ⟨⟨rfl,⟨_,-,-,ρ',-,s'⟩,off⟩,fx⟩
 refine GoesG.quiet (n:=5) rfl (fun w=>dJ Gv) ?_
 have e45:a'.eval (.tmp 45)= .bool false:=by
  have:=(Sim.eval s' (x:=.tmp 45) (d:=.bool (decide (n<n))) rfl).bool_inv
  simpa using this
 have e10:=(Sim.eval s' (x:=.tmp 10) (d:=.val (.pointer (some ⟨Wg,0,none⟩))) rfl).val_inv.1
 refine GoesG.quiet (n:=4) rfl (fun w=>stepG_cond e45) ?_
 refine GoesG.quiet (n:=3) rfl (fun w=>stepG_exit rfl) ?_
 refine GoesG.quiet (n:=2) rfl (fun w=>dJ FQ) ?_
 refine GoesG.quiet (n:=1) rfl (fun w=>stepG_region) ?_
 rw[Gp]
 refine GoesG.quiet (n:=0) rfl (fun w=>qF GE (cU GV) hk GY iY.f_wait (nm_wait zb) rfl (DZ e10)) ?_
 refine GoesG.stop fun w1 hr=>⟨fun hlive=>?_,rfl⟩
 have hw:=xm (γ:=γ') (b₀:=b) (a₀:=a') (ops₀:=o14) (i₀:=0) (rest₀:=[]) (k₀:=.code rest8::k) (cs:=cs) iY w1 hlive
 exact Goes.wide (fun g w h=>SKd.wide (fun g w ha=>⟨a',⟨s'.defers,s'.size,hkeep.off GB off⟩,ha⟩) h) hw
theorem kM {a:Act}{d:Nat}{v:Value}(h:d<a.tmps.size):(a.put (some d) v).eval (.tmp d)=v:=by
 simp[Act.put,Act.eval,bV,h]
theorem tN {a:Act}{d e:Nat}{v:Value}(h:d≠e):(a.put (some d) v).eval (.tmp e)=a.eval (.tmp e):=by
 simp[Act.put,Act.eval,bV,kQ h]
theorem iT {a:Act}{d:Option Nat}{v:Value}:(a.put d v).tmps.size=a.tmps.size:=by cases d<;>simp[Act.put]
theorem gu {a:Act}{d:Option Nat}{v:Value}:(a.put d v).defers=a.defers:=by cases d<;>rfl
theorem y7 (hk:b.kind≠ .early)(hb:mV ⟨[b0,b1,b2,b3,b4,b5],0⟩)(hv:∀t∈ts,bZ t=true)(hLs:∀L∈lanes,(∀i∈L,i<ts.length)∧L.length≤16)(hn:lanes.length=n)(hn16:n<100)(hCW:C≠Wg){r i:Nat}(hi:i+(r+1)=n)
  (IH:∃m,∀γ a w,Good8 dfs a0 Wg C n cp b0 b1 b2 b3 b4 b5 ts lanes (i+1) γ a w→GoesG Try.prog true (Stop8 dfs a0 b k cs Wg C n [b0,b1,b2,b3,b4,b5] ts lanes r) m γ (G (b.at a (.code B8:: .inLoop B8:: .inBlock 0:: .code c14::k)) cs) w):
  ∃m,∀γ a w,Good8 dfs a0 Wg C n cp b0 b1 b2 b3 b4 b5 ts lanes i γ a w→GoesG Try.prog true (Stop8 dfs a0 b k cs Wg C n [b0,b1,b2,b3,b4,b5] ts lanes (r+1)) m γ (G (b.at a (.code B8:: .inLoop B8:: .inBlock 0:: .code c14::k)) cs) w:=by
 obtain⟨mI,IH⟩:=IH
 have hi':i<n:=by omega
 have hSt:Stop8 dfs a0 b k cs Wg C n [b0,b1,b2,b3,b4,b5] ts lanes (r+1)=SAdd Try.prog 70 Wg n (Xs8 C) (qb [b0,b1,b2,b3,b4,b5] ts lanes C) i (Spw Try.prog 70 Wg (nf dfs a0 b k cs Wg) n (Xs8 C) (qb [b0,b1,b2,b3,b4,b5] ts lanes C) r):=by
  simp only[Stop8]
  rw[show n-(r+1)=i by omega]
 rw[hSt]
 obtain⟨L,hL⟩:∃L,lanes[i]?=some L:=⟨_,a6 (by omega)⟩
 have hLm:L∈lanes:=dm hL
 have hLg:lanes.getD i []=L:=by simp[aX,hL]
 have hLL:(lanes.map fun L=>L.map fun i:Nat=>(i:Int))[i]?=some (L.map fun i:Nat=>(i:Int)):=by simp[hL]
 obtain⟨n9,h9⟩:=uS (Fx b0 b1 b2 b3 b4 b5 ts (lanes.map fun L=>L.map fun i:Nat=>(i:Int)) C Wg n cp i)
 obtain⟨n10,h10⟩:=uS (Fu b0 b1 b2 b3 b4 b5 ts (lanes.map fun L=>L.map fun i:Nat=>(i:Int)) C Wg n cp i (L.map fun i:Nat=>(i:Int)) (by simp[hn]) hLL)
 obtain⟨n13,h13⟩:=uS (Fw b0 b1 b2 b3 b4 b5 ts (lanes.map fun L=>L.map fun i:Nat=>(i:Int)) C Wg n cp i (by omega))
 refine⟨(3+n10+6)+n9+1,?_⟩
 rintro γ a w ⟨⟨ρ,s⟩,hkeep,hX,hsh,hfx⟩
 refine GoesG.quiet rfl (fun w=>dJ Gs) ?_
 refine h9 dfs γ γ w ρ a w 9 C Wg (lT s) hfx b _ cs _ (3+n10+6) hk ?_
 rintro γ1 e a1 w1 ⟨⟨rfl,⟨_,-,-,ρ1,-,s1⟩,off1⟩,fx1⟩
 refine GoesG.quiet (n:=3+n10+5) rfl (fun w=>dJ Gv) ?_
 have e45:a1.eval (.tmp 45)= .bool true:=by
  have:=(Sim.eval s1 (x:=.tmp 45) (d:=.bool (decide (i<n))) rfl).bool_inv
  simpa[hi'] using this
 refine GoesG.quiet (n:=3+n10+4) rfl (fun w=>stepG_cond e45) ?_
 refine GoesG.quiet (n:=3+n10+3) rfl (fun w=>stepG_skip) ?_
 refine GoesG.quiet (n:=3+n10+2) rfl (fun w=>dJ GK) ?_
 refine GoesG.quiet (n:=3+n10+1) rfl (fun w=>stepG_block) ?_
 refine GoesG.quiet (n:=3+n10) rfl (fun w=>dJ Gb) ?_
 refine h10 dfs γ1 γ w ρ1 a1 w1 10 C Wg (lT s1) fx1 b _ cs _ 3 hk ?_
 rintro γ2 e a2 w2 ⟨⟨rfl,⟨_,q2⟩,off2⟩,fx2⟩
 obtain⟨-,-,ρ2,-,s2⟩:=Fv b0 b1 b2 b3 b4 b5 ts (lanes.map fun L=>L.map fun i:Nat=>(i:Int)) C Wg n cp i (L.map fun i:Nat=>(i:Int)) _ _ _ _ _ q2
 refine GoesG.quiet (n:=2) rfl (fun w=>stepG_seq) ?_
 refine GoesG.quiet (n:=1) rfl (fun w=>stepG_region) ?_
 rw[Gm]
 have e10:=(Sim.eval s2 (x:=.tmp 10) (d:=.val (.pointer (some ⟨Wg,0,none⟩))) rfl).val_inv.1
 refine GoesG.quiet (n:=0) rfl (fun w=>qF GD (cU GT) hk GW iY.f_add (nm_add zb) rfl (D0 e10)) ?_
 have ed:(o11[0]?).bind (fun x:Oper=>x.dst)=some 49:=by rw[GD];exact GN
 have hszT:a2.tmps.size=109:=s2.size
 have hkeep2:Keep a0 a2:=(hkeep.off GB off1).off F1 off2
 have hXi:γ.X C (i*3):=by rw[hX];exact⟨i,aN _,hi',rfl,by omega,by omega⟩
 refine GoesG.stop fun w3 hr3=>⟨fun hlive=>?_,rfl⟩
 refine Co (L:=zb) (γ:=γ2) (F:=fun w'=>SimN Try.prog dfs γ2 109 ρ2 _ [] a2 w'∧FixN C Wg γ w γ2 w') (b₀:=b) (a₀:=a2) (ops₀:=o11) (i₀:=0) (rest₀:=[]) (k₀:=.code (.region 12 o12 false):: .inBlock 1:: .code (.region 13 o13 false):: .inLoop B8:: .inBlock 0:: .code c14::k) (cs:=cs)
  iY (fun w w' hr h=>⟨SimN.rely h.1 hr,h.2.rely hr⟩) fx2.A (fun o ho=>?_) ?_ w3 ⟨⟨SimN.rely s2 hr3,fx2.rely hr3⟩,hlive⟩
 ·rw[fx2.X,hX] at ho
  obtain⟨_,_,_,e,_⟩:=ho
  exact hCW e.symm
 rintro w4 ⟨s4,f4⟩
 rw[ed]
 refine⟨3,GoesG.quiet (n:=2) rfl (fun w=>stepG_region_end) ?_⟩
 refine GoesG.quiet (n:=1) rfl (fun w=>stepG_region) ?_
 rw[Gn]
 have hvs:(#[.tmp 10,.tmp 9,.tmp 3,.tmp 12,.tmp 8,.tmp 11]:Array Operand).map (a2.put (some 49) (.tuple #[])).eval= #[.pointer (some ⟨Wg,0,none⟩),a2.eval (.tmp 9),a2.eval (.tmp 3),a2.eval (.tmp 12),a2.eval (.tmp 8),a2.eval (.tmp 11)]:=by
  simp[tN,e10]
 refine GoesG.quiet (n:=0) rfl (fun w=>qm GS (cU GU) hk GX hvs) ?_
 rw[GO]
 refine GoesG.stop fun w5 hr5=>?_
 replace s4:=SimN.rely s4 hr5
 replace f4:=f4.rely hr5
 refine⟨rfl,_,_,CH F5 (cU Gc) hk Gk (kM (by rw[iT];omega)),?_,?_⟩
 ·-- the worker
  obtain⟨c0,hc0,hc1⟩:=hsh hi'
  obtain⟨c5,hc5,hc6⟩:=f4.shape _ hXi c0 _ _ hc0
  have hw:=vp (Wg:=Wg) (C:=C) (n:=n) (cp:=cp) (j:=i) (E:=74) (γ:=γ2.take (Xs8 C i)) (w:=w5) (ρ0:=ρ2) (v1:=a2.eval (.tmp 9)) (v2:=a2.eval (.tmp 3)) (v3:=a2.eval (.tmp 12)) (v4:=a2.eval (.tmp 8)) (v5:=a2.eval (.tmp 11)) hb hv (hLs L hLm).1 (hLs L hLm).2 hi'
   (rt s4 (fun k hk=>.inr (hk.1.2.elim id fun h=>by have:=hk.1.1;omega)) (fun k hk=>hk.elim) (fun g hg _=>.inr hg) rfl rfl fun k d hk=>?_) (fun x hx=>⟨rfl,by omega,by omega⟩) (fun h=>h) ⟨c5,hc5,by omega⟩
  ·show∃m,@GoesG Try.prog (pubPh Try.prog) false (WDone Try.prog 70 Wg (qb [b0,b1,b2,b3,b4,b5] ts lanes C i)) m (γ2.take (Xs8 C i)) _ w5
   unfold qb
   rw[hLg]
   exact hw
  ·simp only[toT,bI,dt,look] at hk
   repeat' split at hk
   all_goals first
    |(subst_vars;cases hk;exact⟨by omega,.val _ rfl⟩)
    |(subst_vars;cases hk;exact⟨by omega,(Sim.eval s4 (x:=.tmp 9) rfl).box_inv⟩)
    |(subst_vars;cases hk;exact⟨by omega,(Sim.eval s4 (x:=.tmp 3) rfl).box_inv⟩)
    |(subst_vars;cases hk;exact⟨by omega,(Sim.eval s4 (x:=.tmp 12) rfl).box_inv⟩)
    |(subst_vars;cases hk;exact⟨by omega,(Sim.eval s4 (x:=.tmp 8) rfl).box_inv⟩)
    |(subst_vars;cases hk;exact⟨by omega,(Sim.eval s4 (x:=.tmp 11) rfl).box_inv⟩)
    |cases hk
 ·-- the next round
  rw[FV]
  have hA3:∀k,(γ2.give n (Xs8 C) (i+1)).A k→γ2.A k:=fun k hk=>hk.elim (fun h=>h.elim) id
  have s5:SimN Try.prog dfs (γ2.give n (Xs8 C) (i+1)) 109 ρ2 (toT (tau b0 b1 b2 b3 b4 b5 ts (lanes.map fun L=>L.map fun i:Nat=>(i:Int)) C Wg n cp i).t) [] (((a2.put (some 49) (.tuple #[])).put (some 50) (.func (.func 33) #[] #[.pointer (some ⟨Wg,0,none⟩),a2.eval (.tmp 9),a2.eval (.tmp 3),a2.eval (.tmp 12),a2.eval (.tmp 8),a2.eval (.tmp 11)])).put none undef) w5:=by
   refine rt s4 (fun k hk=>.inr (hk.1.2.elim id fun h=>by have:=hk.1.1;omega)) (fun k hk=>hk.elim) (fun g hg _=>.inr hg) (by rw[gu,gu,gu];exact s2.defers) (by rw[iT,iT,iT];exact hszT) fun k d hk=>?_
   have hq:look (toT ((tau b0 b1 b2 b3 b4 b5 ts (lanes.map fun L=>L.map fun i:Nat=>(i:Int)) C Wg n cp i).t++[(11,.dbox [.int .i64 i]),(12,.dbox [.lst (.int .i64) (L.map fun i:Nat=>(i:Int))])])) k=some d∧d.pure0=true∧k≠49∧k≠50:=by
    simp only[tau,toT,fR,d5,bI,dt,look] at hk⊢
    repeat' split at hk
    all_goals first
     |(subst_vars;cases hk;exact⟨rfl,rfl,by omega,by omega⟩)
     |cases hk
   obtain⟨h1,h2⟩:=s4.tmp k d hq.1
   refine⟨h1,?_⟩
   have e:(((a2.put (some 49) (.tuple #[])).put (some 50) (.func (.func 33) #[] #[.pointer (some ⟨Wg,0,none⟩),a2.eval (.tmp 9),a2.eval (.tmp 3),a2.eval (.tmp 12),a2.eval (.tmp 8),a2.eval (.tmp 11)])).put none undef).tmps.getD k undef=a2.tmps.getD k undef:=
    (gF (by simp)).trans ((gF fun e=>hq.2.2.2 (by cases e;rfl)).trans (gF fun e=>hq.2.2.1 (by cases e;rfl)))
   rw[e]
   exact h2.rep0 hq.2.1
  have f5:FixN C Wg (γ2.give n (Xs8 C) (i+1)) w5 (γ2.give n (Xs8 C) (i+1)) w5:=⟨rfl,fun h=>h,fun o _=>ShpB.of rfl,f4.c,fun h=>f4.A (hA3 _ h),f4.wg⟩
  refine BW (m:=mI+1+n13+2) (GoesG.quiet rfl (fun w=>stepG_region_end) ?_)
  refine GoesG.quiet rfl (fun w=>stepG_inBlock) ?_
  refine h13 dfs _ _ w5 ρ2 _ w5 13 C Wg (lT s5) f5 b _ cs _ (mI+1) hk ?_
  rintro γ4 e a4 w6 ⟨⟨rfl,⟨_,-,-,ρ4,-,s6⟩,off4⟩,fx4⟩
  refine GoesG.quiet (n:=mI) rfl (fun w=>stepG_inLoop) ?_
  refine IH γ4 a4 w6 ⟨⟨ρ4,s6⟩,Keep.off (a:=((a2.put (some 49) (.tuple #[])).put (some 50) _).put none undef) (Keep.put (Keep.put hkeep2 (by decide)) (by decide)) F2 off4,fx4.X,fun hlt=>?_,⟨rfl,fx4.S,fun o _=>ShpB.of rfl,fx4.c,fx4.A,fx4.wg⟩⟩
  obtain⟨c0,hc0,hc1⟩:=hsh hi'
  obtain⟨c5,hc5,hc6⟩:=f4.shape _ hXi c0 _ _ hc0
  obtain⟨c6,hc7,hc8⟩:=fx4.shape ((i+1)*3) ⟨i+1,aN _,hlt,rfl,by omega,by omega⟩ c5 _ _ hc5
  exact⟨c6,hc7,by omega⟩
end
end Go.Proofs.Ytbmnihglaokhmaa.Am
namespace Go.Proofs.Ytbmnihglaokhmaa.Am
open Go Go.RowKit Go.Conc Go.ConcN Go.Conc.Lib Go.ConcR.Gen Go.ConcN.Gen
open Go.ConcR (KK wgBlock WgAt stA smA rd wr mk DC0)
attribute [local irreducible] Mk ct Ari fF nD j7 cO dR jv gP At bt
set_option maxRecDepth 10000
theorem GZ:List.range o7.size=[0]:=by kernel_rfl
theorem g7:o7[0]?=some (o7.getD 0 default):=by kernel_rfl
theorem k7:(o7.getD 0 default).guard=none:=by kernel_rfl
theorem p7:(o7.getD 0 default).op= .alloc 70:=by kernel_rfl
theorem d7:(o7.getD 0 default).dst=some 10:=by kernel_rfl
section
variable {dfs:List Deferred} {a0:Act} {b:Frame} {k:List Item} {cs:List Frame} {Wg C n cp:Nat} {b0 b1 b2 b3 b4 b5:Int} {ts:List Txn} {lanes:List (List Nat)}
section
attribute [local instance] noPh
theorem DD (hk:b.kind≠ .early)(hb:mV ⟨[b0,b1,b2,b3,b4,b5],0⟩)(hv:∀t∈ts,bZ t=true)(hLs:∀L∈lanes,(∀i∈L,i<ts.length)∧L.length≤16)(hn:lanes.length=n)(hn16:n<100)(hCW:C≠Wg):∀(r i:Nat),i+r=n→
  ∃m,∀γ a w,Good8 dfs a0 Wg C n cp b0 b1 b2 b3 b4 b5 ts lanes i γ a w→GoesG Try.prog true (Stop8 dfs a0 b k cs Wg C n [b0,b1,b2,b3,b4,b5] ts lanes r) m γ (G (b.at a (.code B8:: .inLoop B8:: .inBlock 0:: .code c14::k)) cs) w
 |0,i,hi=>by
  have:i=n:=by omega
  subst this
  exact y6 hk
 |r+1,i,hi=>y7 hk hb hv hLs hn hn16 hCW hi (DD hk hb hv hLs hn hn16 hCW r (i+1) (by omega))
end
theorem vI {X:Code}{w:World}(hk:b.kind≠ .early):stepG Try.prog true (G (b.at a0 (.inRegion o7 [0]:: .code X::k)) cs) w=
  .go (G (b.at (a0.put (some 10) (.pointer (some ⟨w.heap.size,0,none⟩))) (.inRegion o7 []:: .code X::k)) cs) (World.plus w (wgBlock 70 0 0)) #[]:=by
 have hr:(execOp a0.eval (o7.getD 0 default)).run Try.prog w= .ok (.value (.pointer (some ⟨w.heap.size,0,none⟩))) (World.plus w (wgBlock 70 0 0)):=by
  unfold execOp
  rw[p7]
  simp[go_sem,iY.zeroValue_tWg,iY.sizeOf_tWg,iY.isAgg_tWg]
  rfl
 have he:(execOp a0.eval (o7.getD 0 default)).events Try.prog w #[]= #[]:=by
  unfold execOp
  rw[p7]
  simp[go_sem,iY.zeroValue_tWg,iY.sizeOf_tWg,iY.isAgg_tWg]
 have:=stepG_value (P:=Try.prog) (main:=true) (b:=b) (a:=a0) (k:=.code X::k) (cs:=cs) (w:=w) (rest:=[]) g7 (cU k7) hk hr
 rw[this,d7]
 unfold listed
 rw[he,seen_none]
theorem GR:(o14[0]?).bind (fun x:Oper=>x.dst)=some 52:=by rw[GE];exact GP
theorem GL (γ:Gh)(g:Goroutine)(w1:World)(hl:WgLive 70 Wg w1)(h:nf dfs a0 b k cs Wg γ g w1):∃m,Goes Try.prog true (RG 70 Wg γ) (DS Wg) (SW1 Try.prog 70 Wg (E5 dfs a0 b k cs) (nf dfs a0 b k cs Wg) γ) m g w1:=by
 obtain⟨a,ha,hag⟩:=h
 obtain⟨m,hg⟩:=xl (γ:=γ) (b₀:=b) (a₀:=a) (ops₀:=o14) (i₀:=0) (rest₀:=[]) (k₀:=.code rest8::k) (cs:=cs) iY g w1 hl hag
 rw[GR] at hg
 exact⟨m,Goes.wide (fun g w h=>SW1.wide (fun g he=>⟨a,ha,he⟩) (fun g w h=>⟨a,ha,h⟩) h) hg⟩
def jZ (v5 v6:VB)(b0 b1 b2 b3 b4 b5:Int)(ts:List Txn)(LL:List (List Int))(n:Nat):VSt:=
 ⟨[(3,.dbox [.lst .txn ts]),(4,.ptr 5 0),(6,.ptr 6 0),(7,.lst (.lst (.int .i64)) LL),(8,.ptr 7 0),(9,.dbox [.int .i64 b0,.int .i64 b1,.int .i64 b2,.int .i64 b3,.int .i64 b4,.int .i64 b5])],
  [(5,v5),(6,v6),(7,.var 56 [.ref 8]),(8,.lit 74 (List.replicate n (.agg [.nilm,.int .i64 0,.nils])))],10⟩
def pz (B:List Int)(ts:List Txn)(lanes:List (List Nat)):List LRes:=(List.range lanes.length).map fun j=>⟨j,CR B ts (lanes.getD j []),some j⟩
def uV (B:List Int)(ts:List Txn)(lanes:List (List Nat)):List (List (Int×Int)):=(List.range lanes.length).map fun j=>sY B ts (lanes.getD j [])
def uW (B:List Int)(ts:List Txn)(lanes:List (List Nat)):List (List Bool):=(List.range lanes.length).map fun j=>zd B ts (lanes.getD j [])
def sL (v5 v6:VB)(B:List Int)(ts:List Txn)(lanes:List (List Nat))(LL:List (List Int)):VSt:=
 ⟨[(3,.dbox [.lst .txn ts]),(4,.ptr 5 0),(6,.ptr 6 0),(7,.lst (.lst (.int .i64)) LL),(8,.ptr 7 0)],
  [(5,v5),(6,v6),(7,.var 56 [.ref 8]),(8,.row 74 (.lres 0 1) (pz B ts lanes)),(0,.maps (uV B ts lanes)),(1,.frow 4 .bool (uW B ts lanes))],10⟩
end
end Go.Proofs.Ytbmnihglaokhmaa.Am
namespace Go.Proofs.Ytbmnihglaokhmaa.Am
open Go Go.RowKit Go.Conc Go.ConcN Go.Conc.Lib Go.ConcR.Gen Go.ConcN.Gen
open Go.ConcR (KK wgBlock WgAt stA smA rd wr mk DC0)
attribute [local irreducible] Mk ct Ari fF nD j7 cO dR jv gP At bt
set_option maxRecDepth 10000
theorem AZ:(Try.prog.info? 74).map (·.size)=some 3:=by kernel_rfl
theorem Fo:(Try.prog.info? 4).map (·.size)=some 1:=by kernel_rfl
theorem wx {α:Type}{f:Nat→α}{n j:Nat}{x:α}(hj:j<n):((List.range n).map f).getD j x=f j:=by
 simp[aX,hj]
theorem yY (l:List Bool){i:Nat}{y:Bool}(hy:l[i]?=some y):(l.map (aj .bool)).getD i .undef= .bool y:=by
 rw[aX,cd,hy];rfl
section
variable {dfs:List Deferred} {γ:Gh} {ρ:Id→Pl} {a a':Act} {w w':World} {n:Nat} {b0 b1 b2 b3 b4 b5:Int} {ts:List Txn} {lanes:List (List Nat)} {LL:List (List Int)} {v5 v6:VB} {Γ:Nat→Gh}
set_option maxHeartbeats 4000000 in
theorem Fq (hn:lanes.length=n)(s:SimN Try.prog dfs γ 109 ρ (toT (jZ v5 v6 b0 b1 b2 b3 b4 b5 ts LL n).t) (toH (jZ v5 v6 b0 b1 b2 b3 b4 b5 ts LL n).h) a w)
  (J:Joined (ρ (8,0)).blk n (qb [b0,b1,b2,b3,b4,b5] ts lanes (ρ (8,0)).blk) w w' Γ) (ha:DV dfs a a'):
  ∃ρ',SimN Try.prog dfs (γ.plus fun k=>w.heap.size<k∧k<w'.heap.size) 109 ρ' (toT (sL v5 v6 [b0,b1,b2,b3,b4,b5] ts lanes LL).t) (toH (sL v5 v6 [b0,b1,b2,b3,b4,b5] ts lanes LL).h) (a'.put (some 52) (.tuple #[])) w':=by
 have hC:look (toH (jZ v5 v6 b0 b1 b2 b3 b4 b5 ts LL n).h) (8,0)=some (.row 74 (aB (List.replicate n (.agg [.nilm,.int .i64 0,.nils])))):=by
  rw[az];rfl
 have hall:∀j,∃q:Id→Pl,j<n→(∃dfs t a,SimN Try.prog dfs (Γ j) 13 q t (toH [(4,.map (sY [b0,b1,b2,b3,b4,b5] ts (lanes.getD j []))),(5,.row 4 .bool (zd [b0,b1,b2,b3,b4,b5] ts (lanes.getD j [])))]) a w')∧
   w'.cell? ⟨(ρ (8,0)).blk,j*3+0,none⟩=some (.map (some (q (4,0)).blk))∧w'.cell? ⟨(ρ (8,0)).blk,j*3+1,none⟩=some (.int .i64 (CR [b0,b1,b2,b3,b4,b5] ts (lanes.getD j [])))∧
   w'.cell? ⟨(ρ (8,0)).blk,j*3+2,none⟩=some (.slice (some ⟨(q (5,0)).blk,0,none⟩) (q (5,0)).len (q (5,0)).cap):=by
  intro j
  by_cases hj:j<n
  ·obtain⟨d,q,t,a2,h1,_,h2,h3,h4⟩:=J.res j hj
   exact⟨q,fun _=>⟨⟨d,t,a2,h1⟩,h2,h3,h4⟩⟩
  ·exact⟨ρ,fun h=>absurd h hj⟩
 obtain⟨q,hq⟩:=Classical.axiomOfChoice hall
 clear hall
 have hown:∀j,j<n→(Γ j).S (q j (4,0)).blk∧(Γ j).S (q j (5,0)).blk∧(q j (4,0)).blk≠(q j (5,0)).blk:=by
  intro j hj
  obtain⟨⟨d,t,a2,h1⟩,_⟩:=hq j hj
  refine⟨(SimN.own h1 (b:=(4,0)) (x:=fK _) rfl rfl).2,(SimN.own h1 (b:=(5,0)) (x:=.row _ _) rfl rfl).2,fun e=>?_⟩
  have:=h1.inj (4,0) (5,0) (fK _) (.row _ _) rfl rfl rfl rfl e
  cases this
 have hnb:∀j x,(Γ j).S x→w.heap.size<x∧x<w'.heap.size:=fun j x hx=>⟨J.new j x hx,(J.low j x (.inl hx)).1⟩
 obtain⟨c,g1,g2,g3,g4,g5,g6,g7,g8,g9⟩:=s.blk (8,0) _ hC
 have hsz:(ρ (8,0)).sz=3:=by rw[AZ] at g7;exact(bm g7).symm
 rw[aR,ij] at g3
 obtain⟨c',k1,k2⟩:=J.pay c _ _ g1
 have hρ0:∀i,(fun b:Id=>if b.1=0 then q b.2 (4,0) else if b.1=1 then q b.2 (5,0) else ρ b) (0,i)=q i (4,0):=fun i=>rfl
 have hρ1:∀i,(fun b:Id=>if b.1=0 then q b.2 (4,0) else if b.1=1 then q b.2 (5,0) else ρ b) (1,i)=q i (5,0):=fun i=>rfl
 have hρo:∀g i,g≠0→g≠1→(fun b:Id=>if b.1=0 then q b.2 (4,0) else if b.1=1 then q b.2 (5,0) else ρ b) (g,i)=ρ (g,i):=fun g i h0 h1=>by simp[h0,h1]
 generalize hρ':(fun b:Id=>if b.1=0 then q b.2 (4,0) else if b.1=1 then q b.2 (5,0) else ρ b)=ρ' at hρ0 hρ1 hρo
 refine⟨ρ',A3 s (bC:=(8,0)) (E:=74) (E':=74) (l':=(pz [b0,b1,b2,b3,b4,b5] ts lanes).map (aj (.lres 0 1))) hC J.fr J.more (by rw[gu];exact ha.1) (by rw[iT];exact ha.2.1) ?_
  (fun b x=>∃j,j<n∧((b=(0,j)∧x=fK (sY [b0,b1,b2,b3,b4,b5] ts (lanes.getD j [])))∨(b=(1,j)∧x= .row 4 ((zd [b0,b1,b2,b3,b4,b5] ts (lanes.getD j [])).map (aj .bool))))) ?_ ?_ (hρo 8 0 (by omega) (by omega)) ?_ ?_ ?_ ?_⟩
 ·intro k d hk
  have hq:look (toT (jZ v5 v6 b0 b1 b2 b3 b4 b5 ts LL n).t) k=some d∧k∉Dl∧k≠52:=by
   simp only[sL,jZ,toT,bI,dt,look] at hk⊢
   repeat' split at hk
   all_goals first
    |(subst_vars;cases hk;exact⟨rfl,by decide,by decide⟩)
    |cases hk
  exact⟨hq.1,(gF fun e=>hq.2.2 (by cases e;rfl)).trans (ha.2.2 k hq.2.1)⟩
 ·rintro⟨g,i⟩ x hx hne
  rw[az] at hx
  have hg:g=5∨g=6∨g=7∨g=8∨g=0∨g=1∨(g≠5∧g≠6∧g≠7∧g≠8∧g≠0∧g≠1):=by omega
  rcases hg with rfl|rfl|rfl|rfl|rfl|rfl|⟨h1,h2,h3,h4,h5,h6⟩
  ·exact .inl ⟨by rw[az];exact hx,hρo _ i (by decide) (by decide)⟩
  ·exact .inl ⟨by rw[az];exact hx,hρo _ i (by decide) (by decide)⟩
  ·exact .inl ⟨by rw[az];exact hx,hρo _ i (by decide) (by decide)⟩
  ·cases i with
   |zero=>exact absurd rfl hne
   |succ i=>simp[sL,look,VB.blks] at hx
  ·have hx':((uV [b0,b1,b2,b3,b4,b5] ts lanes).map fK)[i]?=some x:=hx
   simp only[uV,eI,cd,bj,List.getElem?_range'] at hx'
   obtain⟨y,hy,rfl⟩:=hx'
   have hy2:=cz.1 hy
   obtain⟨hy3,hy4⟩:=hy2
   simp only[List.length_range] at hy3
   simp only[List.getElem_range] at hy4
   subst hy4
   exact .inr ⟨⟨i,by omega,.inl ⟨rfl,rfl⟩⟩,by rw[az];rfl⟩
  ·have hx':((uW [b0,b1,b2,b3,b4,b5] ts lanes).map fun xs=>Blk.row 4 (xs.map (aj .bool)))[i]?=some x:=hx
   simp only[uW,eI,cd,bj] at hx'
   obtain⟨y,hy,rfl⟩:=hx'
   have hy2:=cz.1 hy
   obtain⟨hy3,hy4⟩:=hy2
   simp only[List.length_range] at hy3
   simp only[List.getElem_range] at hy4
   subst hy4
   exact .inr ⟨⟨i,by omega,.inr ⟨rfl,rfl⟩⟩,by rw[az];rfl⟩
  ·simp[sL,look,h1,h2,h3,h4,h5,h6] at hx
 ·rw[az];rfl
 ·have e8:=hρo 8 0 (by omega) (by omega)
  simp only[BlkOK,e8]
  refine⟨c',k1,by rw[k2];exact g2,by rw[bH,pz,bH,List.length_range,hn];exact g3,g4,g5,g6,g7,fun e he=>?_,fun i j hi hj=>?_⟩
  ·obtain⟨x,_,rfl⟩:=aP.1 he
   rw[hsz]
   exact d8 (.lres 0 1) x
  ·rw[hsz] at hj⊢
   have hi':i<n:=by rw[bH,pz,bH,List.length_range,hn] at hi;exact hi
   have el:((pz [b0,b1,b2,b3,b4,b5] ts lanes).map (aj (.lres 0 1))).getD i .undef= .agg [.mp (0,i),.int .i64 (CR [b0,b1,b2,b3,b4,b5] ts (lanes.getD i [])),.ref (1,i)]:=by
    simp only[pz,eI]
    rw[wx (by omega)]
    rfl
   have cc:∀m v,w'.cell? ⟨(ρ (8,0)).blk,i*3+m,none⟩=some v→c'.getD (i*3+m) undef=v:=by
    intro m v hv
    simp[World.cell?,k1] at hv
    simp[bV,hv]
   obtain⟨_,h2,h3,h4⟩:=hq i hi'
   rw[el]
   match j,hj with
   |0,_=>
    rw[cc 0 _ h2,←hρ0 i]
    refine C.mp (ρ:=ρ') (0,i) ?_
    unfold Live
    rw[az]
    show (((uV [b0,b1,b2,b3,b4,b5] ts lanes).map fK)[i]?).isSome=true
    simp[uV,hn,hi']
   |1,_=>rw[cc 1 _ h3];exact .pure (.int _ _)
   |2,_=>
    rw[cc 2 _ h4,←hρ1 i]
    refine C.ref (ρ:=ρ') (1,i) ?_
    unfold Live
    rw[az]
    show (((uW [b0,b1,b2,b3,b4,b5] ts lanes).map fun xs=>Blk.row 4 (xs.map (aj .bool)))[i]?).isSome=true
    simp[uW,hn,hi']
 ·rintro b x ⟨j,hj,⟨rfl,rfl⟩|⟨rfl,rfl⟩⟩
  ·obtain⟨⟨d,t,a2,h1⟩,_⟩:=hq j hj
   obtain⟨_,o,o1,o2,o3⟩:=h1.blk (4,0) (fK _) rfl
   refine⟨by rw[hρ0];exact hnb j _ (hown j hj).1,trivial,o,by rw[hρ0];exact o1,o2,o3⟩
  ·obtain⟨⟨d,t,a2,h1⟩,_⟩:=hq j hj
   obtain⟨cr,r1,r2,r3,r4,r5,r6,r7,r8,r9⟩:=h1.blk (5,0) (.row 4 ((zd [b0,b1,b2,b3,b4,b5] ts (lanes.getD j [])).map (aj .bool))) rfl
   refine⟨by rw[hρ1];exact hnb j _ (hown j hj).2.1,?_⟩
   simp only[BlkOK,hρ1]
   refine⟨cr,r1,r2,r3,r4,r5,r6,r7,r8,fun i m hi hm=>?_⟩
   have h9:=r9 i m hi hm
   have hs1:(q j (5,0)).sz=1:=by rw[Fo] at r7;exact(bm r7).symm
   have hm0:m=0:=by omega
   subst hm0
   rw[bH] at hi
   obtain⟨y,hy⟩:∃y,(zd [b0,b1,b2,b3,b4,b5] ts (lanes.getD j []))[i]?=some y:=⟨_,a6 hi⟩
   have el:((zd [b0,b1,b2,b3,b4,b5] ts (lanes.getD j [])).map (aj .bool)).getD i .undef= .bool y:=yY _ hy
   rw[el] at h9⊢
   have e:=C.bool_inv (b:=y) h9
   rw[e]
   exact .pure (.bool y)
 ·rintro b b' x x' ⟨j,hj,h⟩ ⟨j',hj',h'⟩ he
  by_cases e:j=j'
  ·subst e
   rcases h with⟨rfl,_⟩|⟨rfl,_⟩<;>rcases h' with⟨rfl,_⟩|⟨rfl,_⟩
   ·rfl
   ·rw[hρ0,hρ1] at he;exact absurd he (hown j hj).2.2
   ·rw[hρ0,hρ1] at he;exact absurd he.symm (hown j hj).2.2
   ·rfl
  ·exfalso
   have key:∀x y,(Γ j).S x→(Γ j').S y→x≠y:=fun x y hx hy e2=>J.own j j' e x hx (.inl (e2▸hy))
   rcases h with⟨rfl,_⟩|⟨rfl,_⟩<;>rcases h' with⟨rfl,_⟩|⟨rfl,_⟩<;>simp only[hρ0,hρ1] at he
   ·exact key _ _ (hown j hj).1 (hown j' hj').1 he
   ·exact key _ _ (hown j hj).1 (hown j' hj').2.1 he
   ·exact key _ _ (hown j hj).2.1 (hown j' hj').1 he
   ·exact key _ _ (hown j hj).2.1 (hown j' hj').2.1 he
 ·rintro⟨g,i⟩ hb
  unfold Live at hb⊢
  rw[az] at hb⊢
  have hg:g=5∨g=6∨g=7∨g=8∨(g≠5∧g≠6∧g≠7∧g≠8):=by omega
  rcases hg with rfl|rfl|rfl|rfl|⟨h1,h2,h3,h4⟩
  ·exact⟨hb,hρo _ i (by decide) (by decide)⟩
  ·exact⟨hb,hρo _ i (by decide) (by decide)⟩
  ·exact⟨hb,hρo _ i (by decide) (by decide)⟩
  ·cases i with
   |zero=>exact⟨rfl,hρo _ 0 (by decide) (by decide)⟩
   |succ i=>simp[jZ,look,VB.blks] at hb
  ·simp[jZ,look,h1,h2,h3,h4] at hb
end
end Go.Proofs.Ytbmnihglaokhmaa.Am
namespace Go.Proofs.Ytbmnihglaokhmaa.Am
open Go Go.RowKit Go.Conc Go.ConcN Go.Conc.Lib Go.ConcR.Gen Go.ConcN.Gen
open Go.ConcR (KK wgBlock WgAt stA smA rd wr mk DC0)
attribute [local irreducible] Mk ct Ari fF nD j7 cO dR jv gP At bt
set_option maxRecDepth 10000
section
variable {dfs:List Deferred} {b:Frame} {k:List Item} {cs:List Frame} {n:Nat} {b0 b1 b2 b3 b4 b5:Int} {ts:List Txn} {lanes:List (List Nat)} {v5 v6:VB}
theorem mY {w:World}{o:Obj}{d i:Nat}(h:i<w.heap.size):(World.plus (w.at d) o).heap[i]?=w.heap[i]?:=by
 show (w.heap.push o)[i]?=_
 simp[Array.getElem?_push,Nat.ne_of_lt h]
theorem zu {w:World}{o:Obj}{d:Nat}:(World.plus (w.at d) o).heap.size=w.heap.size+1:=by
 show (w.heap.push o).size=_
 simp
section
attribute [local instance] noPh
set_option maxHeartbeats 4000000 in
theorem Di (hk:b.kind≠ .early)(hb:mV ⟨[b0,b1,b2,b3,b4,b5],0⟩)(hv:∀t∈ts,bZ t=true)(hLs:∀L∈lanes,(∀i∈L,i<ts.length)∧L.length≤16)(hn:lanes.length=n)(hn16:n<100)
  {γ:Gh} {ρ:Id→Pl} {a:Act} {w:World} (s:SimN Try.prog dfs γ 109 ρ (toT (jZ v5 v6 b0 b1 b2 b3 b4 b5 ts (lanes.map fun L=>L.map fun i:Nat=>(i:Int)) n).t) (toH (jZ v5 v6 b0 b1 b2 b3 b4 b5 ts (lanes.map fun L=>L.map fun i:Nat=>(i:Int)) n).h) a w)
  (hlow:∀k,γ.A k→k<w.heap.size) (d:Nat):
  Spw Try.prog 70 w.heap.size (nf dfs a b k cs w.heap.size) n (Xs8 (ρ (8,0)).blk) (qb [b0,b1,b2,b3,b4,b5] ts lanes (ρ (8,0)).blk) n ⟨fun _=>False,fun k=>γ.A k∧k≠(ρ (8,0)).blk,Xr n (Xs8 (ρ (8,0)).blk) 0⟩
   (G (b.at (a.put (some 10) (.pointer (some ⟨w.heap.size,0,none⟩))) (.inRegion o7 []:: .code (.seq (.seq (.region 8 o8 false) (.block 0 (.loop B8))) c14)::k)) cs) (World.plus (w.at d) (wgBlock 70 0 0)):=by
 have hC:look (toH (jZ v5 v6 b0 b1 b2 b3 b4 b5 ts (lanes.map fun L=>L.map fun i:Nat=>(i:Int)) n).h) (8,0)=some (.row 74 (aB (List.replicate n (.agg [.nilm,.int .i64 0,.nils])))):=by
  rw[az];rfl
 have hV:look (toH (jZ v5 v6 b0 b1 b2 b3 b4 b5 ts (lanes.map fun L=>L.map fun i:Nat=>(i:Int)) n).h) (7,0)=some (.var 56 [.ref (8,0)]):=by
  rw[az];rfl
 have hCo:=SimN.own s hC rfl
 have hVo:=SimN.own s hV rfl
 have hCV:(ρ (7,0)).blk≠(ρ (8,0)).blk:=fun e=>by have:=s.inj _ _ _ _ hV hC rfl rfl e;cases this
 obtain⟨c,g1,g2,g3,g4,g5,g6,g7,g8,g9⟩:=s.blk (8,0) _ hC
 have hsz:(ρ (8,0)).sz=3:=by rw[AZ] at g7;exact(bm g7).symm
 rw[aR,ij] at g3
 obtain⟨cv,u1,u2,u3⟩:=s.blk (7,0) _ hV
 have hcv:=(u3 0 (by simp)).ref_inv.2
 obtain⟨n8,h8⟩:=uS (Gi b0 b1 b2 b3 b4 b5 ts (lanes.map fun L=>L.map fun i:Nat=>(i:Int)) (ρ (8,0)).blk w.heap.size n (ρ (8,0)).cap (by simp[hn]))
 obtain⟨M,hM⟩:=DD (dfs:=dfs) (a0:=a) (b:=b) (k:=k) (cs:=cs) (Wg:=w.heap.size) (C:=(ρ (8,0)).blk) (cp:=(ρ (8,0)).cap) hk hb hv hLs hn hn16 (Nat.ne_of_lt hCo.1) n 0 (by omega)
 refine BW (m:=M+2+n8+3) (GoesG.quiet (n:=M+2+n8+2) rfl (fun w=>stepG_region_end) ?_)
 refine GoesG.quiet (n:=M+2+n8+1) rfl (fun w=>stepG_seq) ?_
 refine GoesG.quiet (n:=M+2+n8) rfl (fun w=>stepG_seq) ?_
 have hsp:w.heap.size<(World.plus (w.at d) (wgBlock 70 0 0)).heap.size:=by rw[zu];omega
 have s2:SimN Try.prog dfs γ 109 ρ (toT (jZ v5 v6 b0 b1 b2 b3 b4 b5 ts (lanes.map fun L=>L.map fun i:Nat=>(i:Int)) n).t) (toH (jZ v5 v6 b0 b1 b2 b3 b4 b5 ts (lanes.map fun L=>L.map fun i:Nat=>(i:Int)) n).h) a (World.plus (w.at d) (wgBlock 70 0 0)):=
  SimN.next s (fun _ h=>h) (fun _ h=>h) (fun _ h=>.inl h) (fun k hk _=>mY hk) (Nat.le_of_lt hsp)
 have hokA:∀k,okOf (γ.At (World.plus (w.at d) (wgBlock 70 0 0))) ρ (toH (jZ v5 v6 b0 b1 b2 b3 b4 b5 ts (lanes.map fun L=>L.map fun i:Nat=>(i:Int)) n).h) (World.plus (w.at d) (wgBlock 70 0 0)) k→
   (k<(World.plus (w.at d) (wgBlock 70 0 0)).heap.size∧(⟨fun _=>False,fun k=>γ.A k∧k≠(ρ (8,0)).blk,Xr n (Xs8 (ρ (8,0)).blk) 0⟩:Gh).A k)∧(World.plus (w.at d) (wgBlock 70 0 0)).heap[k]?=(World.plus (w.at d) (wgBlock 70 0 0)).heap[k]?:=by
  rintro k ⟨⟨h1,h2⟩,h3⟩
  exact⟨⟨h1,.inr ⟨h2.elim id fun h=>by omega,fun e=>h3 _ _ hC rfl e.symm⟩⟩,rfl⟩
 have hat:∀k,k≠10→(a.put (some 10) (.pointer (some ⟨w.heap.size,0,none⟩))).tmps.getD k undef=a.tmps.getD k undef:=fun k hk=>gF fun e=>hk (by cases e;rfl)
 have sp:SimN Try.prog dfs ⟨fun _=>False,fun k=>γ.A k∧k≠(ρ (8,0)).blk,Xr n (Xs8 (ρ (8,0)).blk) 0⟩ 109 ρ
   (toT [(3,.dbox [.lst .txn ts]),(8,.dbox [.val (.slice (some ⟨(ρ (8,0)).blk,0,none⟩) n (ρ (8,0)).cap)]),(9,.dbox [.int .i64 b0,.int .i64 b1,.int .i64 b2,.int .i64 b3,.int .i64 b4,.int .i64 b5]),(10,.val (.pointer (some ⟨w.heap.size,0,none⟩))),(7,.lst (.lst (.int .i64)) (lanes.map fun L=>L.map fun i:Nat=>(i:Int)))]) []
   (a.put (some 10) (.pointer (some ⟨w.heap.size,0,none⟩))) (World.plus (w.at d) (wgBlock 70 0 0)):=by
  refine w7 s2 (fun k hk=>hk.elim) (fun g hg hs=>.inr ⟨hg,fun e=>hs (e▸hCo.2)⟩) (by rw[gu];exact s.defers) (by rw[iT];exact s.size) fun k d hk=>?_
  simp only[toT,bI,dt,look] at hk
  repeat' split at hk
  ·obtain rfl:k=3:=‹k=3›
   cases hk
   refine⟨by omega,?_⟩
   rw[hat 3 (by omega)]
   exact((s2.tmp 3 _ rfl).2.rep0 rfl).mono hokA
  ·obtain rfl:k=8:=‹k=8›
   cases hk
   refine⟨by omega,?_⟩
   rw[hat 8 (by omega),(s2.tmp 8 (.ptr (7,0) 0) rfl).2.ptr_inv.2]
   refine .box _ _ 0 (fun _=>.slice (some ⟨(ρ (8,0)).blk,0,none⟩) n (ρ (8,0)).cap) ⟨by have:=hVo.1;omega,.inr ⟨.inl hVo.2,hCV⟩⟩ (by simp[aB]) (fun j hj=>?_) fun j hj=>?_
   ·have hj0:j=0:=by simp[aB] at hj;omega
    subst hj0
    have e:(World.plus (w.at d) (wgBlock 70 0 0)).heap[(ρ (7,0)).blk]?=_:=(mY hVo.1).trans u1
    have hs1:0<cv.size:=by rw[u2];decide
    have hcv':cv[0]?=some (.slice (some ⟨(ρ (8,0)).blk,0,none⟩) (ρ (8,0)).len (ρ (8,0)).cap):=by
     rw[eH hs1]
     rw[bV,eH hs1] at hcv
     exact congrArg some hcv
    simp[World.cell?,e,hcv',g3]
   ·have hj0:j=0:=by simp[aB] at hj;omega
    subst hj0
    exact .val _ rfl
  ·obtain rfl:k=9:=‹k=9›
   cases hk
   refine⟨by omega,?_⟩
   rw[hat 9 (by omega)]
   exact((s2.tmp 9 _ rfl).2.rep0 rfl).mono hokA
  ·obtain rfl:k=10:=‹k=10›
   cases hk
   refine⟨by omega,?_⟩
   have e:=kM (a:=a) (d:=10) (v:=.pointer (some ⟨w.heap.size,0,none⟩)) (by rw[s.size];omega)
   have e':(a.put (some 10) (.pointer (some ⟨w.heap.size,0,none⟩))).tmps.getD 10 undef= .pointer (some ⟨w.heap.size,0,none⟩):=e
   rw[e']
   exact .val (.pointer (some ⟨w.heap.size,0,none⟩)) rfl
  ·obtain rfl:k=7:=‹k=7›
   cases hk
   refine⟨by omega,?_⟩
   rw[hat 7 (by omega)]
   exact((s2.tmp 7 _ rfl).2.rep0 rfl).mono hokA
  ·cases hk
 have fp:FixN (ρ (8,0)).blk w.heap.size ⟨fun _=>False,fun k=>γ.A k∧k≠(ρ (8,0)).blk,Xr n (Xs8 (ρ (8,0)).blk) 0⟩ (World.plus (w.at d) (wgBlock 70 0 0)) ⟨fun _=>False,fun k=>γ.A k∧k≠(ρ (8,0)).blk,Xr n (Xs8 (ρ (8,0)).blk) 0⟩ (World.plus (w.at d) (wgBlock 70 0 0)):=
  ⟨rfl,fun h=>h,fun o _=>ShpB.of rfl,by have:=hCo.1;omega,fun h=>h.elim (fun h=>h) fun h=>by have:=hlow _ h.1;omega,hsp⟩
 refine h8 dfs _ _ _ ρ _ _ 8 _ _ (lT sp) fp b _ cs _ (M+2) hk ?_
 rintro γ' e a' w' ⟨⟨rfl,⟨_,-,-,ρ',-,s'⟩,off⟩,fx⟩
 refine GoesG.quiet (n:=M+1) rfl (fun w=>stepG_block) ?_
 refine GoesG.quiet (n:=M) rfl (fun w=>stepG_loop) ?_
 refine hM γ' a' w' ⟨⟨ρ',s'⟩,Keep.off (a:=a.put (some 10) _) (Keep.put (fun _ _=>rfl) (by decide)) GQ off,fx.X,fun hlt=>?_,⟨rfl,fx.S,fun o _=>ShpB.of rfl,fx.c,fx.A,fx.wg⟩⟩
 obtain⟨c',h1,h2⟩:=fx.shape 0 ⟨0,aN _,hlt,rfl,by omega,by omega⟩ c _ _ ((mY hCo.1).trans g1)
 refine⟨c',h1,?_⟩
 rw[h2,g2,hsz]
 exact dL 3 (by omega)
end
section
attribute [local instance] kW
set_option maxHeartbeats 4000000 in
theorem z3 {K:Id→Prop}(hK:KB 0 K)(hb:mV ⟨[b0,b1,b2,b3,b4,b5],0⟩)(hv:∀t∈ts,bZ t=true)(hLs:∀L∈lanes,(∀i∈L,i<ts.length)∧L.length≤16)(hn:lanes.length=n)(hn16:n<100){Q:Exit→VSt→Prop}
  (h:At Try.prog 109 K rest8 Q (sL v5 v6 [b0,b1,b2,b3,b4,b5] ts lanes (lanes.map fun L=>L.map fun i:Nat=>(i:Int)))):
  At Try.prog 109 K c7 Q (jZ v5 v6 b0 b1 b2 b3 b4 b5 ts (lanes.map fun L=>L.map fun i:Nat=>(i:Int)) n):=by
 unfold At at h⊢
 obtain⟨e,σ',⟨nr,hr⟩,hq⟩:=h
 refine⟨e,σ',⟨nr+44,?_⟩,hq⟩
 intro main dfs γ ρ0 a w hs b k cs Stop m hkd hc
 refine GoesG.quiet (n:=m+nr+43) rfl (fun w=>dJ GM) ?_
 refine GoesG.quiet (n:=m+nr+42) rfl (fun w=>stepG_region) ?_
 rw[GZ]
 obtain⟨hn0,hK0,ρ,hρ,s0⟩:=hs
 have hnoK:∀b,¬K b:=fun b hb=>by
  have h1:=hK b hb
  have h2:=hK0 b hb
  unfold Live at h2
  have h3:look (toH (jZ v5 v6 b0 b1 b2 b3 b4 b5 ts (lanes.map fun L=>L.map fun i:Nat=>(i:Int)) n).h) b=none:=by
   rw[az]
   simp[jZ,look,show b.1≠5 by omega,show b.1≠6 by omega,show b.1≠7 by omega,show b.1≠8 by omega]
  have h4:(look (toH (jZ v5 v6 b0 b1 b2 b3 b4 b5 ts (lanes.map fun L=>L.map fun i:Nat=>(i:Int)) n).h) b).isSome=true:=h2
  rw[h3] at h4
  cases h4
 refine GoesG.phase (n:=m+nr+41) rfl fun w1 hr1=>?_
 have s:=SimN.rely s0 hr1
 have hC:look (toH (jZ v5 v6 b0 b1 b2 b3 b4 b5 ts (lanes.map fun L=>L.map fun i:Nat=>(i:Int)) n).h) (8,0)=some (.row 74 (aB (List.replicate n (.agg [.nilm,.int .i64 0,.nils])))):=by
  rw[az];rfl
 have hCo:=SimN.own s hC rfl
 refine BB (ty:=70) (C:=(ρ (8,0)).blk) (End:=E5 dfs a b k cs) (Anch:=nf dfs a b k cs w1.heap.size) (n:=n) (Xs:=Xs8 (ρ (8,0)).blk) (Res:=qb [b0,b1,b2,b3,b4,b5] ts lanes (ρ (8,0)).blk)
  (fun j γ w w1 hr h=>LaneRes.rely hr h) (fun i k b o hik h1 h2=>by obtain⟨_,h3,h4⟩:=h1;obtain⟨_,h5,h6⟩:=h2;omega) (fun i b o h=>h.1) (by omega) (fun γ g w ⟨a,_,h⟩=>AnchG.running h)
  (fun γ g w1 hl ha=>GL γ g w1 hl ha) hCo.2 rfl (fun d=>vI hkd) (fun hlow d=>Di hkd hb hv hLs hn hn16 s hlow d) ?_
 rintro g' w' Γ ⟨a',ha,hE⟩ hrun hJ
 obtain⟨ρ',s'⟩:=Fq hn s hJ ha
 refine EndG.goes (n:=m+nr+1) hE ?_
 refine GoesG.quiet (n:=m+nr) rfl (fun w=>stepG_region_end) ?_
 refine hr main dfs _ ρ' _ w' ⟨fun b hb=>?_,fun b hb=>(hnoK b hb).elim,ρ',fun b hb=>rfl,s'⟩ b k cs Stop m hkd fun γ' e a' w' q=>hc γ' e a' w' ⟨q.1,?_⟩
 ·have hb':10≤b.1:=hb
  show look (toH (sL v5 v6 [b0,b1,b2,b3,b4,b5] ts lanes (lanes.map fun L=>L.map fun i:Nat=>(i:Int))).h) b=none
  rw[az]
  simp[sL,look,show b.1≠5 by omega,show b.1≠6 by omega,show b.1≠7 by omega,show b.1≠8 by omega,show b.1≠0 by omega,show b.1≠1 by omega]
 ·obtain⟨q1,q2,ρ2,q3,q4⟩:=q.2
  exact⟨q1,q2,ρ2,fun b hb=>(hnoK b hb).elim,q4⟩
end
end
end Go.Proofs.Ytbmnihglaokhmaa.Am
namespace Go.Proofs.Ytbmnihglaokhmaa.Am
open Go
set_option linter.unusedSectionVars false
variable [PhC Try.prog]
set_option maxRecDepth 10000
theorem sT {t:Txn}(h:bZ t=true):(0≤t.a∧t.a≤5)∧(0≤t.b∧t.b≤5):=by
 obtain⟨x,y,s,e⟩:=t
 exact⟨(dQ h).1,(dQ h).2.1⟩
theorem yU {B K:List Int}{t:Txn}(hv:bZ t=true)(hK:K.length=6)(a:Nat):(gU B K t).getD a 0=if t.a.toNat=a∨t.b.toNat=a then B.getD a 0 else K.getD a 0:=by
 obtain⟨h1,h2⟩:=sT hv
 unfold gU
 by_cases e1:t.b.toNat=a
 ·subst e1
  rw[bO (by simp;omega),if_pos (.inr rfl)]
 ·rw[aY e1]
  by_cases e2:t.a.toNat=a
  ·subst e2
   rw[bO (by omega),if_pos (.inl rfl)]
  ·rw[aY e2,if_neg (by simp[e1,e2])]
theorem tV {B:List Int}:∀(us:List Txn) (K:List Int),(∀t∈us,bZ t=true)→K.length=6→∀a,(jo us a∨K.getD a 0=B.getD a 0)→(us.foldl (gU B) K).getD a 0=B.getD a 0
 |[],K,_,_,a,h=>h.elim (fun⟨t,ht,_⟩=>by cases ht) id
 |t::us,K,hv,hK,a,h=>by
  refine tV us (gU B K t) (fun u hu=>hv u (bl _ hu)) ((qJ _ _ _).trans hK) a ?_
  rw[yU (hv t (bh ..)) hK]
  by_cases e:t.a.toNat=a∨t.b.toNat=a
  ·exact .inr (by rw[if_pos e])
  ·rw[if_neg e]
   rcases h with⟨u,hu,hc⟩|h
   ·rcases a9.1 hu with rfl|hu
    ·exact absurd hc e
    ·exact .inl ⟨u,hu,hc⟩
   ·exact .inr h
theorem yK {B:List Int}{us:List Txn}(hv:∀t∈us,bZ t=true){a:Nat}(h:jo us a):(b7 B us).getD a 0=B.getD a 0:=tV us _ hv rfl a (.inl h)
theorem vk (M:List (Int×Int))(a c x:Int):x∈(dY M a c).map (·.1)↔x=a∨x∈M.map (·.1):=by
 rcases kC M a c with⟨h1,h2⟩|⟨h1,h2⟩
 ·rw[h2]
  exact⟨.inr,fun h=>h.elim (fun e=>e▸h1) id⟩
 ·rw[h2,cm,bd]
  exact or_comm
theorem qD (B:List Int):∀(us:List Txn) (M:List (Int×Int)) (x:Int),x∈(us.foldl (jG B) M).map (·.1)↔(∃t∈us,x=t.a∨x=t.b)∨x∈M.map (·.1)
 |[],M,x=>by simp
 |t::us,M,x=>by
  show x∈(us.foldl (jG B) (jG B M t)).map (·.1)↔_
  rw[qD B us]
  unfold jG
  rw[vk,vk]
  simp only[a9,exists_eq_or_imp]
  constructor
  ·rintro(h|h|h|h)
   ·exact .inl (.inr h)
   ·exact .inl (.inl (.inr h))
   ·exact .inl (.inl (.inl h))
   ·exact .inr h
  ·rintro((h|h)|h)
   ·rcases h with h|h
    ·exact .inr (.inr (.inl h))
    ·exact .inr (.inl h)
   ·exact .inl h
   ·exact .inr (.inr (.inr h))
theorem ug (B:List Int)(ts:List Txn)(L:List Nat)(hv:∀t∈di ts L,bZ t=true)(a:Nat):(∃p∈sY B ts L,p.1.toNat=a)↔jo (di ts L) a:=by
 have hk:∀x,x∈(sY B ts L).map (·.1)↔∃t∈di ts L,x=t.a∨x=t.b:=by
  intro x
  have e:(sY B ts L).map (·.1)=(dS B (di ts L)).map (·.1):=by simp[sY]
  rw[e]
  have:=qD B (di ts L) [] x
  unfold dS
  rw[this]
  simp
 constructor
 ·rintro⟨p,hp,rfl⟩
  obtain⟨t,ht,hc⟩:=(hk p.1).1 (aP.2 ⟨p,hp,rfl⟩)
  exact⟨t,ht,hc.imp (fun e=>by rw[e]) fun e=>by rw[e]⟩
 ·rintro⟨t,ht,hc⟩
  rcases hc with hc|hc
  ·obtain⟨p,hp,e⟩:=aP.1 ((hk t.a).2 ⟨t,ht,.inl rfl⟩)
   exact⟨p,hp,by rw[e];exact hc⟩
  ·obtain⟨p,hp,e⟩:=aP.1 ((hk t.b).2 ⟨t,ht,.inr rfl⟩)
   exact⟨p,hp,by rw[e];exact hc⟩
theorem CT (B:List Int)(ts:List Txn)(L:List Nat)(hv:∀t∈di ts L,bZ t=true):∀p∈sY B ts L,0≤p.1∧p.1≤5:=by
 intro p hp
 obtain⟨q,hq,rfl⟩:=aP.1 hp
 exact qE B hv q hq
theorem CU (B:List Int)(ts:List Txn)(L:List Nat):∀p∈sY B ts L,p.2=(bR ⟨b7 B (di ts L),0⟩ (di ts L)).b.getD p.1.toNat 0:=by
 intro p hp
 obtain⟨q,hq,rfl⟩:=aP.1 hp
 rfl
theorem zc (B:List Int)(ts:List Txn)(L:List Nat):fY (sY B ts L):=by
 have e:(sY B ts L).map (·.1)=(dS B (di ts L)).map (·.1):=by simp[sY]
 unfold fY
 rw[e]
 exact nh B _
theorem FG {ts:List Txn}(hv:∀t∈ts,bZ t=true){L:List Nat}(hL:∀i∈L,i<ts.length):∀t∈di ts L,bZ t=true:=by
 intro t ht
 obtain⟨i,hi,rfl⟩:=aP.1 ht
 have:=hL i hi
 rw[aX,a6 this]
 exact hv _ (fh _)
theorem Cu {ts:List Txn}{x y a:Nat}(hx:x<ts.length)(hy:y<ts.length)(hv:∀t∈ts,bZ t=true)(h1:(ts.getD x ⟨0,0,0,0⟩).a.toNat=a∨(ts.getD x ⟨0,0,0,0⟩).b.toNat=a)(h2:(ts.getD y ⟨0,0,0,0⟩).a.toNat=a∨(ts.getD y ⟨0,0,0,0⟩).b.toNat=a):confI ts x y=true:=by
 have ex:ts[x]?=some (ts.getD x ⟨0,0,0,0⟩):=by rw[aX,a6 hx];rfl
 have ey:ts[y]?=some (ts.getD y ⟨0,0,0,0⟩):=by rw[aX,a6 hy];rfl
 have vx:=sT (hv _ (dm ex))
 have vy:=sT (hv _ (dm ey))
 unfold confI
 rw[ex,ey]
 simp only[dT,Bool.or_eq_true,beq_iff_eq]
 generalize ts.getD x ⟨0,0,0,0⟩=t at *
 generalize ts.getD y ⟨0,0,0,0⟩=u at *
 omega
def gk (B:List Int)(f:Int)(ts:List Txn)(lanes:List (List Nat))(p:Nat):Led×List Bool:=df ts (⟨B,f⟩,List.replicate ts.length false) (lanes.take p).flatten
section
variable {B:List Int} {f:Int} {ts:List Txn} {lanes:List (List Nat)} {p:Nat} {L:List Nat}
theorem BZ (hp:lanes[p]?=some L):gk B f ts lanes (p+1)=df ts (gk B f ts lanes p) L:=by
 obtain⟨hlt,rfl⟩:=cz.1 hp
 unfold gk
 rw[pW hlt,List.flatten_append,iS]
 simp
theorem yp (h:LanesOK ts lanes):(gk B f ts lanes p).1=bR ⟨B,f⟩ (di ts (lanes.take p).flatten):=by
 refine pC ts _ _ _ fun i hi=>?_
 refine(h.mem i).1 ?_
 rw[List.mem_flatten] at hi⊢
 obtain⟨M,hM,hi⟩:=hi
 exact⟨M,pX hM,hi⟩
theorem pd (hv:∀t∈ts,bZ t=true)(h:LanesOK ts lanes)(hp:lanes[p]?=some L):∀t∈di ts L,bZ t=true:=FG hv fun i hi=>by
 obtain⟨q,hq⟩:=List.mem_iff_getElem?.1 hi
 exact i6 h hp hq
theorem zL (hv:∀t∈ts,bZ t=true)(h:LanesOK ts lanes)(hp:lanes[p]?=some L){a:Nat}(ha:jo (di ts L) a):(gk B f ts lanes p).1.b.getD a 0=(b7 B (di ts L)).getD a 0:=by
 rw[yp h,yK (pd hv h hp) ha]
 refine k9 _ _ ?_
 rintro⟨t,ht,hc⟩
 obtain⟨x,hx,rfl⟩:=aP.1 ht
 obtain⟨u,hu,hd⟩:=ha
 obtain⟨y,hy,rfl⟩:=aP.1 hu
 rw[List.mem_flatten] at hx
 obtain⟨M,hM,hx⟩:=hx
 obtain⟨q,hq⟩:=List.mem_iff_getElem?.1 hM
 have hqp:q<p:=by
  have:=(cz.1 hq).1
  simp at this
  omega
 rw[List.getElem?_take_of_lt hqp] at hq
 have hap:=List.pairwise_iff_getElem.1 h.apart q p (cz.1 hq).1 (cz.1 hp).1 hqp
 rw[(cz.1 hq).2,(cz.1 hp).2] at hap
 have hno:=hap x hx y hy
 obtain⟨i1,hi1⟩:=List.mem_iff_getElem?.1 hx
 obtain⟨i2,hi2⟩:=List.mem_iff_getElem?.1 hy
 rw[Cu (i6 h hq hi1) (i6 h hp hi2) hv hc hd] at hno
 cases hno
theorem Dk (hB:B.length=6)(h:LanesOK ts lanes):(gk B f ts lanes p).1.b.length=6:=by rw[yp h,uX];exact hB
theorem Dm (hB:B.length=6)(hv:∀t∈ts,bZ t=true)(h:LanesOK ts lanes)(hp:lanes[p]?=some L):
  dx (gk B f ts lanes p).1 (di ts L)=zd B ts L∧(bR (gk B f ts lanes p).1 (di ts L)).f=(gk B f ts lanes p).1.f+CR B ts L∧
   ∀a,(jo (di ts L) a→(bR (gk B f ts lanes p).1 (di ts L)).b.getD a 0=(bR ⟨b7 B (di ts L),0⟩ (di ts L)).b.getD a 0)∧(¬jo (di ts L) a→(bR (gk B f ts lanes p).1 (di ts L)).b.getD a 0=(gk B f ts lanes p).1.b.getD a 0):=by
 obtain⟨h1,h2,h3⟩:=rm (vs:=di ts L) (di ts L) (fun t ht=>⟨ht,pd hv h hp t ht⟩) (gk B f ts lanes p).1 ⟨b7 B (di ts L),0⟩ (Dk hB h) (mC _ _) fun a ha=>zL hv h hp ha
 refine⟨h1,?_,fun a=>⟨fun ha=>h3 a ha,fun ha=>k9 _ _ ha⟩⟩
 unfold CR
 simp only at h2
 omega
end
def eX:List Bool→List Nat→List Bool→List Bool
 |o,i::L,v::vs=>eX (o.set i v) L vs
 |o,_,_=>o
theorem nw:∀{k:Nat} {o:List Bool} {L:List Nat} {O:List Bool} {i:Nat} {v:Bool},L[k]?=some i→O[k]?=some v→eX o (L.take (k+1)) (O.take (k+1))=(eX o (L.take k) (O.take k)).set i v
 |0,o,i'::L,v'::O,i,v,hi,hv=>by
  simp only[fi,aK] at hi hv
  subst hi hv
  simp[eX]
 |k+1,o,i'::L,v'::O,i,v,hi,hv=>by
  simp only[List.getElem?_cons_succ] at hi hv
  simp only[List.take_succ_cons,eX]
  exact nw hi hv
 |_,_,[],_,_,_,hi,_=>by simp at hi
 |_,_,_::_,[],_,_,_,hv=>by simp at hv
theorem pJ:∀(o:List Bool) (L:List Nat) (O:List Bool),(eX o L O).length=o.length
 |o,i::L,v::vs=>by rw[eX,pJ];simp
 |o,[],_=>by simp[eX]
 |o,_::_,[]=>by simp[eX]
theorem uY {ts:List Txn}:∀(L:List Nat) (l:Led) (o:List Bool),(∀i∈L,i<ts.length)→df ts (l,o) L=(bR l (di ts L),eX o L (dx l (di ts L)))
 |[],l,o,_=>rfl
 |i::L,l,o,h=>by
  have hi:=h i (bh ..)
  have ex:ts[i]?=some (ts.getD i ⟨0,0,0,0⟩):=by rw[aX,a6 hi];rfl
  have e:dV ts (l,o) i=(bP l (ts.getD i ⟨0,0,0,0⟩),o.set i (cM l (ts.getD i ⟨0,0,0,0⟩))):=by unfold dV;rw[ex]
  show df ts (dV ts (l,o) i) L=_
  rw[e,uY L _ _ fun j hj=>h j (bl _ hj)]
  rfl
structure MidB (b:List Int)(M:List (Int×Int))(left:List Nat)(c:List Int):Prop where
 len:c.length=6
 at':∀j q,M[j]?=some q→(j∈left→c.getD q.1.toNat 0=b.getD q.1.toNat 0)∧(j∉left→c.getD q.1.toNat 0=q.2)
 other:∀a,(∀q∈M,q.1.toNat≠a)→c.getD a 0=b.getD a 0
theorem MidB.start {b:List Int}{M:List (Int×Int)}(h:b.length=6):MidB b M (List.range M.length) b:=
 ⟨h,fun j q hj=>⟨fun _=>rfl,fun hn=>absurd (gL.2 (cz.1 hj).1) hn⟩,fun _ _=>rfl⟩
theorem MidB.step {b c:List Int}{M:List (Int×Int)}{left:List Nat}{j:Nat}{q:Int×Int}(h:MidB b M left c)(hn:fY M)(hr:∀p∈M,0≤p.1∧p.1≤5)(hq:M[j]?=some q):MidB b M (left.filter fun i=>i !=j) (c.set q.1.toNat q.2):=by
 have hq5:=hr q (dm hq)
 have hl:=h.len
 have same:∀{i:Nat} {p:Int×Int},M[i]?=some p→p.1.toNat=q.1.toNat→i=j:=by
  intro i p hp e
  have hp5:=hr p (dm hp)
  have e1:p.1=q.1:=by omega
  unfold fY at hn
  rw[List.nodup_iff_pairwise_ne,List.pairwise_iff_getElem] at hn
  obtain⟨hi,hi2⟩:=cz.1 hp
  obtain⟨hj,hj2⟩:=cz.1 hq
  rcases Nat.lt_trichotomy i j with hlt|heq|hgt
  ·have:=hn i j (by simpa using hi) (by simpa using hj) hlt
   rw[List.getElem_map,List.getElem_map,hi2,hj2] at this
   exact absurd e1 this
  ·exact heq
  ·have:=hn j i (by simpa using hj) (by simpa using hi) hgt
   rw[List.getElem_map,List.getElem_map,hi2,hj2] at this
   exact absurd e1.symm this
 refine⟨by simp[hl],fun i p hp=>?_,fun a ha=>?_⟩
 ·by_cases e:p.1.toNat=q.1.toNat
  ·obtain rfl:=same hp e
   rw[hq] at hp
   cases hp
   refine⟨fun hm=>by simp at hm,fun _=>bO (by omega)⟩
  ·have hne:i≠j:=fun e2=>by subst e2;rw[hq] at hp;cases hp;exact e rfl
   rw[aY (cq e)]
   obtain⟨h1,h2⟩:=h.at' i p hp
   refine⟨fun hm=>h1 (kP.1 hm).1,fun hm=>h2 fun hm2=>hm (kP.2 ⟨hm2,by simp[hne]⟩)⟩
 ·rw[aY (ha q (dm hq))]
  exact h.other a ha
theorem MidB.done {b c d:List Int}{M:List (Int×Int)}{left:List Nat}(h:MidB b M left c)(hn:∀j,j∉left)(hd:d.length=6)(h1:∀q∈M,d.getD q.1.toNat 0=q.2)(h2:∀a,(∀q∈M,q.1.toNat≠a)→d.getD a 0=b.getD a 0):c=d:=by
 apply pZ
 intro a
 rcases cY a 6 with ha|ha
 ·have key:c.getD a 0=d.getD a 0:=by
   by_cases e:∃q∈M,q.1.toNat=a
   ·obtain⟨q,hq,rfl⟩:=e
    obtain⟨j,hj⟩:=List.mem_iff_getElem?.1 hq
    rw[(h.at' j q hj).2 (hn j),h1 q hq]
   ·have e':∀q∈M,q.1.toNat≠a:=fun q hq e2=>e ⟨q,hq,e2⟩
    rw[h.other a e',h2 a e']
  have hl:=h.len
  rw[a6 (by omega),a6 (by omega)]
  simp only[aX,a6 (show a<c.length by omega),a6 (show a<d.length by omega),e9] at key
  rw[key]
 ·rw[js (by rw[h.len];exact ha),js (by rw[hd];exact ha)]
section
variable {B:List Int} {f:Int} {ts:List Txn} {lanes:List (List Nat)} {p:Nat} {L:List Nat}
theorem BX (hB:B.length=6)(hv:∀t∈ts,bZ t=true)(h:LanesOK ts lanes)(hp:lanes[p]?=some L):
  (gk B f ts lanes (p+1)).1.f=(gk B f ts lanes p).1.f+CR B ts L∧(gk B f ts lanes (p+1)).2=eX (gk B f ts lanes p).2 L (zd B ts L)∧
   (∀q∈sY B ts L,(gk B f ts lanes (p+1)).1.b.getD q.1.toNat 0=q.2)∧∀a,(∀q∈sY B ts L,q.1.toNat≠a)→(gk B f ts lanes (p+1)).1.b.getD a 0=(gk B f ts lanes p).1.b.getD a 0:=by
 obtain⟨h1,h2,h3⟩:=Dm (f:=f) hB hv h hp
 have hL:∀i∈L,i<ts.length:=fun i hi=>by
  obtain⟨q,hq⟩:=List.mem_iff_getElem?.1 hi
  exact i6 h hp hq
 have e:=BZ (B:=B) (f:=f) (ts:=ts) hp
 have e2:df ts (gk B f ts lanes p) L=(bR (gk B f ts lanes p).1 (di ts L),eX (gk B f ts lanes p).2 L (dx (gk B f ts lanes p).1 (di ts L))):=uY L _ _ hL
 rw[e,e2,h1]
 refine⟨h2,rfl,fun q hq=>?_,fun a ha=>?_⟩
 ·rw[CU B ts L q hq]
  exact(h3 _).1 ((ug B ts L (pd hv h hp) _).1 ⟨q,hq,rfl⟩)
 ·exact(h3 a).2 fun hc=>by
   obtain⟨q,hq,e⟩:=(ug B ts L (pd hv h hp) a).2 hc
   exact ha q hq e
theorem Dj (hv:∀t∈ts,bZ t=true)(h:LanesOK ts lanes):gk B f ts lanes lanes.length=(bR ⟨B,f⟩ ts,dx ⟨B,f⟩ ts):=yl hv h ⟨B,f⟩
theorem BY (h:LanesOK ts lanes)(hok:mV ⟨B,f⟩)(hf:f+9*ts.length≤99000):mV (gk B f ts lanes p).1:=by
 have:=(BD h hok hf (List.replicate ts.length false) p 0).1
 rw[rg] at this
 exact this
theorem va:(gk B f ts lanes p).2.length=ts.length:=by unfold gk;rw[jg];simp
end
end Go.Proofs.Ytbmnihglaokhmaa.Am
namespace Go.Proofs.Ytbmnihglaokhmaa.Am
open Go Go.RowKit Go.Conc
attribute [local irreducible] Mk ct Ari fF nD j7 cO dR jv gP At bt
set_option maxRecDepth 10000
noncomputable def pre8 (c:Code):Code:=match body8 with| .seq x0 (.seq x1 (.seq x3 (.seq x4 (.seq x5 (.seq x6 _)))))=>.seq x0 (.seq x1 (.seq x3 (.seq x4 (.seq x5 (.seq x6 c)))))|_=>.skip
theorem z8:body8=pre8 c7:=by kernel_rfl
section
attribute [local instance] kW
theorem AS {b:List Int}{f:Int}{ts:List Txn}(h:pb ⟨b,f⟩ ts=false):bt Try.prog 8 [.agg [.lst (.int .i64) b,.int .i64 f],.lst .txn ts] []
  (.tup [.agg [.nils,.int .i64 0],.ref 4]) [(4,.row 4 .bool [])]:=by
 refine bg bf Try.func8 rfl rfl false 0 4 rfl rfl rfl rfl fun K hK hb1 hb2=>?_;simp only[bD,enc,Nat.reduceAdd]
 clear hb1 hb2
 have hval:=tY ts
 have hacc:=lS b f ts
 show At Try.prog 109 K body8 _ _
 rw[z8]
 cases hr:m6 ⟨b,f⟩ ts
 ·rw[hr] at hacc
  conv=>arg 4;whnf
  (repeat' first|refine st ?_|refine sa fun xe hxe=>?_|refine sb (fun hq=>?_) fun hq=>?_|refine cr (hacc) ?_|exact aC)
  exact⟨rfl,rfl⟩
 ·have hl:fZ ts=false:=by
   simp only[pb,m6,b6,mi] at h hr
   exact h.resolve_left (by simp[hr.1])
  rw[hr] at hacc
  rw[hl] at hval
  conv=>arg 4;whnf
  (repeat' first|refine st ?_|refine sa fun xe hxe=>?_|refine sb (fun hq=>?_) fun hq=>?_|refine cr (hacc) ?_|refine cr (hval) ?_|exact aC)
  exact⟨rfl,rfl⟩
theorem mZ {α:Type}(f:Nat→α){n p:Nat}(h:p<n):((List.range n).map f)[p]?=some (f p):=by simp[h]
theorem Bu {b:List Int}{f:Int}(h:mV ⟨b,f⟩):mV ⟨b,0⟩:=by
 obtain⟨h1,h2,h3⟩:=h
 exact⟨h1,h2,Int.le_refl _,show (0:Int)≤100000 by omega⟩
def H6 (b0 b1 b2 b3 b4 b5 f:Int)(b:List Int)(ts:List Txn)(n:Nat):VH:=
 [(4,.var 25 [.lst (.int .i64) b,.int .i64 f]),(5,.var 26 [.lst .txn ts]),(6,.var 25 [.nils,.int .i64 0]),(7,.var 60 [.int .i64 b0,.int .i64 b1,.int .i64 b2,.int .i64 b3,.int .i64 b4,.int .i64 b5,.int .i64 f]),
  (8,.lit 74 (List.replicate n (.agg [.nilm,.int .i64 0,.nils]))),(9,.var 56 [.ref 8]),(10,.var 58 [.int .i64 b0,.int .i64 b1,.int .i64 b2,.int .i64 b3,.int .i64 b4,.int .i64 b5])]
def g6 (b:Id):Id:=match b with|(5,i)=>(6,i)|(6,i)=>(7,i)|(7,i)=>(9,i)|b=>b
theorem FC (b0 b1 b2 b3 b4 b5 f:Int)(b:List Int)(ts:List Txn)(LL:List (List Int))(n:Nat)(K:Id→Prop)(hK:KB 0 K)(T:VT)(t3:look T 3=some (.ptr 5 0))(t4:look T 4=some (.ptr 6 0))(t6:look T 6=some (.ptr 7 0))(t7:look T 7=some (.lst (.lst (.int .i64)) LL))(t8:look T 8=some (.ptr 9 0))(t9:look T 9=some (.ptr 10 0)):
  Weak Try.prog 109 K (VSt.toD ⟨T,H6 b0 b1 b2 b3 b4 b5 f b ts n,11⟩)
   (jZ (.var 25 [.nils,.int .i64 0]) (.var 60 [.int .i64 b0,.int .i64 b1,.int .i64 b2,.int .i64 b3,.int .i64 b4,.int .i64 b5,.int .i64 f]) b0 b1 b2 b3 b4 b5 ts LL n).toD:=by
 have ef:frz (toH (H6 b0 b1 b2 b3 b4 b5 f b ts n)) [(5,0),(10,0)]=[((5,0),.fvar [.lst (ts.map (aj .txn))]),((10,0),.fvar [.int .i64 b0,.int .i64 b1,.int .i64 b2,.int .i64 b3,.int .i64 b4,.int .i64 b5])]:=by
  have h5:look (toH (H6 b0 b1 b2 b3 b4 b5 f b ts n)) (5,0)=some (.var 26 [.lst (ts.map (aj .txn))]):=by rw[az];rfl
  have h10:look (toH (H6 b0 b1 b2 b3 b4 b5 f b ts n)) (10,0)=some (.var 58 [.int .i64 b0,.int .i64 b1,.int .i64 b2,.int .i64 b3,.int .i64 b4,.int .i64 b5]):=by rw[az];rfl
  have f5:frzB (toH (H6 b0 b1 b2 b3 b4 b5 f b ts n)) (5,0)=some (.fvar [.lst (ts.map (aj .txn))]):=by unfold frzB;rw[h5];rfl
  have f10:frzB (toH (H6 b0 b1 b2 b3 b4 b5 f b ts n)) (10,0)=some (.fvar [.int .i64 b0,.int .i64 b1,.int .i64 b2,.int .i64 b3,.int .i64 b4,.int .i64 b5]):=by unfold frzB;rw[h10];rfl
  simp only[frz,List.filterMap_cons,f5,f10,aM,List.filterMap_nil]
 refine Weak.trans (pU [(5,0),(10,0)]) ?_
 have eh:(VSt.toD ⟨T,H6 b0 b1 b2 b3 b4 b5 f b ts n,11⟩).h=toH (H6 b0 b1 b2 b3 b4 b5 f b ts n):=rfl
 rw[eh,ef]
 have lk:∀c,look (puts [((5,0),.fvar [.lst (ts.map (aj .txn))]),((10,0),.fvar [.int .i64 b0,.int .i64 b1,.int .i64 b2,.int .i64 b3,.int .i64 b4,.int .i64 b5])] (toH (H6 b0 b1 b2 b3 b4 b5 f b ts n))) c=
   if c=(10,0) then some (.fvar [.int .i64 b0,.int .i64 b1,.int .i64 b2,.int .i64 b3,.int .i64 b4,.int .i64 b5]) else if c=(5,0) then some (.fvar [.lst (ts.map (aj .txn))]) else look (toH (H6 b0 b1 b2 b3 b4 b5 f b ts n)) c:=by
  intro c
  simp only[puts,List.foldl_cons,List.foldl_nil,aD]
 generalize hh1:puts [((5,0),.fvar [.lst (ts.map (aj .txn))]),((10,0),.fvar [.int .i64 b0,.int .i64 b1,.int .i64 b2,.int .i64 b3,.int .i64 b4,.int .i64 b5])] (toH (H6 b0 b1 b2 b3 b4 b5 f b ts n))=h1 at lk
 have l6:look h1 (6,0)=some (.var 25 [.nils,.int .i64 0]):=by rw[lk,if_neg (by decide),if_neg (by decide),az];rfl
 have l7:look h1 (7,0)=some (.var 60 [.int .i64 b0,.int .i64 b1,.int .i64 b2,.int .i64 b3,.int .i64 b4,.int .i64 b5,.int .i64 f]):=by rw[lk,if_neg (by decide),if_neg (by decide),az];rfl
 have l9:look h1 (9,0)=some (.var 56 [.ref (8,0)]):=by rw[lk,if_neg (by decide),if_neg (by decide),az];rfl
 have l8:look h1 (8,0)=some (.row 74 (aB (List.replicate n (.agg [.nilm,.int .i64 0,.nils])))):=by rw[lk,if_neg (by decide),if_neg (by decide),az];rfl
 have l5:look h1 (5,0)=some (.fvar [.lst (ts.map (aj .txn))]):=by rw[lk,if_neg (by decide),if_pos rfl]
 have l10:look h1 (10,0)=some (.fvar [.int .i64 b0,.int .i64 b1,.int .i64 b2,.int .i64 b3,.int .i64 b4,.int .i64 b5]):=by rw[lk,if_pos rfl]
 have live:∀c,c=(5,0)∨c=(6,0)∨c=(7,0)∨c=(8,0)→Live (jZ (.var 25 [.nils,.int .i64 0]) (.var 60 [.int .i64 b0,.int .i64 b1,.int .i64 b2,.int .i64 b3,.int .i64 b4,.int .i64 b5,.int .i64 f]) b0 b1 b2 b3 b4 b5 ts LL n).toD.h c:=by
  rintro c (rfl|rfl|rfl|rfl)<;>(unfold Live;show (look (toH _) _).isSome=true;rw[az];rfl)
 refine pV (g:=g6) ⟨?_,?_⟩ ?_ ?_ ?_
 ·rintro⟨g,i⟩ x' hx
  have hx':look (toH (jZ (.var 25 [.nils,.int .i64 0]) (.var 60 [.int .i64 b0,.int .i64 b1,.int .i64 b2,.int .i64 b3,.int .i64 b4,.int .i64 b5,.int .i64 f]) b0 b1 b2 b3 b4 b5 ts LL n).h) (g,i)=some x':=hx
  rw[az] at hx'
  have hg:g=5∨g=6∨g=7∨g=8∨(g≠5∧g≠6∧g≠7∧g≠8):=by omega
  have pureV:∀(l:List D),l.all D.pure0=true→∀j,j<l.length→Rn h1 g6 (jZ (.var 25 [.nils,.int .i64 0]) (.var 60 [.int .i64 b0,.int .i64 b1,.int .i64 b2,.int .i64 b3,.int .i64 b4,.int .i64 b5,.int .i64 f]) b0 b1 b2 b3 b4 b5 ts LL n).toD.h (l.getD j .undef) (l.getD j .undef):=
   fun l hl j hj=>.pure _ (by rw[bc] at hl;exact hl _ (br hj))
  rcases hg with rfl|rfl|rfl|rfl|⟨q1,q2,q3,q4⟩
  ·cases i with
   |zero=>cases hx';exact⟨_,l6,.var _ _ _ rfl (pureV _ rfl)⟩
   |succ i=>simp[jZ,look,VB.blks] at hx'
  ·cases i with
   |zero=>cases hx';exact⟨_,l7,.var _ _ _ rfl (pureV _ rfl)⟩
   |succ i=>simp[jZ,look,VB.blks] at hx'
  ·cases i with
   |zero=>
    cases hx'
    refine⟨_,l9,.var _ _ _ rfl fun j hj=>?_⟩
    have:j=0:=by simpa using hj
    subst this
    exact .ref (g:=g6) (8,0) fun _=>live _ (by simp)
   |succ i=>simp[jZ,look,VB.blks] at hx'
  ·cases i with
   |zero=>
    cases hx'
    refine⟨_,l8,.row _ _ _ rfl fun j hj=>?_⟩
    have e:(aB (List.replicate n (.agg [.nilm,.int .i64 0,.nils]))).getD j .undef= .agg [.nilm,.int .i64 0,.nils]:=by
     rw[aR,ij] at hj
     rw[ci,List.map_replicate,aX,List.getElem?_replicate,if_pos hj]
     rfl
    rw[e]
    exact⟨.agg _ _ rfl (pureV _ rfl),fun s hs=>⟨hs,fun j hj=>pureV _ rfl j (by have:=hs.1;simp only[D.cells] at this;simp only[D.cells];omega)⟩⟩
   |succ i=>simp[jZ,look,VB.blks] at hx'
  ·simp[jZ,look,q1,q2,q3,q4] at hx'
 ·rintro⟨g,i⟩ ⟨g',i'⟩ x y hx hy _ _ he
  have hx':look (toH (jZ (.var 25 [.nils,.int .i64 0]) (.var 60 [.int .i64 b0,.int .i64 b1,.int .i64 b2,.int .i64 b3,.int .i64 b4,.int .i64 b5,.int .i64 f]) b0 b1 b2 b3 b4 b5 ts LL n).h) (g,i)=some x:=hx
  have hy':look (toH (jZ (.var 25 [.nils,.int .i64 0]) (.var 60 [.int .i64 b0,.int .i64 b1,.int .i64 b2,.int .i64 b3,.int .i64 b4,.int .i64 b5,.int .i64 f]) b0 b1 b2 b3 b4 b5 ts LL n).h) (g',i')=some y:=hy
  rw[az] at hx' hy'
  have hg:g=5∨g=6∨g=7∨g=8∨(g≠5∧g≠6∧g≠7∧g≠8):=by omega
  have hg':g'=5∨g'=6∨g'=7∨g'=8∨(g'≠5∧g'≠6∧g'≠7∧g'≠8):=by omega
  rcases hg with rfl|rfl|rfl|rfl|⟨q1,q2,q3,q4⟩<;>rcases hg' with rfl|rfl|rfl|rfl|⟨r1,r2,r3,r4⟩<;>
   first
    |(simp only[g6,bi] at he;obtain⟨e1,e2⟩:=he;first|(subst e2;rfl)|omega)
    |(simp[jZ,look,q1,q2,q3,q4] at hx')
    |(simp[jZ,look,r1,r2,r3,r4] at hy')
 ·intro k d' hk
  have hlt:∀k v,look T k=some v→look (VSt.toD ⟨T,H6 b0 b1 b2 b3 b4 b5 f b ts n,11⟩).t k=some v.toD:=fun k v h=>by show look (toT T) k=_;rw[cx,h];rfl
  simp only[jZ,VSt.toD,toT,bI,dt,look] at hk
  repeat' split at hk
  ·obtain rfl:k=3:=‹k=3›
   cases hk
   exact⟨_,hlt 3 _ t3,.box _ _ l5⟩
  ·obtain rfl:k=4:=‹k=4›
   cases hk
   exact⟨_,hlt 4 _ t4,.ptr (g:=g6) (5,0) 0 fun _=>live _ (by simp)⟩
  ·obtain rfl:k=6:=‹k=6›
   cases hk
   exact⟨_,hlt 6 _ t6,.ptr (g:=g6) (6,0) 0 fun _=>live _ (by simp)⟩
  ·obtain rfl:k=7:=‹k=7›
   cases hk
   exact⟨_,hlt 7 _ t7,.pure _ rfl⟩
  ·obtain rfl:k=8:=‹k=8›
   cases hk
   exact⟨_,hlt 8 _ t8,.ptr (g:=g6) (7,0) 0 fun _=>live _ (by simp)⟩
  ·obtain rfl:k=9:=‹k=9›
   cases hk
   exact⟨_,hlt 9 _ t9,.box _ _ l10⟩
  ·cases hk
 ·intro c hc hl
  exfalso
  have h1':=hK c hc
  have h2:(look h1 c).isSome=true:=hl
  rw[lk,if_neg (fun e=>by rw[e] at h1';simp at h1'),if_neg (fun e=>by rw[e] at h1';simp at h1'),az] at h2
  simp[H6,look,show c.1≠4 by omega,show c.1≠5 by omega,show c.1≠6 by omega,show c.1≠7 by omega,show c.1≠8 by omega,show c.1≠9 by omega,show c.1≠10 by omega] at h2
 ·intro c hc
  have hc':10≤c.1:=hc
  show look (toH (jZ (.var 25 [.nils,.int .i64 0]) (.var 60 [.int .i64 b0,.int .i64 b1,.int .i64 b2,.int .i64 b3,.int .i64 b4,.int .i64 b5,.int .i64 f]) b0 b1 b2 b3 b4 b5 ts LL n).h) c=none
  rw[az]
  simp[jZ,look,show c.1≠5 by omega,show c.1≠6 by omega,show c.1≠7 by omega,show c.1≠8 by omega]
theorem AT {b:List Int}{f:Int}{ts:List Txn}(h:pb ⟨b,f⟩ ts=true):bt Try.prog 8 [.agg [.lst (.int .i64) b,.int .i64 f],.lst .txn ts] []
  (.tup [.agg [.ref 4,.int .i64 (bR ⟨b,f⟩ ts).f],.ref 5]) [(4,.row 3 (.int .i64) (bR ⟨b,f⟩ ts).b),(5,.row 4 .bool (dx ⟨b,f⟩ ts))]:=by
 have hval:=tY ts
 have hacc:=lS b f ts
 obtain⟨h1,h2,h3,h4,h5,h6⟩:=sx h
 have hrun:m6 ⟨b,f⟩ ts=true:=by simp[m6,h1,h3]
 rw[h2] at hval
 rw[hrun] at hacc
 have hlen:b.length=6:=h5.1
 have hlan:=AU ts h3
 have hOK:LanesOK ts (cK (iM ts ts.length) ts.length ts.length):=pe (CN ts)
 have hln:=i7 (iM ts ts.length) ts.length ts.length
 rw[mP] at hlan
 obtain⟨b0,b1,b2,b3,b4,b5,rfl⟩:∃b0 b1 b2 b3 b4 b5,b=[b0,b1,b2,b3,b4,b5]:=by
  match b,hlen with|[b0,b1,b2,b3,b4,b5],_=>exact⟨b0,b1,b2,b3,b4,b5,rfl⟩
 refine bg bf Try.func8 rfl rfl false 0 4 rfl rfl rfl rfl fun K hK hb1 hb2=>?_;simp only[bD,enc,Nat.reduceAdd]
 clear hb1 hb2
 show At Try.prog 109 K body8 _ _
 rw[z8]
 generalize cK (iM ts ts.length) ts.length ts.length=lanes at *
 have hLn:(lanes.map fun L=>L.map fun i:Nat=>(i:Int)).length≤16:=by rw[bH];omega
 conv=>arg 4;whnf
 have hob:bt Try.prog 30 [.agg [.lst (.int .i64) [b0,b1,b2,b3,b4,b5],.int .i64 f]] [] (.ptr 4 0) [(4,.var 60 [.int .i64 b0,.int .i64 b1,.int .i64 b2,.int .i64 b3,.int .i64 b4,.int .i64 b5,.int .i64 f])]:=by
  have h:=wO [b0,b1,b2,b3,b4,b5] f hlen
  unfold bt at h⊢
  exact h
 (repeat' first|refine st ?_|refine sa fun xe hxe=>?_|refine sb (fun hq=>?_) fun hq=>?_|refine cr (hacc) ?_|refine cr (hval) ?_|refine cr (hlan) ?_|refine cr (hob) ?_|exact aC)
 have hw:=FC b0 b1 b2 b3 b4 b5 f [b0,b1,b2,b3,b4,b5] ts (lanes.map fun L=>L.map fun i:Nat=>(i:Int)) (lanes.map fun L=>L.map fun i:Nat=>(i:Int)).length K hK
 generalize hT:(lanes.map fun L=>L.map fun i:Nat=>(i:Int))=LL at *
 show At Try.prog 109 K c7 _ ⟨_,H6 b0 b1 b2 b3 b4 b5 f [b0,b1,b2,b3,b4,b5] ts LL.length,11⟩
 refine xv (hw _ ?_ ?_ ?_ ?_ ?_ ?_) ?_
 ·rfl
 ·rfl
 ·rfl
 ·rfl
 ·rfl
 ·rfl
 subst hT
 refine z3 hK (Bu h5) h4 (fun L hL=>?_) (by simp) (by rw[bH];omega) ?_
 ·obtain⟨p,hp⟩:=List.mem_iff_getElem?.1 hL
  exact⟨fun i hi=>by
   obtain⟨q,hq⟩:=List.mem_iff_getElem?.1 hi
   exact i6 hOK hp hq,gK (pc hOK hp) h3⟩
 conv=>arg 4;whnf
 unfold sL
 have hRS:∀p L,lanes[p]?=some L→(pz [b0,b1,b2,b3,b4,b5] ts lanes)[p]?=some (⟨p,CR [b0,b1,b2,b3,b4,b5] ts L,some p⟩:LRes):=fun p L hp=>by
  obtain⟨hlt,rfl⟩:=cz.1 hp
  unfold pz
  rw[mZ _ hlt,aX,a6 hlt]
  rfl
 have hRM:∀p L,lanes[p]?=some L→(uV [b0,b1,b2,b3,b4,b5] ts lanes)[p]?=some (sY [b0,b1,b2,b3,b4,b5] ts L):=fun p L hp=>by
  obtain⟨hlt,rfl⟩:=cz.1 hp
  unfold uV
  rw[mZ _ hlt,aX,a6 hlt]
  rfl
 have hRO:∀p L,lanes[p]?=some L→(uW [b0,b1,b2,b3,b4,b5] ts lanes)[p]?=some (zd [b0,b1,b2,b3,b4,b5] ts L):=fun p L hp=>by
  obtain⟨hlt,rfl⟩:=cz.1 hp
  unfold uW
  rw[mZ _ hlt,aX,a6 hlt]
  rfl
 have hRl:(pz [b0,b1,b2,b3,b4,b5] ts lanes).length=lanes.length:=by simp[pz]
 clear hw hob hlan hacc hval hrun h1 h2 h hLn
 generalize pz [b0,b1,b2,b3,b4,b5] ts lanes=RS at *
 generalize uV [b0,b1,b2,b3,b4,b5] ts lanes=RM at *
 generalize uW [b0,b1,b2,b3,b4,b5] ts lanes=RO at *
 (repeat' first|refine st ?_|refine sa fun xe hxe=>?_|refine sb (fun hq=>?_) fun hq=>?_|exact aC)
 refine vL 6 0 6 ?_
 conv=>whnf
 refine bw hK [] [4,6,7,13,56,57,58] (fun p:Nat=>⟨[(4,.ptr 4 0),(6,.ptr 5 0),(7,.lst (.lst (.int .i64)) (lanes.map fun L=>L.map fun i:Nat=>(i:Int))),(13,.ref 6),(56,.ref 7),(57,.int .i64 RS.length),(58,.int .i64 p)],
  [(0,.maps RM),(1,.frow 4 .bool RO),(4,.var 25 [.nils,.int .i64 0]),(5,.vari 60 [] 6 (.int .i64) (gk [b0,b1,b2,b3,b4,b5] f ts lanes p).1.b [.int .i64 (gk [b0,b1,b2,b3,b4,b5] f ts lanes p).1.f]),(6,.row 4 .bool (gk [b0,b1,b2,b3,b4,b5] f ts lanes p).2),(7,.row 74 (.lres 0 1) RS)],8⟩)
  (fun p=>p≤lanes.length) (fun p=>lanes.length-p) 0 (by omega) (by rfl) ?_
 intro p hp
 have hok:=BY (p:=p) hOK h5 h6
 have hsl:=va (B:=[b0,b1,b2,b3,b4,b5]) (f:=f) (ts:=ts) (lanes:=lanes) (p:=p)
 by_cases hlt:p<lanes.length
 ·obtain⟨L,hL⟩:∃L,lanes[p]?=some L:=⟨_,a6 hlt⟩
  obtain⟨n1,n2,n3,n4⟩:=BX (f:=f) (B:=[b0,b1,b2,b3,b4,b5]) rfl h4 hOK hL
  have hRS':=hRS p L hL
  have hRM':=hRM p L hL
  have hRO':=hRO p L hL
  have hLL:(lanes.map fun L=>L.map fun i:Nat=>(i:Int))[p]?=some (L.map fun i:Nat=>(i:Int)):=by simp[hL]
  have hlt':p<RS.length:=by omega
  have hMr:=CT [b0,b1,b2,b3,b4,b5] ts L (pd h4 hOK hL)
  have hMn:=zc [b0,b1,b2,b3,b4,b5] ts L
  have hok1:=BY (p:=p+1) hOK h5 h6
  have hOl:(zd [b0,b1,b2,b3,b4,b5] ts L).length=L.length:=by unfold zd;rw[fP];simp[di]
  have hLr:∀i∈L,i<ts.length:=fun i hi=>by
   obtain⟨q,hq⟩:=List.mem_iff_getElem?.1 hi
   exact i6 hOK hL hq
  have hLl:L.length≤16:=gK (pc hOK hL) h3
  have hmB:(RM.map fK)[p]?=some (fK (sY [b0,b1,b2,b3,b4,b5] ts L)):=by simp[hRM']
  generalize sY [b0,b1,b2,b3,b4,b5] ts L=M at *
  generalize CR [b0,b1,b2,b3,b4,b5] ts L=F at *
  generalize zd [b0,b1,b2,b3,b4,b5] ts L=O at *
  have hbl:(gk [b0,b1,b2,b3,b4,b5] f ts lanes p).1.b.length=6:=hok.1
  have hbl1:(gk [b0,b1,b2,b3,b4,b5] f ts lanes (p+1)).1.b.length=6:=hok1.1
  (repeat' first|refine st ?_|refine sa fun xe hxe=>?_|refine sb (fun hq=>?_) fun hq=>?_|exact aC)
  refine ov (α:=List Nat×Option Nat×List Int) hK rfl rfl rfl rfl rfl rfl (by decide) (by decide) [] [4,6,7,13,14,15,56,57,58,65]
   (fun a=>⟨[(4,.ptr 4 0),(6,.ptr 5 0),(7,.lst (.lst (.int .i64)) (lanes.map fun L=>L.map fun i:Nat=>(i:Int))),(13,.ref 6),(14,.int .i64 p),(15,.ptr 7 0),(56,.ref 8),(57,.int .i64 RS.length),(58,.int .i64 p),(65,.ptr 9 0)],
    [(0,.maps RM),(1,.frow 4 .bool RO),(4,.var 25 [.nils,.int .i64 0]),(5,.vari 60 [] 6 (.int .i64) a.2.2 [.int .i64 (gk [b0,b1,b2,b3,b4,b5] f ts lanes p).1.f]),(6,.row 4 .bool (gk [b0,b1,b2,b3,b4,b5] f ts lanes p).2),(7,.var 74 [.fmp 0 p,.int .i64 F,.hro 1 (some p)]),(8,.row 74 (.lres 0 1) RS),(9,.it 0 p M.length a.1 a.2.1)],10⟩)
   (fun a=>MidB (gk [b0,b1,b2,b3,b4,b5] f ts lanes p).1.b M a.1 a.2.2) (fun a=>a.1) (fun a=>a.2.1) (fun _=>M) (List.range M.length,none,(gk [b0,b1,b2,b3,b4,b5] f ts lanes p).1.b) (MidB.start hbl) ?_ (fun a _=>⟨rfl,rfl,by rw[az];exact hmB,rfl⟩) 4 [] [4,6,7,13,14,15,56,57,58]
   ⟨[(4,.ptr 4 0),(6,.ptr 5 0),(7,.lst (.lst (.int .i64)) (lanes.map fun L=>L.map fun i:Nat=>(i:Int))),(13,.ref 6),(14,.int .i64 p),(15,.ptr 7 0),(56,.ref 8),(57,.int .i64 RS.length),(58,.int .i64 p)],
    [(0,.maps RM),(1,.frow 4 .bool RO),(4,.var 25 [.nils,.int .i64 0]),(5,.vari 60 [] 6 (.int .i64) (gk [b0,b1,b2,b3,b4,b5] f ts lanes (p+1)).1.b [.int .i64 (gk [b0,b1,b2,b3,b4,b5] f ts lanes p).1.f]),(6,.row 4 .bool (gk [b0,b1,b2,b3,b4,b5] f ts lanes p).2),(7,.var 74 [.fmp 0 p,.int .i64 F,.hro 1 (some p)]),(8,.row 74 (.lres 0 1) RS)],9⟩ ?_ ?_ ?_
  ·rfl
  ·rintro⟨left,cur,c⟩ hm hnl
   simp only[la]
   have e:=MidB.done hm hnl hbl1 n3 n4
   simp only at e
   subst e
   (repeat' first|refine st ?_|refine sa fun xe hxe=>?_|refine sb (fun hq=>?_) fun hq=>?_|exact aC)
   exact⟨rfl,rfl⟩
  ·rintro⟨left,cur,c⟩ j q hm hj hq
   simp only[ji,put,Nat.reduceEqDiff,if_false,if_true,reduceIte]
   simp only at hj hq hm
   have hm2:=hm.step hMn hMr hq
   have hrg:=hMr q (dm hq)
   have hcl:=hm.len
   obtain⟨qk,qv⟩:=q
   simp only at hrg hm2
   (repeat' first|refine st ?_|refine sa fun xe hxe=>?_|refine sb (fun hq=>?_) fun hq=>?_|exact aC)
   refine⟨(left.filter fun i=>i !=j,some j,c.set qk.toNat qv),hm2,qK hj,?_⟩
   rfl
  ·conv=>whnf
   have hfr:0≤(gk [b0,b1,b2,b3,b4,b5] f ts lanes p).1.f+F∧(gk [b0,b1,b2,b3,b4,b5] f ts lanes p).1.f+F≤100000:=by rw[←n1];exact hok1.2.2
   (repeat' first|refine st ?_|refine sa fun xe hxe=>?_|refine sb (fun hq=>?_) fun hq=>?_|exact aC)
   rw[bH]
   refine bw hK [] [4,6,7,13,15,56,57,58,89,90,91] (fun k:Nat=>⟨[(4,.ptr 4 0),(6,.ptr 5 0),(7,.lst (.lst (.int .i64)) (lanes.map fun L=>L.map fun i:Nat=>(i:Int))),(13,.ref 6),(15,.ptr 7 0),(56,.ref 8),(57,.int .i64 RS.length),(58,.int .i64 p),(89,.lst (.int .i64) (L.map fun i:Nat=>(i:Int))),(90,.int .i64 L.length),(91,.int .i64 k)],
    [(0,.maps RM),(1,.frow 4 .bool RO),(4,.var 25 [.nils,.int .i64 0]),(5,.vari 60 [] 6 (.int .i64) (gk [b0,b1,b2,b3,b4,b5] f ts lanes (p+1)).1.b [.int .i64 ((gk [b0,b1,b2,b3,b4,b5] f ts lanes p).1.f+F)]),(6,.row 4 .bool (eX (gk [b0,b1,b2,b3,b4,b5] f ts lanes p).2 (L.take k) (O.take k))),(7,.var 74 [.fmp 0 p,.int .i64 F,.hro 1 (some p)]),(8,.row 74 (.lres 0 1) RS)],9⟩)
    (fun k=>k≤L.length) (fun k=>L.length-k) 0 (by omega) (by rfl) ?_
   intro k hk
   have hsa:=pJ (gk [b0,b1,b2,b3,b4,b5] f ts lanes p).2 (L.take k) (O.take k)
   rw[hsl] at hsa
   by_cases hlk:k<L.length
   ·obtain⟨i,hi⟩:∃i,L[k]?=some i:=⟨_,a6 hlk⟩
    obtain⟨v,hv⟩:∃v,O[k]?=some v:=⟨_,a6 (by omega)⟩
    have hiL:=hLr i (dm hi)
    have hstep:=nw (o:=(gk [b0,b1,b2,b3,b4,b5] f ts lanes p).2) hi hv
    have hgi:(L.map fun i:Nat=>(i:Int))[k]?=some (i:Int):=by simp[hi]
    generalize eX (gk [b0,b1,b2,b3,b4,b5] f ts lanes p).2 (L.take k) (O.take k)=row at *
    (repeat' first|refine st ?_|refine sa fun xe hxe=>?_|refine sb (fun hq=>?_) fun hq=>?_|exact aC)
    refine⟨k+1,by omega,by omega,?_⟩
    rw[hstep]
    rfl
   ·have:k=L.length:=by omega
    subst this
    rw[List.take_length,ii (by omega)] at hsa⊢
    rw[←n2,←n1]
    (repeat' first|refine st ?_|refine sa fun xe hxe=>?_|refine sb (fun hq=>?_) fun hq=>?_|exact aC)
    refine⟨p+1,by omega,by omega,?_⟩
    rfl
 ·have hpe:p=lanes.length:=by omega
  have hfin:=Dj (B:=[b0,b1,b2,b3,b4,b5]) (f:=f) h4 hOK
  have hbl:(gk [b0,b1,b2,b3,b4,b5] f ts lanes p).1.b.length=6:=hok.1
  rw[←hpe] at hfin
  rw[hfin] at hbl⊢
  simp only at hbl⊢
  (repeat' first|refine st ?_|refine sa fun xe hxe=>?_|refine sb (fun hq=>?_) fun hq=>?_|refine cr (yH _ _ _ hbl) ?_|exact aC)
  exact⟨rfl,rfl⟩
end

end Go.Proofs.Ytbmnihglaokhmaa.Am
