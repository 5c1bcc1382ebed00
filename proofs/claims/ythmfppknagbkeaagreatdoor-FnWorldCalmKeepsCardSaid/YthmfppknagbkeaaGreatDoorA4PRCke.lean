/- Orders: FnWorldCalmKeeps. FnWorldCalmKeeps's card holds: it returns true for all bytes, and leaves its argument as it was. -/
import Derived.Test.YthmfppknagbkeaaGreatDoorRows
import Derived.Test.YthmfppknagbkeaaGreatDoorCards
import Derived.Test.YthmfppknagbkeaaGreatDoorTie
import Derived.Stop.LaidErr
import Derived.Stop.Joined
import Derived.MakeChecks
import Derived.ChangeVars
import Derived.LaidHandle
import Derived.SevenTiedAt
import Derived.Test.YthmfppknagbkeaaGreatDoorA412
set_option linter.unusedSimpArgs false
set_option linter.unusedVariables false
set_option maxHeartbeats 1000000
namespace Go.Proofs.YthmfppknagbkeaaGreatDoor.Am
open Go
attribute [local irreducible] Mk bk Ari eD ky iB br b8 fY er At af kQ
set_option maxRecDepth 10000
set_option maxHeartbeats 1000000 in
theorem Bh (c:List Int)(hc:∀x∈c,0≤x∧x≤255):af Tryz.prog 7 [.lst (.int .u8) c] [] (.bool true) []:=by
 obtain⟨⟨w,r⟩,⟨hw,hr1,hr2⟩,hd⟩:=FJ c hc
 dsimp only at hw hr1 hr2 hd
 have hI:=DE w r (fun g hg=>by have:=hw.2 g hg;omega) (by omega)
 have hS:=Cn w r (by have:=hw.1;omega)
 refine aa al Tryz.func7 rfl rfl false 0 4 rfl rfl rfl rfl fun K hK hb1 hb2=>?_;simp only[ae,enc,Nat.reduceAdd]
 clear hb1 hb2
 by_cases hl:1048576<(c.length:Int)
 ·(repeat' first|refine st ?_|refine sa fun xe hxe=>?_|refine sb (fun hq=>?_) fun hq=>?_|exact True.intro)
  (try any_goals(first|exact absurd trivial hq|exact absurd rfl hq|exact absurd hq (by omega)|(exfalso;simp at hq;done)))
  exact⟨rfl,rfl⟩
 cases hs:decide (0≤r∧r≤12) && dw w
 ·simp only[hs,Bool.false_eq_true,if_false] at hI hS
  (repeat' first|refine st ?_|refine sa fun xe hxe=>?_|refine sb (fun hq=>?_) fun hq=>?_|refine cr (hd) ?_|refine cr (hI) ?_|refine cr (hS) ?_|refine cr (pg) ?_|exact True.intro)
  all_goals first|exact⟨rfl,rfl⟩|(exfalso;rename_i h;exact h rfl)|(exfalso;rename_i h _;exact h rfl)|(exfalso;exact hq rfl)
 ·simp only[hs,if_true] at hI hS
  obtain⟨-,hww⟩:=(Bool.and_eq_true .. ▸hs:_∧_)
  have hok:=ce.1 hww
  have hu:=cD hok r.toNat
  have hgr:=oJ hok r.toNat
  generalize aX w r.toNat=u at *
  have hE:=pf u
  have h7:=hu.len
  have hpn:=hgr.plen
  have h7w:=hok.len
  have hpl:=hu.plen
  have hmm:=hok.mem
  have f3:=hgr.props
  (repeat' first|refine st ?_|refine sa fun xe hxe=>?_|refine sb (fun hq=>?_) fun hq=>?_|refine cr (hd) ?_|refine cr (hI) ?_|refine cr (hS) ?_|refine cr (hE) ?_|exact True.intro)
  (try any_goals(first|exact absurd trivial hq|exact absurd rfl hq|exact absurd hq (by omega)|(exfalso;simp at hq;done)))
  refine ab hK [] [3,5,7] (fun i:Nat=>⟨[(3,.ptr 4 0),(5,.ptr 5 0),(7,.int .i64 (i:Int))],[(4,.var 33 (ap w).cells),(5,.var 33 (ap u).cells)],6⟩) (fun i=>i≤w.props.length) (fun i=>w.props.length-i) 0 (Nat.zero_le _) rfl ?_
  intro i hi
  by_cases hlt:i<w.props.length
  ·obtain⟨p,hx⟩:∃p,w.props[i]?=some p:=⟨_,List.getElem?_eq_getElem hlt⟩
   obtain⟨q,hy,qv,qm⟩:∃q,u.props[i]?=some q∧q.v=p.v∧(∀m∈p.members,m∈q.members):=by
    obtain⟨l,g1,g2⟩:=f3 i _ hx
    exact⟨_,g1,rfl,g2⟩
   have hm1:=hmm _ (List.mem_of_getElem? hx)
   have hC:=HO p.members q.members (by omega)
   rw[yx qm] at hC
   have hV2:=wk p.v
   have hV3:af Tryz.prog 33 [bA q.v,bA p.v] [] (.bool true) []:=by rw[qv];exact hV2
   (repeat' first|refine st ?_|refine sa fun xe hxe=>?_|refine sb (fun hq=>?_) fun hq=>?_|refine cr (hV3) ?_|refine cr (hC) ?_|exact True.intro)
   (try any_goals(first|exact absurd trivial hq|exact absurd rfl hq|exact absurd hq (by omega)|(exfalso;simp at hq;done)))
   exact⟨i+1,by omega,by omega,rfl⟩
  ·clear hI hS hd hE
   (repeat' first|refine st ?_|refine sa fun xe hxe=>?_|refine sb (fun hq=>?_) fun hq=>?_|exact True.intro)
   (try any_goals(first|exact absurd trivial hq|exact absurd rfl hq|exact absurd hq (by omega)|(exfalso;simp at hq;done)))
   refine ab hK [] [3,5,8] (fun m:Nat=>⟨[(3,.ptr 4 0),(5,.ptr 5 0),(8,.int .i64 (m:Int))],[(4,.var 33 (ap w).cells),(5,.var 33 (ap u).cells)],6⟩) (fun m=>m≤w.com.length) (fun m=>w.com.length-m) 0 (Nat.zero_le _) rfl ?_
   intro m hm
   by_cases hlt:m<w.com.length
   ·have hA:=lu w (m:Int) (fun g hg=>by have:=hok.vl g hg;omega)
    have hB:=lu u (m:Int) (fun g hg=>by have:=hu.vl g hg;omega)
    have hP:=pn (wo w (m:Int)) (wo u (m:Int)) (i7 hok _) (i7 hu _)
    rw[sL hok hu hgr hlt] at hP
    generalize wo w (m:Int)=a at *
    generalize wo u (m:Int)=b at *
    (repeat' first|refine st ?_|refine sa fun xe hxe=>?_|refine sb (fun hq=>?_) fun hq=>?_|refine cr (hA) ?_|refine cr (hB) ?_|refine cr (hP) ?_|exact True.intro)
    (try any_goals(first|exact absurd trivial hq|exact absurd rfl hq|exact absurd hq (by omega)|(exfalso;simp at hq;done)))
    exact⟨m+1,by omega,by omega,rfl⟩
   ·have hV:=Fi u (fun g hg=>by have:=hu.vl g hg;omega)
    rw[ce.2 hu] at hV
    (repeat' first|refine st ?_|refine sa fun xe hxe=>?_|refine sb (fun hq=>?_) fun hq=>?_|refine cr (hV) ?_|exact True.intro)
    (try any_goals(first|exact absurd trivial hq|exact absurd rfl hq|exact absurd hq (by omega)|(exfalso;simp at hq;done)))
    exact⟨rfl,rfl⟩
end Go.Proofs.YthmfppknagbkeaaGreatDoor.Am
namespace Go.Proofs.YthmfppknagbkeaaGreatDoor.rowCke
open Go Go.RowKit Go.ChangeShapes Go.WideShapes Go.ChangeAt Go.Proofs.YthmfppknagbkeaaGreatDoor.Am
theorem own:ownKnob Tryz.prog.godebug=none:=by kernel_rfl
theorem GD:laidOutB Tryz.prog=true:=by kernel_rfl
theorem kD:Tryz.prog.cellsOf 5=1:=by kernel_rfl
theorem dK:Tryz.prog.cellsOf 272=1:=by kernel_rfl
theorem dL:Tryz.prog.cellsOf 9=1:=by kernel_rfl
theorem pp : "*" ++ "errors.errorString" = "*errors.errorString" := by decide
theorem rowE (u : TypeId) (h : Tryz.prog.typeName? 3 u = some "*errors.errorString") : u = 248 :=
 typeName_ptr_named (nm := "errors.errorString") (by rw [pp]; kernel_rfl) (by kernel_rfl) (by decide) u (by rw [pp]; exact h)
theorem gI : Tryz.prog.globalNamed "loop.example/dagconsensus/impl.errInvalid" = some 0 := by kernel_rfl
theorem tI:(Tryz.prog.globals[(0:Nat)]?).map (·.type)=some 128:=by kernel_rfl
abbrev sI:ByteArray:={data:=#[116,104,101,32,103,114,97,112,104,32,111,114,32,116,104,101,32,108,101,97,100,101,114,115,32,97,114,101,32,105,110,118,97,108,105,100]}
theorem gW : Tryz.prog.globalNamed "loop.example/dagconsensus/impl.errNoWave" = some 1 := by kernel_rfl
theorem tW:(Tryz.prog.globals[(1:Nat)]?).map (·.type)=some 128:=by kernel_rfl
abbrev sW:ByteArray:={data:=#[116,104,101,114,101,32,105,115,32,110,111,32,115,117,99,104,32,119,97,118,101]}
theorem gX : Tryz.prog.globalNamed "loop.example/dagconsensus/impl.errNoVertex" = some 2 := by kernel_rfl
theorem tX:(Tryz.prog.globals[(2:Nat)]?).map (·.type)=some 128:=by kernel_rfl
abbrev sX:ByteArray:={data:=#[116,104,101,32,108,101,97,100,101,114,32,104,97,115,32,110,111,32,118,101,114,116,101,120,32,105,110,32,116,104,105,115,32,119,97,118,101]}
noncomputable def low:Nat:=(World.holding Tryz.prog default ⟨#[],#[],[]⟩).heap.size
noncomputable def put (g:Nat) (b:Nat) (h:Array Obj):Array Obj:=h.modify g fun
 | .cells _ t frozen=>.cells #[.iface 248 (.pointer (some ⟨b,0,none⟩))] t frozen
 |o=>o
noncomputable def laidWorld (os:Os):World:=
 let w0:=World.holding Tryz.prog os ⟨#[.cells #[.string sI] 272,.cells #[.string sW] 272,.cells #[.string sX] 272],#[],[]⟩
 {w0 with heap:=put 2 (low+2) (put 1 (low+1) (put 0 low w0.heap))}
theorem fN (os:Os)(args:Array Value):laidMetH Tryz.prog Rows.fnWorldCalmKeepsRow.laid ((laidWorld os).forCall (fun _ _=>0) ⟨#[],args,[]⟩).memory:=by
 rw[Go.MakeChecks.laidMetH_plain _ _ _ (by kernel_rfl)]
 exact laidMet_of_run (ps:=[.cell 0 0,.cell low 0,.cell 1 0,.cell (low+1) 0,.cell 2 0,.cell (low+2) 0]) 8 (by kernel_rfl) (by kernel_rfl) (by kernel_rfl)
theorem jK {H : Type} (enc : TypeId × Value → H) {W : World} {x0 x1 x2 : Value} (h0 : W.var? Tryz.prog "loop.example/dagconsensus/impl.errInvalid" = some #[x0]) (i0 : IsIface x0) (h1 : W.var? Tryz.prog "loop.example/dagconsensus/impl.errNoWave" = some #[x1]) (i1 : IsIface x1) (h2 : W.var? Tryz.prog "loop.example/dagconsensus/impl.errNoVertex" = some #[x2]) (i2 : IsIface x2) (sp : Nat → Bool) :
  DataW.TrodVars enc Tryz.prog W sp ["loop.example/dagconsensus/impl.errInvalid", "loop.example/dagconsensus/impl.errNoWave", "loop.example/dagconsensus/impl.errNoVertex"] [tok enc x0, tok enc x1, tok enc x2] [.cell 0 0, .cell 1 0, .cell 2 0] :=
 ⟨_,_,#[x0],1,[],[.cell 1 0,.cell 2 0],gI,tI,h0,trod_held Tryz.underlying128 i0 0,⟨_,_,#[x1],1,[],[.cell 2 0],gW,tW,h1,trod_held Tryz.underlying128 i1 0,⟨_,_,#[x2],1,[],[],gX,tX,h2,trod_held Tryz.underlying128 i2 0,rfl,rfl⟩,rfl⟩,rfl⟩
theorem bj {W W':World}{n:String}{g:Nat}{cs:Array Value}(hb:Below W.heap.size W W')(hg:Tryz.prog.globalNamed n=some g)(hlt:g<W.heap.size)(h:W.var? Tryz.prog n=some cs):W'.var? Tryz.prog n=some cs:=by
 unfold World.var? at h⊢
 rw[hg] at h⊢
 simp only[Option.bind_some] at h⊢
 rw[hb.block g hlt]
 exact h
theorem eI {W : World} (h : laidMetH Tryz.prog Rows.fnWorldCalmKeepsRow.laid W) : ∃ a0 a1 a2 : Addr, W.var? Tryz.prog "loop.example/dagconsensus/impl.errInvalid" = some #[.iface 248 (.pointer (some a0))] ∧ W.var? Tryz.prog "loop.example/dagconsensus/impl.errNoWave" = some #[.iface 248 (.pointer (some a1))] ∧ W.var? Tryz.prog "loop.example/dagconsensus/impl.errNoVertex" = some #[.iface 248 (.pointer (some a2))] := by
 rw[Go.MakeChecks.laidMetH_plain _ _ _ (by kernel_rfl)] at h
 obtain⟨a0,_,h0,-⟩:=laid_sentinel h gI tI Tryz.underlying128 rowE Tryz.underlying248 Tryz.underlying272 rfl rfl Tryz.underlying9 dK dL
 obtain⟨a1,_,h1,-⟩:=laid_sentinel h.tail gW tW Tryz.underlying128 rowE Tryz.underlying248 Tryz.underlying272 rfl rfl Tryz.underlying9 dK dL
 obtain⟨a2,_,h2,-⟩:=laid_sentinel h.tail.tail gX tX Tryz.underlying128 rowE Tryz.underlying248 Tryz.underlying272 rfl rfl Tryz.underlying9 dK dL
 exact⟨a0,a1,a2,h0,h1,h2⟩
theorem oT {g:Nat}{x:TypeId×TypeId}(h:Go.Proofs.YthmfppknagbkeaaGreatDoor.Am.look Gl g=some x):x.1=248∧(g=0∨g=1∨g=2):=by
 unfold Gl at h
 simp only[Go.Proofs.YthmfppknagbkeaaGreatDoor.Am.look] at h
 split at h
 ·rename_i e
  obtain rfl:=Option.some.inj h
  exact⟨rfl,.inl (by simpa using e)⟩
 ·split at h
  ·rename_i e
   obtain rfl:=Option.some.inj h
   exact⟨rfl,.inr (.inl (by simpa using e))⟩
  ·split at h
   ·rename_i e
    obtain rfl:=Option.some.inj h
    exact⟨rfl,.inr (.inr (by simpa using e))⟩
   ·cases h
set_option maxRecDepth 100000 in
theorem lifted (os:Os)(started:os.Started)(H:Type)(enc:TypeId×Value→H):
  ReturnsInHanded {} Tryz.checked os 7 .any (fun w args=>(Rows.fnWorldCalmKeepsSpec.pre enc Tryz.prog Tryz.f7 Rows.fnWorldCalmKeepsRow.domain false w args∧laidMetH Tryz.prog Rows.fnWorldCalmKeepsRow.laid w)∧sizedMet enc Tryz.prog Tryz.f7 (OpenSpec.ofChange Rows.fnWorldCalmKeepsSpec) false w args) (Rows.fnWorldCalmKeepsSpec.post enc Tryz.prog Tryz.f7 false true false false):=by
 refine returnsInHanded_of_change_and (C:=Tryz.checked) (X:=fun w _=>laidMetH Tryz.prog Rows.fnWorldCalmKeepsRow.laid w) (fun _ _ _ hh h=>h.of_heap hh) own started (by kernel_rfl) Tryz.func7
  (ChangeSpec.witness_at (enc:=enc) (C:=Tryz.checked) (os:=os) (X:=fun w _=>laidMetH Tryz.prog Rows.fnWorldCalmKeepsRow.laid w) false (laidWorld os) #[.slice none 0 0] 8 rfl (by kernel_rfl) (by kernel_rfl) (by kernel_rfl) (by kernel_rfl) (by kernel_rfl) (fN os _)) ?_
 intro W base args ds gs before hval hW _ _ hL _
 have hW':=hW
 obtain⟨p,q,hA0,hV,rfl,hfz,hnd⟩:=hW
 have hA:DataW.TrodAll enc Tryz.prog W 0 (fun _=>true) true Tryz.f7.params.toList args.toList ds p:=hA0
 rw[Tryz.params7] at hA hval
 obtain⟨v0,vs0,d0,ds0,p0,q0,hargs,rfl,rfl,h0,r0⟩:=trodAll_cons hA
 obtain⟨rfl,rfl,rfl⟩:=trodAll_nil r0
 obtain rfl:args= #[v0]:=by cases args;simp_all
 obtain⟨a0,a1,a2,w0,w1,w2⟩:=eI hL
 obtain⟨rfl,rfl⟩:=hV.unique (jK enc w0 trivial w1 trivial w2 trivial _)
 obtain⟨c0,hc0,hr0⟩:=jS Tryz.underlying40 Tryz.underlying5 kD (hval 0 _ v0 rfl rfl) h0
 clear hA0
 simp only[List.append_nil] at hW'
 have c1:W.cell? ⟨0,0,none⟩=some (.iface 248 (.pointer (some a0))):=by simpa using World.var?_cell gI w0 0
 have c2:W.cell? ⟨1,0,none⟩=some (.iface 248 (.pointer (some a1))):=by simpa using World.var?_cell gW w1 0
 have c3:W.cell? ⟨2,0,none⟩=some (.iface 248 (.pointer (some a2))):=by simpa using World.var?_cell gX w2 0
 have l1:=cO c1
 have l2:=cO c2
 have l3:=cO c3
 refine(j6 (Bh c0 hc0) rfl (fun i hi=>?_) (fun g x hx=>?_)).mono fun e W' ⟨he,hb⟩=>?_
 ·obtain rfl:i=0:=by simp[ah] at hi;omega
  exact hr0
 ·obtain⟨e,e1|e1|e1⟩:=oT (g:=g) (x:=x) hx
  ·subst e1
   rw[e]
   exact⟨l1,a0,c1⟩
  ·subst e1
   rw[e]
   exact⟨l2,a1,c2⟩
  ·subst e1
   rw[e]
   exact⟨l3,a2,c3⟩
 subst he
 have hlt:∀x∈p0,x.block<W.heap.size:=fun x hx=>hW'.lt x (List.mem_append.2 (.inl hx))
 have hx1:=bj hb gI l1 w0
 have hx2:=bj hb gW l2 w1
 have hx3:=bj hb gX l3 w2
 exact⟨_,rfl,iO (pa:=p0) (pv:=_) hW' (fun _ _ _=>trodAll_cons_mk (shut_bool Tryz.underlying4 _) trodAll_mk0)
  (fun sp hsp=>trodAll_mk1 (WideElems.Trod_stays GD (by kernel_rfl) (of_decide_eq_true (by kernel_rfl)) h0 (fun x hx=>hb.same (hlt x hx)) (fun x hx=>hsp x (List.mem_append.2 (.inl hx)))))
  (fun sp hsp=>jK enc hx1 trivial hx2 trivial hx3 trivial sp) rfl hb (ok_one (by kernel_rfl) rfl (okWide_bool_mk Tryz.underlying4 _))⟩
theorem jA:(Rows.fnWorldCalmKeepsRow.inPlace==Tryz.pinned.checked.prog.inPlace 7)=true:=by kernel_rfl
theorem jB:(Rows.fnWorldCalmKeepsRow.unfollowed==Tryz.pinned.checked.prog.unfollowed 7)=true:=by kernel_rfl
theorem jC:(Rows.fnWorldCalmKeepsRow.recurses==Tryz.pinned.checked.prog.recurses 7)=true:=by kernel_rfl
theorem jD:(Rows.fnWorldCalmKeepsRow.named==Tryz.pinned.checked.prog.varsNamed 7)=true:=by kernel_rfl
theorem jE:Tryz.pinned.checked.prog.mayEnter=true:=by kernel_rfl
theorem jF:(Rows.fnWorldCalmKeepsRow.lifted==Tryz.pinned.checked.prog.liftsFinal)=true:=by kernel_rfl
theorem jG:(Tryz.pinned.checked.prog.make==some Rows.fnWorldCalmKeepsRow.make)=true:=by kernel_rfl
theorem kE:joinedFacts Tryz.pinned.checked.prog 7 Tryz.f7 Rows.fnWorldCalmKeepsSpec Rows.fnWorldCalmKeepsRow=true:=by
 unfold joinedFacts
 rw[jA,jB,jC,jD,jE,jF,jG]
 exact of_decide_eq_true (by kernel_rfl)
theorem wl:Rows.FnWorldCalmKeepsSaid:=
 OpenClaim.holds_of_wide 7 Tryz.f7 rfl rfl rfl rfl rfl rfl rfl ⟨rfl,rfl,rfl,rfl,rfl⟩ rfl rfl rfl rfl rfl (by kernel_rfl) Tryz.func7 kE
  (of_decide_eq_true (by kernel_rfl)) (by unfold Func.isWrapper;first|(rw[if_pos (by decide+kernel)];kernel_rfl)|(rw[if_neg (by decide+kernel)];exact⟨rfl,rfl⟩))
  (fun os started H enc _=>lifted os started H enc)
theorem holds:Rows.FnWorldCalmKeepsCardSaid:=
 Claim7.holds_tied_plain_at .later [] [.sentinel,.sentinel,.sentinel] true Rows.fnWorldCalmKeepsCard.stood.harness true
  wl (fun _ h=>by cases h) (by kernel_rfl) (fun _ h=>by cases h) fnWorldCalmKeeps_row_tie rfl ⟨rfl,rfl⟩ (by kernel_rfl) rfl
  (fun k fn hf hfn=>by
   obtain rfl:k=7:=Option.some.inj ((show Tryz.pinned.checked.prog.funcNamed Rows.fnWorldCalmKeepsRow.func=some 7 by kernel_rfl).symm.trans hf)|>.symm
   obtain rfl:fn=Tryz.f7:=(Option.some.inj (Tryz.func7.symm.trans hfn)).symm
   exact⟨by kernel_rfl,fun j t ht=>by
    rw[Tryz.params7] at ht
    have h3:t=40:=by
     rcases j with _|j
     ·simpa using ht.symm
     ·simp at ht
    subst h3
    exact(show Tryz.prog.wantsStandIn 40=false by kernel_rfl)⟩)
  (by kernel_rfl)
#print axioms holds

end Go.Proofs.YthmfppknagbkeaaGreatDoor.rowCke
