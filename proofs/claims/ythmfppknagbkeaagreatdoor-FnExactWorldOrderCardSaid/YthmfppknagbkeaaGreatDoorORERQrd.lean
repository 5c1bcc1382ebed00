/- FnExactWorldOrder's card holds: it returns true for all runs and members, and leaves its arguments as they were. -/
import Derived.Test.YthmfppknagbkeaaGreatDoorRows
import Derived.Test.YthmfppknagbkeaaGreatDoorCards
import Derived.Test.YthmfppknagbkeaaGreatDoorTie
import Derived.Stop.LaidErr
import Derived.Stop.Joined
import Derived.MakeChecks
import Derived.ChangeVars
import Derived.LaidHandle
import Derived.SevenTiedAt
import Derived.Test.YthmfppknagbkeaaGreatDoorOR11
set_option linter.unusedSimpArgs false
set_option linter.unusedVariables false
set_option maxHeartbeats 1000000
namespace Go.Proofs.YthmfppknagbkeaaGreatDoor.rowExOrd
open Go Go.RowKit Go.ChangeShapes Go.WideShapes Go.ChangeAt Go.Proofs.YthmfppknagbkeaaGreatDoor.Am
theorem own:ownKnob Tryz.prog.godebug=none:=by kernel_rfl
theorem FY:laidOutB Tryz.prog=true:=by kernel_rfl
theorem sk:Tryz.prog.cellsOf 272=1:=by kernel_rfl
theorem sl:Tryz.prog.cellsOf 9=1:=by kernel_rfl
theorem EW : "*" ++ "errors.errorString" = "*errors.errorString" := by decide
theorem rowE (u : TypeId) (h : Tryz.prog.typeName? 3 u = some "*errors.errorString") : u = 248 :=
 typeName_ptr_named (nm := "errors.errorString") (by rw [EW]; kernel_rfl) (by kernel_rfl) (by decide) u (by rw [EW]; exact h)
theorem gI : Tryz.prog.globalNamed "loop.example/dagconsensus/impl.errInvalid" = some 0 := by kernel_rfl
theorem tI:(Tryz.prog.globals[(0:Nat)]?).map (·.type)=some 128:=by kernel_rfl
abbrev sI:ByteArray:={data:=#[116,104,101,32,103,114,97,112,104,32,111,114,32,116,104,101,32,108,101,97,100,101,114,115,32,97,114,101,32,105,110,118,97,108,105,100]}
theorem gW : Tryz.prog.globalNamed "loop.example/dagconsensus/impl.errNoWave" = some 1 := by kernel_rfl
theorem tW:(Tryz.prog.globals[(1:Nat)]?).map (·.type)=some 128:=by kernel_rfl
abbrev sW:ByteArray:={data:=#[116,104,101,114,101,32,105,115,32,110,111,32,115,117,99,104,32,119,97,118,101]}
theorem gX : Tryz.prog.globalNamed "loop.example/dagconsensus/impl.errNoVertex" = some 2 := by kernel_rfl
theorem tX:(Tryz.prog.globals[(2:Nat)]?).map (·.type)=some 128:=by kernel_rfl
abbrev sX:ByteArray:={data:=#[116,104,101,32,108,101,97,100,101,114,32,104,97,115,32,110,111,32,118,101,114,116,101,120,32,105,110,32,116,104,105,115,32,119,97,118,101]}
noncomputable def low:Nat:=(World.holding Tryz.prog default ⟨#[],#[],[]⟩).heap.size
noncomputable def put (g:Nat) (b:Nat) (h:Array Obj):Array Obj:=h.modify g fun
 | .cells _ t frozen=>.cells #[.iface 248 (.pointer (some ⟨b,0,none⟩))] t frozen
 |o=>o
noncomputable def laidWorld (os:Os):World:=
 let w0:=World.holding Tryz.prog os ⟨#[.cells #[.string sI] 272,.cells #[.string sW] 272,.cells #[.string sX] 272],#[],[]⟩
 {w0 with heap:=put 2 (low+2) (put 1 (low+1) (put 0 low w0.heap))}
theorem yg (os:Os)(args:Array Value):laidMetH Tryz.prog Rows.fnExactWorldOrderRow.laid ((laidWorld os).forCall (fun _ _=>0) ⟨#[],args,[]⟩).memory:=by
 rw[Go.MakeChecks.laidMetH_plain _ _ _ (by kernel_rfl)]
 exact laidMet_of_run (ps:=[.cell 0 0,.cell low 0,.cell 1 0,.cell (low+1) 0,.cell 2 0,.cell (low+2) 0]) 8 (by kernel_rfl) (by kernel_rfl) (by kernel_rfl)
theorem B9 {H : Type} (enc : TypeId × Value → H) {W : World} {x0 x1 x2 : Value} (h0 : W.var? Tryz.prog "loop.example/dagconsensus/impl.errInvalid" = some #[x0]) (i0 : IsIface x0) (h1 : W.var? Tryz.prog "loop.example/dagconsensus/impl.errNoWave" = some #[x1]) (i1 : IsIface x1) (h2 : W.var? Tryz.prog "loop.example/dagconsensus/impl.errNoVertex" = some #[x2]) (i2 : IsIface x2) (sp : Nat → Bool) :
  DataW.TrodVars enc Tryz.prog W sp ["loop.example/dagconsensus/impl.errInvalid", "loop.example/dagconsensus/impl.errNoWave", "loop.example/dagconsensus/impl.errNoVertex"] [tok enc x0, tok enc x1, tok enc x2] [.cell 0 0, .cell 1 0, .cell 2 0] :=
 ⟨_,_,#[x0],1,[],[.cell 1 0,.cell 2 0],gI,tI,h0,trod_held Tryz.underlying128 i0 0,⟨_,_,#[x1],1,[],[.cell 2 0],gW,tW,h1,trod_held Tryz.underlying128 i1 0,⟨_,_,#[x2],1,[],[],gX,tX,h2,trod_held Tryz.underlying128 i2 0,rfl,rfl⟩,rfl⟩,rfl⟩
theorem ko {W W':World}{n:String}{g:Nat}{cs:Array Value}(hb:Below W.heap.size W W')(hg:Tryz.prog.globalNamed n=some g)(hlt:g<W.heap.size)(h:W.var? Tryz.prog n=some cs):W'.var? Tryz.prog n=some cs:=by
 unfold World.var? at h⊢
 rw[hg] at h⊢
 simp only[Option.bind_some] at h⊢
 rw[hb.block g hlt]
 exact h
theorem vR {W : World} (h : laidMetH Tryz.prog Rows.fnExactWorldOrderRow.laid W) : ∃ a0 a1 a2 : Addr, W.var? Tryz.prog "loop.example/dagconsensus/impl.errInvalid" = some #[.iface 248 (.pointer (some a0))] ∧ W.var? Tryz.prog "loop.example/dagconsensus/impl.errNoWave" = some #[.iface 248 (.pointer (some a1))] ∧ W.var? Tryz.prog "loop.example/dagconsensus/impl.errNoVertex" = some #[.iface 248 (.pointer (some a2))] := by
 rw[Go.MakeChecks.laidMetH_plain _ _ _ (by kernel_rfl)] at h
 obtain⟨a0,_,h0,-⟩:=laid_sentinel h gI tI Tryz.underlying128 rowE Tryz.underlying248 Tryz.underlying272 rfl rfl Tryz.underlying9 sk sl
 obtain⟨a1,_,h1,-⟩:=laid_sentinel h.tail gW tW Tryz.underlying128 rowE Tryz.underlying248 Tryz.underlying272 rfl rfl Tryz.underlying9 sk sl
 obtain⟨a2,_,h2,-⟩:=laid_sentinel h.tail.tail gX tX Tryz.underlying128 rowE Tryz.underlying248 Tryz.underlying272 rfl rfl Tryz.underlying9 sk sl
 exact⟨a0,a1,a2,h0,h1,h2⟩
theorem EI {g:Nat}{x:TypeId×TypeId}(h:Go.Proofs.YthmfppknagbkeaaGreatDoor.Am.look Gl g=some x):x.1=248∧(g=0∨g=1∨g=2):=by
 unfold Gl at h
 simp only[Go.Proofs.YthmfppknagbkeaaGreatDoor.Am.look] at h
 split at h
 ·rename_i e
  obtain rfl:=Option.some.inj h
  exact⟨rfl,.inl (by simpa using e)⟩
 ·split at h
  ·rename_i e
   obtain rfl:=Option.some.inj h
   exact⟨rfl,.inr (.inl (by simpa using e))⟩
  ·split at h
   ·rename_i e
    obtain rfl:=Option.some.inj h
    exact⟨rfl,.inr (.inr (by simpa using e))⟩
   ·cases h
set_option maxRecDepth 100000 in
theorem lifted (os:Os)(started:os.Started)(H:Type)(enc:TypeId×Value→H):
  ReturnsInHanded {} Tryz.checked os 3 .any (fun w args=>(Rows.fnExactWorldOrderSpec.pre enc Tryz.prog Tryz.f3 Rows.fnExactWorldOrderRow.domain false w args∧laidMetH Tryz.prog Rows.fnExactWorldOrderRow.laid w)∧sizedMet enc Tryz.prog Tryz.f3 (OpenSpec.ofChange Rows.fnExactWorldOrderSpec) false w args) (Rows.fnExactWorldOrderSpec.post enc Tryz.prog Tryz.f3 false true false false):=by
 refine returnsInHanded_of_change_and (C:=Tryz.checked) (X:=fun w _=>laidMetH Tryz.prog Rows.fnExactWorldOrderRow.laid w) (fun _ _ _ hh h=>h.of_heap hh) own started (by kernel_rfl) Tryz.func3
  (ChangeSpec.witness_at (enc:=enc) (C:=Tryz.checked) (os:=os) (X:=fun w _=>laidMetH Tryz.prog Rows.fnExactWorldOrderRow.laid w) false (laidWorld os) #[.agg #[.slice none 0 0,.slice none 0 0,.int .i64 0,.slice none 0 0,.slice none 0 0],.int .i64 0] 8 rfl (by kernel_rfl) (by kernel_rfl) (by kernel_rfl) (by kernel_rfl) (by kernel_rfl) (yg os _)) ?_
 intro W base args ds gs before hval hW _ _ hL _
 have hW':=hW
 obtain⟨p,q,hA0,hV,rfl,hfz,hnd⟩:=hW
 have hA:DataW.TrodAll enc Tryz.prog W 0 (fun _=>true) true Tryz.f3.params.toList args.toList ds p:=hA0
 rw[Tryz.params3] at hA hval
 obtain⟨v0,vs0,d0,ds0,p0,q0,hargs,rfl,rfl,h0,r0⟩:=trodAll_cons hA
 obtain⟨v1,vs1,d1,ds1,p1,q1,rfl,rfl,rfl,h1,r1⟩:=trodAll_cons r0
 obtain⟨rfl,rfl,rfl⟩:=trodAll_nil r1
 obtain rfl:args= #[v0,v1]:=by cases args;simp_all
 obtain⟨a0,a1,a2,w0,w1,w2⟩:=vR hL
 obtain⟨rfl,rfl⟩:=hV.unique (B9 enc w0 trivial w1 trivial w2 trivial _)
 obtain⟨y0,hr0⟩:=BI (hval 0 _ v0 rfl rfl) h0
 obtain⟨y1,hr1⟩:=Ay (hval 1 _ v1 rfl rfl) h1
 clear hA0
 simp only[List.append_nil] at hW'
 have c1:W.cell? ⟨0,0,none⟩=some (.iface 248 (.pointer (some a0))):=by simpa using World.var?_cell gI w0 0
 have c2:W.cell? ⟨1,0,none⟩=some (.iface 248 (.pointer (some a1))):=by simpa using World.var?_cell gW w1 0
 have c3:W.cell? ⟨2,0,none⟩=some (.iface 248 (.pointer (some a2))):=by simpa using World.var?_cell gX w2 0
 have l1:=iT c1
 have l2:=iT c2
 have l3:=iT c3
 refine(vS (sQ y0 y1) rfl (fun i hi=>?_) (fun g x hx=>?_)).mono fun e W' ⟨he,hb⟩=>?_
 ·match i,hi with
  |0,_=>exact hr0
  |1,_=>rw[hr1];exact .int _ _
 ·obtain⟨e,e1|e1|e1⟩:=EI (g:=g) (x:=x) hx
  ·subst e1
   rw[e]
   exact⟨l1,a0,c1⟩
  ·subst e1
   rw[e]
   exact⟨l2,a1,c2⟩
  ·subst e1
   rw[e]
   exact⟨l3,a2,c3⟩
 subst he
 have hlt:∀x∈p0++p1,x.block<W.heap.size:=fun x hx=>hW'.lt x (List.mem_append.2 (.inl hx))
 have hx1:=ko hb gI l1 w0
 have hx2:=ko hb gW l2 w1
 have hx3:=ko hb gX l3 w2
 exact⟨_,rfl,ta (pa:=p0++p1) (pv:=_) hW' (fun _ _ _=>trodAll_cons_mk (shut_bool Tryz.underlying4 _) trodAll_mk0)
  (fun sp hsp=>trodAll_cons_mk (WideElems.Trod_stays FY (by kernel_rfl) (of_decide_eq_true (by kernel_rfl)) h0 (fun x hx=>hb.same (hlt x (List.mem_append_left _ hx))) (fun x hx=>hsp x (List.mem_append.2 (.inl (List.mem_append_left _ hx)))))
   (trodAll_mk1 (WideElems.Trod_stays FY (by kernel_rfl) (of_decide_eq_true (by kernel_rfl)) h1 (fun x hx=>hb.same (hlt x (List.mem_append_right _ hx))) (fun x hx=>hsp x (List.mem_append.2 (.inl (List.mem_append_right _ hx)))))))
  (fun sp hsp=>B9 enc hx1 trivial hx2 trivial hx3 trivial sp) rfl hb (ok_one (by kernel_rfl) rfl (okWide_bool_mk Tryz.underlying4 _))⟩
theorem jA:(Rows.fnExactWorldOrderRow.inPlace==Tryz.pinned.checked.prog.inPlace 3)=true:=by kernel_rfl
theorem jB:(Rows.fnExactWorldOrderRow.unfollowed==Tryz.pinned.checked.prog.unfollowed 3)=true:=by kernel_rfl
theorem jC:(Rows.fnExactWorldOrderRow.recurses==Tryz.pinned.checked.prog.recurses 3)=true:=by kernel_rfl
theorem jD:(Rows.fnExactWorldOrderRow.named==Tryz.pinned.checked.prog.varsNamed 3)=true:=by kernel_rfl
theorem jE:Tryz.pinned.checked.prog.mayEnter=true:=by kernel_rfl
theorem jF:(Rows.fnExactWorldOrderRow.lifted==Tryz.pinned.checked.prog.liftsFinal)=true:=by kernel_rfl
theorem jG:(Tryz.pinned.checked.prog.make==some Rows.fnExactWorldOrderRow.make)=true:=by kernel_rfl
theorem Cm:joinedFacts Tryz.pinned.checked.prog 3 Tryz.f3 Rows.fnExactWorldOrderSpec Rows.fnExactWorldOrderRow=true:=by
 unfold joinedFacts
 rw[jA,jB,jC,jD,jE,jF,jG]
 exact of_decide_eq_true (by kernel_rfl)
theorem FL:Rows.FnExactWorldOrderSaid:=
 OpenClaim.holds_of_wide 3 Tryz.f3 rfl rfl rfl rfl rfl rfl rfl ⟨rfl,rfl,rfl,rfl,rfl⟩ rfl rfl rfl rfl rfl (by kernel_rfl) Tryz.func3 Cm
  (of_decide_eq_true (by kernel_rfl)) (by unfold Func.isWrapper;first|(rw[if_pos (by decide+kernel)];kernel_rfl)|(rw[if_neg (by decide+kernel)];exact⟨rfl,rfl⟩))
  (fun os started H enc _=>lifted os started H enc)
theorem holds:Rows.FnExactWorldOrderCardSaid:=
 Claim7.holds_tied_plain_at .later [] [.sentinel,.sentinel,.sentinel] true Rows.fnExactWorldOrderCard.stood.harness true
  FL (fun _ h=>by cases h) (by kernel_rfl) (fun _ h=>by cases h) fnExactWorldOrder_row_tie rfl ⟨rfl,rfl⟩ (by kernel_rfl) rfl
  (fun k fn hf hfn=>by
   obtain rfl:k=3:=Option.some.inj ((show Tryz.pinned.checked.prog.funcNamed Rows.fnExactWorldOrderRow.func=some 3 by kernel_rfl).symm.trans hf)|>.symm
   obtain rfl:fn=Tryz.f3:=(Option.some.inj (Tryz.func3.symm.trans hfn)).symm
   exact⟨by kernel_rfl,fun j t ht=>by
    rw[Tryz.params3] at ht
    match j,ht with
    |0,ht=>
     obtain rfl:t=26:=by simpa using ht.symm
     exact(show Tryz.prog.wantsStandIn 26=false by kernel_rfl)
    |1,ht=>
     obtain rfl:t=3:=by simpa using ht.symm
     exact(show Tryz.prog.wantsStandIn 3=false by kernel_rfl)
    |j+2,ht=>simp at ht⟩)
  (by kernel_rfl)
#print axioms holds

end Go.Proofs.YthmfppknagbkeaaGreatDoor.rowExOrd
