/- Output consists of lines: the row, the card. -/
import Derived.Test.YtpefhoohfkeflacGreatDoorRows
import Derived.Test.YtpefhoohfkeflacGreatDoorCards
import Derived.Test.YtpefhoohfkeflacGreatDoorTie
import Derived.LaidMore
import Derived.Lay
import Derived.Stop.LaidErr
import Derived.Stop.Joined
import Derived.MakeChecks
import Derived.ChangeVars
import Derived.LaidHandle
import Derived.SevenTiedAt
import Derived.Test.YtpefhoohfkeflacGreatDoorEC14
set_option linter.unusedSimpArgs false
set_option linter.unusedVariables false
set_option maxHeartbeats 1000000
namespace Go.Proofs.YtpefhoohfkeflacGreatDoor.EERLin
open Go Go.RowKit Go.ChangeShapes Go.WideShapes Go.ChangeAt Go.Proofs.YtpefhoohfkeflacGreatDoor.Am
theorem own:ownKnob Tryz.prog.godebug=none:=by kernel_rfl
theorem No:laidOutB Tryz.prog=true:=by kernel_rfl
theorem jb:Tryz.prog.cellsOf 281=1:=by kernel_rfl
theorem jc:Tryz.prog.cellsOf 9=1:=by kernel_rfl
theorem yu : "*" ++ "errors.errorString" = "*errors.errorString" := by decide
theorem rowE (u : TypeId) (h : Tryz.prog.typeName? 3 u = some "*errors.errorString") : u = 259 :=
 typeName_ptr_named (nm := "errors.errorString") (by rw [yu]; kernel_rfl) (by kernel_rfl) (by decide) u (by rw [yu]; exact h)
theorem gI : Tryz.prog.globalNamed "loop.example/dagconsensus/impl.errInvalid" = some 1 := by kernel_rfl
theorem tI:(Tryz.prog.globals[(1:Nat)]?).map (·.type)=some 107:=by kernel_rfl
abbrev sI:ByteArray:={data:=#[116,104,101,32,103,114,97,112,104,32,111,114,32,116,104,101,32,108,101,97,100,101,114,115,32,97,114,101,32,105,110,118,97,108,105,100]}
theorem gW : Tryz.prog.globalNamed "loop.example/dagconsensus/impl.errNoWave" = some 5 := by kernel_rfl
theorem tW:(Tryz.prog.globals[(5:Nat)]?).map (·.type)=some 107:=by kernel_rfl
abbrev sW:ByteArray:={data:=#[116,104,101,114,101,32,105,115,32,110,111,32,115,117,99,104,32,119,97,118,101]}
theorem gX : Tryz.prog.globalNamed "loop.example/dagconsensus/impl.errNoVertex" = some 6 := by kernel_rfl
theorem tX:(Tryz.prog.globals[(6:Nat)]?).map (·.type)=some 107:=by kernel_rfl
abbrev sX:ByteArray:={data:=#[116,104,101,32,108,101,97,100,101,114,32,104,97,115,32,110,111,32,118,101,114,116,101,120,32,105,110,32,116,104,105,115,32,119,97,118,101]}
theorem lU (os:Os)(args:Array Value):laidMetH Tryz.prog Rows.fnExecuteLinesRow.laid ((World.laidAll Tryz.prog os Rows.fnExecuteLinesRow.laid).forCall (fun _ _=>0) ⟨#[],args,[]⟩).memory:=by
 rw[Go.MakeChecks.laidMetH_plain _ _ _ (by kernel_rfl)]
 exact laidMet_laidAll _ (by kernel_rfl) (by kernel_rfl)
theorem gP : Tryz.prog.globalNamed "internal/strconv.uint64pow10" = some 4 := by kernel_rfl
theorem tP:(Tryz.prog.globals[(4:Nat)]?).map (·.type)=some 204:=by kernel_rfl
theorem qF {H : Type} (enc : TypeId × Value → H) {W : World} {x0 x1 x2 : Value} (h0 : W.var? Tryz.prog "loop.example/dagconsensus/impl.errInvalid" = some #[x0]) (i0 : IsIface x0) (h1 : W.var? Tryz.prog "loop.example/dagconsensus/impl.errNoWave" = some #[x1]) (i1 : IsIface x1) (h2 : W.var? Tryz.prog "loop.example/dagconsensus/impl.errNoVertex" = some #[x2]) (i2 : IsIface x2) (sp : Nat → Bool) :
  DataW.TrodVars enc Tryz.prog W sp ["loop.example/dagconsensus/impl.errInvalid", "loop.example/dagconsensus/impl.errNoWave", "loop.example/dagconsensus/impl.errNoVertex"] [tok enc x0, tok enc x1, tok enc x2] [.cell 1 0, .cell 5 0, .cell 6 0] :=
 ⟨_,_,#[x0],1,[],[.cell 5 0,.cell 6 0],gI,tI,h0,trod_held Tryz.underlying107 i0 0,⟨_,_,#[x1],1,[],[.cell 6 0],gW,tW,h1,trod_held Tryz.underlying107 i1 0,⟨_,_,#[x2],1,[],[],gX,tX,h2,trod_held Tryz.underlying107 i2 0,rfl,rfl⟩,rfl⟩,rfl⟩
theorem dH {W W':World}{n:String}{g:Nat}{cs:Array Value}(hb:Below W.heap.size W W')(hg:Tryz.prog.globalNamed n=some g)(hlt:g<W.heap.size)(h:W.var? Tryz.prog n=some cs):W'.var? Tryz.prog n=some cs:=by
 unfold World.var? at h⊢
 rw[hg] at h⊢
 simp only[Option.bind_some] at h⊢
 rw[hb.block g hlt]
 exact h
theorem kv {W : World} (h : laidMetH Tryz.prog Rows.fnExecuteLinesRow.laid W) : (∀ g zs, Go.Proofs.YtpefhoohfkeflacGreatDoor.Am.look Gt g = some zs → g < W.heap.size ∧ ∃ T fz, W.heap[g]? = some (.cells (zs.map (Value.int .u64)).toArray T fz)) ∧ ∃ a0 a1 a2 : Addr, W.var? Tryz.prog "loop.example/dagconsensus/impl.errInvalid" = some #[.iface 259 (.pointer (some a0))] ∧ W.var? Tryz.prog "loop.example/dagconsensus/impl.errNoWave" = some #[.iface 259 (.pointer (some a1))] ∧ W.var? Tryz.prog "loop.example/dagconsensus/impl.errNoVertex" = some #[.iface 259 (.pointer (some a2))] := by
 rw[Go.MakeChecks.laidMetH_plain _ _ _ (by kernel_rfl)] at h
 have hT:=sH (zs:=[1,10,100,1000,10000,100000,1000000,10000000,100000000,1000000000,10000000000,100000000000,1000000000000,10000000000000,100000000000000,1000000000000000,10000000000000000,100000000000000000,1000000000000000000,10000000000000000000]) (k:=.u64) h.tail.tail gP tP Tryz.underlying204 Tryz.underlying171 (by kernel_rfl) (by kernel_rfl) rfl
 obtain⟨a0,_,h0,-⟩:=laid_sentinel h.tail.tail.tail.tail gI tI Tryz.underlying107 rowE Tryz.underlying259 Tryz.underlying281 rfl rfl Tryz.underlying9 jb jc
 obtain⟨a1,_,h1,-⟩:=laid_sentinel h.tail.tail.tail.tail.tail gW tW Tryz.underlying107 rowE Tryz.underlying259 Tryz.underlying281 rfl rfl Tryz.underlying9 jb jc
 obtain⟨a2,_,h2,-⟩:=laid_sentinel h.tail.tail.tail.tail.tail.tail gX tX Tryz.underlying107 rowE Tryz.underlying259 Tryz.underlying281 rfl rfl Tryz.underlying9 jb jc
 refine⟨fun g zs hx=>?_,a0,a1,a2,h0,h1,h2⟩
 unfold Gt at hx
 simp only[Go.Proofs.YtpefhoohfkeflacGreatDoor.Am.look] at hx
 split at hx
 ·rename_i e
  subst e
  obtain rfl:=Option.some.inj hx
  exact hT
 ·cases hx
theorem xW {g:Nat}{x:TypeId×TypeId}(h:Go.Proofs.YtpefhoohfkeflacGreatDoor.Am.look Gl g=some x):x.1=259∧(g=1∨g=5∨g=6):=by
 unfold Gl at h
 simp only[Go.Proofs.YtpefhoohfkeflacGreatDoor.Am.look] at h
 split at h
 ·rename_i e
  obtain rfl:=Option.some.inj h
  exact⟨rfl,.inl (by simpa using e)⟩
 ·split at h
  ·rename_i e
   obtain rfl:=Option.some.inj h
   exact⟨rfl,.inr (.inl (by simpa using e))⟩
  ·split at h
   ·rename_i e
    obtain rfl:=Option.some.inj h
    exact⟨rfl,.inr (.inr (by simpa using e))⟩
   ·cases h
set_option maxRecDepth 100000 in
theorem lifted (os:Os)(started:os.Started)(H:Type)(enc:TypeId×Value→H):
  ReturnsInHanded {} Tryz.checked os 5 .any (fun w args=>(Rows.fnExecuteLinesSpec.pre enc Tryz.prog Tryz.f5 Rows.fnExecuteLinesRow.domain false w args∧laidMetH Tryz.prog Rows.fnExecuteLinesRow.laid w)∧sizedMet enc Tryz.prog Tryz.f5 (OpenSpec.ofChange Rows.fnExecuteLinesSpec) false w args) (Rows.fnExecuteLinesSpec.post enc Tryz.prog Tryz.f5 false true false false):=by
 refine returnsInHanded_of_change_and (C:=Tryz.checked) (X:=fun w _=>laidMetH Tryz.prog Rows.fnExecuteLinesRow.laid w) (fun _ _ _ hh h=>h.of_heap hh) own started (by kernel_rfl) Tryz.func5
  (ChangeSpec.witness_shaped (enc:=enc) (C:=Tryz.checked) (os:=os) (X:=fun w _=>laidMetH Tryz.prog Rows.fnExecuteLinesRow.laid w) false (World.laidAll Tryz.prog os Rows.fnExecuteLinesRow.laid) #[.slice none 0 0] 8 (World.laidAll_os _ _ _) (World.shaped_of_ZipB (by kernel_rfl) (by kernel_rfl)) (by kernel_rfl) (by kernel_rfl) (by kernel_rfl) (lU os _)) ?_
 intro W base args ds gs before hval hW _ _ hL _
 have hW':=hW
 obtain⟨p,q,hA0,hV,rfl,hfz,hnd⟩:=hW
 have hA:DataW.TrodAll enc Tryz.prog W 0 (fun _=>true) true Tryz.f5.params.toList args.toList ds p:=hA0
 rw[Tryz.params5] at hA hval
 obtain⟨v0,vs0,d0,ds0,p0,q0,hargs,rfl,rfl,h0,r0⟩:=trodAll_cons hA
 obtain⟨rfl,rfl,rfl⟩:=trodAll_nil r0
 obtain rfl:args= #[v0]:=by cases args;simp_all
 obtain⟨hT,a0,a1,a2,w0,w1,w2⟩:=kv hL
 obtain⟨rfl,rfl⟩:=hV.unique (qF enc w0 trivial w1 trivial w2 trivial _)
 obtain⟨y0,hcc,hr0⟩:=r8 (hval 0 _ v0 rfl rfl) h0
 clear hA0
 simp only[List.append_nil] at hW'
 have c1:W.cell? ⟨1,0,none⟩=some (.iface 259 (.pointer (some a0))):=by simpa using World.var?_cell gI w0 0
 have c2:W.cell? ⟨5,0,none⟩=some (.iface 259 (.pointer (some a1))):=by simpa using World.var?_cell gW w1 0
 have c3:W.cell? ⟨6,0,none⟩=some (.iface 259 (.pointer (some a2))):=by simpa using World.var?_cell gX w2 0
 have l1:=fP c1
 have l2:=fP c2
 have l3:=fP c3
 refine(pH (Ow y0 hcc) rfl (fun i hi=>?_) (fun g x hx=>?_) hT).mono fun e W' ⟨he,hb⟩=>?_
 ·match i,hi with
  |0,_=>exact hr0
 ·obtain⟨e,e1|e1|e1⟩:=xW (g:=g) (x:=x) hx
  ·subst e1
   rw[e]
   exact⟨l1,a0,c1⟩
  ·subst e1
   rw[e]
   exact⟨l2,a1,c2⟩
  ·subst e1
   rw[e]
   exact⟨l3,a2,c3⟩
 subst he
 have hlt:∀x∈p0,x.block<W.heap.size:=fun x hx=>hW'.lt x (List.mem_append.2 (.inl hx))
 have hx1:=dH hb gI l1 w0
 have hx2:=dH hb gW l2 w1
 have hx3:=dH hb gX l3 w2
 exact⟨_,rfl,nL (pa:=p0) (pv:=_) hW' (fun _ _ _=>trodAll_cons_mk (shut_bool Tryz.underlying4 _) trodAll_mk0)
  (fun sp hsp=>trodAll_mk1 (WideElems.Trod_stays No (by kernel_rfl) (of_decide_eq_true (by kernel_rfl)) h0 (fun x hx=>hb.same (hlt x hx)) (fun x hx=>hsp x (List.mem_append.2 (.inl hx)))))
  (fun sp hsp=>qF enc hx1 trivial hx2 trivial hx3 trivial sp) rfl hb (ok_one (by kernel_rfl) rfl (okWide_bool_mk Tryz.underlying4 _))⟩
theorem jA:(Rows.fnExecuteLinesRow.inPlace==Tryz.pinned.checked.prog.inPlace 5)=true:=by kernel_rfl
theorem jB:(Rows.fnExecuteLinesRow.unfollowed==Tryz.pinned.checked.prog.unfollowed 5)=true:=by kernel_rfl
theorem jC:(Rows.fnExecuteLinesRow.recurses==Tryz.pinned.checked.prog.recurses 5)=true:=by kernel_rfl
theorem jD:(Rows.fnExecuteLinesRow.named==Tryz.pinned.checked.prog.varsNamed 5)=true:=by kernel_rfl
theorem jE:Tryz.pinned.checked.prog.mayEnter=true:=by kernel_rfl
theorem jF:(Rows.fnExecuteLinesRow.lifted==Tryz.pinned.checked.prog.liftsFinal)=true:=by kernel_rfl
theorem jG:(Tryz.pinned.checked.prog.make==some Rows.fnExecuteLinesRow.make)=true:=by kernel_rfl
theorem r7:joinedFacts Tryz.pinned.checked.prog 5 Tryz.f5 Rows.fnExecuteLinesSpec Rows.fnExecuteLinesRow=true:=by
 unfold joinedFacts
 rw[jA,jB,jC,jD,jE,jF,jG]
 exact of_decide_eq_true (by kernel_rfl)
theorem Gi:Rows.FnExecuteLinesSaid:=
 OpenClaim.holds_of_wide 5 Tryz.f5 rfl rfl rfl rfl rfl rfl rfl ⟨rfl,rfl,rfl,rfl,rfl⟩ rfl rfl rfl rfl rfl (by kernel_rfl) Tryz.func5 r7
  (of_decide_eq_true (by kernel_rfl)) (by unfold Func.isWrapper;first|(rw[if_pos (by decide+kernel)];kernel_rfl)|(rw[if_neg (by decide+kernel)];exact⟨rfl,rfl⟩))
  (fun os started H enc _=>lifted os started H enc)
theorem holds:Rows.FnExecuteLinesCardSaid:=
 Claim7.holds_tied_plain_at .later [] [.data,.data,.data,.data,.sentinel,.sentinel,.sentinel,.pinned] true Rows.fnExecuteLinesCard.stood.harness true
  Gi (fun _ h=>by cases h) (by kernel_rfl) (fun _ h=>by cases h) fnExecuteLines_row_tie rfl ⟨rfl,rfl⟩ (by kernel_rfl) rfl
  (fun k fn hf hfn=>by
   obtain rfl:k=5:=Option.some.inj ((show Tryz.pinned.checked.prog.funcNamed Rows.fnExecuteLinesRow.func=some 5 by kernel_rfl).symm.trans hf)|>.symm
   obtain rfl:fn=Tryz.f5:=(Option.some.inj (Tryz.func5.symm.trans hfn)).symm
   exact⟨by kernel_rfl,fun j t ht=>by
    rw[Tryz.params5] at ht
    match j,ht with
    |0,ht=>
     obtain rfl:t=22:=by simpa using ht.symm
     exact(show Tryz.prog.wantsStandIn 22=false by kernel_rfl)
    |j+1,ht=>simp at ht⟩)
  (by kernel_rfl)
#print axioms holds

end Go.Proofs.YtpefhoohfkeflacGreatDoor.EERLin
