/- FnExactLanesRun's law holds: it returns true for every ledger and all transactions, and leaves its arguments as they were. (PhC: named) -/
import Derived.Test.YtbmnihglaokhmaaRows
import Derived.Test.YtbmnihglaokhmaaLN10
set_option linter.unusedSimpArgs false
set_option linter.unusedVariables false
set_option maxHeartbeats 1000000
namespace Go.Proofs.Ytbmnihglaokhmaa.rowExLan
open Go Go.RowKit Go.ChangeShapes Go.WideShapes Go.ChangeAt Go.Proofs.Ytbmnihglaokhmaa.Am
theorem own:ownKnob Try.prog.godebug=none:=by kernel_rfl
theorem GG:laidOutB Try.prog=true:=by kernel_rfl
theorem D5:Try.prog.cellsOf 3=1:=by kernel_rfl
set_option maxRecDepth 100000 in
theorem CP {H:Type}{enc:TypeId×Value→H}{W:World}{sp:Nat→Bool}{hd:Bool}{v:Value}{d:DataW H}{p:List MemPlace}{base:Nat}(hv:Value.okWide Try.prog W .any base 41 v)(h:DataW.Trod enc Try.prog W 0 sp hd 41 v d p):
  ∃(b:List Int) (f:Int),Rep (fun k=>k<W.heap.size) W (V.agg [.lst (.int .i64) b,.int .i64 f]).toD v:=by
 obtain⟨vs,rfl,hs,hf⟩:=Do Try.underlying41 (by kernel_rfl) (by kernel_rfl) hv h
 obtain⟨n0,y0,h0⟩:=hf 0 _ rfl
 obtain⟨n1,y1,h1⟩:=hf 1 _ rfl
 obtain⟨b,v0,e0,r0⟩:=wC Try.underlying23 Try.underlying3 D5 h0
 obtain⟨f,e1⟩:=iL Try.underlying3 h1
 simp only[List.cons.injEq,and_true] at e0
 refine⟨b,f,Db hs.symm fun i hi=>?_⟩
 match i,hi with
 |0,_=>rw[e0];exact r0
 |1,_=>rw[e1];exact .int _ _
set_option maxRecDepth 100000 in
theorem Ca {H:Type}{enc:TypeId×Value→H}{W:World}{sp:Nat→Bool}{hd:Bool}{v:Value}{d:DataW H}{p:List MemPlace}{base:Nat}(hv:Value.okWide Try.prog W .any base 42 v)(h:DataW.Trod enc Try.prog W 0 sp hd 42 v d p):
  ∃l:List Txn,Rep (fun k=>k<W.heap.size) W (V.lst .txn l).toD v:=by
 obtain⟨a0,l0,c0,rfl⟩:=okWide_slice Try.underlying42 hv
 obtain⟨fuel,h⟩:=h
 have hel:∀fuel cs x,DataW.trod enc Try.prog W 0 sp hd fuel 86 cs=some x→∃d:Txn,zV W .txn d cs:=by
  intro fuel cs x hx
  obtain⟨hl,hf⟩:=sO Try.underlying86 (by kernel_rfl) (by kernel_rfl) hx
  obtain⟨n0,y0,h0⟩:=hf 0 _ rfl
  obtain⟨n1,y1,h1⟩:=hf 1 _ rfl
  obtain⟨n2,y2,h2⟩:=hf 2 _ rfl
  obtain⟨n3,y3,h3⟩:=hf 3 _ rfl
  obtain⟨x,e0⟩:=iL Try.underlying3 h0
  obtain⟨y,e1⟩:=iL Try.underlying3 h1
  obtain⟨s,e2⟩:=iL Try.underlying3 h2
  obtain⟨e,e3⟩:=iL Try.underlying3 h3
  refine⟨⟨x,y,s,e⟩,hl,fun j hj=>?_⟩
  match j,hj with
  |0,_=>rw[e0];exact .int _ _
  |1,_=>rw[e1];exact .int _ _
  |2,_=>rw[e2];exact .int _ _
  |3,_=>rw[e3];exact .int _ _
 obtain⟨l,v',e,hr⟩:=row_cells (T:=.txn) rfl Try.underlying42 (by kernel_rfl) hel h
 have e:[Value.slice a0 l0 c0]=[v']:=e
 cases e
 exact⟨l,hr⟩
set_option maxRecDepth 100000 in
theorem lifted (os:Os)(started:os.Started)(H:Type)(enc:TypeId×Value→H):
  ReturnsInLeavingWide {} Try.checked os 6 .any (Rows.fnExactLanesRunSpec.pre6 enc Try.prog Try.f6 Rows.fnExactLanesRunRow.domain false) (Rows.fnExactLanesRunSpec.post enc Try.prog Try.f6 false true false false):=by
 refine returnsInLeavingWide_of_change_sized (C:=Try.checked) own started Try.func6
  (ChangeSpec.witness6 (enc:=enc) (C:=Try.checked) false ⟨#[],#[.agg #[.slice none 0 0,.int .i64 0],.slice none 0 0],[]⟩ 8 (by kernel_rfl) (by kernel_rfl) (by kernel_rfl) (by kernel_rfl)) ?_
 intro W base args ds gs before hval hW _ _ _
 have hW':=hW
 obtain⟨p,q,hA0,hV,rfl,hfz,hnd⟩:=hW
 have hA:DataW.TrodAll enc Try.prog W 0 (fun _=>true) true Try.f6.params.toList args.toList ds p:=hA0
 rw[Try.params6] at hA hval
 obtain⟨v0,vs0,d0,ds0,p0,q0,hargs,rfl,rfl,h0,r0⟩:=trodAll_cons hA
 obtain⟨v1,vs1,d1,ds1,p1,q1,rfl,rfl,rfl,h1,r1⟩:=trodAll_cons r0
 obtain⟨rfl,rfl,rfl⟩:=trodAll_nil r1
 obtain rfl:args= #[v0,v1]:=by cases args;simp_all
 obtain⟨rfl,rfl⟩:=trodVars_none hV
 obtain⟨b,f,hr⟩:=CP (hval 0 _ v0 rfl rfl) h0
 obtain⟨ts,hr1⟩:=Ca (hval 1 _ v1 rfl rfl) h1
 clear hA0
 simp only[List.append_nil] at hW'
 obtain⟨M,last,o,W',t',e1,e2,e3,e4⟩:=A9 (wE b f ts) (by kernel_rfl) (args:=#[v0,v1]) (w:=W) rfl (fun i hi=>by
  match i,hi with
  |0,_=>exact hr
  |1,_=>exact hr1)
 refine⟨M,last,o,W',t',e1,e2,e3,e4.mono fun v hv=>?_⟩
 obtain⟨rfl,hb⟩:=hv
 have hlt:∀x∈p0++p1,x.block<W.heap.size:=fun x hx=>hW'.lt x hx
 exact wU (pa:=p0++p1) (pv:=[]) hW' (fun _ _ _=>trodAll_cons_mk (shut_bool Try.underlying4 _) trodAll_mk0)
  (fun sp hsp=>trodAll_cons_mk (WideElems.Trod_stays GG (by kernel_rfl) (of_decide_eq_true (by kernel_rfl)) h0 (fun x hx=>hb.same (hlt x (List.mem_append_left _ hx))) (fun x hx=>hsp x (List.mem_append_left _ hx)))
   (trodAll_mk1 (WideElems.Trod_stays GG (by kernel_rfl) (of_decide_eq_true (by kernel_rfl)) h1 (fun x hx=>hb.same (hlt x (List.mem_append_right _ hx))) (fun x hx=>hsp x (List.mem_append_right _ hx)))))
  (fun _ _=>rfl) (by simp) hb (ok_one (by kernel_rfl) rfl (okWide_bool_mk Try.underlying4 _))
theorem holds:Rows.FnExactLanesRunSaid:=
 OpenClaim.holds_of_wide_leaving 6 Try.f6 rfl rfl rfl rfl rfl rfl rfl ⟨rfl,rfl,rfl,rfl,rfl⟩ rfl rfl rfl rfl rfl (by kernel_rfl) Try.func6 (by kernel_rfl)
  (of_decide_eq_true (by kernel_rfl)) (by unfold Func.isWrapper;first|(rw[if_pos (by decide+kernel)];kernel_rfl)|(rw[if_neg (by decide+kernel)];exact⟨rfl,rfl⟩))
  (fun os started H enc _=>lifted os started H enc)
#print axioms holds

end Go.Proofs.Ytbmnihglaokhmaa.rowExLan
