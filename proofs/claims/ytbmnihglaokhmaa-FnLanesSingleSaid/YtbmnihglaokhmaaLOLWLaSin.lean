/- FnLanesSingle's law holds: it returns true for all bytes, and leaves its arguments as they were. (PhC: named) -/
import Derived.Test.YtbmnihglaokhmaaRows
import Derived.Test.YtbmnihglaokhmaaLO10
set_option linter.unusedSimpArgs false
set_option linter.unusedVariables false
set_option maxHeartbeats 1000000
namespace Go.Proofs.Ytbmnihglaokhmaa.rowLaSin
open Go Go.RowKit Go.ChangeShapes Go.WideShapes Go.ChangeAt Go.Proofs.Ytbmnihglaokhmaa.Am
theorem own:ownKnob Try.prog.godebug=none:=by kernel_rfl
theorem FH:laidOutB Try.prog=true:=by kernel_rfl
theorem rW:Try.prog.cellsOf 5=1:=by kernel_rfl
set_option maxRecDepth 100000 in
theorem lifted (os:Os)(started:os.Started)(H:Type)(enc:TypeId×Value→H):
  ReturnsInLeavingWide {} Try.checked os 5 .any (Rows.fnLanesSingleSpec.pre6 enc Try.prog Try.f5 Rows.fnLanesSingleRow.domain false) (Rows.fnLanesSingleSpec.post enc Try.prog Try.f5 false true false false):=by
 refine returnsInLeavingWide_of_change_sized (C:=Try.checked) own started Try.func5
  (ChangeSpec.witness6 (enc:=enc) (C:=Try.checked) false ⟨#[],#[.slice none 0 0,.slice none 0 0],[]⟩ 8 (by kernel_rfl) (by kernel_rfl) (by kernel_rfl) (by kernel_rfl)) ?_
 intro W base args ds gs before hval hW _ _ _
 have hW':=hW
 obtain⟨p,q,hA0,hV,rfl,hfz,hnd⟩:=hW
 have hA:DataW.TrodAll enc Try.prog W 0 (fun _=>true) true Try.f5.params.toList args.toList ds p:=hA0
 rw[Try.params5] at hA hval
 obtain⟨v0,vs0,d0,ds0,p0,q0,hargs,rfl,rfl,h0,r0⟩:=trodAll_cons hA
 obtain⟨v1,vs1,d1,ds1,p1,q1,rfl,rfl,rfl,h1,r1⟩:=trodAll_cons r0
 obtain⟨rfl,rfl,rfl⟩:=trodAll_nil r1
 obtain rfl:args= #[v0,v1]:=by cases args;simp_all
 obtain⟨rfl,rfl⟩:=trodVars_none hV
 obtain⟨c0,hc0,hr0⟩:=mU Try.underlying22 Try.underlying5 rW (hval 0 _ v0 rfl rfl) h0
 obtain⟨c1,hc1,hr1⟩:=mU Try.underlying22 Try.underlying5 rW (hval 1 _ v1 rfl rfl) h1
 clear hA0
 simp only[List.append_nil] at hW'
 obtain⟨M,last,o,W',t',e1,e2,e3,e4⟩:=uo (AZ c0 c1 hc0 hc1) (by kernel_rfl) (args:=#[v0,v1]) (w:=W) rfl (fun i hi=>by
  match i,hi with
  |0,_=>exact hr0
  |1,_=>exact hr1)
 refine⟨M,last,o,W',t',e1,e2,e3,e4.mono fun v hv=>?_⟩
 obtain⟨rfl,hb⟩:=hv
 have hlt:∀x∈p0++p1,x.block<W.heap.size:=fun x hx=>hW'.lt x hx
 exact pG (pa:=p0++p1) (pv:=[]) hW' (fun _ _ _=>trodAll_cons_mk (shut_bool Try.underlying4 _) trodAll_mk0)
  (fun sp hsp=>trodAll_cons_mk (WideElems.Trod_stays FH (by kernel_rfl) (of_decide_eq_true (by kernel_rfl)) h0 (fun x hx=>hb.same (hlt x (List.mem_append_left _ hx))) (fun x hx=>hsp x (List.mem_append_left _ hx)))
   (trodAll_mk1 (WideElems.Trod_stays FH (by kernel_rfl) (of_decide_eq_true (by kernel_rfl)) h1 (fun x hx=>hb.same (hlt x (List.mem_append_right _ hx))) (fun x hx=>hsp x (List.mem_append_right _ hx)))))
  (fun _ _=>rfl) (by simp) hb (ok_one (by kernel_rfl) rfl (okWide_bool_mk Try.underlying4 _))
theorem holds:Rows.FnLanesSingleSaid:=
 OpenClaim.holds_of_wide_leaving 5 Try.f5 rfl rfl rfl rfl rfl rfl rfl ⟨rfl,rfl,rfl,rfl,rfl⟩ rfl rfl rfl rfl rfl (by kernel_rfl) Try.func5 (by kernel_rfl)
  (of_decide_eq_true (by kernel_rfl)) (by unfold Func.isWrapper;first|(rw[if_pos (by decide+kernel)];kernel_rfl)|(rw[if_neg (by decide+kernel)];exact⟨rfl,rfl⟩))
  (fun os started H enc _=>lifted os started H enc)
#print axioms holds

end Go.Proofs.Ytbmnihglaokhmaa.rowLaSin
