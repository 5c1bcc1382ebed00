/- FnLanesSame's law holds: it returns true for all bytes, and leaves its argument as it was. (PhC: named) -/
import Derived.Test.YtbmnihglaokhmaaRows
import Derived.Test.YtbmnihglaokhmaaLN10
set_option linter.unusedSimpArgs false
set_option linter.unusedVariables false
set_option maxHeartbeats 1000000
namespace Go.Proofs.Ytbmnihglaokhmaa.rowLaSame
open Go Go.RowKit Go.ChangeShapes Go.WideShapes Go.ChangeAt Go.Proofs.Ytbmnihglaokhmaa.Am
theorem own:ownKnob Try.prog.godebug=none:=by kernel_rfl
theorem GG:laidOutB Try.prog=true:=by kernel_rfl
theorem Hl:Try.prog.cellsOf 5=1:=by kernel_rfl
set_option maxRecDepth 100000 in
theorem lifted (os:Os)(started:os.Started)(H:Type)(enc:TypeId×Value→H):
  ReturnsInLeavingWide {} Try.checked os 3 .any (Rows.fnLanesSameSpec.pre6 enc Try.prog Try.f3 Rows.fnLanesSameRow.domain false) (Rows.fnLanesSameSpec.post enc Try.prog Try.f3 false true false false):=by
 refine returnsInLeavingWide_of_change_sized (C:=Try.checked) own started Try.func3
  (ChangeSpec.witness6 (enc:=enc) (C:=Try.checked) false ⟨#[],#[.slice none 0 0],[]⟩ 8 (by kernel_rfl) (by kernel_rfl) (by kernel_rfl) (by kernel_rfl)) ?_
 intro W base args ds gs before hval hW _ _ _
 have hW':=hW
 obtain⟨p,q,hA0,hV,rfl,hfz,hnd⟩:=hW
 have hA:DataW.TrodAll enc Try.prog W 0 (fun _=>true) true Try.f3.params.toList args.toList ds p:=hA0
 rw[Try.params3] at hA hval
 obtain⟨v0,vs0,d0,ds0,p0,q0,hargs,rfl,rfl,h0,r0⟩:=trodAll_cons hA
 obtain⟨rfl,rfl,rfl⟩:=trodAll_nil r0
 obtain rfl:args= #[v0]:=by cases args;simp_all
 obtain⟨rfl,rfl⟩:=trodVars_none hV
 obtain⟨c0,hc0,hr0⟩:=Hd Try.underlying22 Try.underlying5 Hl (hval 0 _ v0 rfl rfl) h0
 clear hA0
 simp only[List.append_nil] at hW'
 obtain⟨M,last,o,W',t',e1,e2,e3,e4⟩:=A9 (Hg c0 hc0) (by kernel_rfl) (args:=#[v0]) (w:=W) rfl (fun i hi=>by
  match i,hi with
  |0,_=>exact hr0)
 refine⟨M,last,o,W',t',e1,e2,e3,e4.mono fun v hv=>?_⟩
 obtain⟨rfl,hb⟩:=hv
 have hlt:∀x∈p0,x.block<W.heap.size:=fun x hx=>hW'.lt x hx
 exact wU (pa:=p0) (pv:=[]) hW' (fun _ _ _=>trodAll_cons_mk (shut_bool Try.underlying4 _) trodAll_mk0)
  (fun sp hsp=>trodAll_mk1 (WideElems.Trod_stays GG (by kernel_rfl) (of_decide_eq_true (by kernel_rfl)) h0 (fun x hx=>hb.same (hlt x hx)) (fun x hx=>hsp x hx)))
  (fun _ _=>rfl) (by simp) hb (ok_one (by kernel_rfl) rfl (okWide_bool_mk Try.underlying4 _))
theorem holds:Rows.FnLanesSameSaid:=
 OpenClaim.holds_of_wide_leaving 3 Try.f3 rfl rfl rfl rfl rfl rfl rfl ⟨rfl,rfl,rfl,rfl,rfl⟩ rfl rfl rfl rfl rfl (by kernel_rfl) Try.func3 (by kernel_rfl)
  (of_decide_eq_true (by kernel_rfl)) (by unfold Func.isWrapper;first|(rw[if_pos (by decide+kernel)];kernel_rfl)|(rw[if_neg (by decide+kernel)];exact⟨rfl,rfl⟩))
  (fun os started H enc _=>lifted os started H enc)
#print axioms holds

end Go.Proofs.Ytbmnihglaokhmaa.rowLaSame
