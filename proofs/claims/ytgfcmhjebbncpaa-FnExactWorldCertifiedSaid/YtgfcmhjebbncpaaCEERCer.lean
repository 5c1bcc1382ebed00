/- FnExactWorldCertified's law holds: it returns true for every run, and leaves its argument as it was. -/
import Derived.Test.YtgfcmhjebbncpaaRows
import Derived.Test.YtgfcmhjebbncpaaCE9
set_option linter.unusedSimpArgs false
set_option linter.unusedVariables false
set_option maxHeartbeats 1000000
namespace Go.Proofs.Ytgfcmhjebbncpaa.rowExCer
open Go Go.RowKit Go.ChangeShapes Go.WideShapes Go.ChangeAt Go.Proofs.Ytgfcmhjebbncpaa.Am
set_option maxRecDepth 100000 in
theorem lifted (os:Os)(started:os.Started)(H:Type)(enc:TypeId×Value→H):
  ReturnsInHanded {} Try.checked os 4 .any (Rows.fnExactWorldCertifiedSpec.pre6 enc Try.prog Try.f4 Rows.fnExactWorldCertifiedRow.domain false) (Rows.fnExactWorldCertifiedSpec.post enc Try.prog Try.f4 false true false false):=by
 refine returnsInHanded_of_change (C:=Try.checked) Bf started (by kernel_rfl) Try.func4
  (ChangeSpec.witness6 (enc:=enc) (C:=Try.checked) false ⟨#[],#[.agg #[.slice none 0 0,.slice none 0 0,.int .i64 0,.slice none 0 0,.slice none 0 0]],[]⟩ 8 (by kernel_rfl) (by kernel_rfl) (by kernel_rfl) (by kernel_rfl)) ?_
 intro W base args ds gs before hval hW _ _
 have hW':=hW
 obtain⟨p,q,hA0,hV,rfl,hfz,hnd⟩:=hW
 have hA:DataW.TrodAll enc Try.prog W 0 (fun _=>true) true Try.f4.params.toList args.toList ds p:=hA0
 rw[Try.params4] at hA hval
 obtain⟨v0,vs0,d0,ds0,p0,q0,hargs,rfl,rfl,h0,r0⟩:=trodAll_cons hA
 obtain⟨rfl,rfl,rfl⟩:=trodAll_nil r0
 obtain rfl:args= #[v0]:=by cases args;simp_all
 obtain⟨rfl,rfl⟩:=trodVars_none hV
 obtain⟨c0,hr0⟩:=w7 (hval 0 _ v0 rfl rfl) h0
 clear hA0
 simp only[List.append_nil] at hW'
 refine(sJ (qV c0) rfl (fun i hi=>?_)).mono fun e W' ⟨he,hb⟩=>?_
 ·match i,hi with
  |0,_=>exact hr0
 subst he
 have hlt:∀x∈p0,x.block<W.heap.size:=fun x hx=>hW'.lt x hx
 exact⟨_,rfl,qj (pa:=p0) (pv:=[]) hW' (fun _ _ _=>trodAll_cons_mk (shut_bool Try.underlying4 _) trodAll_mk0)
  (fun sp hsp=>trodAll_mk1 (WideElems.Trod_stays Bn (by kernel_rfl) (of_decide_eq_true (by kernel_rfl)) h0 (fun x hx=>hb.same (hlt x hx)) (fun x hx=>hsp x hx)))
  (fun _ _=>rfl) (by simp) hb (ok_one (by kernel_rfl) rfl (okWide_bool_mk Try.underlying4 _))⟩
theorem jA:(Rows.fnExactWorldCertifiedRow.inPlace==Try.pinned.checked.prog.inPlace 4)=true:=by kernel_rfl
theorem jB:(Rows.fnExactWorldCertifiedRow.unfollowed==Try.pinned.checked.prog.unfollowed 4)=true:=by kernel_rfl
theorem jC:(Rows.fnExactWorldCertifiedRow.recurses==Try.pinned.checked.prog.recurses 4)=true:=by kernel_rfl
theorem jD:(Rows.fnExactWorldCertifiedRow.named==Try.pinned.checked.prog.varsNamed 4)=true:=by kernel_rfl
theorem jE:Try.pinned.checked.prog.mayEnter=true:=by kernel_rfl
theorem jF:(Rows.fnExactWorldCertifiedRow.lifted==Try.pinned.checked.prog.liftsFinal)=true:=by kernel_rfl
theorem jG:(Try.pinned.checked.prog.make==some Rows.fnExactWorldCertifiedRow.make)=true:=by kernel_rfl
theorem yB:joinedFacts Try.pinned.checked.prog 4 Try.f4 Rows.fnExactWorldCertifiedSpec Rows.fnExactWorldCertifiedRow=true:=by
 unfold joinedFacts
 rw[jA,jB,jC,jD,jE,jF,jG]
 exact of_decide_eq_true (by kernel_rfl)
theorem holds:Rows.FnExactWorldCertifiedSaid:=
 OpenClaim.holds_of_wide 4 Try.f4 rfl rfl rfl rfl rfl rfl rfl ⟨rfl,rfl,rfl,rfl,rfl⟩ rfl rfl rfl rfl rfl (by kernel_rfl) Try.func4 yB
  (of_decide_eq_true (by kernel_rfl)) (by unfold Func.isWrapper;first|(rw[if_pos (by decide+kernel)];kernel_rfl)|(rw[if_neg (by decide+kernel)];exact⟨rfl,rfl⟩))
  (fun os started H enc _=>lifted os started H enc)
#print axioms holds

end Go.Proofs.Ytgfcmhjebbncpaa.rowExCer
