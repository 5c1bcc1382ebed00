/- FnExactWorldNew's law holds: it returns true for every committee, leaders and faulty member, and leaves its arguments as they were. -/
import Derived.Test.YtgfcmhjebbncpaaRows
import Derived.Test.YtgfcmhjebbncpaaNE8
set_option linter.unusedSimpArgs false
set_option linter.unusedVariables false
set_option maxHeartbeats 1000000
namespace Go.Proofs.Ytgfcmhjebbncpaa.rowExNew
open Go Go.RowKit Go.ChangeShapes Go.WideShapes Go.ChangeAt Go.Proofs.Ytgfcmhjebbncpaa.Am
set_option maxRecDepth 100000 in
theorem lifted (os:Os)(started:os.Started)(H:Type)(enc:TypeId×Value→H):
  ReturnsInHanded {} Try.checked os 3 .any (Rows.fnExactWorldNewSpec.pre6 enc Try.prog Try.f3 Rows.fnExactWorldNewRow.domain false) (Rows.fnExactWorldNewSpec.post enc Try.prog Try.f3 false true false false):=by
 refine returnsInHanded_of_change (C:=Try.checked) AN started (by kernel_rfl) Try.func3
  (ChangeSpec.witness6 (enc:=enc) (C:=Try.checked) false ⟨#[],#[.slice none 0 0,.slice none 0 0,.int .i64 0],[]⟩ 8 (by kernel_rfl) (by kernel_rfl) (by kernel_rfl) (by kernel_rfl)) ?_
 intro W base args ds gs before hval hW _ _
 have hW':=hW
 obtain⟨p,q,hA0,hV,rfl,hfz,hnd⟩:=hW
 have hA:DataW.TrodAll enc Try.prog W 0 (fun _=>true) true Try.f3.params.toList args.toList ds p:=hA0
 rw[Try.params3] at hA hval
 obtain⟨v0,vs0,d0,ds0,p0,q0,hargs,rfl,rfl,h0,r0⟩:=trodAll_cons hA
 obtain⟨v1,vs1,d1,ds1,p1,q1,rfl,rfl,rfl,h1,r1⟩:=trodAll_cons r0
 obtain⟨v2,vs2,d2,ds2,p2,q2,rfl,rfl,rfl,h2,r2⟩:=trodAll_cons r1
 obtain⟨rfl,rfl,rfl⟩:=trodAll_nil r2
 obtain rfl:args= #[v0,v1,v2]:=by cases args;simp_all
 obtain⟨rfl,rfl⟩:=trodVars_none hV
 obtain⟨c0,hr0⟩:=oV (hval 0 _ v0 rfl rfl) h0
 obtain⟨c1,hr1⟩:=oV (hval 1 _ v1 rfl rfl) h1
 obtain⟨c2,hr2⟩:=wh (hval 2 _ v2 rfl rfl) h2
 clear hA0
 simp only[List.append_nil] at hW'
 refine(sB (qi c0 c1 c2) rfl (fun i hi=>?_)).mono fun e W' ⟨he,hb⟩=>?_
 ·match i,hi with
  |0,_=>exact hr0
  |1,_=>exact hr1
  |2,_=>rw[hr2];exact .int _ _
 subst he
 have hlt:∀x∈p0++(p1++p2),x.block<W.heap.size:=fun x hx=>hW'.lt x hx
 exact⟨_,rfl,qk (pa:=p0++(p1++p2)) (pv:=[]) hW' (fun _ _ _=>trodAll_cons_mk (shut_bool Try.underlying4 _) trodAll_mk0)
  (fun sp hsp=>trodAll_cons_mk (WideElems.Trod_stays yZ (by kernel_rfl) (of_decide_eq_true (by kernel_rfl)) h0 (fun x hx=>hb.same (hlt x (List.mem_append_left _ hx))) (fun x hx=>hsp x (List.mem_append_left _ hx)))
   (trodAll_cons_mk (WideElems.Trod_stays yZ (by kernel_rfl) (of_decide_eq_true (by kernel_rfl)) h1 (fun x hx=>hb.same (hlt x (List.mem_append_right _ (List.mem_append_left _ hx)))) (fun x hx=>hsp x (List.mem_append_right _ (List.mem_append_left _ hx))))
   (trodAll_mk1 (WideElems.Trod_stays yZ (by kernel_rfl) (of_decide_eq_true (by kernel_rfl)) h2 (fun x hx=>hb.same (hlt x (List.mem_append_right _ (List.mem_append_right _ hx)))) (fun x hx=>hsp x (List.mem_append_right _ (List.mem_append_right _ hx)))))))
  (fun _ _=>rfl) (by simp) hb (ok_one (by kernel_rfl) rfl (okWide_bool_mk Try.underlying4 _))⟩
theorem jA:(Rows.fnExactWorldNewRow.inPlace==Try.pinned.checked.prog.inPlace 3)=true:=by kernel_rfl
theorem jB:(Rows.fnExactWorldNewRow.unfollowed==Try.pinned.checked.prog.unfollowed 3)=true:=by kernel_rfl
theorem jC:(Rows.fnExactWorldNewRow.recurses==Try.pinned.checked.prog.recurses 3)=true:=by kernel_rfl
theorem jD:(Rows.fnExactWorldNewRow.named==Try.pinned.checked.prog.varsNamed 3)=true:=by kernel_rfl
theorem jE:Try.pinned.checked.prog.mayEnter=true:=by kernel_rfl
theorem jF:(Rows.fnExactWorldNewRow.lifted==Try.pinned.checked.prog.liftsFinal)=true:=by kernel_rfl
theorem jG:(Try.pinned.checked.prog.make==some Rows.fnExactWorldNewRow.make)=true:=by kernel_rfl
theorem xX:joinedFacts Try.pinned.checked.prog 3 Try.f3 Rows.fnExactWorldNewSpec Rows.fnExactWorldNewRow=true:=by
 unfold joinedFacts
 rw[jA,jB,jC,jD,jE,jF,jG]
 exact of_decide_eq_true (by kernel_rfl)
theorem holds:Rows.FnExactWorldNewSaid:=
 OpenClaim.holds_of_wide 3 Try.f3 rfl rfl rfl rfl rfl rfl rfl ⟨rfl,rfl,rfl,rfl,rfl⟩ rfl rfl rfl rfl rfl (by kernel_rfl) Try.func3 xX
  (of_decide_eq_true (by kernel_rfl)) (by unfold Func.isWrapper;first|(rw[if_pos (by decide+kernel)];kernel_rfl)|(rw[if_neg (by decide+kernel)];exact⟨rfl,rfl⟩))
  (fun os started H enc _=>lifted os started H enc)
#print axioms holds

end Go.Proofs.Ytgfcmhjebbncpaa.rowExNew
