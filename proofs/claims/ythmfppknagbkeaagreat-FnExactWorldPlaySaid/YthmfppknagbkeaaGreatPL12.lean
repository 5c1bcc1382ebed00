/- Arguments of the exact laws on graphs: how they read. Arguments of the exact laws on runs: how they read. Arguments of the exact laws on events: how they read. -/
import Derived.Test.YthmfppknagbkeaaGreatRows
import Derived.Test.YthmfppknagbkeaaGreatPL11
set_option linter.unusedSimpArgs false
set_option linter.unusedVariables false
set_option maxHeartbeats 1000000
namespace Go.Proofs.YthmfppknagbkeaaGreat.Am
open Go Go.RowKit Go.ChangeShapes Go.WideShapes Go.ChangeAt
theorem Gy:ownKnob Tryz.prog.godebug=none:=by kernel_rfl
theorem FO:laidOutB Tryz.prog=true:=by kernel_rfl
theorem fO:Tryz.prog.cellsOf 3=1:=by kernel_rfl
set_option maxRecDepth 100000 in
theorem lQ {H:Type}{enc:TypeId×Value→H}{W:World}{sp:Nat→Bool}{hd:Bool}{cs:List Value}{fuel:Nat}{x:DataW H×List MemPlace}(h:DataW.trod enc Tryz.prog W 0 sp hd fuel 38 cs=some x):∃d:Vtx,rE W .vtx d cs:=by
 obtain⟨hl,hf⟩:=rb Tryz.underlying38 (by kernel_rfl) (by kernel_rfl) h
 obtain⟨n0,y0,h0⟩:=hf 0 _ rfl
 obtain⟨n1,y1,h1⟩:=hf 1 _ rfl
 obtain⟨n2,y2,h2⟩:=hf 2 _ rfl
 obtain⟨n3,y3,h3⟩:=hf 3 _ rfl
 obtain⟨r,e0⟩:=dT Tryz.underlying3 h0
 obtain⟨a,e1⟩:=dT Tryz.underlying3 h1
 obtain⟨ps,v2,e2,r2⟩:=gB Tryz.underlying22 Tryz.underlying3 fO h2
 obtain⟨d,e3⟩:=dT Tryz.underlying3 h3
 simp only[List.cons.injEq,and_true] at e2
 refine⟨⟨r,a,ps,d⟩,hl,fun j hj=>?_⟩
 match j,hj with
 |0,_=>rw[e0];exact .int _ _
 |1,_=>rw[e1];exact .int _ _
 |2,_=>rw[e2];exact r2
 |3,_=>rw[e3];exact .int _ _
theorem md {H:Type}{enc:TypeId×Value→H}{P:Program}{W:World}{sp:Nat→Bool}{hd:Bool}{t:TypeId}{fs:Array Field}{cs:List Value}{fuel:Nat}{x:DataW H×List MemPlace}(ht:P.underlying t=some (.struct fs))
  (h:DataW.trod enc P W 0 sp hd fuel t cs=some x):cs.length=P.cellsOf t∧∀(i:Nat) (f:Field),fs[i]?=some f→∃fuel y,DataW.trod enc P W 0 sp hd fuel f.type ((cs.drop f.offset).take (P.cellsOf f.type))=some y:=by
 obtain⟨xs,n,-,-,hlc,hl,hx⟩:=DataW.trod_struct ht h
 refine⟨by omega,fun i f hi=>?_⟩
 have hi':=(Array.getElem?_eq_some_iff.1 hi).1
 have h1:=hx i f hi
 exact⟨n,xs[i],by rw[h1,List.getElem?_eq_getElem (by omega)]⟩
theorem lj (cs:List Value){o n j:Nat}(hj:j<n):((cs.drop o).take n).getD j undef=cs.getD (o+j) undef:=by
 simp[List.getD_eq_getElem?_getD,List.getElem?_take,List.getElem?_drop,hj]
set_option maxRecDepth 100000 in
theorem pc:Tryz.prog.cellsOf 38=4:=by kernel_rfl
theorem uk:Tryz.prog.cellsOf 22=1:=by kernel_rfl
set_option maxRecDepth 100000 in
theorem xV {H:Type}{enc:TypeId×Value→H}{W:World}{sp:Nat→Bool}{hd:Bool}{cs:List Value}{fuel:Nat}{x:DataW H×List MemPlace}(h:DataW.trod enc Tryz.prog W 0 sp hd fuel 99 cs=some x):∃d:Ppl,rE W .ppl d cs:=by
 obtain⟨hl,hf⟩:=md Tryz.underlying99 h
 have hl5:cs.length=5:=hl.trans (by kernel_rfl)
 obtain⟨n0,y0,h0⟩:=hf 0 _ rfl
 obtain⟨n1,y1,h1⟩:=hf 1 _ rfl
 obtain⟨v,hv1,hv2⟩:=lQ h0
 obtain⟨ms,v2,e2,r2⟩:=gB Tryz.underlying22 Tryz.underlying3 fO h1
 have e3:cs.getD 4 undef=v2:=by
  have:=lj cs (o:=4) (n:=1) (j:=0) (by omega)
  rw[Nat.add_zero] at this
  rw[←this]
  have e4:(cs.drop 4).take 1=[v2]:=by
   have this:(cs.drop 4).take (Tryz.prog.cellsOf 22)=[v2]:=e2
   rw[uk] at this
   exact this
  rw[e4]
  rfl
 have hvv:∀j,j<4→Rep (fun k=>k<W.heap.size) W ((ab .vtx v).cells.getD j .undef) (cs.getD j undef):=fun j hj=>by
  have h5:Rep (fun k=>k<W.heap.size) W ((ab .vtx v).cells.getD j .undef) (((cs.drop 0).take (Tryz.prog.cellsOf 38)).getD j undef):=hv2 j hj
  rw[pc,lj cs hj,Nat.zero_add] at h5
  exact h5
 refine⟨⟨v,ms⟩,hl5,fun j hj=>?_⟩
 match j,hj with
 |0,_=>exact hvv 0 (by omega)
 |1,_=>exact hvv 1 (by omega)
 |2,_=>exact hvv 2 (by omega)
 |3,_=>exact hvv 3 (by omega)
 |4,_=>rw[e3];exact r2
set_option maxRecDepth 100000 in
theorem C0 {H:Type}{enc:TypeId×Value→H}{W:World}{sp:Nat→Bool}{hd:Bool}{v:Value}{d:DataW H}{p:List MemPlace}{base:Nat}(hv:Value.okWide Tryz.prog W .any base 26 v)(h:DataW.Trod enc Tryz.prog W 0 sp hd 26 v d p):
  ∃w:Wrl,Rep (fun k=>k<W.heap.size) W (V.agg [.lst (.int .i64) w.com,.lst (.int .i64) w.lead,.int .i64 w.bad,.lst (.lst .vtx) w.views,.lst .ppl w.props]).toD v:=by
 obtain⟨vs,rfl,hs,hf⟩:=CP Tryz.underlying26 (by kernel_rfl) (by kernel_rfl) hv h
 obtain⟨n0,y0,h0⟩:=hf 0 _ rfl
 obtain⟨n1,y1,h1⟩:=hf 1 _ rfl
 obtain⟨n2,y2,h2⟩:=hf 2 _ rfl
 obtain⟨n3,y3,h3⟩:=hf 3 _ rfl
 obtain⟨n4,y4,h4⟩:=hf 4 _ rfl
 obtain⟨c,v0,e0,r0⟩:=gB Tryz.underlying22 Tryz.underlying3 fO h0
 obtain⟨l,v1,e1,r1⟩:=gB Tryz.underlying22 Tryz.underlying3 fO h1
 obtain⟨b,e2⟩:=dT Tryz.underlying3 h2
 obtain⟨gs,v3,e3,r3⟩:=row_cells (T:=.lst .vtx) rfl Tryz.underlying23 (by kernel_rfl) (fun fuel cs x hx=>by
  obtain⟨g,u,rfl,hr⟩:=row_cells (T:=.vtx) rfl Tryz.underlying96 (by kernel_rfl) (fun fuel cs x hx=>lQ hx) hx
  refine⟨g,rfl,fun j hj=>?_⟩
  obtain rfl:j=0:=by have:j<1:=hj;omega
  exact hr) h3
 obtain⟨ps,v4,e4,r4⟩:=row_cells (T:=.ppl) rfl Tryz.underlying24 (by kernel_rfl) (fun fuel cs x hx=>xV hx) h4
 simp only[List.cons.injEq,and_true] at e0 e1 e3 e4
 refine⟨⟨c,l,b,gs,ps⟩,CA hs.symm fun i hi=>?_⟩
 match i,hi with
 |0,_=>rw[e0];exact r0
 |1,_=>rw[e1];exact r1
 |2,_=>rw[e2];exact .int _ _
 |3,_=>rw[e3];exact r3
 |4,_=>rw[e4];exact r4
theorem Gh (cs:List Value){i:Nat}(h:i<cs.length):(cs.drop i).take 1=[cs.getD i undef]:=by
 rw[List.drop_eq_getElem_cons h,List.getD_eq_getElem?_getD,List.getElem?_eq_getElem h]
 rfl
set_option maxRecDepth 100000 in
theorem xB {H:Type}{enc:TypeId×Value→H}{W:World}{sp:Nat→Bool}{hd:Bool}{cs:List Value}{fuel:Nat}{x:DataW H×List MemPlace}(h:DataW.trod enc Tryz.prog W 0 sp hd fuel 40 cs=some x):∃d:Evt,rE W .evt d cs:=by
 obtain⟨hl,hf⟩:=md Tryz.underlying40 h
 have hl7:cs.length=7:=hl.trans (by kernel_rfl)
 obtain⟨n0,y0,h0⟩:=hf 0 _ rfl
 obtain⟨n1,y1,h1⟩:=hf 1 _ rfl
 obtain⟨n2,y2,h2⟩:=hf 2 _ rfl
 obtain⟨n3,y3,h3⟩:=hf 3 _ rfl
 have g0:DataW.trod enc Tryz.prog W 0 sp hd n0 3 ((cs.drop 0).take (Tryz.prog.cellsOf 3))=some y0:=h0
 have g1:DataW.trod enc Tryz.prog W 0 sp hd n1 3 ((cs.drop 1).take (Tryz.prog.cellsOf 3))=some y1:=h1
 have g2:DataW.trod enc Tryz.prog W 0 sp hd n2 3 ((cs.drop 2).take (Tryz.prog.cellsOf 3))=some y2:=h2
 rw[fO,Gh cs (by omega)] at g0 g1 g2
 obtain⟨k,e0⟩:=dT Tryz.underlying3 g0
 obtain⟨a,e1⟩:=dT Tryz.underlying3 g1
 obtain⟨b,e2⟩:=dT Tryz.underlying3 g2
 obtain⟨v,hv1,hv2⟩:=lQ h3
 have hvv:∀j,j<4→Rep (fun k=>k<W.heap.size) W ((ab .vtx v).cells.getD j .undef) (cs.getD (3+j) undef):=fun j hj=>by
  have h5:Rep (fun k=>k<W.heap.size) W ((ab .vtx v).cells.getD j .undef) (((cs.drop 3).take (Tryz.prog.cellsOf 38)).getD j undef):=hv2 j hj
  rw[pc,lj cs hj] at h5
  exact h5
 refine⟨⟨k,a,b,v⟩,hl7,fun j hj=>?_⟩
 match j,hj with
 |0,_=>rw[e0];exact .int _ _
 |1,_=>rw[e1];exact .int _ _
 |2,_=>rw[e2];exact .int _ _
 |3,_=>exact hvv 0 (by omega)
 |4,_=>exact hvv 1 (by omega)
 |5,_=>exact hvv 2 (by omega)
 |6,_=>exact hvv 3 (by omega)
set_option maxRecDepth 100000 in
theorem y7 {H:Type}{enc:TypeId×Value→H}{W:World}{sp:Nat→Bool}{hd:Bool}{v:Value}{d:DataW H}{p:List MemPlace}{base:Nat}(hv:Value.okWide Tryz.prog W .any base 50 v)(h:DataW.Trod enc Tryz.prog W 0 sp hd 50 v d p):
  ∃l:List Evt,Rep (fun k=>k<W.heap.size) W (V.lst .evt l).toD v:=by
 obtain⟨a0,l0,c0,rfl⟩:=okWide_slice Tryz.underlying50 hv
 obtain⟨fuel,h⟩:=h
 obtain⟨l,v',e,hr⟩:=row_cells (T:=.evt) rfl Tryz.underlying50 (by kernel_rfl) (fun fuel cs x hx=>xB hx) h
 have e:[Value.slice a0 l0 c0]=[v']:=e
 cases e
 exact⟨l,hr⟩

end Go.Proofs.YthmfppknagbkeaaGreat.Am
