/- Scripts: a builder within a struct: copyCheck, String. Scripts: WriteString of a builder within a struct. Scripts: the builder's calls, typed. Scripts: the library's functions on texts. Scripts: the console prints. Scripts: the orders, printed. Scripts: what the console does with the run; its list of proposals. Scripts: a line's command. -/
import Derived.Lib.Builder
import Derived.Lib.UnsafeStr
import Derived.Lib.Walk
import Derived.Lib.Strings
import Derived.WalkKit
import Derived.Laws.Externs
import Derived.RegionTactic
import Derived.Shelf.RegionOpenPlain
import Derived.Lib.Slices
import Derived.Lib.AppendStr
import Derived.Laws.IdiomCopy
import Derived.Laws.BitsLemmas
import Derived.Shelf.Strings.Count
import Derived.Shelf.Strings.Search3
import Derived.Shelf.Strconv.Itoa3
import Derived.Lib.AppendIntMem
import Derived.Test.YtpefhoohfkeflacGreatDoorEC12
set_option linter.unusedSimpArgs false
set_option linter.unusedVariables false
set_option maxHeartbeats 1000000
namespace Go.Proofs.YtpefhoohfkeflacGreatDoor.Am
open Go Go.RowKit
set_option maxHeartbeats 1000000 in
set_option maxRecDepth 100000 in
theorem AO (b o:Nat)(w:World)(h0:w.cell? ⟨b,o,none⟩=some (.pointer (some ⟨b,o,none⟩))):
  Calls Tryz.prog 110 #[.pointer (some ⟨b,o,none⟩)] w fun e w'=>e= .returned (.tuple #[])∧w'=w:=by
 obtain⟨j,hj,_⟩:∃j,Tryz.prog.info? 39=some j∧j.size=2:=⟨_,rfl,by kernel_rfl⟩
 go_enter Tryz.func110,Tryz.ntmps110
 go_wp2
 rw[Lib.run_neq_ptr_same w _ Tryz.underlying37 hj]
 go_wp2
 go_end0
 exact⟨rfl,rfl⟩
set_option maxHeartbeats 1000000 in
set_option maxRecDepth 100000 in
theorem DK (b:Nat)(w:World)(h0:w.cell? ⟨b,5,none⟩=some (.pointer none))(hsh:w.shape? b=some (41,7))(hfz:w.frozen? ⟨b,5,none⟩=false):
  Calls Tryz.prog 110 #[.pointer (some ⟨b,5,none⟩)] w fun e w'=>e= .returned (.tuple #[])∧w'=w.setCell ⟨b,5,none⟩ (.pointer (some ⟨b,5,none⟩)):=by
 obtain⟨j,hj,hjs⟩:∃j,Tryz.prog.info? 39=some j∧j.size=2:=⟨_,rfl,by kernel_rfl⟩
 go_enter Tryz.func110,Tryz.ntmps110
 go_wp2
 rw[Lib.run_to_unsafe w ⟨b,5,none⟩ Tryz.underlying37 Tryz.underlying167 hj (by rw[hjs];decide) hsh (show 5<7 by decide)]
 simp only[Result.andThen]
 rw[Oper.upon_value]
 go_wp2
 rw[run_callFunc_extern Tryz.func146 (by kernel_rfl) (by kernel_rfl) (by kernel_rfl) (e:=Extern.AbiNoEscape.same) (by kernel_rfl)]
 rw[Lib.run_noEscape]
 simp only[Result.andThen]
 rw[Oper.upon_value]
 go_wp2
 rw[Lib.run_from_unsafe w ⟨b,5,none⟩ Tryz.underlying167 Tryz.underlying37 hj hsh (by kernel_rfl)]
 simp only[Result.andThen]
 rw[Oper.upon_value]
 go_wp2
 go_end0
 exact⟨rfl,rfl⟩
set_option maxHeartbeats 1000000 in
set_option maxRecDepth 100000 in
theorem L6 (b g cap cells:Nat)(l:List UInt8)(w:World)(h6:w.cell? ⟨b,6,none⟩=some (.slice (some ⟨g,0,none⟩) l.length cap))(hcap:cap≠0)(hsh:w.shape? g=some (5,cells))(hn:l.length≤cells)(h63:l.length≤9223372036854775807)(h0:l≠[])
  (hc:∀j x,l[j]?=some x→w.cell? ((⟨g,0,none⟩:Addr).add j)=some (.int .u8 x.toNat)):
  Calls Tryz.prog 19 #[.pointer (some ⟨b,5,none⟩)] w fun e w'=>e= .returned (.string ⟨l.toArray⟩)∧w'=w.drew.freeze ⟨g,0,none⟩ l.length:=by
 have c1:w.drew.cell? ⟨b,6,none⟩=some (.slice (some ⟨g,0,none⟩) l.length cap):=h6
 have hSD:(Builtin.unsafeSliceData_ #[22] 68 #[.slice (some ⟨g,0,none⟩) l.length cap]).run Tryz.prog w.drew= .ok (.pointer (some ⟨g,0,none⟩)) w.drew:=
  Lib.run_unsafeSliceData_row _ _ _ _ _ _ hcap
 have hUS:(Builtin.unsafeString_ #[68,3] 9 #[.pointer (some ⟨g,0,none⟩),.int .i64 l.length]).run Tryz.prog w.drew= .ok (.string ⟨l.toArray⟩) (w.drew.freeze ⟨g,0,none⟩ l.length):=
  Lib.run_unsafeString_row w.drew 68 3 9 5 Tryz.underlying68 (by kernel_rfl) g cells hsh l h0 hn h63 hc
 have mixed:Tryz.prog.follows .mixedOrders=true:=by kernel_rfl
 go_enter Tryz.func19,Tryz.ntmps19
 go_wp2
 go_region_o
 all_goals (go_wp2;go_ret;exact⟨rfl,rfl⟩)
theorem qO {w:World}{g k:Nat}{c:Array Value}{T:TypeId}{v:Value}(hg:w.heap[g]?=some (.cells c T (0,0))):w.setCell ⟨g,k,none⟩ v=w.setRow g (c.setIfInBounds k v):=by
 have:w.heap.modify g (fun o=>match o with
   | .cells cs E fr=>.cells (cs.setIfInBounds k v) E fr
   |o=>o)=w.heap.modify g (fun o=>match o with
   | .cells _ E fr=>.cells (c.setIfInBounds k v) E fr
   |o=>o):=by
  apply Array.ext_getElem?
  intro i
  rw[nN,nN]
  by_cases e:g=i
  ·subst e
   simp[hg]
  ·simp[e]
 simp only[World.setCell,World.setRow]
 first|exact congrArg (fun x=>{w with heap:=x}) this|simpa using this
section
variable {P:Program} {w0:World} {S:SD} {A:Nat→Prop} {N:Nat} {ρ:Id→Pl} {t:List (Nat×D)} {h:HL} {a:Act} {w:World}
theorem Sim.cellK (s:Sim P w0 S A N ρ t h a w){b:Id}{T:TypeId}{cs:List D}(hb:look h b=some (.var T cs)){k:Nat}(hk:k<cs.length){d:D}{v:Value}(hd:C ρ (Live h) (okOf A ρ h w) w d v):Sim P w0 S A N ρ t (put b (.var T (cs.set k d)) h) a (w.setCell ⟨(ρ b).blk,k,none⟩ v):=by
 obtain⟨c,g1,g2,g3⟩:=s.blk b _ hb
 rw[qO g1]
 refine s.write hb rfl _ fun hC hR=>⟨_,setRow_heap w _ c _ T _ g1,by simpa using g2,fun j hj=>?_⟩
 rw[jq] at hj
 by_cases e:j=k
 ·subst e
  have e1:(c.setIfInBounds j v).getD j undef=v:=by
   have:j<c.size:=by omega
   simp[bJ,this]
  have e2:(cs.set j d).getD j .undef=d:=by simp[aq,hj]
  rw[e1,e2]
  exact hC _ _ hd
 ·have e1:(c.setIfInBounds k v).getD j undef=c.getD j undef:=by
   simp[bJ,wy (cm e)]
  have e2:(cs.set k d).getD j .undef=cs.getD j .undef:=by simp[aq,nO (cm e)]
  rw[e1,e2]
  exact hC _ _ (g3 j hj)
theorem Sim.atK (s:Sim P w0 S A N ρ t h a w){b:Id}{T:TypeId}{cs:List D}(hb:look h b=some (.var T cs)){k:Nat}{d:D}(hk:cs[k]?=some d):w.shape? (ρ b).blk=some (T,cs.length)∧w.frozen? ⟨(ρ b).blk,k,none⟩=false∧∃v,w.cell? ⟨(ρ b).blk,k,none⟩=some v∧C ρ (Live h) (okOf A ρ h w) w d v:=by
 obtain⟨c,g1,g2,g3⟩:=s.blk b _ hb
 obtain⟨hl,e⟩:=aR.1 hk
 have hl2:k<c.size:=by omega
 have h1:=g3 k hl
 have e1:cs.getD k .undef=d:=by rw[aq,hk];rfl
 have e2:c.getD k undef=c[k]:=by simp[bJ,hl2]
 rw[e1,e2] at h1
 exact⟨by simp[World.shape?,g1,g2],by simp[World.frozen?,g1],c[k],by simp[World.cell?,g1,hl2],h1⟩
theorem Sim.giveUp (s:Sim P w0 S A N ρ t h a w){b:Id}{E:TypeId}{l:List D}(hb:look h b=some (.row E l)){w':World}(hos:w'.os=w.os)(htp:w'.tape=w.tape)(hout:w'.output=w.output)(hsz:w'.heap.size=w.heap.size)(hne:∀k,k≠(ρ b).blk→w'.heap[k]?=w.heap[k]?):Sim P w0 S A N ρ t (put b .gone h) a w':=by
 have hown:=s.own b _ hb rfl
 refine s.step (s.fr.andThen (T:=fun k=>k=(ρ b).blk) ⟨hos,htp,hout,by omega,fun i hi hn=>hne i hn⟩ fun i hi e=>by subst e;exact hown.2) (fun b' hb'=>⟨hb'.put,rfl⟩) (fun k hk=>?_) (fun b' x hx=>?_) (by omega) fun b1 b2 x x' hx hx' hl hl' he=>?_
 ·have hkb:k≠(ρ b).blk:=fun e=>hk.2 b _ hb rfl e.symm
  refine⟨⟨⟨by have:=hk.1.1;omega,hk.1.2⟩,fun b' x hx hm=>?_⟩,hne k hkb⟩
  rw[af] at hx
  by_cases e:b'=b
  ·rw[if_pos e] at hx
   obtain rfl:=ar hx
   cases hm
  ·rw[if_neg e] at hx
   exact hk.2 b' x hx hm
 ·rw[af] at hx
  by_cases e:b'=b
  ·rw[if_pos e] at hx
   obtain rfl:=ar hx
   exact .inr ⟨trivial,fun h=>by cases h⟩
  ·rw[if_neg e] at hx
   refine .inl ⟨hx,fun hm=>hne _ fun e2=>e ?_⟩
   exact s.inj b' b x _ hx hb (by cases x<;>first|rfl|cases hm) rfl e2
 ·rw[af] at hx hx'
  by_cases e:b1=b
  ·rw[if_pos e] at hx
   obtain rfl:=ar hx
   cases hl
  ·by_cases e':b2=b
   ·rw[if_pos e'] at hx'
    obtain rfl:=ar hx'
    cases hl'
   ·rw[if_neg e] at hx
    rw[if_neg e'] at hx'
    exact s.inj b1 b2 x x' hx hx' hl hl' he
end
theorem Hk {h:HL}{b:Id}{T:TypeId}{cs:List D}{o:Nat}(hb:look h b=some (.var T cs))(ho:cs[o]?=some (.ptr b o)):Con Tryz.prog 110 [.ptr b o] h (.tup []) h:=by
 refine⟨⟨_,Tryz.func110,rfl,rfl⟩,fun w A ρ vs s hl hcv=>?_⟩
 obtain⟨v,rfl⟩:=AG hl
 obtain⟨-,e0⟩:=(hcv 0 (by simp)).ptr_inv
 have e0:v= .pointer (some ⟨(ρ b).blk,o,none⟩):=e0
 subst e0
 obtain⟨-,-,v5,h5,hc5⟩:=s.atK hb ho
 obtain⟨-,rfl⟩:=hc5.ptr_inv
 refine(AO (ρ b).blk o w h5).mono ?_
 rintro e w' ⟨rfl,rfl⟩
 exact⟨_,ρ,rfl,fun b' hb'=>⟨rfl,hb'⟩,s,.tup [] #[] rfl (fun i hi=>by simp at hi)⟩
theorem Ia {l:List UInt8}{j:Nat}{x:UInt8}(h:l[j]?=some x):(l.map fun c=>D.int .u8 (c.toNat:Int)).getD j .undef= .int .u8 x.toNat:=by
 rw[aq,be,h];rfl
theorem Hm {h:HL}{b b2:Id}{T:TypeId}{cs:List D}{l:List UInt8}(hb:look h b=some (.var T cs))(ho:cs[6]?=some (.ref b2))(hr:look h b2=some (.row 5 (l.map fun c=>D.int .u8 (c.toNat:Int))))(h0:l≠[]):
  ∀hout:HL,(∀b',look hout b'=look (put b2 .gone h) b')→Con Tryz.prog 19 [.ptr b 5] h (.str (bs l)) hout:=by
 intro hout hh
 refine⟨⟨_,Tryz.func19,rfl,rfl⟩,fun w A ρ vs s hl hcv=>?_⟩
 obtain⟨v,rfl⟩:=AG hl
 obtain⟨hlv,e0⟩:=(hcv 0 (by simp)).ptr_inv
 have e0:v= .pointer (some ⟨(ρ b).blk,5,none⟩):=e0
 subst e0
 obtain⟨-,-,v6,h6,hc6⟩:=s.atK hb ho
 obtain⟨-,rfl⟩:=hc6.ref_inv
 obtain⟨c,g1,g2,g3,g4,g5,g6,g7,g8,g9⟩:=s.blk b2 _ hr
 have hsz:(ρ b2).sz=1:=by
  have:(Tryz.prog.info? 5).map (·.size)=some 1:=by kernel_rfl
  rw[this] at g7
  exact(ar g7).symm
 rw[hsz] at g2 g9
 rw[az] at g3
 have hlp:0<l.length:=List.length_pos_iff.2 h0
 rw[←g3] at h6
 have h63:l.length≤9223372036854775807:=by unfold maxLen at g5;omega
 refine(L6 (ρ b).blk (ρ b2).blk (ρ b2).cap c.size l w h6 (by omega) (by simp[World.shape?,g1]) (by omega) h63 h0 fun j x hj=>?_).mono ?_
 ·have hjl:=(aR.1 hj).1
  have h1:=g9 j 0 (by simpa using hjl) (by omega)
  rw[Ia hj] at h1
  have h2:C ρ (Live h) (okOf A ρ h w) w (.int .u8 x.toNat) (c.getD (j*1+0) undef):=h1
  have h3:=h2.int_inv
  have hjc:j<c.size:=by omega
  rw[iP,js,bJ,eI hjc,dY] at h3
  rw[dS]
  simp[World.cell?,g1,hjc,h3]
 ·rintro e w' ⟨rfl,rfl⟩
  have hs':Sim Tryz.prog w (qv ρ h) A 0 ρ [] (put b2 .gone h) ec (w.drew.freeze ⟨(ρ b2).blk,0,none⟩ l.length):=by
   refine s.giveUp hr ?_ ?_ ?_ ?_ fun k hk=>?_
   ·unfold World.freeze;split<;>rfl
   ·unfold World.freeze;split<;>rfl
   ·unfold World.freeze;split<;>rfl
   ·unfold World.freeze
    split
    ·rfl
    ·exact Array.size_modify
   ·unfold World.freeze
    split
    ·rfl
    ·refine(nN ..).trans ?_
     rw[if_neg (cm hk)]
     rfl
  refine⟨_,ρ,rfl,fun b' hb'=>⟨rfl,by
   have:Live (put b2 .gone h) b':=hb'.put
   unfold Live at this⊢
   rw[hh]
   exact this⟩,hs'.congr (fun _=>rfl) hh,.str _⟩
end Go.Proofs.YtpefhoohfkeflacGreatDoor.Am
namespace Go.Proofs.YtpefhoohfkeflacGreatDoor.Am
open Go Go.RowKit
theorem DL {w:World}{a:Addr}{v:Value}(h:w.cell? a=some v):a.block<w.heap.size:=by
 rcases cG a.block w.heap.size with hl|hl
 ·exact hl
 ·have:w.heap[a.block]?=none:=by simp[hl]
  simp[World.cell?,this] at h
section
variable {P:Program} (w:World)
theorem Cu (t u ty e:TypeId)(i:TypeInfo)(ht:P.underlying t=some (.slice e))(hu:P.underlying u=some .string)(hi:P.info? e=some i)(hz:i.zero=some (.int .u8 0))(hsize:i.size=1)(hby:i.bytes=1)
  (v:Value) (n:Nat) (xs:List Value) (hown:w.ownsRow 0 e 1 v n xs) (s:ByteArray) (hbytes:n+s.size≤140737488355328) {v':Value} {w':World} (hr:(Builtin.append_ #[t,u] ty #[v,.string s]).run P w= .ok v' w') (h0:0<s.size):
  v'.ownBlock=v.ownBlock∨v'.ownBlock=some w.heap.size:=by
 have hxl:xs.length=n:=by simpa using hown.1
 rcases hown.2 with⟨rfl,rfl⟩|⟨g,cap,cur,rfl,hbg,hg,hnc,hcm,hcs,htake⟩
 ·have hr2:=run_append_nil_string (P:=P) w t u ty e i (.int .u8 0) ht hu hi hz s (by omega) (by omega) (by rw[hby];omega)
  rw[hr2] at hr
  cases hr
  exact .inr rfl
 ·by_cases hroom:n+s.size≤cap
  ·have hr2:=Lib.run_append_room_string (P:=P) w t u ty e i ht hu hi hsize g n cap cur hg s hroom (by omega)
   rw[hr2] at hr
   cases hr
   exact .inl rfl
  ·have holds:∀j u,xs[j]?=some u→w.cell? ((⟨g,0,none⟩:Addr).add j)=some u:=hown.cells (g:=g) rfl
   have hr2:=Lib.run_append_grow_string (P:=P) w t u ty e i (.int .u8 0) ht hu hi hz ⟨g,0,none⟩ n cap xs (by rw[hsize];simpa using hxl) holds s (by omega) (by omega) (by rw[hby];exact growslice_fits (by omega) (by omega))
   rw[hr2] at hr
   cases hr
   exact .inr rfl
theorem yI {ops:Array Oper}{rest:List Oper}{o:Oper}{a:Act}{Q:Exit→Act→World→Prop}(hgd:o.guard=none)(sl x:Operand)(t u:TypeId)
  (ho:o.op= .call {callee:=.builtin .append,args:=#[sl,x],argTypes:=#[t,u]})
  (e:TypeId) (i:TypeInfo) (ht:P.underlying t=some (.slice e)) (hu:P.underlying u=some .string) (hi:P.info? e=some i) (hz:i.zero=some (.int .u8 0))
  (hsize:i.size=1) (hby:i.bytes=1)
  (v:Value) (n:Nat) (xs:List Value) (hs:a.eval sl=v) (hown:w.ownsRow 0 e 1 v n xs) (s:ByteArray) (hx:a.eval x= .string s) (h63:n+s.size≤maxLen) (hbytes:n+s.size≤140737488355328) (h0:0<s.size)
  (h:∀v' w',w'.ownsRow 0 e 1 v' (n+s.size) (xs++Lib.strCells s)→w.grownBy w' v.ownBlock→(v'.ownBlock=v.ownBlock∨v'.ownBlock=some w.heap.size)→wpList P ops Q rest (a.put o.dst v') w'):wpList P ops Q (o::rest) a w:=by
 refine wpList_plain hgd fun K hK=>?_
 obtain⟨v',w',hr,h2,h3,h4⟩:=Lib.run_append_own_string (P:=P) w 0 t u o.type e i ht hu hi hz hsize hby v n xs hown s h63 hbytes (aW _)
 have hp:=Cu w t u o.type e i ht hu hi hz hsize hby v n xs hown s hbytes hr h0
 unfold Oper.wp execOp
 simp only[ho,resolve,invoke,builtin,Sem.run_bind,Sem.run_pure,Result.andThen_ok,List.map_toArray,bK,eq,hs,hx,hr]
 exact hK _ _ (h v' w' h2 h3 hp)
end
set_option maxHeartbeats 1000000 in
set_option maxRecDepth 100000 in
theorem ME (b n:Nat)(s:ByteArray)(v:Value)(xs:List Value)(w w1:World)(hcc:Calls Tryz.prog 110 #[.pointer (some ⟨b,5,none⟩)] w fun e w'=>e= .returned (.tuple #[])∧w'=w1)
  (h6:w1.cell? ⟨b,6,none⟩=some v) (hfz:w1.frozen? ⟨b,6,none⟩=false) (hown:w1.ownsRow 0 5 1 v n xs) (hne:v.ownBlock≠some b) (hlen:n+s.size≤140737488355328) (hs0:0<s.size):
  Calls Tryz.prog 60 #[.pointer (some ⟨b,5,none⟩),.string s] w fun e w'=>
   ∃v' w2,e= .returned (.tuple #[.int .i64 s.size,.nilIface])∧w'=w2.setCell ⟨b,6,none⟩ v'∧w2.ownsRow 0 5 1 v' (n+s.size) (xs++Lib.strCells s)∧w1.grownBy w2 v.ownBlock∧(v'.ownBlock=v.ownBlock∨v'.ownBlock=some w1.heap.size):=by
 obtain⟨i0,hi,hz0,hz1,hz2⟩:=info_parts (show (Tryz.prog.info? 5).map (fun i=>(i.zero,i.size,i.bytes))=some (some (.int .u8 0),1,1) by kernel_rfl)
 have mixed:Tryz.prog.follows .mixedOrders=true:=by kernel_rfl
 go_enter Tryz.func60,Tryz.ntmps60
 go_wp2_with (fail)
 refine hcc.mono ?_
 rintro e w' ⟨rfl,rfl⟩
 dsimp only
 go_wp2_with (at_builtin;refine yI _ rfl _ _ 22 9 rfl 5 i0 Tryz.underlying22 Tryz.underlying9 hi hz0 hz1 hz2 _ _ _ rfl hown s rfl ?c3 ?c4 ?c5 ?_)
 case c3=>unfold maxLen;omega
 case c4=>omega
 case c5=>omega
 intro v' w2 hown' hgrow hnil
 have hlt:b<w'.heap.size:=DL h6
 have f1:w2.frozen? ⟨b,6,none⟩=false:=(World.frozen?_of_block (a:=⟨b,6,none⟩) (hgrow.block b hlt fun e=>hne e.symm)).trans hfz
 have d1:w2.cell? ⟨b,6,none⟩=some v:=(World.cell?_of_block (a:=⟨b,6,none⟩) (hgrow.block b hlt fun e=>hne e.symm)).trans h6
 obtain⟨ao,n',cap,rfl⟩:∃ao n' cap,v'= .slice ao n' cap:=by
  rcases hown'.2 with⟨hv,_⟩|⟨g,cap,cur,hv,_⟩
  ·exact⟨_,_,_,hv⟩
  ·exact⟨_,_,_,hv⟩
 go_wp2
 go_ret2
 exact⟨_,w2,rfl,rfl,hown',hgrow,hnil⟩
section
variable {P:Program} {w0:World} {S:SD} {A:Nat→Prop} {N:Nat} {ρ:Id→Pl} {t:List (Nat×D)} {h:HL} {a:Act} {w:World}
theorem Sim.regrow (s:Sim P w0 S A N ρ t h a w){n:Id}{E:TypeId}{zs:List Int}{k:IntKind}{h1:HL}{row:Option Nat}{g cap:Nat}{cur:Array Value}{w':World}(hn0:look h n=none)(hn:look h1 n=none)(hlv:∀b,Live h b→Live h1 b)
  (h1b:∀b x,look h1 b=some x→look h b=some x∨x= .gone) (hrow:∀r,row=some r→(¬okOf A ρ h w r)∧(S r∨w0.heap.size≤r)∧r<w.heap.size∧∀b x,look h1 b=some x→x.live=true→(ρ b).blk≠r)
  (hgr:w.grownBy w' row) (hg:row=some g∨w.heap.size≤g) (hh:w'.heap[g]?=some (.cells cur E (0,0))) (hsz:cur.size=cap*1) (hl:zs.length≤cap) (hcap:cap≤maxLen) (hE:(P.info? E).map (·.size)=some 1)
  (hz:∀i,i<zs.length→cur.getD i undef= .int k (zs.getD i 0)):
  Sim P w0 S A N (fun x=>if x=n then⟨g,cap,1,zs.length⟩ else ρ x) t (put n (.row E (zs.map (.int k))) h1) a w':=by
 have hgl:g<w'.heap.size:=by
  rcases cG g w'.heap.size with h'|h'
  ·exact h'
  ·rw[Array.getElem?_eq_none h'] at hh;cases hh
 have hgs:S g∨w0.heap.size≤g:=by
  rcases hg with e|e
  ·exact(hrow g e).2.1
  ·exact .inr (cu s.fr.size e)
 have hne:∀b,Live h b→b≠n:=fun b hb e=>by subst e;unfold Live at hb;rw[hn0] at hb;cases hb
 have hk:∀r,okOf A ρ h w r→w'.heap[r]?=w.heap[r]?:=fun r hr=>hgr.block r hr.1.1 fun e=>(hrow r e.symm).1 hr
 have hgo:∀r,okOf A ρ h w r→r≠g:=fun r hr e=>by
  subst e
  rcases hg with e|e
  ·exact(hrow r e).1 hr
  ·have:=hr.1.1;omega
 have hmut:∀b x,look h1 b=some x→x.mutable=true→look h b=some x:=fun b x hx hm=>by
  rcases h1b b x hx with q|q
  ·exact q
  ·subst q;cases hm
 refine s.step (s.fr.andThen (T:=fun r=>row=some r) ⟨hgr.os,hgr.tape,hgr.output,hgr.size,fun i hi hn=>hgr.block i hi fun e=>hn e.symm⟩ fun i hi e=>(hrow i e).2.1) (fun b hb=>⟨?_,if_neg (hne b hb)⟩) (fun r hr=>⟨⟨⟨kQ hr.1.1 hgr.size,hr.1.2⟩,fun b x hx hm=>?_⟩,hk r hr⟩) (fun b x hx=>?_) hgr.size fun b1 b2 x x' hx hx' hl1 hl2 he=>?_
 ·have:=hlv b hb
  unfold Live at this⊢
  rw[af]
  split
  ·rfl
  ·exact this
 ·rw[af] at hx
  dsimp only
  by_cases e:b=n
  ·rw[if_pos e]
   exact(hgo r hr).symm
  ·rw[if_neg e] at hx⊢
   exact hr.2 b x (hmut b x hx hm) hm
 ·rw[af] at hx
  by_cases e:b=n
  ·rw[if_pos e] at hx
   obtain rfl:=ar hx
   subst e
   refine .inr ⟨⟨cur,?_⟩,fun _=>?_⟩
   ·simp only[if_true]
    refine⟨hh,hsz,by simp,hl,hcap,Nat.one_pos,hE,fun e he=>?_,fun i j hi hj=>?_⟩
    ·obtain⟨z,-,rfl⟩:=aB.1 he
     exact⟨rfl,rfl⟩
    ·obtain rfl:j=0:=by omega
     rw[az] at hi
     have e1:((zs.map (D.int k)).getD i .undef).cells.getD 0 .undef= .int k (zs.getD i 0):=by
      have e2:(zs.map (D.int k)).getD i .undef= .int k zs[i]:=by rw[aq,be,am hi];rfl
      have e3:zs.getD i 0=zs[i]:=by rw[aq,am hi];rfl
      rw[e2,e3]
      rfl
     rw[e1,iP,js,hz i hi]
     exact C.int _ _
   ·simp only[if_true]
    exact⟨hgl,hgs⟩
  ·rw[if_neg e] at hx
   rcases h1b b x hx with q|q
   ·refine .inl ⟨q,fun hm=>?_⟩
    have ho:=s.own b x q (by cases x<;>first|rfl|cases hm)
    refine hgr.block _ ho.1 fun e2=>?_
    exact(hrow _ e2.symm).2.2.2 b x hx (by cases x<;>first|rfl|cases hm) rfl
   ·subst q
    exact .inr ⟨trivial,fun h=>by cases h⟩
 ·rw[af] at hx hx'
  have hnb:∀b x,look h1 b=some x→x.live=true→(ρ b).blk≠g:=fun b x hx hlx=>by
   rcases hg with e|e
   ·exact(hrow g e).2.2.2 b x hx hlx
   ·have q:look h b=some x:=by
     rcases h1b b x hx with q|q
     ·exact q
     ·subst q;cases hlx
    have:=(s.own b x q hlx).1
    omega
  by_cases e1:b1=n
  ·by_cases e2:b2=n
   ·rw[e1,e2]
   ·rw[if_neg e2] at hx'
    simp only[if_pos e1,if_neg e2] at he
    exact absurd he.symm (hnb b2 x' hx' hl2)
  ·rw[if_neg e1] at hx
   by_cases e2:b2=n
   ·simp only[if_neg e1,if_pos e2] at he
    exact absurd he (hnb b1 x hx hl1)
   ·rw[if_neg e2] at hx'
    simp only[if_neg e1,if_neg e2] at he
    have q1:look h b1=some x:=by
     rcases h1b b1 x hx with q|q
     ·exact q
     ·subst q;cases hl1
    have q2:look h b2=some x':=by
     rcases h1b b2 x' hx' with q|q
     ·exact q
     ·subst q;cases hl2
    exact s.inj b1 b2 x x' q1 q2 hl1 hl2 he
end
def e9 (o:List UInt8):List Int:=o.map fun c=>(c.toNat:Int)
theorem kz (o:List UInt8):(e9 o).length=o.length:=by simp[e9]
theorem x8 (a b:List UInt8):e9 (a++b)=e9 a++e9 b:=by simp[e9]
theorem OD (l:List UInt8):Lib.strCells (bs l)=(e9 l).map (Value.int .u8):=by simp[Lib.strCells,e9]
theorem DT {h h1:HL}{b n:Id}{T:TypeId}{cs:List D}{o l:List UInt8}(hb:look h b=some (.var T cs))(hc7:6<cs.length)(hl0:l≠[])(hlen:o.length+l.length≤1000000000)(hn:look h1 n=none)(hn0:look h n=none)(hlv:∀b,Live h b→Live h1 b)
  (h1b:∀b x,look h1 b=some x→look h b=some x∨x= .gone) (hbb:look h1 b=some (.var T cs)) (hbn:b≠n)
  (hcc:∀(w:World) (A:Nat→Prop) (ρ:Id→Pl),Sim Tryz.prog w ⟨qv ρ h,[]⟩ A 0 ρ [] h ec w→∃(w1:World) (cs':List D) (v:Value) (xs:List Value),True∧
   Calls Tryz.prog 110 #[.pointer (some ⟨(ρ b).blk,5,none⟩)] w (fun e w'=>e= .returned (.tuple #[])∧w'=w1)∧
   cs'.length=cs.length∧cs'.set 6 (.ref n)=(cs.set 5 (.ptr b 5)).set 6 (.ref n)∧Sim Tryz.prog w ⟨qv ρ h,[]⟩ A 0 ρ [] (put b (.var T cs') h) ec w1∧w1.cell? ⟨(ρ b).blk,6,none⟩=some v∧w1.ownsRow 0 5 1 v o.length xs∧xs=(e9 o).map (Value.int .u8)∧
   (∀r,v.ownBlock=some r→(¬okOf A ρ (put b (.var T cs') h) w1 r)∧(qv ρ h r∨w.heap.size≤r)∧r<w1.heap.size∧∀b' x,look (put b (.var T cs') h1) b'=some x→x.live=true→(ρ b').blk≠r)):
  ∀hout:HL,(∀b',look hout b'=look (put b (.var T ((cs.set 5 (.ptr b 5)).set 6 (.ref n))) (put n (.row 5 ((e9 (o++l)).map (.int .u8))) h1)) b')→Con Tryz.prog 60 [.ptr b 5,.str (bs l)] h (.tup [.int .i64 l.length,.nili]) hout:=by
 intro hout hh
 refine⟨⟨_,Tryz.func60,rfl,rfl⟩,fun w A ρ vs s hl hcv=>?_⟩
 obtain⟨v0,v1,rfl⟩:∃v0 v1,vs= #[v0,v1]:=by
  have hl:2=vs.size:=hl
  refine⟨vs[0],vs[1],Array.ext (by simp;omega) fun i h1 h2=>?_⟩
  match i,h2 with
  |0,_=>rfl
  |1,_=>rfl
 obtain⟨hlb,e0⟩:=(hcv 0 (Nat.zero_lt_two)).ptr_inv
 have e0:v0= .pointer (some ⟨(ρ b).blk,5,none⟩):=e0
 have e1:C ρ (Live h) (okOf A ρ h w) w (.str (bs l)) v1:=hcv 1 (Nat.one_lt_two)
 obtain rfl:=e1.str_inv
 subst e0
 obtain⟨w1,cs',v,xs,-,hc1,hcl,hcs,s1,h6,hown,hxs,hrow⟩:=hcc w A ρ s
 have hb1:look (put b (.var T cs') h) b=some (.var T cs'):=by rw[af,if_pos rfl]
 have hk6:cs'[6]?=some (cs'.getD 6 .undef):=by rw[aq,am (by omega)];rfl
 obtain⟨-,hfz,-,-,-⟩:=s1.atK hb1 hk6
 have hne:v.ownBlock≠some (ρ b).blk:=fun e=>(hrow _ e).2.2.2 b (.var T cs') (by rw[af,if_pos rfl]) rfl rfl
 have hlp:0<l.length:=List.length_pos_iff.2 hl0
 refine(ME (ρ b).blk o.length (bs l) v xs w w1 hc1 h6 hfz hown hne (by show o.length+l.length≤_;omega) hlp).mono ?_
 rintro e w' ⟨v',w2,rfl,rfl,hown2,hgr,hpl⟩
 have hsz:(bs l).size=l.length:=rfl
 rw[hsz] at hown2
 obtain⟨hxl,hd⟩:=hown2
 rcases hd with⟨rfl,e⟩|⟨g,cap,cur,rfl,-,hg,hnc,hcm,hcs2,htake⟩
 ·omega
 ·have hg2:v.ownBlock=some g∨w1.heap.size≤g:=by
   rcases hpl with e|e
   ·exact .inl e.symm
   ·exact .inr (by have:g=w1.heap.size:=ar e;omega)
  have hzl:(e9 (o++l)).length=o.length+l.length:=by rw[kz,aP]
  have hput:∀b' x,look (put b (.var T cs') h1) b'=some x→look (put b (.var T cs') h) b'=some x∨x= .gone:=fun b' x hx=>by
   rw[af] at hx⊢
   split at hx
   ·rename_i e
    rw[if_pos e]
    exact .inl hx
   ·rename_i e
    rw[if_neg e]
    exact h1b b' x hx
  have s2:=s1.regrow (n:=n) (E:=5) (zs:=e9 (o++l)) (k:=.u8) (h1:=put b (.var T cs') h1) (row:=v.ownBlock) (g:=g) (cap:=cap) (cur:=cur) (w':=w2)
   (by rw[af,if_neg (cm hbn)];exact hn0) (by rw[af,if_neg (cm hbn)];exact hn) (fun b' hb'=>by
    unfold Live at hb'⊢
    rw[af] at hb'⊢
    split
    ·rfl
    ·rename_i e
     rw[if_neg e] at hb'
     exact hlv b' hb') hput hrow hgr hg2 hg hcs2 (by omega) hcm (by kernel_rfl) (fun i hi=>by
    have h1:(cur.toList.take ((o.length+l.length)*1))[i]?=some (.int .u8 ((e9 (o++l)).getD i 0)):=by
     rw[htake,hxs,OD,←ce,←x8,be,aq,am hi]
     rfl
    rw[List.getElem?_take_of_lt (by omega)] at h1
    rw[bJ,←Array.getElem?_toList,h1]
    rfl)
  have hnn:∀b',b'≠n→(if b'=n then(⟨g,cap,1,(e9 (o++l)).length⟩:Pl) else ρ b')=ρ b':=fun b' e=>if_neg e
  have s3:=s2.cellK (b:=b) (T:=T) (cs:=cs') (k:=6) (d:=.ref n) (v:=.slice (some ⟨g,0,none⟩) (e9 (o++l)).length cap) (by rw[af,if_neg hbn,af,if_pos rfl]) (by omega) (by
   have:C (fun x=>if x=n then(⟨g,cap,1,(e9 (o++l)).length⟩:Pl) else ρ x) (Live (put n (.row 5 ((e9 (o++l)).map (.int .u8))) (put b (.var T cs') h1))) (okOf A (fun x=>if x=n then(⟨g,cap,1,(e9 (o++l)).length⟩:Pl) else ρ x) (put n (.row 5 ((e9 (o++l)).map (.int .u8))) (put b (.var T cs') h1)) w2) w2 (.ref n) _:=C.ref n (by unfold Live;rw[af,if_pos rfl];rfl)
   simp only[if_true] at this
   exact this)
  simp only[if_neg hbn] at s3
  have hv:Value.slice (some ⟨g,0,none⟩) (o.length+l.length) cap= .slice (some ⟨g,0,none⟩) (e9 (o++l)).length cap:=by rw[hzl]
  rw[hv]
  refine⟨_,_,rfl,fun b' hb'=>⟨?_,?_⟩,s3.congr (fun _=>rfl) (fun b'=>(hh b').trans ?_),.tup _ _ rfl fun i hi=>?_⟩
  ·exact if_neg fun e=>by subst e;unfold Live at hb';rw[hn0] at hb';cases hb'
  ·unfold Live
   rw[hh,af]
   split
   ·rfl
   ·rw[af]
    split
    ·rfl
    ·exact hlv b' hb'
  ·rw[hcs]
   simp only[af]
   by_cases e1:b'=b
   ·rw[if_pos e1,if_pos e1]
   ·rw[if_neg e1,if_neg e1]
    by_cases e2:b'=n
    ·rw[if_pos e2,if_pos e2]
    ·rw[if_neg e2,if_neg e2,if_neg e1]
  ·match i,hi with
   |0,_=>exact C.int _ _
   |1,_=>exact .pure .nili
end Go.Proofs.YtpefhoohfkeflacGreatDoor.Am
namespace Go.Proofs.YtpefhoohfkeflacGreatDoor.Am
open Go Go.RowKit
theorem Ho {h:HL}{b b2 n:Id}{T:TypeId}{cs:List D}{o l:List UInt8}(hb:look h b=some (.var T cs))(hc7:6<cs.length)(h5:cs[5]?=some (.ptr b 5))(h6:cs[6]?=some (.ref b2))(hr:look h b2=some (.row 5 ((e9 o).map (.int .u8))))(hl0:l≠[])(hlen:o.length+l.length≤1000000000)
  (hn0:look h n=none) (hb2:b≠b2):
  ∀hout:HL,(∀b',look hout b'=look (put b (.var T ((cs.set 5 (.ptr b 5)).set 6 (.ref n))) (put n (.row 5 ((e9 (o++l)).map (.int .u8))) (put b2 .gone h))) b')→Con Tryz.prog 60 [.ptr b 5,.str (bs l)] h (.tup [.int .i64 l.length,.nili]) hout:=by
 have hbn:b≠n:=fun e=>by rw[e,hn0] at hb;cases hb
 have hn2:n≠b2:=fun e=>by rw[e,hr] at hn0;cases hn0
 refine DT hb hc7 hl0 hlen (by rw[af,if_neg hn2];exact hn0) hn0 (fun b' hb'=>hb'.put) (fun b' x hx=>?_) (by rw[af,if_neg hb2];exact hb) hbn fun w A ρ s=>?_
 ·rw[af] at hx
  split at hx
  ·exact .inr (ar hx).symm
  ·exact .inl hx
 ·obtain⟨-,-,v5,c5,hc5⟩:=s.atK hb h5
  obtain⟨-,rfl⟩:=hc5.ptr_inv
  obtain⟨-,-,v6,c6,hc6⟩:=s.atK hb h6
  obtain⟨-,rfl⟩:=hc6.ref_inv
  have hset:cs.set 5 (.ptr b 5)=cs:=by
   obtain⟨q1,q2⟩:=aR.1 h5
   rw[←q2,List.set_getElem_self]
  have hlk:∀b',look (put b (.var T cs) h) b'=look h b':=fun b'=>by
   rw[af]
   split
   ·rename_i e;rw[e,hb]
   ·rfl
  have hown:=s.own b2 _ hr rfl
  obtain⟨c,g1,g2,g3,g4,g5,g6,g7,g8,g9⟩:=s.blk b2 _ hr
  have hsz:(ρ b2).sz=1:=by
   have:(Tryz.prog.info? 5).map (·.size)=some 1:=by kernel_rfl
   rw[this] at g7
   exact(ar g7).symm
  rw[hsz] at g2 g9
  rw[az,kz] at g3
  have hci:∀i (hi:i<o.length),c[i]?=some (.int .u8 o[i].toNat):=fun i hi=>by
   have q:=g9 i 0 (by rw[az,kz];exact hi) Nat.one_pos
   have e1:((e9 o).map (D.int .u8)).getD i .undef= .int .u8 o[i].toNat:=by
    rw[aq,be,e9,be,am hi];rfl
   rw[e1] at q
   have q2:C ρ (Live h) (okOf A ρ h w) w (.int .u8 o[i].toNat) (c.getD (i*1+0) undef):=q
   have q3:=q2.int_inv
   have hic:i<c.size:=by omega
   rw[iP,js,bJ,eI hic,dY] at q3
   rw[eI hic,q3]
  refine⟨w,cs,_,(e9 o).map (Value.int .u8),trivial,AO (ρ b).blk 5 w c5,rfl,by rw[hset],s.congr (fun _=>rfl) hlk,c6,⟨by rw[az,kz,iP],.inr ⟨_,_,c,by rw[←g3],aW _,g1,by omega,g5,g2,?_⟩⟩,rfl,fun r e=>?_⟩
  ·refine nS fun i=>?_
   rw[iP]
   by_cases hi:i<o.length
   ·rw[List.getElem?_take_of_lt hi,Array.getElem?_toList,hci i hi,e9,ep,be,am hi]
    rfl
   ·rw[eg (by simp;omega),eg (by rw[az,kz];omega)]
  ·have e:(ρ b2).blk=r:=ar e
   subst e
   refine⟨fun hk=>hk.2 b2 _ (by rw[hlk];exact hr) rfl rfl,.inl ⟨b2,_,hr,rfl,rfl⟩,hown.1,fun b' x hx hlx e=>?_⟩
   rw[af] at hx
   by_cases e1:b'=b
   ·rw[e1] at e
    exact hb2 (s.inj b b2 _ _ hb hr rfl rfl e)
   ·rw[if_neg e1,af] at hx
    by_cases e2:b'=b2
    ·rw[if_pos e2] at hx
     obtain rfl:=ar hx
     cases hlx
    ·rw[if_neg e2] at hx
     exact e2 (s.inj b' b2 _ _ hx hr hlx rfl e)
theorem Hn {h:HL}{b n:Id}{cs:List D}{l:List UInt8}(hb:look h b=some (.var 41 cs))(hc7:cs.length=7)(h5:cs[5]?=some .nilp)(h6:cs[6]?=some .nils)(hl0:l≠[])(hlen:l.length≤1000000000)(hn0:look h n=none):
  ∀hout:HL,(∀b',look hout b'=look (put b (.var 41 ((cs.set 5 (.ptr b 5)).set 6 (.ref n))) (put n (.row 5 ((e9 ([]++l)).map (.int .u8))) h)) b')→Con Tryz.prog 60 [.ptr b 5,.str (bs l)] h (.tup [.int .i64 l.length,.nili]) hout:=by
 have hbn:b≠n:=fun e=>by rw[e,hn0] at hb;cases hb
 refine DT (o:=[]) hb (by omega) hl0 (by simpa using hlen) hn0 hn0 (fun b' hb'=>hb') (fun b' x hx=>.inl hx) hb hbn fun w A ρ s=>?_
 obtain⟨hsh,hfz,v5,c5,hc5⟩:=s.atK hb h5
 obtain rfl:=hc5.nilp_inv
 obtain⟨-,-,v6,c6,hc6⟩:=s.atK hb h6
 obtain rfl:=hc6.nils_inv
 rw[hc7] at hsh
 have hlb:Live h b:=by unfold Live;rw[hb];rfl
 have s1:=s.cellK hb (k:=5) (by omega) (C.ptr b 5 hlb)
 have h61:(cs.set 5 (.ptr b 5))[6]?=some .nils:=by rw[nO (by decide)];exact h6
 obtain⟨-,-,v6,c62,hc62⟩:=s1.atK (by rw[af,if_pos rfl]) h61
 obtain rfl:=hc62.nils_inv
 exact⟨_,cs.set 5 (.ptr b 5),_,[],trivial,DK (ρ b).blk w c5 hsh hfz,by simp,rfl,s1,c62,World.ownsRow_nil _ _ _ _,rfl,fun r e=>by cases e⟩
abbrev dq (w:Wrl):VH:=[(4,.var 41 [.lst (.int .i64) w.com,.lst (.int .i64) w.lead,.int .i64 w.bad,.lst (.lst .vtx) w.views,.lst .ppl w.props,.nilp,.nils])]
abbrev bM (w:Wrl)(o:List UInt8):VH:=[(4,.var 41 [.lst (.int .i64) w.com,.lst (.int .i64) w.lead,.int .i64 w.bad,.lst (.lst .vtx) w.views,.lst .ppl w.props,.ptr 4 5,.ref 5]),(5,.row 5 (.int .u8) (e9 o))]
abbrev jv (w:Wrl)(o:List UInt8):VH:=[(4,.var 41 [.lst (.int .i64) w.com,.lst (.int .i64) w.lead,.int .i64 w.bad,.lst (.lst .vtx) w.views,.lst .ppl w.props,.ptr 4 5,.ref 6]),(5,.gone),(6,.row 5 (.int .u8) (e9 o))]
theorem Nb (w:Wrl)(o:List UInt8):ag Tryz.prog 110 [.ptr 4 5] (bM w o) (.tup []) (bM w o):=
 Hk (h:=toH (bM w o)) (b:=(4,0)) rfl rfl
theorem Nl (w:Wrl)(o l:List UInt8)(hl0:l≠[])(hlen:o.length+l.length≤1000000000):ag Tryz.prog 60 [.ptr 4 5,.str (bs l)] (bM w o) (.tup [.int .i64 l.length,.nili]) (jv w (o++l)):=by
 refine Ho (h:=toH (bM w o)) (b:=(4,0)) (b2:=(5,0)) (n:=(6,0)) rfl (show 6<7 by decide) rfl rfl rfl hl0 hlen rfl (by decide) _ fun b'=>?_
 exact congrArg (fun z=>look z b') rfl
theorem Nk (w:Wrl)(l:List UInt8)(hl0:l≠[])(hlen:l.length≤1000000000):ag Tryz.prog 60 [.ptr 4 5,.str (bs l)] (dq w) (.tup [.int .i64 l.length,.nili]) (bM w l):=by
 refine Hn (h:=toH (dq w)) (b:=(4,0)) (n:=(5,0)) rfl rfl rfl rfl hl0 hlen rfl _ fun b'=>?_
 exact congrArg (fun z=>look z b') rfl
end Go.Proofs.YtpefhoohfkeflacGreatDoor.Am
namespace Go.Proofs.YtpefhoohfkeflacGreatDoor.Am
open Go Go.Shelf Go.RowKit
attribute [local irreducible] Mk ci Ari fB mA ju b9 cR iT fo At ag
set_option maxRecDepth 10000
theorem za {P : Program} {f : FuncId} {ds : List D} {r : D} (hf : ∃ fn, P.funcs[f]? = some fn ∧ fn.body.isNone = false ∧ (fn.name == "runtime.NumGoroutine") = false)
  (h:∀(w:World) (ok:Nat→Prop) (ρ:Id→Pl) (vs:Array Value),ds.length=vs.size→(∀i,i<ds.length→C ρ (fun _=>False) ok w (ds.getD i .undef) (vs.getD i undef))→(∀g zs,look Gt g=some zs→∃T fz,w.heap[g]?=some (.cells (zs.map (Value.int .u64)).toArray T fz))→
   Calls P f vs w fun e w'=>∃u,e= .returned u∧Below w.heap.size w w'∧∀ok',Rep ok' w' r u):Con P f ds [] r []:=by
 refine⟨hf,fun w A ρ vs hs hl hc=>?_⟩
 have hno:∀b,¬Live [] b:=fun b h=>by cases h
 have hc':∀i,i<ds.length→C ρ (fun _=>False) (okOf A ρ [] w) w (ds.getD i .undef) (vs.getD i undef):=fun i hi=>(hc i hi).mono (fun b hb=>absurd hb (hno b)) (fun b hb=>⟨hb,rfl⟩)
 refine Calls.mono (h w (okOf A ρ [] w) ρ vs hl hc' fun g zs hx=>(hs.tab hx).2) ?_
 rintro e w' ⟨u,rfl,hb,hr⟩
 refine⟨u,ρ,rfl,fun b hb=>absurd hb (hno b),⟨hs.base,hs.inS,⟨hb.os,hb.tape,hb.output,hb.size,fun i hi _=>hb.block i hi⟩,rfl,rfl,?_,?_,?_,?_,hs.gl⟩,.pure (hr _)⟩
 ·intro k d h;cases h
 ·intro k d h;cases h
 ·intro k d h;cases h
 ·intro b b' x x' h;cases h
theorem wK {vs:Array Value}(h:2=vs.size):∃v0 v1,vs= #[v0,v1]:=by
 refine⟨vs[0],vs[1],Array.ext (by simp;omega) fun i h1 h2=>?_⟩
 match i,h2 with
 |0,_=>rfl
 |1,_=>rfl
def xP:Go.Shelf.Ren:=⟨fun|138=>58|195=>106|218=>108|143=>59|219=>109|217=>142|225=>143|224=>144|267=>145|266=>167|314=>168|n=>n,fun|9=>9|3=>3|4=>4|5=>5|0=>0|46=>166|146=>200|51=>89|n=>n,fun|1=>0|n=>n⟩
theorem Ip:Go.Proofs.Lays.n138 Tryz.prog xP where
  mixed:=by kernel_rfl
  f138:=Tryz.func58.trans (congrArg some (by kernel_rfl))
  f143:=Tryz.func59.trans (congrArg some (by kernel_rfl))
  f195:=Tryz.func106.trans (congrArg some (by kernel_rfl))
  f217:=Tryz.func142.trans (congrArg some (by kernel_rfl))
  f218:=Tryz.func108.trans (congrArg some (by kernel_rfl))
  f219:=Tryz.func109.trans (congrArg some (by kernel_rfl))
  f224:=Tryz.func144.trans (congrArg some (by kernel_rfl))
  f225:=Tryz.func143.trans (congrArg some (by kernel_rfl))
  f266:=Tryz.func167.trans (congrArg some (by kernel_rfl))
  f267:=Tryz.func145.trans (congrArg some (by kernel_rfl))
  f314:=Tryz.func168.trans (congrArg some (by kernel_rfl))
  t0:=Tryz.underlying0
  a0:=Tryz.isAgg0
  z0:=Tryz.sizeOf0
  v0:=Tryz.zeroValue0
  t3:=Tryz.underlying3
  a3:=Tryz.isAgg3
  z3:=Tryz.sizeOf3
  v3:=Tryz.zeroValue3
  t4:=Tryz.underlying4
  a4:=Tryz.isAgg4
  z4:=Tryz.sizeOf4
  v4:=Tryz.zeroValue4
  t5:=Tryz.underlying5
  a5:=Tryz.isAgg5
  z5:=Tryz.sizeOf5
  v5:=Tryz.zeroValue5
  t9:=Tryz.underlying9
  a9:=Tryz.isAgg9
  z9:=Tryz.sizeOf9
  v9:=Tryz.zeroValue9
  t46:=Tryz.underlying166
  a46:=Tryz.isAgg166
  z46:=Tryz.sizeOf166
  v46:=Tryz.zeroValue166
  t51:=Tryz.underlying89
  a51:=Tryz.isAgg89
  z51:=Tryz.sizeOf89
  v51:=Tryz.zeroValue89
  t146:=Tryz.underlying200
  a146:=Tryz.isAgg200
  z146:=Tryz.sizeOf200
  v146:=Tryz.zeroValue200
  g1:=by kernel_rfl
def xQ:Go.Shelf.Ren:=⟨fun|143=>59|219=>109|217=>142|225=>143|224=>144|267=>145|266=>167|314=>168|n=>n,fun|9=>9|3=>3|4=>4|5=>5|46=>166|146=>200|51=>89|n=>n,fun|1=>0|n=>n⟩
theorem Iq:Go.Proofs.Lays.n143 Tryz.prog xQ where
  mixed:=by kernel_rfl
  f143:=Tryz.func59.trans (congrArg some (by kernel_rfl))
  f217:=Tryz.func142.trans (congrArg some (by kernel_rfl))
  f219:=Tryz.func109.trans (congrArg some (by kernel_rfl))
  f224:=Tryz.func144.trans (congrArg some (by kernel_rfl))
  f225:=Tryz.func143.trans (congrArg some (by kernel_rfl))
  f266:=Tryz.func167.trans (congrArg some (by kernel_rfl))
  f267:=Tryz.func145.trans (congrArg some (by kernel_rfl))
  f314:=Tryz.func168.trans (congrArg some (by kernel_rfl))
  t3:=Tryz.underlying3
  a3:=Tryz.isAgg3
  z3:=Tryz.sizeOf3
  v3:=Tryz.zeroValue3
  t4:=Tryz.underlying4
  a4:=Tryz.isAgg4
  z4:=Tryz.sizeOf4
  v4:=Tryz.zeroValue4
  t5:=Tryz.underlying5
  a5:=Tryz.isAgg5
  z5:=Tryz.sizeOf5
  v5:=Tryz.zeroValue5
  t9:=Tryz.underlying9
  a9:=Tryz.isAgg9
  z9:=Tryz.sizeOf9
  v9:=Tryz.zeroValue9
  t46:=Tryz.underlying166
  a46:=Tryz.isAgg166
  z46:=Tryz.sizeOf166
  v46:=Tryz.zeroValue166
  t51:=Tryz.underlying89
  a51:=Tryz.isAgg89
  z51:=Tryz.sizeOf89
  v51:=Tryz.zeroValue89
  t146:=Tryz.underlying200
  a146:=Tryz.isAgg200
  z146:=Tryz.sizeOf200
  v146:=Tryz.zeroValue200
  g1:=by kernel_rfl
theorem KQ (s:List UInt8)(c:UInt8):ag Tryz.prog 58 [.str (bs s),.str (bs [c])] [] (.int .i64 (s.count c:Nat)) []:=by
 unfold ag
 refine iU ⟨_,Tryz.func58,rfl,rfl⟩ fun w ok ρ vs hl hc=>?_
 obtain⟨v0,v1,rfl⟩:=wK hl
 have h0:C ρ (fun _=>False) ok w (.str (bs s)) v0:=hc 0 Nat.zero_lt_two
 have h1:C ρ (fun _=>False) ok w (.str (bs [c])) v1:=hc 1 Nat.one_lt_two
 obtain rfl:=h0.str_inv
 obtain rfl:=h1.str_inv
 refine Calls.mono (Any.strings_Count_one Ip (bs s) c w) ?_
 rintro e w' ⟨rfl,rfl⟩
 exact⟨_,rfl,Below.refl _ _,fun ok'=>.int _ _⟩
theorem K3 (s:List UInt8)(c:UInt8):ag Tryz.prog 59 [.str (bs s),.str (bs [c])] [] (.int .i64 (Lib.indexByte s c)) []:=by
 unfold ag
 refine iU ⟨_,Tryz.func59,rfl,rfl⟩ fun w ok ρ vs hl hc=>?_
 obtain⟨v0,v1,rfl⟩:=wK hl
 have h0:C ρ (fun _=>False) ok w (.str (bs s)) v0:=hc 0 Nat.zero_lt_two
 have h1:C ρ (fun _=>False) ok w (.str (bs [c])) v1:=hc 1 Nat.one_lt_two
 obtain rfl:=h0.str_inv
 obtain rfl:=h1.str_inv
 refine Calls.mono (Any.strings_Index_one Iq (bs s) c w) ?_
 rintro e w' ⟨rfl,rfl⟩
 exact⟨_,rfl,Below.refl _ _,fun ok'=>.int _ _⟩
theorem EZ (c:UInt8)(b:List UInt8):∀a:List UInt8,c∉a→Lib.indexByte (a++c::b) c=a.length
 |[],_=>by simp[Lib.indexByte]
 |x::a,h=>by
  have hx:¬x=c:=fun e=>h (by simp[e])
  have ih:=EZ c b a fun hm=>h (by simp[hm])
  simp only[gx,Lib.indexByte,ih,bF]
  simp[hx]<;>omega
theorem D3 (c:UInt8)(b:List UInt8):∀a:List UInt8,c∉a→aK c (a++c::b)=a::aK c b
 |[],_=>by simp[aK]
 |x::a,h=>by
  have hx:¬x=c:=fun e=>h (by simp[e])
  rw[gx,aK,if_neg hx,D3 c b a fun hm=>h (by simp[hm])]
  rfl
theorem wZ (c:UInt8):∀a:List UInt8,c∉a→aK c a=[a]
 |[],_=>rfl
 |x::a,h=>by
  have hx:¬x=c:=fun e=>h (by simp[e])
  rw[aK,if_neg hx,wZ c a fun hm=>h (by simp[hm])]
  rfl
def Θs:TT:=(44,⟨.slice 9,1,24,some .nils,some (.lst .str),true⟩)::Θ
theorem qj:TT.ok Tryz.prog Θs:=TT.okB_ok (by kernel_rfl)
theorem NG {P Q:Prop}(h:Q)(s:Hid Q→P:=by
  intro h
  (first|(with_reducible first|apply dQ|apply cU)|((first|with_reducible apply cJ qj|refine go ?_|(with_reducible first|apply df|apply dp|apply cH|apply cK|refine cI qj mixed (by kernel_rfl) ?_))<;>conv=>whnf))
  repeat(first|(with_reducible first|apply dQ|apply cU)|((first|with_reducible apply cJ qj|refine go ?_|(with_reducible first|apply df|apply dp|apply cH|apply cK|refine cI qj mixed (by kernel_rfl) ?_))<;>conv=>whnf))
  exact h.h):P:=s ⟨h⟩
theorem K2 (s:List UInt8)(c:UInt8)(hl:s.length≤2000000):ag Tryz.prog 27 [.str (bs s),.str (bs [c]),.int .i64 0,.int .i64 (-1)] [] (.ref 4) [(4,.row 9 .str ((aK c s).map bs))]:=by
 have hsz:(bs s).size=s.length:=rfl
 have hs1:(bs [c]).size=1:=rfl
 have hcl:=List.count_le_length (a:=c) (l:=s)
 have hC:=KQ s c
 have e0:=(JL [c] []).trans (decide_eq_false (by simp))
 refine ab qj Tryz.func27 rfl rfl false 0 4 rfl rfl rfl rfl fun K hK hb1 hb2=>?_;simp only[ae,enc,Nat.reduceAdd]
 clear hb1 hb2
 (repeat' first|((first|with_reducible refine aF ?_ (by assumption)|with_reducible refine aE ?_ (by assumption));conv=>whnf)|refine NG ?_|refine sa fun xe hxe=>?_|refine sb (fun hq=>?_) fun hq=>?_|((with_reducible refine aG ?_)<;>conv=>whnf)|refine cr (hC) ?_|exact aa)
 rw[if_neg (by omega)]
 (repeat' first|((first|with_reducible refine aF ?_ (by assumption)|with_reducible refine aE ?_ (by assumption));conv=>whnf)|refine NG ?_|refine sa fun xe hxe=>?_|refine sb (fun hq=>?_) fun hq=>?_|((with_reducible refine aG ?_)<;>conv=>whnf)|refine cr (hC) ?_|exact aa)
 clear hC
 have hN:(((s.count c:Nat):Int)+1).toNat=s.count c+1:=by omega
 rw[hN]
 refine ah hK [] [0,1,2,3,9,10] (fun x:List (List UInt8)×List UInt8=>⟨[(0,.str (bs x.2)),(1,.str (bs [c])),(2,.int .i64 0),(3,.int .i64 (((s.count c:Nat):Int)+1-1)),(9,.ref 4),(10,.int .i64 (x.1.length:Int))],[(4,.row 9 .str (x.1.map bs++(List.replicate (s.count c+1) (⟨#[]⟩:ByteArray)).drop x.1.length))],5⟩) (fun x=>aK c s=x.1++aK c x.2∧x.2.count c+x.1.length=s.count c∧x.2.length≤s.length) (fun x=>x.2.count c) ([],s) ⟨rfl,rfl,ax _⟩ (by(conv=>whnf);rfl) ?_
 rintro⟨dn,r⟩ ⟨h1,h2,h3⟩
 dsimp only at h1 h2 h3⊢
 have hln:(dn.map bs).length=dn.length:=az ..
 by_cases hlt:r.count c=0
 ·have hnc:c∉r:=List.count_eq_zero.1 hlt
  rw[wZ c r hnc] at h1
  have hd:dn.length=s.count c:=by omega
  have hrow:dn.map bs++(List.replicate (s.count c+1) (⟨#[]⟩:ByteArray)).drop dn.length=dn.map bs++[⟨#[]⟩]:=by
   rw[hd,List.drop_replicate,Nat.add_sub_cancel_left]
   rfl
  have hset:(dn.map bs++[(⟨#[]⟩:ByteArray)]).set dn.length (bs r)=(aK c s).map bs:=by
   rw[h1,ce,List.set_append_right _ _ (by omega),hln,ka]
   rfl
  have hl2:(dn.map bs++[(⟨#[]⟩:ByteArray)]).length=s.count c+1:=by simp[hd]
  have hl3:((aK c s).map bs).length=s.count c+1:=by rw[az,eA]
  rw[hrow,←hset,hd]
  rw[hd] at hset
  rw[←hset] at hl3
  generalize dn.map bs++[(⟨#[]⟩:ByteArray)]=row at *
  generalize s.count c=m at *
  (repeat' first|((first|with_reducible refine aF ?_ (by assumption)|with_reducible refine aE ?_ (by assumption));conv=>whnf)|refine NG ?_|refine sa fun xe hxe=>?_|refine sb (fun hq=>?_) fun hq=>?_|((with_reducible refine aG ?_)<;>conv=>whnf)|exact aa)
  refine⟨rfl,?_⟩
  have hcut:lM (row.set (m:Int).toNat (bs r)) none (some (V.int .i64 ((m:Int)+1))) 0 ((m:Int)+1).toNat=row.set m (bs r):=by
   rw[pf,show ((m:Int)+1).toNat=m+1 by omega]
   show List.take _ _=_
   exact bp (by omega)
  rw[hcut]
 ·obtain⟨a,b,rfl,hna⟩:=List.eq_append_cons_of_mem (List.count_pos_iff.1 (Nat.pos_of_ne_zero hlt))
  have hI:=K3 (a++c::b) c
  rw[EZ c b a hna] at hI
  rw[D3 c b a hna] at h1
  have hcb:(a++c::b).count c=b.count c+1:=by
   rw[List.count_append,List.count_cons_self,List.count_eq_zero.2 hna]
   omega
  have hszr:(bs (a++c::b)).size=a.length+b.length+1:=by rw[Hh];simp;omega
  have he1:(bs (a++c::b)).extract 0 a.length=bs a:=by rw[po];simp
  have hdr:(a++c::b).drop (a.length+1)=b:=by simp
  have he2:(bs (a++c::b)).extract (a.length+1) (bs (a++c::b)).size=bs b:=by rw[po,hdr,bp (by rw[hszr];omega)]
  have hal:a.length≤s.length:=by simp at h3;omega
  have hs:(dn.map bs++(List.replicate (s.count c+1) (⟨#[]⟩:ByteArray)).drop dn.length).set dn.length (bs a)=(dn++[a]).map bs++(List.replicate (s.count c+1) (⟨#[]⟩:ByteArray)).drop (dn++[a]).length:=by
   rw[th _ _ _ hln (by rw[iu];omega),ce,aP]
   rfl
  have iD:dn.length<(dn.map bs++(List.replicate (s.count c+1) (⟨#[]⟩:ByteArray)).drop dn.length).length:=s0 _ _ hln (by rw[iu];omega)
  have hbl:b.length≤s.length:=by simp at h3;omega
  generalize dn.map bs++(List.replicate (s.count c+1) (⟨#[]⟩:ByteArray)).drop dn.length=row at *
  generalize hr:a++c::b=r at *
  (repeat' first|((first|with_reducible refine aF ?_ (by assumption)|with_reducible refine aE ?_ (by assumption));conv=>whnf)|refine NG ?_|refine sa fun xe hxe=>?_|refine sb (fun hq=>?_) fun hq=>?_|((with_reducible refine aG ?_)<;>conv=>whnf)|refine cr (hI) ?_|exact aa)
  refine⟨(dn++[a],b),⟨by dsimp only;rw[h1];simp,by simp;omega,hbl⟩,by dsimp only;omega,?_⟩
  dsimp only
  rw[←hs,←he1,←he2]
  simp only[aP,bF,dz]
  rfl
theorem pE (s:List UInt8)(c:UInt8)(hl:s.length≤2000000):ag Tryz.prog 16 [.str (bs s),.str (bs [c])] [] (.ref 4) [(4,.row 9 .str ((aK c s).map bs))]:=by
 have hG:=K2 s c hl
 refine ab qj Tryz.func16 rfl rfl false 0 4 rfl rfl rfl rfl fun K hK hb1 hb2=>?_;simp only[ae,enc,Nat.reduceAdd]
 clear hb1 hb2
 (repeat' first|refine NG ?_|refine sa fun xe hxe=>?_|refine sb (fun hq=>?_) fun hq=>?_|refine cr (hG) ?_|exact aa)
 exact⟨rfl,rfl⟩
theorem jY (w:List UInt8)(hl:w.length≤2000000):ag Tryz.prog 62 [.str (bs w)] [] (.int .i64 (sU w)) []:=by
 have hsz:(bs w).size=w.length:=rfl
 by_cases h13:1≤w.length∧w.length≤3
 ·have hno:∀i (h:i<w.length),ue w[i]=false→sU w= -1:=fun i h hd=>oF fun h2=>by rw[wI h hd] at h2;cases h2.2.2
  have hyes:w.all ue=true→sU w=l9 w:=fun h=>if_pos ⟨by omega,by omega,h⟩
  refine ab aj Tryz.func62 rfl rfl false 0 4 rfl rfl rfl rfl fun K hK hb1 hb2=>?_;simp only[ae,enc,Nat.reduceAdd]
  clear hb1 hb2
  (repeat' first|refine st ?_|refine sa fun xe hxe=>?_|refine sb (fun hq=>?_) fun hq=>?_|exact aa)
  refine ah hK [] [0,3,4] (fun i:Nat=>⟨[(0,.str (bs w)),(3,.int .i64 (l9 (w.take i))),(4,.int .i64 (i:Int))],[],4⟩) (fun i=>i≤w.length∧(w.take i).all ue=true) (fun i=>w.length-i) 0 ⟨aW _,rfl⟩ rfl ?_
  rintro i ⟨hi,ha⟩
  by_cases hlt:i<w.length
  ·have hg:w.getD (i:Int).toNat 0=w[i]:=by
    rw[pf,aq,am hlt]
    rfl
   have hgb:((bs w).data.toList.getD (i:Int).toNat 0).toNat=(w.getD (i:Int).toNat 0).toNat:=rfl
   have ht:w.take (i+1)=w.take i++[w[i]]:=b8 hlt
   have hb:=vQ _ ha
   have hp:(10:Int)^(w.take i).length≤1000:=by
    have:(w.take i).length=0∨(w.take i).length=1∨(w.take i).length=2:=by rw[bP];omega
    rcases this with h|h|h<;>rw[h]<;>decide
   cases hd:ue w[i]
   ·rw[hno i hlt hd]
    simp only[ue,nw,decide_eq_false_iff_not] at hd
    rw[←hg] at hd
    generalize l9 (w.take i)=z at *
    by_cases hlo:(w.getD (i:Int).toNat 0).toNat<48
    ·(repeat' first|refine st ?_|refine sa fun xe hxe=>?_|refine sb (fun hq=>?_) fun hq=>?_|exact aa)
     exact⟨rfl,rfl⟩
    ·(repeat' first|refine st ?_|refine sa fun xe hxe=>?_|refine sb (fun hq=>?_) fun hq=>?_|exact aa)
     exact⟨rfl,rfl⟩
   ·have hn1:=pO (w.take i) w[i]
    have ha1:(w.take (i+1)).all ue=true:=by rw[ht,List.all_append,ha];simp[hd]
    rw[←ht,←hg] at hn1
    simp only[ue,aA,decide_eq_true_eq] at hd
    rw[←hg] at hd
    generalize l9 (w.take i)=z at *
    (repeat' first|refine st ?_|refine sa fun xe hxe=>?_|refine sb (fun hq=>?_) fun hq=>?_|exact aa)
    refine⟨i+1,⟨by omega,ha1⟩,by omega,?_⟩
    rw[hn1]
    rfl
  ·obtain rfl:i=w.length:=by omega
   rw[iN] at *
   rw[hyes ha]
   generalize l9 w=z at *
   (repeat' first|refine st ?_|refine sa fun xe hxe=>?_|refine sb (fun hq=>?_) fun hq=>?_|exact aa)
   exact⟨rfl,rfl⟩
 ·rw[oF fun h=>h13 ⟨h.1,h.2.1⟩]
  by_cases h1:w.length<1
  ·refine ab aj Tryz.func62 rfl rfl false 0 4 rfl rfl rfl rfl fun K hK hb1 hb2=>?_;simp only[ae,enc,Nat.reduceAdd]
   clear hb1 hb2
   (repeat' first|refine st ?_|refine sa fun xe hxe=>?_|refine sb (fun hq=>?_) fun hq=>?_|exact aa)
   exact⟨rfl,rfl⟩
  ·refine ab aj Tryz.func62 rfl rfl false 0 4 rfl rfl rfl rfl fun K hK hb1 hb2=>?_;simp only[ae,enc,Nat.reduceAdd]
   clear hb1 hb2
   (repeat' first|refine st ?_|refine sa fun xe hxe=>?_|refine sb (fun hq=>?_) fun hq=>?_|exact aa)
   exact⟨rfl,rfl⟩
theorem w5:∀(k n:Nat),n<10^(k+1)→lA k n=Lib.decDigits n
 |0,n,h=>by rw[Lib.decDigits,dif_pos (by simpa using h),lA]
 |k+1,n,h=>by
  rw[Lib.decDigits,lA]
  split
  ·rfl
  ·rw[w5 k (n/10) (by rw[Nat.pow_succ] at h;exact Nat.div_lt_of_lt_mul (by rw[Nat.mul_comm];exact h))]
def xR:Go.Shelf.Ren:=⟨fun|246=>113|283=>150|284=>151|285=>152|286=>153|129=>177|317=>176|318=>178|319=>179|320=>180|337=>197|338=>198|n=>n,fun|2=>2|3=>3|9=>9|4=>4|171=>170|0=>0|53=>171|37=>22|5=>5|173=>174|212=>204|51=>89|20=>20|213=>205|46=>166|232=>236|233=>237|n=>n,fun|17=>4|18=>7|19=>8|n=>n⟩
theorem Ir:Go.Proofs.LaysM.n246 Tryz.prog xR where
  mixed:=by kernel_rfl
  f129:=Tryz.func177.trans (congrArg some (by kernel_rfl))
  f246:=Tryz.func113.trans (congrArg some (by kernel_rfl))
  f283:=Tryz.func150.trans (congrArg some (by kernel_rfl))
  f284:=Tryz.func151.trans (congrArg some (by kernel_rfl))
  f285:=Tryz.func152.trans (congrArg some (by kernel_rfl))
  f286:=Tryz.func153.trans (congrArg some (by kernel_rfl))
  f317:=Tryz.func176.trans (congrArg some (by kernel_rfl))
  f318:=Tryz.func178.trans (congrArg some (by kernel_rfl))
  f319:=Tryz.func179.trans (congrArg some (by kernel_rfl))
  f320:=Tryz.func180.trans (congrArg some (by kernel_rfl))
  f337:=Tryz.func197.trans (congrArg some (by kernel_rfl))
  f338:=Tryz.func198.trans (congrArg some (by kernel_rfl))
  t0:=Tryz.underlying0
  a0:=Tryz.isAgg0
  z0:=Tryz.sizeOf0
  v0:=Tryz.zeroValue0
  t2:=Tryz.underlying2
  a2:=Tryz.isAgg2
  z2:=Tryz.sizeOf2
  v2:=Tryz.zeroValue2
  t3:=Tryz.underlying3
  a3:=Tryz.isAgg3
  z3:=Tryz.sizeOf3
  v3:=Tryz.zeroValue3
  t4:=Tryz.underlying4
  a4:=Tryz.isAgg4
  z4:=Tryz.sizeOf4
  v4:=Tryz.zeroValue4
  t5:=Tryz.underlying5
  a5:=Tryz.isAgg5
  z5:=Tryz.sizeOf5
  v5:=Tryz.zeroValue5
  t9:=Tryz.underlying9
  a9:=Tryz.isAgg9
  z9:=Tryz.sizeOf9
  v9:=Tryz.zeroValue9
  t20:=Tryz.underlying20
  a20:=Tryz.isAgg20
  z20:=Tryz.sizeOf20
  v20:=Tryz.zeroValue20
  t37:=Tryz.underlying22
  a37:=Tryz.isAgg22
  z37:=Tryz.sizeOf22
  v37:=Tryz.zeroValue22
  t46:=Tryz.underlying166
  a46:=Tryz.isAgg166
  z46:=Tryz.sizeOf166
  v46:=Tryz.zeroValue166
  t51:=Tryz.underlying89
  a51:=Tryz.isAgg89
  z51:=Tryz.sizeOf89
  v51:=Tryz.zeroValue89
  t53:=Tryz.underlying171
  a53:=Tryz.isAgg171
  z53:=Tryz.sizeOf171
  v53:=Tryz.zeroValue171
  t171:=Tryz.underlying170
  a171:=Tryz.isAgg170
  z171:=Tryz.sizeOf170
  v171:=Tryz.zeroValue170
  t173:=Tryz.underlying174
  a173:=Tryz.isAgg174
  z173:=Tryz.sizeOf174
  v173:=Tryz.zeroValue174
  t212:=Tryz.underlying204
  a212:=Tryz.isAgg204
  z212:=Tryz.sizeOf204
  v212:=Tryz.zeroValue204
  t213:=Tryz.underlying205
  a213:=Tryz.isAgg205
  z213:=Tryz.sizeOf205
  t232:=Tryz.underlying236
  a232:=Tryz.isAgg236
  z232:=Tryz.sizeOf236
  v232:=Tryz.zeroValue236
  t233:=Tryz.underlying237
  a233:=Tryz.isAgg237
  z233:=Tryz.sizeOf237
  v233:=Tryz.zeroValue237
  g17:=by kernel_rfl
  g18:=by kernel_rfl
  g19:=by kernel_rfl
  i0:=by kernel_rfl
  i2:=by kernel_rfl
  i3:=by kernel_rfl
  i4:=by kernel_rfl
  i5:=by kernel_rfl
  i9:=by kernel_rfl
  i20:=by kernel_rfl
  i37:=by kernel_rfl
  i46:=by kernel_rfl
  i51:=by kernel_rfl
  i53:=by kernel_rfl
  i171:=by kernel_rfl
  i173:=by kernel_rfl
  i212:=by kernel_rfl
  i232:=by kernel_rfl
  i233:=by kernel_rfl
  m17:=by kernel_rfl
  m18:=by kernel_rfl
  m19:=by kernel_rfl
theorem Ol : Tryz.prog.globalNamed "internal/strconv.uint64pow10" = some 4 := by kernel_rfl
theorem K0 (n:Int)(h0:0≤n)(h1:n<10000):ag Tryz.prog 113 [.int .i64 n,.int .i64 10] [] (.str (bs (aQ n))) []:=by
 unfold ag
 refine za ⟨_,Tryz.func113,rfl,rfl⟩ fun w ok ρ vs hl hc ht=>?_
 obtain⟨v0,v1,rfl⟩:=wK hl
 have e0:C ρ (fun _=>False) ok w (.int .i64 n) v0:=hc 0 Nat.zero_lt_two
 have e1:C ρ (fun _=>False) ok w (.int .i64 10) v1:=hc 1 Nat.one_lt_two
 obtain rfl:=e0.int_inv
 obtain rfl:=e1.int_inv
 obtain⟨T,fz,hh⟩:=ht 4 _ rfl
 have htab : Lib.TabIs Tryz.prog w "internal/strconv.uint64pow10" .u64 Lib.pow10Tab := by
  unfold Lib.TabIs World.var?
  rw[Ol]
  simp only[ba,hh]
  rfl
 refine Calls.mono (Any.internal_strconv_FormatInt_10 Ir n (by omega) (by omega) w htab) ?_
 rintro e w' ⟨rfl,k,os,rfl⟩
 refine⟨_,rfl,?_,fun ok'=>?_⟩
 ·exact Lib.below_grow _ w (ax _) k os
 ·have:Lib.itoa n=aQ n:=by rw[Lib.itoa,if_neg (by omega),aQ,w5 3 _ (by omega)]
  rw[this]
  exact .str _
theorem dD (n:Int)(h0:0≤n)(h1:n<10000):ag Tryz.prog 31 [.int .i64 n] [] (.str (bs (aQ n))) []:=by
 have hF:=K0 n h0 h1
 have hI:ag Tryz.prog 67 [.int .i64 n] [] (.str (bs (aQ n))) []:=by
  generalize aQ n=d at *
  refine ab aj Tryz.func67 rfl rfl false 0 4 rfl rfl rfl rfl fun K hK hb1 hb2=>?_;simp only[ae,enc,Nat.reduceAdd]
  clear hb1 hb2
  (repeat' first|refine st ?_|refine sa fun xe hxe=>?_|refine sb (fun hq=>?_) fun hq=>?_|refine cr (hF) ?_|exact aa)
  exact⟨rfl,rfl⟩
 generalize aQ n=d at *
 refine ab aj Tryz.func31 rfl rfl false 0 4 rfl rfl rfl rfl fun K hK hb1 hb2=>?_;simp only[ae,enc,Nat.reduceAdd]
 clear hb1 hb2
 (repeat' first|refine st ?_|refine sa fun xe hxe=>?_|refine sb (fun hq=>?_) fun hq=>?_|refine cr (hI) ?_|exact aa)
 exact⟨rfl,rfl⟩
end Go.Proofs.YtpefhoohfkeflacGreatDoor.Am
namespace Go.Proofs.YtpefhoohfkeflacGreatDoor.Am
open Go Go.RowKit
attribute [local irreducible] Mk ci Ari fB mA ju b9 cR iT fo At ag
set_option maxRecDepth 10000
theorem JS (w:Wrl)(o:List UInt8)(hlen:o.length≤1000000000):ag Tryz.prog 61 [.ptr 4 5,.int .u8 10] (bM w o) .nili (jv w (o++[10])):=by
 have hC:=Nb w o
 have hn:e9 (o++[10])=e9 o++[10]:=x8 o [10]
 have hl:=kz o
 unfold jv
 rw[hn]
 refine ab aj Tryz.func61 rfl rfl false 2 6 rfl rfl rfl rfl fun K hK hb1 hb2=>?_;simp only[ae,enc,Nat.reduceAdd]
 clear hb1 hb2
 (repeat' first|refine st ?_|refine sa fun xe hxe=>?_|refine sb (fun hq=>?_) fun hq=>?_|refine co (hC) ?_|exact aa)
 exact⟨rfl,rfl⟩
theorem nF (w:Wrl)(o l:List UInt8)(hl0:l≠[])(hlen:o.length+l.length≤900000000):ag Tryz.prog 29 [.ptr 4 0,.str (bs l)] (bM w o) (.tup []) (jv w (o++l++[10])):=by
 have h1:=Nl w o l hl0 (by omega)
 have h2:=JS w (o++l) (by rw[aP];omega)
 generalize o++l++[10]=o2 at *
 generalize o++l=o1 at *
 refine ab aj Tryz.func29 rfl rfl false 2 6 rfl rfl rfl rfl fun K hK hb1 hb2=>?_;simp only[ae,enc,Nat.reduceAdd]
 clear hb1 hb2
 (repeat' first|refine st ?_|refine sa fun xe hxe=>?_|refine sb (fun hq=>?_) fun hq=>?_|refine co (h1) ?_|refine co (h2) ?_|exact aa)
 exact⟨rfl,rfl⟩
theorem zD (w:Wrl)(l:List UInt8)(hl0:l≠[])(hlen:l.length≤900000000):ag Tryz.prog 29 [.ptr 4 0,.str (bs l)] (dq w) (.tup []) (bM w (l++[10])):=by
 have h1:=Nk w l hl0 (by omega)
 have h2:=JS w l (by omega)
 refine ab aj Tryz.func29 rfl rfl false 1 5 rfl rfl rfl rfl fun K hK hb1 hb2=>?_;simp only[ae,enc,Nat.reduceAdd]
 clear hb1 hb2
 (repeat' first|refine st ?_|refine sa fun xe hxe=>?_|refine sb (fun hq=>?_) fun hq=>?_|refine co (h1) ?_|refine co (h2) ?_|exact aa)
 exact⟨rfl,rfl⟩
noncomputable def ordB (w:Wrl) (m:Nat):List UInt8:=e8++aQ m++bQ (wo w m)
theorem rq (w:Wrl)(m:Nat):linO w m=ordB w m++[10]:=rfl
theorem BP (w:Wrl)(m:Nat):ordB w m≠[]:=by simp[ordB]
noncomputable def finN (w:Wrl):Nat→VSt
 |0=>⟨[(0,.ptr 4 0),(11,.int .i64 w.com.length),(12,.int .i64 0)],dq w,5⟩
 |i+1=>⟨[(0,.ptr 4 0),(11,.int .i64 w.com.length),(12,.int .i64 ((i+1:Nat):Int))],bM w (outOs w (i+1)),6⟩
set_option maxHeartbeats 4000000 in
theorem Ls {w:Wrl}(hw:WOK w)(h4:w.com.length=4)(h3:w.bad=3):ag Tryz.prog 18 [.ptr 4 0] (dq w) (.tup []) (bM w (outO w)):=by
 have hvl:∀g∈w.views,g.length≤2000000:=fun g hg=>by have:=hw.vl g hg;omega
 refine ab aj Tryz.func18 rfl rfl false 1 5 rfl rfl rfl rfl fun K hK hb1 hb2=>?_;simp only[ae,enc,Nat.reduceAdd]
 clear hb1 hb2
 (repeat' first|refine st ?_|refine sa fun xe hxe=>?_|refine sb (fun hq=>?_) fun hq=>?_|exact aa)
 refine ah hK [] [0,11,12] (finN w) (fun i=>i≤w.com.length) (fun i=>w.com.length-i) 0 (aW _) rfl ?_
 intro i hi
 have hol:=iY hw i
 by_cases hlt:i<w.com.length
 ·by_cases hb:(i:Int)=w.bad
  ·obtain rfl:i=3:=by omega
   have hs:outOs w (3+1)=outOs w 3:=by rw[outOs,if_pos hb]
   have hst:finN w (3+1)=⟨[(0,.ptr 4 0),(11,.int .i64 w.com.length),(12,.int .i64 4)],bM w (outOs w 3),6⟩:=by
    rw[finN,hs]
    rfl
   have hs0:finN w 3=⟨[(0,.ptr 4 0),(11,.int .i64 w.com.length),(12,.int .i64 3)],bM w (outOs w 3),6⟩:=rfl
   rw[hs0]
   generalize outOs w 3=oo at *
   (repeat' first|refine st ?_|refine sa fun xe hxe=>?_|refine sb (fun hq=>?_) fun hq=>?_|exact aa)
   exact⟨4,by omega,by omega,hst.symm⟩
  ·have hs:outOs w (i+1)=outOs w i++linO w i:=by rw[outOs,if_neg hb]
   have hO:=JT w (i:Int) hvl
   have hin:=Cj hw (i:Int)
   have hwl:=wv hw (i:Int)
   have hsl:=fg (wo w (i:Int))
   have d1:=dD (i:Int) (by omega) (by omega)
   have l1:=(aO (i:Int)).2
   have hne:=BP w i
   have hob:(ordB w i).length≤10000011:=by have:=sM hw i;rw[rq,aP] at this;simp at this;omega
   rw[rq] at hs
   have hbo:∀x1:List UInt8,aQ (i:Int)=x1→bs (e8++x1++bQ (wo w i))=bs (ordB w i):=by rintro x1 rfl;rfl
   have hbo:=hbo _ rfl
   cases i with
   |zero=>
    have hP:=zD w (ordB w 0) hne (by omega)
    rw[←hbo] at hP
    have hst:finN w (0+1)=⟨[(0,.ptr 4 0),(11,.int .i64 w.com.length),(12,.int .i64 (0+1))],bM w (ordB w 0++[10]),6⟩:=by
     rw[finN,hs]
     rfl
    have hs0:finN w 0=⟨[(0,.ptr 4 0),(11,.int .i64 w.com.length),(12,.int .i64 0)],dq w,5⟩:=rfl
    rw[hs0]
    generalize ordB w 0++[10]=ln at *
    clear hbo hs
    generalize wo w 0=sl at *
    generalize aQ ((0:Nat):Int)=x1 at *
    (repeat' first|((first|with_reducible refine aF ?_ (by assumption)|with_reducible refine aE ?_ (by assumption));conv=>whnf)|refine st ?_|refine sa fun xe hxe=>?_|refine sb (fun hq=>?_) fun hq=>?_|((with_reducible refine aG ?_)<;>conv=>whnf)|refine cr (d1) ?_|refine cr (hO) ?_|exact aa)
    refine ah hK [] [0,3,11,12,30,31,32] (fun j:Nat=>⟨[(0,.ptr 4 0),(3,.str (bs (e8++x1++bQ (sl.take j)))),(11,.int .i64 w.com.length),(12,.int .i64 0),(30,.lst .slt sl),(31,.int .i64 sl.length),(32,.int .i64 (j:Int))],dq w,5⟩) (fun j=>j≤sl.length) (fun j=>sl.length-j) 0 (aW _) ?_ ?_
    ·have hb0:bs (e8++x1++bQ (sl.take 0))=⟨#[111,114,100,101,114,32]⟩++bs x1:=by
      apply iO
      simp[bQ]
     rw[hb0]
     rfl
    intro j hj
    have holj:=fg (sl.take j)
    rw[bP,mz hj] at holj
    by_cases hltj:j<sl.length
    ·have hx:sl[j]?=some sl[j]:=am hltj
     have hsj:bQ (sl.take (j+1))=bQ (sl.take j)++jo sl[j]:=by rw[b8 hltj,iZ]
     have hbj:=hin _ (bd hltj)
     generalize sl[j]=p at *
     have d2:=dD p.round (by omega) (by omega)
     have d3:=dD p.author (by omega) (by omega)
     have l2:=(aO p.round).2
     have l3:=(aO p.author).2
     have hb:∀x2 x3:List UInt8,aQ p.round=x2→aQ p.author=x3→bs (e8++x1++bQ (sl.take j))++(⟨#[32]⟩++bs x2++⟨#[46]⟩++bs x3)=bs (e8++x1++bQ (sl.take (j+1))):=by
      rintro x2 x3 rfl rfl
      rw[hsj]
      apply iO
      simp[jo]
     have hb:=hb _ _ rfl rfl
     generalize aQ p.round=x2 at *
     generalize aQ p.author=x3 at *
     have hll:(e8++x1++bQ (sl.take j)).length≤100000000:=by simp only[aP,bF,dz];omega
     generalize e8++x1++bQ (sl.take j)=lj at *
     (repeat' first|((first|with_reducible refine aF ?_ (by assumption)|with_reducible refine aE ?_ (by assumption));conv=>whnf)|refine st ?_|refine sa fun xe hxe=>?_|refine sb (fun hq=>?_) fun hq=>?_|((with_reducible refine aG ?_)<;>conv=>whnf)|refine cr (d2) ?_|refine cr (d3) ?_|exact aa)
     refine⟨j+1,by omega,by omega,?_⟩
     rw[←hb]
     rfl
    ·obtain rfl:j=sl.length:=by omega
     rw[iN]
     generalize e8++x1++bQ sl=lj at *
     (repeat' first|((first|with_reducible refine aF ?_ (by assumption)|with_reducible refine aE ?_ (by assumption));conv=>whnf)|refine st ?_|refine sa fun xe hxe=>?_|refine sb (fun hq=>?_) fun hq=>?_|((with_reducible refine aG ?_)<;>conv=>whnf)|refine co (hP) ?_|exact aa)
     exact⟨1,by omega,by omega,hst.symm⟩
   |succ i=>
    have hP:=nF w (outOs w (i+1)) (ordB w (i+1)) hne (by omega)
    rw[bH,←hs,←hbo] at hP
    have hst:finN w (i+1+1)=⟨[(0,.ptr 4 0),(11,.int .i64 w.com.length),(12,.int .i64 (((i+1:Nat):Int)+1))],bM w (outOs w (i+1+1)),6⟩:=rfl
    have hs0:finN w (i+1)=⟨[(0,.ptr 4 0),(11,.int .i64 w.com.length),(12,.int .i64 ((i+1:Nat):Int))],bM w (outOs w (i+1)),6⟩:=rfl
    rw[hs0]
    generalize outOs w (i+1+1)=ln at *
    generalize outOs w (i+1)=lo at *
    clear hbo hs
    generalize wo w (i+1:Nat)=sl at *
    generalize aQ ((i+1:Nat):Int)=x1 at *
    (repeat' first|((first|with_reducible refine aF ?_ (by assumption)|with_reducible refine aE ?_ (by assumption));conv=>whnf)|refine st ?_|refine sa fun xe hxe=>?_|refine sb (fun hq=>?_) fun hq=>?_|((with_reducible refine aG ?_)<;>conv=>whnf)|refine cr (d1) ?_|refine cr (hO) ?_|exact aa)
    refine ah hK [] [0,3,11,12,30,31,32] (fun j:Nat=>⟨[(0,.ptr 4 0),(3,.str (bs (e8++x1++bQ (sl.take j)))),(11,.int .i64 w.com.length),(12,.int .i64 ((i+1:Nat):Int)),(30,.lst .slt sl),(31,.int .i64 sl.length),(32,.int .i64 (j:Int))],bM w lo,6⟩) (fun j=>j≤sl.length) (fun j=>sl.length-j) 0 (aW _) ?_ ?_
    ·have hb0:bs (e8++x1++bQ (sl.take 0))=⟨#[111,114,100,101,114,32]⟩++bs x1:=by
      apply iO
      simp[bQ]
     rw[hb0]
     rfl
    intro j hj
    have holj:=fg (sl.take j)
    rw[bP,mz hj] at holj
    by_cases hltj:j<sl.length
    ·have hx:sl[j]?=some sl[j]:=am hltj
     have hsj:bQ (sl.take (j+1))=bQ (sl.take j)++jo sl[j]:=by rw[b8 hltj,iZ]
     have hbj:=hin _ (bd hltj)
     generalize sl[j]=p at *
     have d2:=dD p.round (by omega) (by omega)
     have d3:=dD p.author (by omega) (by omega)
     have l2:=(aO p.round).2
     have l3:=(aO p.author).2
     have hb:∀x2 x3:List UInt8,aQ p.round=x2→aQ p.author=x3→bs (e8++x1++bQ (sl.take j))++(⟨#[32]⟩++bs x2++⟨#[46]⟩++bs x3)=bs (e8++x1++bQ (sl.take (j+1))):=by
      rintro x2 x3 rfl rfl
      rw[hsj]
      apply iO
      simp[jo]
     have hb:=hb _ _ rfl rfl
     generalize aQ p.round=x2 at *
     generalize aQ p.author=x3 at *
     have hll:(e8++x1++bQ (sl.take j)).length≤100000000:=by simp only[aP,bF,dz];omega
     generalize e8++x1++bQ (sl.take j)=lj at *
     (repeat' first|((first|with_reducible refine aF ?_ (by assumption)|with_reducible refine aE ?_ (by assumption));conv=>whnf)|refine st ?_|refine sa fun xe hxe=>?_|refine sb (fun hq=>?_) fun hq=>?_|((with_reducible refine aG ?_)<;>conv=>whnf)|refine cr (d2) ?_|refine cr (d3) ?_|exact aa)
     refine⟨j+1,by omega,by omega,?_⟩
     rw[←hb]
     rfl
    ·obtain rfl:j=sl.length:=by omega
     rw[iN]
     generalize e8++x1++bQ sl=lj at *
     (repeat' first|((first|with_reducible refine aF ?_ (by assumption)|with_reducible refine aE ?_ (by assumption));conv=>whnf)|refine st ?_|refine sa fun xe hxe=>?_|refine sb (fun hq=>?_) fun hq=>?_|((with_reducible refine aG ?_)<;>conv=>whnf)|refine co (hP) ?_|exact aa)
     exact⟨i+2,by omega,by omega,hst.symm⟩
 ·obtain rfl:i=4:=by omega
  have hs0:finN w 4=⟨[(0,.ptr 4 0),(11,.int .i64 w.com.length),(12,.int .i64 4)],bM w (outOs w 4),6⟩:=rfl
  rw[hs0]
  have hO:outO w=outOs w 4:=by unfold outO;rw[h4]
  rw[hO]
  generalize outOs w 4=oo at *
  (repeat' first|refine st ?_|refine sa fun xe hxe=>?_|refine sb (fun hq=>?_) fun hq=>?_|exact aa)
  exact⟨rfl,rfl⟩
noncomputable def finY (w:Wrl) (o:List UInt8):Nat→VSt
 |0=>⟨[(0,.ptr 4 0),(11,.int .i64 w.com.length),(12,.int .i64 0)],bM w o,6⟩
 |i+1=>⟨[(0,.ptr 4 0),(11,.int .i64 w.com.length),(12,.int .i64 ((i+1:Nat):Int))],jv w (o++outOs w (i+1)),7⟩
set_option maxHeartbeats 4000000 in
theorem Lt {w:Wrl}(hw:WOK w)(h4:w.com.length=4)(h3:w.bad=3)(o:List UInt8)(hol0:o.length≤5000000):ag Tryz.prog 18 [.ptr 4 0] (bM w o) (.tup []) (jv w (o++outO w)):=by
 have hvl:∀g∈w.views,g.length≤2000000:=fun g hg=>by have:=hw.vl g hg;omega
 refine ab aj Tryz.func18 rfl rfl false 2 6 rfl rfl rfl rfl fun K hK hb1 hb2=>?_;simp only[ae,enc,Nat.reduceAdd]
 clear hb1 hb2
 (repeat' first|refine st ?_|refine sa fun xe hxe=>?_|refine sb (fun hq=>?_) fun hq=>?_|exact aa)
 refine ah hK [] [0,11,12] (finY w o) (fun i=>i≤w.com.length) (fun i=>w.com.length-i) 0 (aW _) rfl ?_
 intro i hi
 have hol:=iY hw i
 by_cases hlt:i<w.com.length
 ·by_cases hb:(i:Int)=w.bad
  ·obtain rfl:i=3:=by omega
   have hs:outOs w (3+1)=outOs w 3:=by rw[outOs,if_pos hb]
   have hst:finY w o (3+1)=⟨[(0,.ptr 4 0),(11,.int .i64 w.com.length),(12,.int .i64 4)],jv w (o++outOs w 3),7⟩:=by
    rw[finY,hs]
    rfl
   have hs0:finY w o 3=⟨[(0,.ptr 4 0),(11,.int .i64 w.com.length),(12,.int .i64 3)],jv w (o++outOs w 3),7⟩:=rfl
   rw[hs0]
   generalize outOs w 3=oo at *
   (repeat' first|refine st ?_|refine sa fun xe hxe=>?_|refine sb (fun hq=>?_) fun hq=>?_|exact aa)
   exact⟨4,by omega,by omega,hst.symm⟩
  ·have hs:outOs w (i+1)=outOs w i++linO w i:=by rw[outOs,if_neg hb]
   have hO:=JT w (i:Int) hvl
   have hin:=Cj hw (i:Int)
   have hwl:=wv hw (i:Int)
   have hsl:=fg (wo w (i:Int))
   have d1:=dD (i:Int) (by omega) (by omega)
   have l1:=(aO (i:Int)).2
   have hne:=BP w i
   have hob:(ordB w i).length≤10000011:=by have:=sM hw i;rw[rq,aP] at this;simp at this;omega
   rw[rq] at hs
   have hbo:∀x1:List UInt8,aQ (i:Int)=x1→bs (e8++x1++bQ (wo w i))=bs (ordB w i):=by rintro x1 rfl;rfl
   have hbo:=hbo _ rfl
   cases i with
   |zero=>
    have hP:=nF w o (ordB w 0) hne (by omega)
    rw[←hbo] at hP
    have hst:finY w o (0+1)=⟨[(0,.ptr 4 0),(11,.int .i64 w.com.length),(12,.int .i64 (0+1))],jv w (o++ordB w 0++[10]),7⟩:=by
     rw[finY,hs]
     show _=(⟨_,jv w (o++ordB w 0++[10]),7⟩:VSt)
     rw[bH]
     rfl
    have hs0:finY w o 0=⟨[(0,.ptr 4 0),(11,.int .i64 w.com.length),(12,.int .i64 0)],bM w o,6⟩:=rfl
    rw[hs0]
    generalize o++ordB w 0++[10]=ln at *
    clear hbo hs
    generalize wo w 0=sl at *
    generalize aQ ((0:Nat):Int)=x1 at *
    (repeat' first|((first|with_reducible refine aF ?_ (by assumption)|with_reducible refine aE ?_ (by assumption));conv=>whnf)|refine st ?_|refine sa fun xe hxe=>?_|refine sb (fun hq=>?_) fun hq=>?_|((with_reducible refine aG ?_)<;>conv=>whnf)|refine cr (d1) ?_|refine cr (hO) ?_|exact aa)
    refine ah hK [] [0,3,11,12,30,31,32] (fun j:Nat=>⟨[(0,.ptr 4 0),(3,.str (bs (e8++x1++bQ (sl.take j)))),(11,.int .i64 w.com.length),(12,.int .i64 0),(30,.lst .slt sl),(31,.int .i64 sl.length),(32,.int .i64 (j:Int))],bM w o,6⟩) (fun j=>j≤sl.length) (fun j=>sl.length-j) 0 (aW _) ?_ ?_
    ·have hb0:bs (e8++x1++bQ (sl.take 0))=⟨#[111,114,100,101,114,32]⟩++bs x1:=by
      apply iO
      simp[bQ]
     rw[hb0]
     rfl
    intro j hj
    have holj:=fg (sl.take j)
    rw[bP,mz hj] at holj
    by_cases hltj:j<sl.length
    ·have hx:sl[j]?=some sl[j]:=am hltj
     have hsj:bQ (sl.take (j+1))=bQ (sl.take j)++jo sl[j]:=by rw[b8 hltj,iZ]
     have hbj:=hin _ (bd hltj)
     generalize sl[j]=p at *
     have d2:=dD p.round (by omega) (by omega)
     have d3:=dD p.author (by omega) (by omega)
     have l2:=(aO p.round).2
     have l3:=(aO p.author).2
     have hb:∀x2 x3:List UInt8,aQ p.round=x2→aQ p.author=x3→bs (e8++x1++bQ (sl.take j))++(⟨#[32]⟩++bs x2++⟨#[46]⟩++bs x3)=bs (e8++x1++bQ (sl.take (j+1))):=by
      rintro x2 x3 rfl rfl
      rw[hsj]
      apply iO
      simp[jo]
     have hb:=hb _ _ rfl rfl
     generalize aQ p.round=x2 at *
     generalize aQ p.author=x3 at *
     have hll:(e8++x1++bQ (sl.take j)).length≤100000000:=by simp only[aP,bF,dz];omega
     generalize e8++x1++bQ (sl.take j)=lj at *
     (repeat' first|((first|with_reducible refine aF ?_ (by assumption)|with_reducible refine aE ?_ (by assumption));conv=>whnf)|refine st ?_|refine sa fun xe hxe=>?_|refine sb (fun hq=>?_) fun hq=>?_|((with_reducible refine aG ?_)<;>conv=>whnf)|refine cr (d2) ?_|refine cr (d3) ?_|exact aa)
     refine⟨j+1,by omega,by omega,?_⟩
     rw[←hb]
     rfl
    ·obtain rfl:j=sl.length:=by omega
     rw[iN]
     generalize e8++x1++bQ sl=lj at *
     (repeat' first|((first|with_reducible refine aF ?_ (by assumption)|with_reducible refine aE ?_ (by assumption));conv=>whnf)|refine st ?_|refine sa fun xe hxe=>?_|refine sb (fun hq=>?_) fun hq=>?_|((with_reducible refine aG ?_)<;>conv=>whnf)|refine co (hP) ?_|exact aa)
     exact⟨1,by omega,by omega,hst.symm⟩
   |succ i=>
    have hP:=nF w (o++outOs w (i+1)) (ordB w (i+1)) hne (by rw[aP];omega)
    rw[bH,bH,←hs,←hbo] at hP
    have hst:finY w o (i+1+1)=⟨[(0,.ptr 4 0),(11,.int .i64 w.com.length),(12,.int .i64 (((i+1:Nat):Int)+1))],jv w (o++outOs w (i+1+1)),7⟩:=rfl
    have hs0:finY w o (i+1)=⟨[(0,.ptr 4 0),(11,.int .i64 w.com.length),(12,.int .i64 ((i+1:Nat):Int))],jv w (o++outOs w (i+1)),7⟩:=rfl
    rw[hs0]
    generalize o++outOs w (i+1+1)=ln at *
    generalize o++outOs w (i+1)=lo at *
    clear hbo hs
    generalize wo w (i+1:Nat)=sl at *
    generalize aQ ((i+1:Nat):Int)=x1 at *
    (repeat' first|((first|with_reducible refine aF ?_ (by assumption)|with_reducible refine aE ?_ (by assumption));conv=>whnf)|refine st ?_|refine sa fun xe hxe=>?_|refine sb (fun hq=>?_) fun hq=>?_|((with_reducible refine aG ?_)<;>conv=>whnf)|refine cr (d1) ?_|refine cr (hO) ?_|exact aa)
    refine ah hK [] [0,3,11,12,30,31,32] (fun j:Nat=>⟨[(0,.ptr 4 0),(3,.str (bs (e8++x1++bQ (sl.take j)))),(11,.int .i64 w.com.length),(12,.int .i64 ((i+1:Nat):Int)),(30,.lst .slt sl),(31,.int .i64 sl.length),(32,.int .i64 (j:Int))],jv w lo,7⟩) (fun j=>j≤sl.length) (fun j=>sl.length-j) 0 (aW _) ?_ ?_
    ·have hb0:bs (e8++x1++bQ (sl.take 0))=⟨#[111,114,100,101,114,32]⟩++bs x1:=by
      apply iO
      simp[bQ]
     rw[hb0]
     rfl
    intro j hj
    have holj:=fg (sl.take j)
    rw[bP,mz hj] at holj
    by_cases hltj:j<sl.length
    ·have hx:sl[j]?=some sl[j]:=am hltj
     have hsj:bQ (sl.take (j+1))=bQ (sl.take j)++jo sl[j]:=by rw[b8 hltj,iZ]
     have hbj:=hin _ (bd hltj)
     generalize sl[j]=p at *
     have d2:=dD p.round (by omega) (by omega)
     have d3:=dD p.author (by omega) (by omega)
     have l2:=(aO p.round).2
     have l3:=(aO p.author).2
     have hb:∀x2 x3:List UInt8,aQ p.round=x2→aQ p.author=x3→bs (e8++x1++bQ (sl.take j))++(⟨#[32]⟩++bs x2++⟨#[46]⟩++bs x3)=bs (e8++x1++bQ (sl.take (j+1))):=by
      rintro x2 x3 rfl rfl
      rw[hsj]
      apply iO
      simp[jo]
     have hb:=hb _ _ rfl rfl
     generalize aQ p.round=x2 at *
     generalize aQ p.author=x3 at *
     have hll:(e8++x1++bQ (sl.take j)).length≤100000000:=by simp only[aP,bF,dz];omega
     generalize e8++x1++bQ (sl.take j)=lj at *
     (repeat' first|((first|with_reducible refine aF ?_ (by assumption)|with_reducible refine aE ?_ (by assumption));conv=>whnf)|refine st ?_|refine sa fun xe hxe=>?_|refine sb (fun hq=>?_) fun hq=>?_|((with_reducible refine aG ?_)<;>conv=>whnf)|refine cr (d2) ?_|refine cr (d3) ?_|exact aa)
     refine⟨j+1,by omega,by omega,?_⟩
     rw[←hb]
     rfl
    ·obtain rfl:j=sl.length:=by omega
     rw[iN]
     generalize e8++x1++bQ sl=lj at *
     (repeat' first|((first|with_reducible refine aF ?_ (by assumption)|with_reducible refine aE ?_ (by assumption));conv=>whnf)|refine st ?_|refine sa fun xe hxe=>?_|refine sb (fun hq=>?_) fun hq=>?_|((with_reducible refine aG ?_)<;>conv=>whnf)|refine co (hP) ?_|exact aa)
     exact⟨i+2,by omega,by omega,hst.symm⟩
 ·obtain rfl:i=4:=by omega
  have hs0:finY w o 4=⟨[(0,.ptr 4 0),(11,.int .i64 w.com.length),(12,.int .i64 4)],jv w (o++outOs w 4),7⟩:=rfl
  rw[hs0]
  have hO:outO w=outOs w 4:=by unfold outO;rw[h4]
  rw[hO]
  generalize outOs w 4=oo at *
  (repeat' first|refine st ?_|refine sa fun xe hxe=>?_|refine sb (fun hq=>?_) fun hq=>?_|exact aa)
  exact⟨rfl,rfl⟩
theorem cy (os:List Nat){P:Program}{h:VH}{n:Nat}{f:FuncId}{vs:List V}{K:V→VH→List Nat→Prop}(hk:n3 P h n f vs os [] K):b9 P h n f vs K:=by
 unfold b9
 exact⟨_,_,hk⟩
theorem OT {w:Wrl}(hw:WOK w):∀g∈w.views,g.length≤2000000:=fun g hg=>by have:=hw.vl g hg;omega
theorem J9 {w:Wrl}(hw:WOK w)(e:Evt):ag Tryz.prog 111 [bc w,tM e] [] (bc (jt w e)) []:=by
 have h:=Nc w e (OT hw)
 rw[iS.2 hw,if_pos rfl] at h
 exact h
theorem xG {w:Wrl}(hw:WOK w)(e:Evt):ag Tryz.prog 63 [.ptr 4 0,tM e] (dq w) (.tup []) (dq (jt w e)):=by
 have hD:=J9 hw e
 generalize jt w e=u at *
 refine ab aj Tryz.func63 rfl rfl false 1 5 rfl rfl rfl rfl fun K hK hb1 hb2=>?_;simp only[ae,enc,Nat.reduceAdd]
 clear hb1 hb2
 (repeat' first|refine st ?_|refine sa fun xe hxe=>?_|refine sb (fun hq=>?_) fun hq=>?_|refine cr (hD) ?_|exact aa)
 exact⟨rfl,rfl⟩
theorem xH {w:Wrl}(hw:WOK w)(e:Evt)(o:List UInt8):ag Tryz.prog 63 [.ptr 4 0,tM e] (bM w o) (.tup []) (bM (jt w e) o):=by
 have hD:=J9 hw e
 generalize jt w e=u at *
 refine ab aj Tryz.func63 rfl rfl false 2 6 rfl rfl rfl rfl fun K hK hb1 hb2=>?_;simp only[ae,enc,Nat.reduceAdd]
 clear hb1 hb2
 (repeat' first|refine st ?_|refine sa fun xe hxe=>?_|refine sb (fun hq=>?_) fun hq=>?_|refine cr (hD) ?_|exact aa)
 exact⟨rfl,rfl⟩
theorem Lu {w:Wrl}(hw:WOK w)(r d:Int):ag Tryz.prog 64 [.ptr 4 0,.int .i64 r,.int .i64 d] (dq w) (.tup []) (dq (iH w (lb r d))):=by
 have hD:=xG hw ⟨4,0,0,lb r d⟩
 have hD:ag Tryz.prog 63 [.ptr 4 0,.agg [.int .i64 4,.int .i64 0,.int .i64 0,.int .i64 r,.int .i64 3,.lst (.int .i64) (if 0<r then[0,1,2] else[]),.int .i64 d]] (dq w) (.tup []) (dq (iH w (lb r d))):=hD
 generalize iH w (lb r d)=u at *
 by_cases hr:0<r
 ·rw[if_pos hr] at hD
  refine ab aj Tryz.func64 rfl rfl false 1 5 rfl rfl rfl rfl fun K hK hb1 hb2=>?_;simp only[ae,enc,Nat.reduceAdd]
  clear hb1 hb2
  (repeat' first|refine st ?_|refine sa fun xe hxe=>?_|refine sb (fun hq=>?_) fun hq=>?_|((with_reducible refine cy [4] ?_);(conv=>whnf);(with_reducible refine bf (hD) ?_);conv=>whnf)|exact aa)
  exact⟨rfl,rfl⟩
 ·rw[if_neg hr] at hD
  refine ab aj Tryz.func64 rfl rfl false 1 5 rfl rfl rfl rfl fun K hK hb1 hb2=>?_;simp only[ae,enc,Nat.reduceAdd]
  clear hb1 hb2
  (repeat' first|refine st ?_|refine sa fun xe hxe=>?_|refine sb (fun hq=>?_) fun hq=>?_|((with_reducible refine cy [4] ?_);(conv=>whnf);(with_reducible refine bf (hD) ?_);conv=>whnf)|exact aa)
  exact⟨rfl,rfl⟩
theorem Lv {w:Wrl}(hw:WOK w)(r d:Int)(o:List UInt8):ag Tryz.prog 64 [.ptr 4 0,.int .i64 r,.int .i64 d] (bM w o) (.tup []) (bM (iH w (lb r d)) o):=by
 have hD:=xH hw ⟨4,0,0,lb r d⟩ o
 have hD:ag Tryz.prog 63 [.ptr 4 0,.agg [.int .i64 4,.int .i64 0,.int .i64 0,.int .i64 r,.int .i64 3,.lst (.int .i64) (if 0<r then[0,1,2] else[]),.int .i64 d]] (bM w o) (.tup []) (bM (iH w (lb r d)) o):=hD
 generalize iH w (lb r d)=u at *
 by_cases hr:0<r
 ·rw[if_pos hr] at hD
  refine ab aj Tryz.func64 rfl rfl false 2 6 rfl rfl rfl rfl fun K hK hb1 hb2=>?_;simp only[ae,enc,Nat.reduceAdd]
  clear hb1 hb2
  (repeat' first|refine st ?_|refine sa fun xe hxe=>?_|refine sb (fun hq=>?_) fun hq=>?_|((with_reducible refine cy [4,5] ?_);(conv=>whnf);(with_reducible refine bf (hD) ?_);conv=>whnf)|exact aa)
  exact⟨rfl,rfl⟩
 ·rw[if_neg hr] at hD
  refine ab aj Tryz.func64 rfl rfl false 2 6 rfl rfl rfl rfl fun K hK hb1 hb2=>?_;simp only[ae,enc,Nat.reduceAdd]
  clear hb1 hb2
  (repeat' first|refine st ?_|refine sa fun xe hxe=>?_|refine sb (fun hq=>?_) fun hq=>?_|((with_reducible refine cy [4,5] ?_);(conv=>whnf);(with_reducible refine bf (hD) ?_);conv=>whnf)|exact aa)
  exact⟨rfl,rfl⟩
def Cz (w:Wrl)(r:Int):Wrl:=if 0≤r∧r≤12 then bg w r.toNat else w
theorem G0 {w:Wrl}(hw:WOK w)(r:Int)(hr:0≤r∧r≤12):ag Tryz.prog 112 [bc w,.int .i64 r] [] (bc (bg w r.toNat)) []:=by
 have h:=H0 w r (OT hw) (by omega)
 rw[iS.2 hw,decide_eq_true hr,Bool.and_true,if_pos rfl] at h
 exact h
theorem Lk {w:Wrl}(hw:WOK w)(r:Int):ag Tryz.prog 65 [.ptr 4 0,.int .i64 r] (dq w) (.tup []) (dq (Cz w r)):=by
 unfold Cz
 by_cases hr:0≤r∧r≤12
 ·rw[if_pos hr]
  have hD:=G0 hw r hr
  generalize bg w r.toNat=u at *
  refine ab aj Tryz.func65 rfl rfl false 1 5 rfl rfl rfl rfl fun K hK hb1 hb2=>?_;simp only[ae,enc,Nat.reduceAdd]
  clear hb1 hb2
  (repeat' first|refine st ?_|refine sa fun xe hxe=>?_|refine sb (fun hq=>?_) fun hq=>?_|refine cr (hD) ?_|exact aa)
  exact⟨rfl,rfl⟩
 ·rw[if_neg hr]
  refine ab aj Tryz.func65 rfl rfl false 1 5 rfl rfl rfl rfl fun K hK hb1 hb2=>?_;simp only[ae,enc,Nat.reduceAdd]
  clear hb1 hb2
  by_cases h0:0≤r
  ·(repeat' first|refine st ?_|refine sa fun xe hxe=>?_|refine sb (fun hq=>?_) fun hq=>?_|exact aa)
   exact⟨rfl,rfl⟩
  ·(repeat' first|refine st ?_|refine sa fun xe hxe=>?_|refine sb (fun hq=>?_) fun hq=>?_|exact aa)
   exact⟨rfl,rfl⟩
theorem Ll {w:Wrl}(hw:WOK w)(r:Int)(o:List UInt8):ag Tryz.prog 65 [.ptr 4 0,.int .i64 r] (bM w o) (.tup []) (bM (Cz w r) o):=by
 unfold Cz
 by_cases hr:0≤r∧r≤12
 ·rw[if_pos hr]
  have hD:=G0 hw r hr
  generalize bg w r.toNat=u at *
  refine ab aj Tryz.func65 rfl rfl false 2 6 rfl rfl rfl rfl fun K hK hb1 hb2=>?_;simp only[ae,enc,Nat.reduceAdd]
  clear hb1 hb2
  (repeat' first|refine st ?_|refine sa fun xe hxe=>?_|refine sb (fun hq=>?_) fun hq=>?_|refine cr (hD) ?_|exact aa)
  exact⟨rfl,rfl⟩
 ·rw[if_neg hr]
  refine ab aj Tryz.func65 rfl rfl false 2 6 rfl rfl rfl rfl fun K hK hb1 hb2=>?_;simp only[ae,enc,Nat.reduceAdd]
  clear hb1 hb2
  by_cases h0:0≤r
  ·(repeat' first|refine st ?_|refine sa fun xe hxe=>?_|refine sb (fun hq=>?_) fun hq=>?_|exact aa)
   exact⟨rfl,rfl⟩
  ·(repeat' first|refine st ?_|refine sa fun xe hxe=>?_|refine sb (fun hq=>?_) fun hq=>?_|exact aa)
   exact⟨rfl,rfl⟩
def lW (i:Nat)(p:Ppl):List UInt8:=aQ i++[32]++aQ p.v.round++[46]++aQ p.v.author++[32]++aQ p.v.digest++Lj++aQ p.members.length
theorem rp (i:Nat)(p:Ppl):tO i p=lW i p++[10]:=rfl
theorem BC (i:Nat)(p:Ppl):lW i p≠[]:=by simp[lW]
def JW (w:Wrl):Nat→VSt
 |0=>⟨[(0,.ptr 4 0),(10,.lst .ppl w.props),(11,.int .i64 w.props.length),(12,.int .i64 0)],dq w,5⟩
 |i+1=>⟨[(0,.ptr 4 0),(10,.lst .ppl w.props),(11,.int .i64 w.props.length),(12,.int .i64 ((i+1:Nat):Int))],bM w (cM w (i+1)),6⟩
def JX (w:Wrl)(o:List UInt8):Nat→VSt
 |0=>⟨[(0,.ptr 4 0),(10,.lst .ppl w.props),(11,.int .i64 w.props.length),(12,.int .i64 0)],bM w o,6⟩
 |i+1=>⟨[(0,.ptr 4 0),(10,.lst .ppl w.props),(11,.int .i64 w.props.length),(12,.int .i64 ((i+1:Nat):Int))],jv w (o++cM w (i+1)),7⟩
theorem Lw {w:Wrl}(hw:WOK w):ag Tryz.prog 66 [.ptr 4 0] (dq w) (.tup []) (if w.props.length=0 then dq w else bM w (ni w)):=by
 have hpl:=hw.plen
 have hcl:=hw.len
 refine ab aj Tryz.func66 rfl rfl false 1 5 rfl rfl rfl rfl fun K hK hb1 hb2=>?_;simp only[ae,enc,Nat.reduceAdd]
 clear hb1 hb2
 (repeat' first|refine st ?_|refine sa fun xe hxe=>?_|refine sb (fun hq=>?_) fun hq=>?_|exact aa)
 refine ah hK [] [0,10,11,12] (JW w) (fun i=>i≤w.props.length) (fun i=>w.props.length-i) 0 (aW _) rfl ?_
 intro i hi
 have hol:=kA w i
 by_cases hlt:i<w.props.length
 ·have hx:w.props[i]?=some (w.props.getD i p0):=by rw[aq,am hlt];rfl
  have hpm:w.props.getD i p0∈w.props:=br hx
  have hv:=bG (hw.pv _ hpm).1
  have hm:=hw.mem _ hpm
  have hs:cM w (i+1)=cM w i++tO i (w.props.getD i p0):=rfl
  have d1:=dD (i:Int) (by omega) (by omega)
  have l1:=(aO (i:Int)).2
  generalize w.props.getD i p0=p at *
  have d2:=dD p.v.round (by omega) (by omega)
  have d3:=dD p.v.author (by omega) (by omega)
  have d4:=dD p.v.digest (by omega) (by omega)
  have d5:=dD (p.members.length:Nat) (by omega) (by omega)
  have l2:=(aO p.v.round).2
  have l3:=(aO p.v.author).2
  have l4:=(aO p.v.digest).2
  have l5:=(aO (p.members.length:Nat)).2
  have hlb:(lW i p).length≤30:=by have:=sN i p;rw[rp,aP] at this;simpa using this
  have hb:∀x1 x2 x3 x4 x5:List UInt8,aQ (i:Int)=x1→aQ p.v.round=x2→aQ p.v.author=x3→aQ p.v.digest=x4→aQ (p.members.length:Nat)=x5→bs x1++⟨#[32]⟩++(bs x2++⟨#[46]⟩++bs x3)++⟨#[32]⟩++bs x4++⟨#[32,118,111,116,101,115,32]⟩++bs x5=bs (lW i p):=by
   rintro x1 x2 x3 x4 x5 rfl rfl rfl rfl rfl
   apply iO
   simp[lW]
  have hb:=hb _ _ _ _ _ rfl rfl rfl rfl rfl
  have hne:=BC i p
  rw[rp] at hs
  cases i with
  |zero=>
   have hP:=zD w (lW 0 p) hne (by omega)
   rw[←hb] at hP
   have hst:JW w (0+1)=⟨[(0,.ptr 4 0),(10,.lst .ppl w.props),(11,.int .i64 w.props.length),(12,.int .i64 (0+1))],bM w (lW 0 p++[10]),6⟩:=by
    rw[JW,hs]
    rfl
   have hs0:JW w 0=⟨[(0,.ptr 4 0),(10,.lst .ppl w.props),(11,.int .i64 w.props.length),(12,.int .i64 0)],dq w,5⟩:=rfl
   rw[hs0]
   generalize lW 0 p++[10]=ln at *
   generalize aQ ((0:Nat):Int)=x1 at *
   generalize aQ p.v.round=x2 at *
   generalize aQ p.v.author=x3 at *
   generalize aQ p.v.digest=x4 at *
   generalize aQ (p.members.length:Nat)=x5 at *
   (repeat' first|((first|with_reducible refine aF ?_ (by assumption)|with_reducible refine aE ?_ (by assumption));conv=>whnf)|refine st ?_|refine sa fun xe hxe=>?_|refine sb (fun hq=>?_) fun hq=>?_|((with_reducible refine aG ?_)<;>conv=>whnf)|exact aa)
   obtain rfl:=ar (hx.symm.trans hxe)
   clear hxe
   (repeat' first|((first|with_reducible refine aF ?_ (by assumption)|with_reducible refine aE ?_ (by assumption));conv=>whnf)|refine st ?_|refine sa fun xe hxe=>?_|refine sb (fun hq=>?_) fun hq=>?_|((with_reducible refine aG ?_)<;>conv=>whnf)|refine cr (d1) ?_|refine cr (d2) ?_|refine cr (d3) ?_|refine cr (d4) ?_|refine cr (d5) ?_|refine co (hP) ?_|exact aa)
   exact⟨1,by omega,by omega,hst.symm⟩
  |succ i=>
   have hP:=nF w (cM w (i+1)) (lW (i+1) p) hne (by omega)
   rw[←hb,bH,←hs] at hP
   have hst:JW w (i+1+1)=⟨[(0,.ptr 4 0),(10,.lst .ppl w.props),(11,.int .i64 w.props.length),(12,.int .i64 (((i+1:Nat):Int)+1))],bM w (cM w (i+1+1)),6⟩:=rfl
   have hs0:JW w (i+1)=⟨[(0,.ptr 4 0),(10,.lst .ppl w.props),(11,.int .i64 w.props.length),(12,.int .i64 ((i+1:Nat):Int))],bM w (cM w (i+1)),6⟩:=rfl
   rw[hs0]
   generalize cM w (i+1+1)=ln at *
   generalize cM w (i+1)=lo at *
   generalize aQ ((i+1:Nat):Int)=x1 at *
   generalize aQ p.v.round=x2 at *
   generalize aQ p.v.author=x3 at *
   generalize aQ p.v.digest=x4 at *
   generalize aQ (p.members.length:Nat)=x5 at *
   (repeat' first|((first|with_reducible refine aF ?_ (by assumption)|with_reducible refine aE ?_ (by assumption));conv=>whnf)|refine st ?_|refine sa fun xe hxe=>?_|refine sb (fun hq=>?_) fun hq=>?_|((with_reducible refine aG ?_)<;>conv=>whnf)|refine cr (d1) ?_|refine cr (d2) ?_|refine cr (d3) ?_|refine cr (d4) ?_|refine cr (d5) ?_|refine co (hP) ?_|exact aa)
   exact⟨i+2,by omega,by omega,hst.symm⟩
 ·obtain rfl:i=w.props.length:=by omega
  generalize hk:w.props.length=k at *
  cases k with
  |zero=>
   have hs0:JW w 0=⟨[(0,.ptr 4 0),(10,.lst .ppl w.props),(11,.int .i64 w.props.length),(12,.int .i64 0)],dq w,5⟩:=rfl
   rw[hs0,hk]
   (repeat' first|refine st ?_|refine sa fun xe hxe=>?_|refine sb (fun hq=>?_) fun hq=>?_|exact aa)
   exact⟨rfl,rfl⟩
  |succ k=>
   have hs0:JW w (k+1)=⟨[(0,.ptr 4 0),(10,.lst .ppl w.props),(11,.int .i64 w.props.length),(12,.int .i64 ((k+1:Nat):Int))],bM w (cM w (k+1)),6⟩:=rfl
   rw[hs0,hk]
   (repeat' first|refine st ?_|refine sa fun xe hxe=>?_|refine sb (fun hq=>?_) fun hq=>?_|exact aa)
   refine⟨rfl,?_⟩
   rw[if_neg (by omega)]
   unfold ni
   rw[hk]
theorem Lx {w:Wrl}(hw:WOK w)(o:List UInt8)(hol0:o.length≤5000000):ag Tryz.prog 66 [.ptr 4 0] (bM w o) (.tup []) (if w.props.length=0 then bM w o else jv w (o++ni w)):=by
 have hpl:=hw.plen
 have hcl:=hw.len
 refine ab aj Tryz.func66 rfl rfl false 2 6 rfl rfl rfl rfl fun K hK hb1 hb2=>?_;simp only[ae,enc,Nat.reduceAdd]
 clear hb1 hb2
 (repeat' first|refine st ?_|refine sa fun xe hxe=>?_|refine sb (fun hq=>?_) fun hq=>?_|exact aa)
 refine ah hK [] [0,10,11,12] (JX w o) (fun i=>i≤w.props.length) (fun i=>w.props.length-i) 0 (aW _) rfl ?_
 intro i hi
 have hol:=kA w i
 by_cases hlt:i<w.props.length
 ·have hx:w.props[i]?=some (w.props.getD i p0):=by rw[aq,am hlt];rfl
  have hpm:w.props.getD i p0∈w.props:=br hx
  have hv:=bG (hw.pv _ hpm).1
  have hm:=hw.mem _ hpm
  have hs:cM w (i+1)=cM w i++tO i (w.props.getD i p0):=rfl
  have d1:=dD (i:Int) (by omega) (by omega)
  have l1:=(aO (i:Int)).2
  generalize w.props.getD i p0=p at *
  have d2:=dD p.v.round (by omega) (by omega)
  have d3:=dD p.v.author (by omega) (by omega)
  have d4:=dD p.v.digest (by omega) (by omega)
  have d5:=dD (p.members.length:Nat) (by omega) (by omega)
  have l2:=(aO p.v.round).2
  have l3:=(aO p.v.author).2
  have l4:=(aO p.v.digest).2
  have l5:=(aO (p.members.length:Nat)).2
  have hlb:(lW i p).length≤30:=by have:=sN i p;rw[rp,aP] at this;simpa using this
  have hb:∀x1 x2 x3 x4 x5:List UInt8,aQ (i:Int)=x1→aQ p.v.round=x2→aQ p.v.author=x3→aQ p.v.digest=x4→aQ (p.members.length:Nat)=x5→bs x1++⟨#[32]⟩++(bs x2++⟨#[46]⟩++bs x3)++⟨#[32]⟩++bs x4++⟨#[32,118,111,116,101,115,32]⟩++bs x5=bs (lW i p):=by
   rintro x1 x2 x3 x4 x5 rfl rfl rfl rfl rfl
   apply iO
   simp[lW]
  have hb:=hb _ _ _ _ _ rfl rfl rfl rfl rfl
  have hne:=BC i p
  rw[rp] at hs
  cases i with
  |zero=>
   have hP:=nF w o (lW 0 p) hne (by omega)
   rw[←hb] at hP
   have hst:JX w o (0+1)=⟨[(0,.ptr 4 0),(10,.lst .ppl w.props),(11,.int .i64 w.props.length),(12,.int .i64 (0+1))],jv w (o++lW 0 p++[10]),7⟩:=by
    rw[JX,hs,bH]
    rfl
   have hs0:JX w o 0=⟨[(0,.ptr 4 0),(10,.lst .ppl w.props),(11,.int .i64 w.props.length),(12,.int .i64 0)],bM w o,6⟩:=rfl
   rw[hs0]
   generalize o++lW 0 p++[10]=ln at *
   generalize aQ ((0:Nat):Int)=x1 at *
   generalize aQ p.v.round=x2 at *
   generalize aQ p.v.author=x3 at *
   generalize aQ p.v.digest=x4 at *
   generalize aQ (p.members.length:Nat)=x5 at *
   (repeat' first|((first|with_reducible refine aF ?_ (by assumption)|with_reducible refine aE ?_ (by assumption));conv=>whnf)|refine st ?_|refine sa fun xe hxe=>?_|refine sb (fun hq=>?_) fun hq=>?_|((with_reducible refine aG ?_)<;>conv=>whnf)|exact aa)
   obtain rfl:=ar (hx.symm.trans hxe)
   clear hxe
   (repeat' first|((first|with_reducible refine aF ?_ (by assumption)|with_reducible refine aE ?_ (by assumption));conv=>whnf)|refine st ?_|refine sa fun xe hxe=>?_|refine sb (fun hq=>?_) fun hq=>?_|((with_reducible refine aG ?_)<;>conv=>whnf)|refine cr (d1) ?_|refine cr (d2) ?_|refine cr (d3) ?_|refine cr (d4) ?_|refine cr (d5) ?_|refine co (hP) ?_|exact aa)
   exact⟨1,by omega,by omega,hst.symm⟩
  |succ i=>
   have hP:=nF w (o++cM w (i+1)) (lW (i+1) p) hne (by rw[aP];omega)
   rw[←hb,bH,bH,←hs] at hP
   have hst:JX w o (i+1+1)=⟨[(0,.ptr 4 0),(10,.lst .ppl w.props),(11,.int .i64 w.props.length),(12,.int .i64 (((i+1:Nat):Int)+1))],jv w (o++cM w (i+1+1)),7⟩:=rfl
   have hs0:JX w o (i+1)=⟨[(0,.ptr 4 0),(10,.lst .ppl w.props),(11,.int .i64 w.props.length),(12,.int .i64 ((i+1:Nat):Int))],jv w (o++cM w (i+1)),7⟩:=rfl
   rw[hs0]
   generalize o++cM w (i+1+1)=ln at *
   generalize o++cM w (i+1)=lo at *
   generalize aQ ((i+1:Nat):Int)=x1 at *
   generalize aQ p.v.round=x2 at *
   generalize aQ p.v.author=x3 at *
   generalize aQ p.v.digest=x4 at *
   generalize aQ (p.members.length:Nat)=x5 at *
   (repeat' first|((first|with_reducible refine aF ?_ (by assumption)|with_reducible refine aE ?_ (by assumption));conv=>whnf)|refine st ?_|refine sa fun xe hxe=>?_|refine sb (fun hq=>?_) fun hq=>?_|((with_reducible refine aG ?_)<;>conv=>whnf)|refine cr (d1) ?_|refine cr (d2) ?_|refine cr (d3) ?_|refine cr (d4) ?_|refine cr (d5) ?_|refine co (hP) ?_|exact aa)
   exact⟨i+2,by omega,by omega,hst.symm⟩
 ·obtain rfl:i=w.props.length:=by omega
  generalize hk:w.props.length=k at *
  cases k with
  |zero=>
   have hs0:JX w o 0=⟨[(0,.ptr 4 0),(10,.lst .ppl w.props),(11,.int .i64 w.props.length),(12,.int .i64 0)],bM w o,6⟩:=rfl
   rw[hs0,hk]
   (repeat' first|refine st ?_|refine sa fun xe hxe=>?_|refine sb (fun hq=>?_) fun hq=>?_|exact aa)
   exact⟨rfl,rfl⟩
  |succ k=>
   have hs0:JX w o (k+1)=⟨[(0,.ptr 4 0),(10,.lst .ppl w.props),(11,.int .i64 w.props.length),(12,.int .i64 ((k+1:Nat):Int))],jv w (o++cM w (k+1)),7⟩:=rfl
   rw[hs0,hk]
   (repeat' first|refine st ?_|refine sa fun xe hxe=>?_|refine sb (fun hq=>?_) fun hq=>?_|exact aa)
   refine⟨rfl,?_⟩
   rw[if_neg (by omega)]
   unfold ni
   rw[hk]
theorem ky (ws:List (List UInt8))(k:Nat):sU ((ws++[[],[]]).getD k [])=cA ws k:=by
 unfold cA
 congr 1
 rw[aq,aq,qd]
 split
 ·rfl
 ·rename_i h
  rw[eg (l:=ws) (by omega)]
  generalize k-ws.length=j
  match j with
  |0=>rfl
  |1=>rfl
  |j+2=>rfl
theorem fx (ws:List (List UInt8)){k:Nat}(h:k<ws.length+2):(ws.map bs++[(⟨#[]⟩:ByteArray),⟨#[]⟩])[k]?=some (bs ((ws++[[],[]]).getD k [])):=by
 have e:ws.map bs++[(⟨#[]⟩:ByteArray),⟨#[]⟩]=(ws++[[],[]]).map bs:=by rw[ce];rfl
 rw[e,be,aq,am (by simpa using h)]
 rfl
theorem oI (ws:List (List UInt8))(hmem:∀x∈ws,x.length≤600)(k:Nat):((ws++[[],[]]).getD k []).length≤2000000:=by
 rw[aq]
 cases h:(ws++[[],[]])[k]? with
 |none=>simp
 |some x=>
  rcases bl.1 (br h) with h|h
  ·have:=hmem x h;simp only[dY];omega
  ·simp only[aJ,gu,or_false,or_self] at h;subst h;simp
theorem yd (ws:List (List UInt8))(h:0<ws.length):(ws++[[],[]]).getD 0 []=ws.getD 0 []:=by
 rw[aq,aq,cW h]
theorem qL {k c:List UInt8}(h:ByteArray.toList (bs k)=ByteArray.toList (bs c)):k=c:=by
 rw[AL,AL] at h
 exact h
set_option maxHeartbeats 4000000 in
theorem Lm {w:Wrl}(hw:WOK w)(l:List UInt8)(hl:l.length≤600)(hk:eU ((aK 32 l).getD 0 [])):ag Tryz.prog 30 [.ptr 4 0,.str (bs l)] (dq w) (.tup []) (dq (bY w (aK 32 l))):=by
 have hS:=pE l 32 (by omega)
 have hle:=iQ 32 l
 have hlen:=eA 32 l
 have hmem:=fQ 32 l
 generalize aK 32 l=ws at *
 have hml:(ws.map bs).length=ws.length:=az ..
 have hx0:=fx ws (k:=0) (by omega)
 have hx1:=fx ws (k:=1) (by omega)
 have hx2:=fx ws (k:=2) (by omega)
 have hgl:=oI ws (fun x hx=>by have:=hmem x hx;omega)
 have n1:=jY _ (hgl 1)
 have n2:=jY _ (hgl 2)
 rw[ky] at n1 n2
 have e0:=yd ws (by omega)
 rw[e0] at hx0
 generalize (ws++[[],[]]).getD 1 []=g1 at *
 generalize (ws++[[],[]]).getD 2 []=g2 at *
 generalize hu:bY w ws=u
 unfold bY at hu
 generalize cA ws 1=a at *
 generalize cA ws 2=b at *
 generalize ws.getD 0 []=k at *
 refine ab aj Tryz.func30 rfl rfl false 1 5 rfl rfl rfl rfl fun K hK hb1 hb2=>?_;simp only[ae,enc,Nat.reduceAdd]
 clear hb1 hb2
 (repeat' first|((first|with_reducible refine aF ?_ (by assumption)|with_reducible refine aE ?_ (by assumption));conv=>whnf)|refine st ?_|refine sa fun xe hxe=>?_|refine sb (fun hq=>?_) fun hq=>?_|((with_reducible refine aG ?_)<;>conv=>whnf)|refine cr (hS) ?_|exact aa)
 obtain rfl:=ar (hx1.symm.trans hxe)
 clear hxe
 (repeat' first|((first|with_reducible refine aF ?_ (by assumption)|with_reducible refine aE ?_ (by assumption));conv=>whnf)|refine st ?_|refine sa fun xe hxe=>?_|refine sb (fun hq=>?_) fun hq=>?_|((with_reducible refine aG ?_)<;>conv=>whnf)|refine cr (n1) ?_|exact aa)
 obtain rfl:=ar (hx2.symm.trans hxe)
 clear hxe
 (repeat' first|((first|with_reducible refine aF ?_ (by assumption)|with_reducible refine aE ?_ (by assumption));conv=>whnf)|refine st ?_|refine sa fun xe hxe=>?_|refine sb (fun hq=>?_) fun hq=>?_|((with_reducible refine aG ?_)<;>conv=>whnf)|refine cr (n2) ?_|exact aa)
 all_goals (obtain rfl:=ar (hx0.symm.trans hxe);clear hxe)
 ·obtain rfl:k=CV:=qL hq
  rw[if_pos rfl] at hu
  subst hu
  have hD:ag Tryz.prog 63 [.ptr 4 0,.agg [.int .i64 1,.int .i64 a,.int .i64 b,.int .i64 0,.int .i64 0,.lst (.int .i64) [],.int .i64 0]] (dq w) (.tup []) (dq (eH w a b)):=xG hw ⟨1,a,b,v0⟩
  generalize (eH w a b)=u at *
  (repeat' first|refine st ?_|refine sa fun xe hxe=>?_|refine sb (fun hq=>?_) fun hq=>?_|((with_reducible refine cy [4] ?_);(conv=>whnf);(with_reducible refine bf (hD) ?_);conv=>whnf)|exact aa)
  exact⟨rfl,rfl⟩
 ·obtain rfl:k=CW:=qL hq
  rw[if_neg (by decide),if_pos rfl] at hu
  subst hu
  have hD:ag Tryz.prog 63 [.ptr 4 0,.agg [.int .i64 2,.int .i64 a,.int .i64 b,.int .i64 0,.int .i64 0,.lst (.int .i64) [],.int .i64 0]] (dq w) (.tup []) (dq (eR w a b)):=xG hw ⟨2,a,b,v0⟩
  generalize (eR w a b)=u at *
  (repeat' first|refine st ?_|refine sa fun xe hxe=>?_|refine sb (fun hq=>?_) fun hq=>?_|((with_reducible refine cy [4] ?_);(conv=>whnf);(with_reducible refine bf (hD) ?_);conv=>whnf)|exact aa)
  exact⟨rfl,rfl⟩
 ·obtain rfl:k=CT:=qL hq
  rw[if_neg (by decide),if_neg (by decide),if_pos rfl] at hu
  subst hu
  have hD:ag Tryz.prog 63 [.ptr 4 0,.agg [.int .i64 3,.int .i64 a,.int .i64 b,.int .i64 0,.int .i64 0,.lst (.int .i64) [],.int .i64 0]] (dq w) (.tup []) (dq (dB w a b)):=xG hw ⟨3,a,b,v0⟩
  generalize (dB w a b)=u at *
  (repeat' first|refine st ?_|refine sa fun xe hxe=>?_|refine sb (fun hq=>?_) fun hq=>?_|((with_reducible refine cy [4] ?_);(conv=>whnf);(with_reducible refine bf (hD) ?_);conv=>whnf)|exact aa)
  exact⟨rfl,rfl⟩
 ·obtain rfl:k=CU:=qL hq
  rw[if_neg (by decide),if_neg (by decide),if_neg (by decide),if_pos rfl] at hu
  subst hu
  have hD:ag Tryz.prog 64 [.ptr 4 0,.int .i64 a,.int .i64 b] (dq w) (.tup []) (dq (iH w (lb a b))):=Lu hw a b
  generalize (iH w (lb a b))=u at *
  (repeat' first|refine st ?_|refine sa fun xe hxe=>?_|refine sb (fun hq=>?_) fun hq=>?_|((with_reducible refine cy [4] ?_);(conv=>whnf);(with_reducible refine bf (hD) ?_);conv=>whnf)|exact aa)
  exact⟨rfl,rfl⟩
 ·obtain rfl:k=CR:=qL hq
  rw[if_neg (by decide),if_neg (by decide),if_neg (by decide),if_neg (by decide),if_pos rfl] at hu
  subst hu
  have hD:ag Tryz.prog 63 [.ptr 4 0,.agg [.int .i64 5,.int .i64 0,.int .i64 a,.int .i64 0,.int .i64 0,.lst (.int .i64) [],.int .i64 0]] (dq w) (.tup []) (dq (iG w a)):=xG hw ⟨5,0,a,v0⟩
  generalize (iG w a)=u at *
  (repeat' first|refine st ?_|refine sa fun xe hxe=>?_|refine sb (fun hq=>?_) fun hq=>?_|((with_reducible refine cy [4] ?_);(conv=>whnf);(with_reducible refine bf (hD) ?_);conv=>whnf)|exact aa)
  exact⟨rfl,rfl⟩
 ·obtain rfl:k=CS:=qL hq
  rw[if_neg (by decide),if_neg (by decide),if_neg (by decide),if_neg (by decide),if_neg (by decide),if_pos rfl] at hu
  subst hu
  have hD:ag Tryz.prog 65 [.ptr 4 0,.int .i64 a] (dq w) (.tup []) (dq (Cz w a)):=Lk hw a
  have hD2:ag Tryz.prog 65 [.ptr 4 0,.int .i64 a] (dq w) (.tup []) (dq (if 0≤a∧a≤12 then bg w a.toNat else w)):=hD
  clear hD
  generalize (if 0≤a∧a≤12 then bg w a.toNat else w)=u at *
  (repeat' first|refine st ?_|refine sa fun xe hxe=>?_|refine sb (fun hq=>?_) fun hq=>?_|((with_reducible refine cy [4] ?_);(conv=>whnf);(with_reducible refine bf (hD2) ?_);conv=>whnf)|exact aa)
  exact⟨rfl,rfl⟩
 ·obtain rfl:k=qM:=qL hq
  exact absurd hk (by decide)
 ·exfalso
  rename_i q1 q2 q3 q4 q5 q6
  rcases hk with rfl|rfl|rfl|rfl|rfl|rfl<;>first|exact q1 rfl|exact q2 rfl|exact q3 rfl|exact q4 rfl|exact q5 rfl|exact q6 rfl
set_option maxHeartbeats 4000000 in
theorem Ln {w:Wrl}(hw:WOK w)(l:List UInt8)(hl:l.length≤600)(o:List UInt8)(hk:eU ((aK 32 l).getD 0 [])):ag Tryz.prog 30 [.ptr 4 0,.str (bs l)] (bM w o) (.tup []) (bM (bY w (aK 32 l)) o):=by
 have hS:=pE l 32 (by omega)
 have hle:=iQ 32 l
 have hlen:=eA 32 l
 have hmem:=fQ 32 l
 generalize aK 32 l=ws at *
 have hml:(ws.map bs).length=ws.length:=az ..
 have hx0:=fx ws (k:=0) (by omega)
 have hx1:=fx ws (k:=1) (by omega)
 have hx2:=fx ws (k:=2) (by omega)
 have hgl:=oI ws (fun x hx=>by have:=hmem x hx;omega)
 have n1:=jY _ (hgl 1)
 have n2:=jY _ (hgl 2)
 rw[ky] at n1 n2
 have e0:=yd ws (by omega)
 rw[e0] at hx0
 generalize (ws++[[],[]]).getD 1 []=g1 at *
 generalize (ws++[[],[]]).getD 2 []=g2 at *
 generalize hu:bY w ws=u
 unfold bY at hu
 generalize cA ws 1=a at *
 generalize cA ws 2=b at *
 generalize ws.getD 0 []=k at *
 refine ab aj Tryz.func30 rfl rfl false 2 6 rfl rfl rfl rfl fun K hK hb1 hb2=>?_;simp only[ae,enc,Nat.reduceAdd]
 clear hb1 hb2
 (repeat' first|((first|with_reducible refine aF ?_ (by assumption)|with_reducible refine aE ?_ (by assumption));conv=>whnf)|refine st ?_|refine sa fun xe hxe=>?_|refine sb (fun hq=>?_) fun hq=>?_|((with_reducible refine aG ?_)<;>conv=>whnf)|refine cr (hS) ?_|exact aa)
 obtain rfl:=ar (hx1.symm.trans hxe)
 clear hxe
 (repeat' first|((first|with_reducible refine aF ?_ (by assumption)|with_reducible refine aE ?_ (by assumption));conv=>whnf)|refine st ?_|refine sa fun xe hxe=>?_|refine sb (fun hq=>?_) fun hq=>?_|((with_reducible refine aG ?_)<;>conv=>whnf)|refine cr (n1) ?_|exact aa)
 obtain rfl:=ar (hx2.symm.trans hxe)
 clear hxe
 (repeat' first|((first|with_reducible refine aF ?_ (by assumption)|with_reducible refine aE ?_ (by assumption));conv=>whnf)|refine st ?_|refine sa fun xe hxe=>?_|refine sb (fun hq=>?_) fun hq=>?_|((with_reducible refine aG ?_)<;>conv=>whnf)|refine cr (n2) ?_|exact aa)
 all_goals (obtain rfl:=ar (hx0.symm.trans hxe);clear hxe)
 ·obtain rfl:k=CV:=qL hq
  rw[if_pos rfl] at hu
  subst hu
  have hD:ag Tryz.prog 63 [.ptr 4 0,.agg [.int .i64 1,.int .i64 a,.int .i64 b,.int .i64 0,.int .i64 0,.lst (.int .i64) [],.int .i64 0]] (bM w o) (.tup []) (bM (eH w a b) o):=xH hw ⟨1,a,b,v0⟩ o
  generalize (eH w a b)=u at *
  (repeat' first|refine st ?_|refine sa fun xe hxe=>?_|refine sb (fun hq=>?_) fun hq=>?_|((with_reducible refine cy [4,5] ?_);(conv=>whnf);(with_reducible refine bf (hD) ?_);conv=>whnf)|exact aa)
  exact⟨rfl,rfl⟩
 ·obtain rfl:k=CW:=qL hq
  rw[if_neg (by decide),if_pos rfl] at hu
  subst hu
  have hD:ag Tryz.prog 63 [.ptr 4 0,.agg [.int .i64 2,.int .i64 a,.int .i64 b,.int .i64 0,.int .i64 0,.lst (.int .i64) [],.int .i64 0]] (bM w o) (.tup []) (bM (eR w a b) o):=xH hw ⟨2,a,b,v0⟩ o
  generalize (eR w a b)=u at *
  (repeat' first|refine st ?_|refine sa fun xe hxe=>?_|refine sb (fun hq=>?_) fun hq=>?_|((with_reducible refine cy [4,5] ?_);(conv=>whnf);(with_reducible refine bf (hD) ?_);conv=>whnf)|exact aa)
  exact⟨rfl,rfl⟩
 ·obtain rfl:k=CT:=qL hq
  rw[if_neg (by decide),if_neg (by decide),if_pos rfl] at hu
  subst hu
  have hD:ag Tryz.prog 63 [.ptr 4 0,.agg [.int .i64 3,.int .i64 a,.int .i64 b,.int .i64 0,.int .i64 0,.lst (.int .i64) [],.int .i64 0]] (bM w o) (.tup []) (bM (dB w a b) o):=xH hw ⟨3,a,b,v0⟩ o
  generalize (dB w a b)=u at *
  (repeat' first|refine st ?_|refine sa fun xe hxe=>?_|refine sb (fun hq=>?_) fun hq=>?_|((with_reducible refine cy [4,5] ?_);(conv=>whnf);(with_reducible refine bf (hD) ?_);conv=>whnf)|exact aa)
  exact⟨rfl,rfl⟩
 ·obtain rfl:k=CU:=qL hq
  rw[if_neg (by decide),if_neg (by decide),if_neg (by decide),if_pos rfl] at hu
  subst hu
  have hD:ag Tryz.prog 64 [.ptr 4 0,.int .i64 a,.int .i64 b] (bM w o) (.tup []) (bM (iH w (lb a b)) o):=Lv hw a b o
  generalize (iH w (lb a b))=u at *
  (repeat' first|refine st ?_|refine sa fun xe hxe=>?_|refine sb (fun hq=>?_) fun hq=>?_|((with_reducible refine cy [4,5] ?_);(conv=>whnf);(with_reducible refine bf (hD) ?_);conv=>whnf)|exact aa)
  exact⟨rfl,rfl⟩
 ·obtain rfl:k=CR:=qL hq
  rw[if_neg (by decide),if_neg (by decide),if_neg (by decide),if_neg (by decide),if_pos rfl] at hu
  subst hu
  have hD:ag Tryz.prog 63 [.ptr 4 0,.agg [.int .i64 5,.int .i64 0,.int .i64 a,.int .i64 0,.int .i64 0,.lst (.int .i64) [],.int .i64 0]] (bM w o) (.tup []) (bM (iG w a) o):=xH hw ⟨5,0,a,v0⟩ o
  generalize (iG w a)=u at *
  (repeat' first|refine st ?_|refine sa fun xe hxe=>?_|refine sb (fun hq=>?_) fun hq=>?_|((with_reducible refine cy [4,5] ?_);(conv=>whnf);(with_reducible refine bf (hD) ?_);conv=>whnf)|exact aa)
  exact⟨rfl,rfl⟩
 ·obtain rfl:k=CS:=qL hq
  rw[if_neg (by decide),if_neg (by decide),if_neg (by decide),if_neg (by decide),if_neg (by decide),if_pos rfl] at hu
  subst hu
  have hD:ag Tryz.prog 65 [.ptr 4 0,.int .i64 a] (bM w o) (.tup []) (bM (Cz w a) o):=Ll hw a o
  have hD2:ag Tryz.prog 65 [.ptr 4 0,.int .i64 a] (bM w o) (.tup []) (bM (if 0≤a∧a≤12 then bg w a.toNat else w) o):=hD
  clear hD
  generalize (if 0≤a∧a≤12 then bg w a.toNat else w)=u at *
  (repeat' first|refine st ?_|refine sa fun xe hxe=>?_|refine sb (fun hq=>?_) fun hq=>?_|((with_reducible refine cy [4,5] ?_);(conv=>whnf);(with_reducible refine bf (hD2) ?_);conv=>whnf)|exact aa)
  exact⟨rfl,rfl⟩
 ·obtain rfl:k=qM:=qL hq
  exact absurd hk (by decide)
 ·exfalso
  rename_i q1 q2 q3 q4 q5 q6
  rcases hk with rfl|rfl|rfl|rfl|rfl|rfl<;>first|exact q1 rfl|exact q2 rfl|exact q3 rfl|exact q4 rfl|exact q5 rfl|exact q6 rfl
set_option maxHeartbeats 4000000 in
theorem Bw {w:Wrl}(hw:WOK w)(l:List UInt8)(hl:l.length≤600)(hk:(aK 32 l).getD 0 []=qM):ag Tryz.prog 30 [.ptr 4 0,.str (bs l)] (dq w) (.tup []) (if w.props.length=0 then dq w else bM w (ni w)):=by
 have hS:=pE l 32 (by omega)
 have hle:=iQ 32 l
 have hlen:=eA 32 l
 have hmem:=fQ 32 l
 generalize aK 32 l=ws at *
 have hml:(ws.map bs).length=ws.length:=az ..
 have hx0:=fx ws (k:=0) (by omega)
 have hx1:=fx ws (k:=1) (by omega)
 have hx2:=fx ws (k:=2) (by omega)
 have hgl:=oI ws (fun x hx=>by have:=hmem x hx;omega)
 have n1:=jY _ (hgl 1)
 have n2:=jY _ (hgl 2)
 rw[ky] at n1 n2
 have e0:=yd ws (by omega)
 rw[e0] at hx0
 generalize (ws++[[],[]]).getD 1 []=g1 at *
 generalize (ws++[[],[]]).getD 2 []=g2 at *
 generalize cA ws 1=a at *
 generalize cA ws 2=b at *
 generalize ws.getD 0 []=k at *
 have hL:=Lw hw
 subst hk
 by_cases h0:w.props.length=0
 ·rw[if_pos h0] at hL⊢
  refine ab aj Tryz.func30 rfl rfl false 1 5 rfl rfl rfl rfl fun K hK hb1 hb2=>?_;simp only[ae,enc,Nat.reduceAdd]
  clear hb1 hb2
  (repeat' first|((first|with_reducible refine aF ?_ (by assumption)|with_reducible refine aE ?_ (by assumption));conv=>whnf)|refine st ?_|refine sa fun xe hxe=>?_|refine sb (fun hq=>?_) fun hq=>?_|((with_reducible refine aG ?_)<;>conv=>whnf)|refine cr (hS) ?_|exact aa)
  obtain rfl:=ar (hx1.symm.trans hxe)
  clear hxe
  (repeat' first|((first|with_reducible refine aF ?_ (by assumption)|with_reducible refine aE ?_ (by assumption));conv=>whnf)|refine st ?_|refine sa fun xe hxe=>?_|refine sb (fun hq=>?_) fun hq=>?_|((with_reducible refine aG ?_)<;>conv=>whnf)|refine cr (n1) ?_|exact aa)
  obtain rfl:=ar (hx2.symm.trans hxe)
  clear hxe
  (repeat' first|((first|with_reducible refine aF ?_ (by assumption)|with_reducible refine aE ?_ (by assumption));conv=>whnf)|refine st ?_|refine sa fun xe hxe=>?_|refine sb (fun hq=>?_) fun hq=>?_|((with_reducible refine aG ?_)<;>conv=>whnf)|refine cr (n2) ?_|exact aa)
  all_goals (obtain rfl:=ar (hx0.symm.trans hxe);clear hxe)
  all_goals first|exact absurd (qL hq) (by decide)|skip
  ·(repeat' first|refine st ?_|refine sa fun xe hxe=>?_|refine sb (fun hq=>?_) fun hq=>?_|((with_reducible refine cy [4] ?_);(conv=>whnf);(with_reducible refine bf (hL) ?_);conv=>whnf)|exact aa)
   exact⟨rfl,rfl⟩
  ·exact absurd rfl hq
 ·rw[if_neg h0] at hL⊢
  generalize ni w=oo at *
  refine ab aj Tryz.func30 rfl rfl false 1 5 rfl rfl rfl rfl fun K hK hb1 hb2=>?_;simp only[ae,enc,Nat.reduceAdd]
  clear hb1 hb2
  (repeat' first|((first|with_reducible refine aF ?_ (by assumption)|with_reducible refine aE ?_ (by assumption));conv=>whnf)|refine st ?_|refine sa fun xe hxe=>?_|refine sb (fun hq=>?_) fun hq=>?_|((with_reducible refine aG ?_)<;>conv=>whnf)|refine cr (hS) ?_|exact aa)
  obtain rfl:=ar (hx1.symm.trans hxe)
  clear hxe
  (repeat' first|((first|with_reducible refine aF ?_ (by assumption)|with_reducible refine aE ?_ (by assumption));conv=>whnf)|refine st ?_|refine sa fun xe hxe=>?_|refine sb (fun hq=>?_) fun hq=>?_|((with_reducible refine aG ?_)<;>conv=>whnf)|refine cr (n1) ?_|exact aa)
  obtain rfl:=ar (hx2.symm.trans hxe)
  clear hxe
  (repeat' first|((first|with_reducible refine aF ?_ (by assumption)|with_reducible refine aE ?_ (by assumption));conv=>whnf)|refine st ?_|refine sa fun xe hxe=>?_|refine sb (fun hq=>?_) fun hq=>?_|((with_reducible refine aG ?_)<;>conv=>whnf)|refine cr (n2) ?_|exact aa)
  all_goals (obtain rfl:=ar (hx0.symm.trans hxe);clear hxe)
  all_goals first|exact absurd (qL hq) (by decide)|skip
  ·(repeat' first|refine st ?_|refine sa fun xe hxe=>?_|refine sb (fun hq=>?_) fun hq=>?_|((with_reducible refine cy [4] ?_);(conv=>whnf);(with_reducible refine bf (hL) ?_);conv=>whnf)|exact aa)
   exact⟨rfl,rfl⟩
  ·exact absurd rfl hq
set_option maxHeartbeats 4000000 in
theorem Bx {w:Wrl}(hw:WOK w)(l:List UInt8)(hl:l.length≤600)(o:List UInt8)(hol:o.length≤5000000)(hk:(aK 32 l).getD 0 []=qM):ag Tryz.prog 30 [.ptr 4 0,.str (bs l)] (bM w o) (.tup []) (if w.props.length=0 then bM w o else jv w (o++ni w)):=by
 have hS:=pE l 32 (by omega)
 have hle:=iQ 32 l
 have hlen:=eA 32 l
 have hmem:=fQ 32 l
 generalize aK 32 l=ws at *
 have hml:(ws.map bs).length=ws.length:=az ..
 have hx0:=fx ws (k:=0) (by omega)
 have hx1:=fx ws (k:=1) (by omega)
 have hx2:=fx ws (k:=2) (by omega)
 have hgl:=oI ws (fun x hx=>by have:=hmem x hx;omega)
 have n1:=jY _ (hgl 1)
 have n2:=jY _ (hgl 2)
 rw[ky] at n1 n2
 have e0:=yd ws (by omega)
 rw[e0] at hx0
 generalize (ws++[[],[]]).getD 1 []=g1 at *
 generalize (ws++[[],[]]).getD 2 []=g2 at *
 generalize cA ws 1=a at *
 generalize cA ws 2=b at *
 generalize ws.getD 0 []=k at *
 have hL:=Lx hw o hol
 subst hk
 by_cases h0:w.props.length=0
 ·rw[if_pos h0] at hL⊢
  refine ab aj Tryz.func30 rfl rfl false 2 6 rfl rfl rfl rfl fun K hK hb1 hb2=>?_;simp only[ae,enc,Nat.reduceAdd]
  clear hb1 hb2
  (repeat' first|((first|with_reducible refine aF ?_ (by assumption)|with_reducible refine aE ?_ (by assumption));conv=>whnf)|refine st ?_|refine sa fun xe hxe=>?_|refine sb (fun hq=>?_) fun hq=>?_|((with_reducible refine aG ?_)<;>conv=>whnf)|refine cr (hS) ?_|exact aa)
  obtain rfl:=ar (hx1.symm.trans hxe)
  clear hxe
  (repeat' first|((first|with_reducible refine aF ?_ (by assumption)|with_reducible refine aE ?_ (by assumption));conv=>whnf)|refine st ?_|refine sa fun xe hxe=>?_|refine sb (fun hq=>?_) fun hq=>?_|((with_reducible refine aG ?_)<;>conv=>whnf)|refine cr (n1) ?_|exact aa)
  obtain rfl:=ar (hx2.symm.trans hxe)
  clear hxe
  (repeat' first|((first|with_reducible refine aF ?_ (by assumption)|with_reducible refine aE ?_ (by assumption));conv=>whnf)|refine st ?_|refine sa fun xe hxe=>?_|refine sb (fun hq=>?_) fun hq=>?_|((with_reducible refine aG ?_)<;>conv=>whnf)|refine cr (n2) ?_|exact aa)
  all_goals (obtain rfl:=ar (hx0.symm.trans hxe);clear hxe)
  all_goals first|exact absurd (qL hq) (by decide)|skip
  ·(repeat' first|refine st ?_|refine sa fun xe hxe=>?_|refine sb (fun hq=>?_) fun hq=>?_|((with_reducible refine cy [4,5] ?_);(conv=>whnf);(with_reducible refine bf (hL) ?_);conv=>whnf)|exact aa)
   exact⟨rfl,rfl⟩
  ·exact absurd rfl hq
 ·rw[if_neg h0] at hL⊢
  generalize ni w=oo at *
  refine ab aj Tryz.func30 rfl rfl false 2 6 rfl rfl rfl rfl fun K hK hb1 hb2=>?_;simp only[ae,enc,Nat.reduceAdd]
  clear hb1 hb2
  (repeat' first|((first|with_reducible refine aF ?_ (by assumption)|with_reducible refine aE ?_ (by assumption));conv=>whnf)|refine st ?_|refine sa fun xe hxe=>?_|refine sb (fun hq=>?_) fun hq=>?_|((with_reducible refine aG ?_)<;>conv=>whnf)|refine cr (hS) ?_|exact aa)
  obtain rfl:=ar (hx1.symm.trans hxe)
  clear hxe
  (repeat' first|((first|with_reducible refine aF ?_ (by assumption)|with_reducible refine aE ?_ (by assumption));conv=>whnf)|refine st ?_|refine sa fun xe hxe=>?_|refine sb (fun hq=>?_) fun hq=>?_|((with_reducible refine aG ?_)<;>conv=>whnf)|refine cr (n1) ?_|exact aa)
  obtain rfl:=ar (hx2.symm.trans hxe)
  clear hxe
  (repeat' first|((first|with_reducible refine aF ?_ (by assumption)|with_reducible refine aE ?_ (by assumption));conv=>whnf)|refine st ?_|refine sa fun xe hxe=>?_|refine sb (fun hq=>?_) fun hq=>?_|((with_reducible refine aG ?_)<;>conv=>whnf)|refine cr (n2) ?_|exact aa)
  all_goals (obtain rfl:=ar (hx0.symm.trans hxe);clear hxe)
  all_goals first|exact absurd (qL hq) (by decide)|skip
  ·(repeat' first|refine st ?_|refine sa fun xe hxe=>?_|refine sb (fun hq=>?_) fun hq=>?_|((with_reducible refine cy [4,5] ?_);(conv=>whnf);(with_reducible refine bf (hL) ?_);conv=>whnf)|exact aa)
   exact⟨rfl,rfl⟩
  ·exact absurd rfl hq

end Go.Proofs.YtpefhoohfkeflacGreatDoor.Am
