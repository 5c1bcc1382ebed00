/- Scripts: WriteString of a builder within a struct. Scripts: the builder's calls, typed. Runs: clones of lists of numbers (the empty ones by the shelf). Runs: plain definitions of what is valid, and laws. Runs: tables of graphs, parents that are known. Runs: what events do, and what they keep: plain laws. Runs: more plain laws: bounds, what is put into lists in order, quiet rounds. Committees and graphs: what the specification's functions give. Committees and vertices: what the program's functions give. Graphs: what the program's functions give. -/
import Derived.Shelf.Slices.Clone
import Derived.Test.YtpefhoohfkeflaaGreatDoorEA5
set_option linter.unusedSimpArgs false
set_option linter.unusedVariables false
set_option maxHeartbeats 1000000
namespace Go.Proofs.YtpefhoohfkeflaaGreatDoor.Am
open Go Go.RowKit
theorem D3 {w:World}{a:Addr}{v:Value}(h:w.cell? a=some v):a.block<w.heap.size:=by
 rcases ct a.block w.heap.size with hl|hl
 ·exact hl
 ·have:w.heap[a.block]?=none:=by simp[hl]
  simp[World.cell?,this] at h
section
variable {P:Program} (w:World)
theorem CJ (t u ty e:TypeId)(i:TypeInfo)(ht:P.underlying t=some (.slice e))(hu:P.underlying u=some .string)(hi:P.info? e=some i)(hz:i.zero=some (.int .u8 0))(hsize:i.size=1)(hby:i.bytes=1)
  (v:Value) (n:Nat) (xs:List Value) (hown:w.ownsRow 0 e 1 v n xs) (s:ByteArray) (hbytes:n+s.size≤140737488355328) {v':Value} {w':World} (hr:(Builtin.append_ #[t,u] ty #[v,.string s]).run P w= .ok v' w') (h0:0<s.size):
  v'.ownBlock=v.ownBlock∨v'.ownBlock=some w.heap.size:=by
 have hxl:xs.length=n:=by simpa using hown.1
 rcases hown.2 with⟨rfl,rfl⟩|⟨g,cap,cur,rfl,hbg,hg,hnc,hcm,hcs,htake⟩
 ·have hr2:=run_append_nil_string (P:=P) w t u ty e i (.int .u8 0) ht hu hi hz s (by omega) (by omega) (by rw[hby];omega)
  rw[hr2] at hr
  cases hr
  exact .inr rfl
 ·by_cases hroom:n+s.size≤cap
  ·have hr2:=Lib.run_append_room_string (P:=P) w t u ty e i ht hu hi hsize g n cap cur hg s hroom (by omega)
   rw[hr2] at hr
   cases hr
   exact .inl rfl
  ·have holds:∀j u,xs[j]?=some u→w.cell? ((⟨g,0,none⟩:Addr).add j)=some u:=hown.cells (g:=g) rfl
   have hr2:=Lib.run_append_grow_string (P:=P) w t u ty e i (.int .u8 0) ht hu hi hz ⟨g,0,none⟩ n cap xs (by rw[hsize];simpa using hxl) holds s (by omega) (by omega) (by rw[hby];exact growslice_fits (by omega) (by omega))
   rw[hr2] at hr
   cases hr
   exact .inr rfl
theorem yZ {ops:Array Oper}{rest:List Oper}{o:Oper}{a:Act}{Q:Exit→Act→World→Prop}(hgd:o.guard=none)(sl x:Operand)(t u:TypeId)
  (ho:o.op= .call {callee:=.builtin .append,args:=#[sl,x],argTypes:=#[t,u]})
  (e:TypeId) (i:TypeInfo) (ht:P.underlying t=some (.slice e)) (hu:P.underlying u=some .string) (hi:P.info? e=some i) (hz:i.zero=some (.int .u8 0))
  (hsize:i.size=1) (hby:i.bytes=1)
  (v:Value) (n:Nat) (xs:List Value) (hs:a.eval sl=v) (hown:w.ownsRow 0 e 1 v n xs) (s:ByteArray) (hx:a.eval x= .string s) (h63:n+s.size≤maxLen) (hbytes:n+s.size≤140737488355328) (h0:0<s.size)
  (h:∀v' w',w'.ownsRow 0 e 1 v' (n+s.size) (xs++Lib.strCells s)→w.grownBy w' v.ownBlock→(v'.ownBlock=v.ownBlock∨v'.ownBlock=some w.heap.size)→wpList P ops Q rest (a.put o.dst v') w'):wpList P ops Q (o::rest) a w:=by
 refine wpList_plain hgd fun K hK=>?_
 obtain⟨v',w',hr,h2,h3,h4⟩:=Lib.run_append_own_string (P:=P) w 0 t u o.type e i ht hu hi hz hsize hby v n xs hown s h63 hbytes (aX _)
 have hp:=CJ w t u o.type e i ht hu hi hz hsize hby v n xs hown s hbytes hr h0
 unfold Oper.wp execOp
 simp only[ho,resolve,invoke,builtin,Sem.run_bind,Sem.run_pure,Result.andThen_ok,List.map_toArray,bB,eD,hs,hx,hr]
 exact hK _ _ (h v' w' h2 h3 hp)
end
set_option maxHeartbeats 1000000 in
set_option maxRecDepth 100000 in
theorem M0 (b n:Nat)(s:ByteArray)(v:Value)(xs:List Value)(w w1:World)(hcc:Calls Tryz.prog 122 #[.pointer (some ⟨b,5,none⟩)] w fun e w'=>e= .returned (.tuple #[])∧w'=w1)
  (h6:w1.cell? ⟨b,6,none⟩=some v) (hfz:w1.frozen? ⟨b,6,none⟩=false) (hown:w1.ownsRow 0 5 1 v n xs) (hne:v.ownBlock≠some b) (hlen:n+s.size≤140737488355328) (hs0:0<s.size):
  Calls Tryz.prog 83 #[.pointer (some ⟨b,5,none⟩),.string s] w fun e w'=>
   ∃v' w2,e= .returned (.tuple #[.int .i64 s.size,.nilIface])∧w'=w2.setCell ⟨b,6,none⟩ v'∧w2.ownsRow 0 5 1 v' (n+s.size) (xs++Lib.strCells s)∧w1.grownBy w2 v.ownBlock∧(v'.ownBlock=v.ownBlock∨v'.ownBlock=some w1.heap.size):=by
 obtain⟨i0,hi,hz0,hz1,hz2⟩:=info_parts (show (Tryz.prog.info? 5).map (fun i=>(i.zero,i.size,i.bytes))=some (some (.int .u8 0),1,1) by kernel_rfl)
 have mixed:Tryz.prog.follows .mixedOrders=true:=by kernel_rfl
 go_enter Tryz.func83,Tryz.ntmps83
 go_wp2_with (fail)
 refine hcc.mono ?_
 rintro e w' ⟨rfl,rfl⟩
 dsimp only
 go_wp2_with (at_builtin;refine yZ _ rfl _ _ 24 9 rfl 5 i0 Tryz.underlying24 Tryz.underlying9 hi hz0 hz1 hz2 _ _ _ rfl hown s rfl ?c3 ?c4 ?c5 ?_)
 case c3=>unfold maxLen;omega
 case c4=>omega
 case c5=>omega
 intro v' w2 hown' hgrow hnil
 have hlt:b<w'.heap.size:=D3 h6
 have f1:w2.frozen? ⟨b,6,none⟩=false:=(World.frozen?_of_block (a:=⟨b,6,none⟩) (hgrow.block b hlt fun e=>hne e.symm)).trans hfz
 have d1:w2.cell? ⟨b,6,none⟩=some v:=(World.cell?_of_block (a:=⟨b,6,none⟩) (hgrow.block b hlt fun e=>hne e.symm)).trans h6
 obtain⟨ao,n',cap,rfl⟩:∃ao n' cap,v'= .slice ao n' cap:=by
  rcases hown'.2 with⟨hv,_⟩|⟨g,cap,cur,hv,_⟩
  ·exact⟨_,_,_,hv⟩
  ·exact⟨_,_,_,hv⟩
 go_wp2
 go_ret2
 exact⟨_,w2,rfl,rfl,hown',hgrow,hnil⟩
section
variable {P:Program} {w0:World} {S:SD} {A:Nat→Prop} {N:Nat} {ρ:Id→Pl} {t:List (Nat×D)} {h:HL} {a:Act} {w:World}
theorem Sim.regrow (s:Sim P w0 S A N ρ t h a w){n:Id}{E:TypeId}{zs:List Int}{k:IntKind}{h1:HL}{row:Option Nat}{g cap:Nat}{cur:Array Value}{w':World}(hn0:look h n=none)(hn:look h1 n=none)(hlv:∀b,Live h b→Live h1 b)
  (h1b:∀b x,look h1 b=some x→look h b=some x∨x= .gone) (hrow:∀r,row=some r→(¬okOf A ρ h w r)∧(S r∨w0.heap.size≤r)∧r<w.heap.size∧∀b x,look h1 b=some x→x.live=true→(ρ b).blk≠r)
  (hgr:w.grownBy w' row) (hg:row=some g∨w.heap.size≤g) (hh:w'.heap[g]?=some (.cells cur E (0,0))) (hsz:cur.size=cap*1) (hl:zs.length≤cap) (hcap:cap≤maxLen) (hE:(P.info? E).map (·.size)=some 1)
  (hz:∀i,i<zs.length→cur.getD i undef= .int k (zs.getD i 0)):
  Sim P w0 S A N (fun x=>if x=n then⟨g,cap,1,zs.length⟩ else ρ x) t (put n (.row E (zs.map (.int k))) h1) a w':=by
 have hgl:g<w'.heap.size:=by
  rcases ct g w'.heap.size with h'|h'
  ·exact h'
  ·rw[Array.getElem?_eq_none h'] at hh;cases hh
 have hgs:S g∨w0.heap.size≤g:=by
  rcases hg with e|e
  ·exact(hrow g e).2.1
  ·exact .inr (cz s.fr.size e)
 have hne:∀b,Live h b→b≠n:=fun b hb e=>by subst e;unfold Live at hb;rw[hn0] at hb;cases hb
 have hk:∀r,okOf A ρ h w r→w'.heap[r]?=w.heap[r]?:=fun r hr=>hgr.block r hr.1.1 fun e=>(hrow r e.symm).1 hr
 have hgo:∀r,okOf A ρ h w r→r≠g:=fun r hr e=>by
  subst e
  rcases hg with e|e
  ·exact(hrow r e).1 hr
  ·have:=hr.1.1;omega
 have hmut:∀b x,look h1 b=some x→x.mutable=true→look h b=some x:=fun b x hx hm=>by
  rcases h1b b x hx with q|q
  ·exact q
  ·subst q;cases hm
 refine s.step (s.fr.andThen (T:=fun r=>row=some r) ⟨hgr.os,hgr.tape,hgr.output,hgr.size,fun i hi hn=>hgr.block i hi fun e=>hn e.symm⟩ fun i hi e=>(hrow i e).2.1) (fun b hb=>⟨?_,if_neg (hne b hb)⟩) (fun r hr=>⟨⟨⟨lh hr.1.1 hgr.size,hr.1.2⟩,fun b x hx hm=>?_⟩,hk r hr⟩) (fun b x hx=>?_) hgr.size fun b1 b2 x x' hx hx' hl1 hl2 he=>?_
 ·have:=hlv b hb
  unfold Live at this⊢
  rw[af]
  split
  ·rfl
  ·exact this
 ·rw[af] at hx
  dsimp only
  by_cases e:b=n
  ·rw[if_pos e]
   exact(hgo r hr).symm
  ·rw[if_neg e] at hx⊢
   exact hr.2 b x (hmut b x hx hm) hm
 ·rw[af] at hx
  by_cases e:b=n
  ·rw[if_pos e] at hx
   obtain rfl:=ar hx
   subst e
   refine .inr ⟨⟨cur,?_⟩,fun _=>?_⟩
   ·simp only[if_true]
    refine⟨hh,hsz,by simp,hl,hcap,Nat.one_pos,hE,fun e he=>?_,fun i j hi hj=>?_⟩
    ·obtain⟨z,-,rfl⟩:=aD.1 he
     exact⟨rfl,rfl⟩
    ·obtain rfl:j=0:=by omega
     rw[az] at hi
     have e1:((zs.map (D.int k)).getD i .undef).cells.getD 0 .undef= .int k (zs.getD i 0):=by
      have e2:(zs.map (D.int k)).getD i .undef= .int k zs[i]:=by rw[aq,bf,am hi];rfl
      have e3:zs.getD i 0=zs[i]:=by rw[aq,am hi];rfl
      rw[e2,e3]
      rfl
     rw[e1,iX,jK,hz i hi]
     exact C.int _ _
   ·simp only[if_true]
    exact⟨hgl,hgs⟩
  ·rw[if_neg e] at hx
   rcases h1b b x hx with q|q
   ·refine .inl ⟨q,fun hm=>?_⟩
    have ho:=s.own b x q (by cases x<;>first|rfl|cases hm)
    refine hgr.block _ ho.1 fun e2=>?_
    exact(hrow _ e2.symm).2.2.2 b x hx (by cases x<;>first|rfl|cases hm) rfl
   ·subst q
    exact .inr ⟨trivial,fun h=>by cases h⟩
 ·rw[af] at hx hx'
  have hnb:∀b x,look h1 b=some x→x.live=true→(ρ b).blk≠g:=fun b x hx hlx=>by
   rcases hg with e|e
   ·exact(hrow g e).2.2.2 b x hx hlx
   ·have q:look h b=some x:=by
     rcases h1b b x hx with q|q
     ·exact q
     ·subst q;cases hlx
    have:=(s.own b x q hlx).1
    omega
  by_cases e1:b1=n
  ·by_cases e2:b2=n
   ·rw[e1,e2]
   ·rw[if_neg e2] at hx'
    simp only[if_pos e1,if_neg e2] at he
    exact absurd he.symm (hnb b2 x' hx' hl2)
  ·rw[if_neg e1] at hx
   by_cases e2:b2=n
   ·simp only[if_neg e1,if_pos e2] at he
    exact absurd he (hnb b1 x hx hl1)
   ·rw[if_neg e2] at hx'
    simp only[if_neg e1,if_neg e2] at he
    have q1:look h b1=some x:=by
     rcases h1b b1 x hx with q|q
     ·exact q
     ·subst q;cases hl1
    have q2:look h b2=some x':=by
     rcases h1b b2 x' hx' with q|q
     ·exact q
     ·subst q;cases hl2
    exact s.inj b1 b2 x x' q1 q2 hl1 hl2 he
end
def fm (o:List UInt8):List Int:=o.map fun c=>(c.toNat:Int)
theorem kP (o:List UInt8):(fm o).length=o.length:=by simp[fm]
theorem yo (a b:List UInt8):fm (a++b)=fm a++fm b:=by simp[fm]
theorem OU (l:List UInt8):Lib.strCells (bs l)=(fm l).map (Value.int .u8):=by simp[Lib.strCells,fm]
theorem Eb {h h1:HL}{b n:Id}{T:TypeId}{cs:List D}{o l:List UInt8}(hb:look h b=some (.var T cs))(hc7:6<cs.length)(hl0:l≠[])(hlen:o.length+l.length≤1000000000)(hn:look h1 n=none)(hn0:look h n=none)(hlv:∀b,Live h b→Live h1 b)
  (h1b:∀b x,look h1 b=some x→look h b=some x∨x= .gone) (hbb:look h1 b=some (.var T cs)) (hbn:b≠n)
  (hcc:∀(w:World) (A:Nat→Prop) (ρ:Id→Pl),Sim Tryz.prog w ⟨qJ ρ h,[]⟩ A 0 ρ [] h er w→∃(w1:World) (cs':List D) (v:Value) (xs:List Value),True∧
   Calls Tryz.prog 122 #[.pointer (some ⟨(ρ b).blk,5,none⟩)] w (fun e w'=>e= .returned (.tuple #[])∧w'=w1)∧
   cs'.length=cs.length∧cs'.set 6 (.ref n)=(cs.set 5 (.ptr b 5)).set 6 (.ref n)∧Sim Tryz.prog w ⟨qJ ρ h,[]⟩ A 0 ρ [] (put b (.var T cs') h) er w1∧w1.cell? ⟨(ρ b).blk,6,none⟩=some v∧w1.ownsRow 0 5 1 v o.length xs∧xs=(fm o).map (Value.int .u8)∧
   (∀r,v.ownBlock=some r→(¬okOf A ρ (put b (.var T cs') h) w1 r)∧(qJ ρ h r∨w.heap.size≤r)∧r<w1.heap.size∧∀b' x,look (put b (.var T cs') h1) b'=some x→x.live=true→(ρ b').blk≠r)):
  ∀hout:HL,(∀b',look hout b'=look (put b (.var T ((cs.set 5 (.ptr b 5)).set 6 (.ref n))) (put n (.row 5 ((fm (o++l)).map (.int .u8))) h1)) b')→Con Tryz.prog 83 [.ptr b 5,.str (bs l)] h (.tup [.int .i64 l.length,.nili]) hout:=by
 intro hout hh
 refine⟨⟨_,Tryz.func83,rfl,rfl⟩,fun w A ρ vs s hl hcv=>?_⟩
 obtain⟨v0,v1,rfl⟩:∃v0 v1,vs= #[v0,v1]:=by
  have hl:2=vs.size:=hl
  refine⟨vs[0],vs[1],Array.ext (by simp;omega) fun i h1 h2=>?_⟩
  match i,h2 with
  |0,_=>rfl
  |1,_=>rfl
 obtain⟨hlb,e0⟩:=(hcv 0 (Nat.zero_lt_two)).ptr_inv
 have e0:v0= .pointer (some ⟨(ρ b).blk,5,none⟩):=e0
 have e1:C ρ (Live h) (okOf A ρ h w) w (.str (bs l)) v1:=hcv 1 (Nat.one_lt_two)
 obtain rfl:=e1.str_inv
 subst e0
 obtain⟨w1,cs',v,xs,-,hc1,hcl,hcs,s1,h6,hown,hxs,hrow⟩:=hcc w A ρ s
 have hb1:look (put b (.var T cs') h) b=some (.var T cs'):=by rw[af,if_pos rfl]
 have hk6:cs'[6]?=some (cs'.getD 6 .undef):=by rw[aq,am (by omega)];rfl
 obtain⟨-,hfz,-,-,-⟩:=s1.atK hb1 hk6
 have hne:v.ownBlock≠some (ρ b).blk:=fun e=>(hrow _ e).2.2.2 b (.var T cs') (by rw[af,if_pos rfl]) rfl rfl
 have hlp:0<l.length:=List.length_pos_iff.2 hl0
 refine(M0 (ρ b).blk o.length (bs l) v xs w w1 hc1 h6 hfz hown hne (by show o.length+l.length≤_;omega) hlp).mono ?_
 rintro e w' ⟨v',w2,rfl,rfl,hown2,hgr,hpl⟩
 have hsz:(bs l).size=l.length:=rfl
 rw[hsz] at hown2
 obtain⟨hxl,hd⟩:=hown2
 rcases hd with⟨rfl,e⟩|⟨g,cap,cur,rfl,-,hg,hnc,hcm,hcs2,htake⟩
 ·omega
 ·have hg2:v.ownBlock=some g∨w1.heap.size≤g:=by
   rcases hpl with e|e
   ·exact .inl e.symm
   ·exact .inr (by have:g=w1.heap.size:=ar e;omega)
  have hzl:(fm (o++l)).length=o.length+l.length:=by rw[kP,aO]
  have hput:∀b' x,look (put b (.var T cs') h1) b'=some x→look (put b (.var T cs') h) b'=some x∨x= .gone:=fun b' x hx=>by
   rw[af] at hx⊢
   split at hx
   ·rename_i e
    rw[if_pos e]
    exact .inl hx
   ·rename_i e
    rw[if_neg e]
    exact h1b b' x hx
  have s2:=s1.regrow (n:=n) (E:=5) (zs:=fm (o++l)) (k:=.u8) (h1:=put b (.var T cs') h1) (row:=v.ownBlock) (g:=g) (cap:=cap) (cur:=cur) (w':=w2)
   (by rw[af,if_neg (cm hbn)];exact hn0) (by rw[af,if_neg (cm hbn)];exact hn) (fun b' hb'=>by
    unfold Live at hb'⊢
    rw[af] at hb'⊢
    split
    ·rfl
    ·rename_i e
     rw[if_neg e] at hb'
     exact hlv b' hb') hput hrow hgr hg2 hg hcs2 (by omega) hcm (by kernel_rfl) (fun i hi=>by
    have h1:(cur.toList.take ((o.length+l.length)*1))[i]?=some (.int .u8 ((fm (o++l)).getD i 0)):=by
     rw[htake,hxs,OU,←cg,←yo,bf,aq,am hi]
     rfl
    rw[List.getElem?_take_of_lt (by omega)] at h1
    rw[bL,←Array.getElem?_toList,h1]
    rfl)
  have hnn:∀b',b'≠n→(if b'=n then(⟨g,cap,1,(fm (o++l)).length⟩:Pl) else ρ b')=ρ b':=fun b' e=>if_neg e
  have s3:=s2.cellK (b:=b) (T:=T) (cs:=cs') (k:=6) (d:=.ref n) (v:=.slice (some ⟨g,0,none⟩) (fm (o++l)).length cap) (by rw[af,if_neg hbn,af,if_pos rfl]) (by omega) (by
   have:C (fun x=>if x=n then(⟨g,cap,1,(fm (o++l)).length⟩:Pl) else ρ x) (Live (put n (.row 5 ((fm (o++l)).map (.int .u8))) (put b (.var T cs') h1))) (okOf A (fun x=>if x=n then(⟨g,cap,1,(fm (o++l)).length⟩:Pl) else ρ x) (put n (.row 5 ((fm (o++l)).map (.int .u8))) (put b (.var T cs') h1)) w2) w2 (.ref n) _:=C.ref n (by unfold Live;rw[af,if_pos rfl];rfl)
   simp only[if_true] at this
   exact this)
  simp only[if_neg hbn] at s3
  have hv:Value.slice (some ⟨g,0,none⟩) (o.length+l.length) cap= .slice (some ⟨g,0,none⟩) (fm (o++l)).length cap:=by rw[hzl]
  rw[hv]
  refine⟨_,_,rfl,fun b' hb'=>⟨?_,?_⟩,s3.congr (fun _=>rfl) (fun b'=>(hh b').trans ?_),.tup _ _ rfl fun i hi=>?_⟩
  ·exact if_neg fun e=>by subst e;unfold Live at hb';rw[hn0] at hb';cases hb'
  ·unfold Live
   rw[hh,af]
   split
   ·rfl
   ·rw[af]
    split
    ·rfl
    ·exact hlv b' hb'
  ·rw[hcs]
   simp only[af]
   by_cases e1:b'=b
   ·rw[if_pos e1,if_pos e1]
   ·rw[if_neg e1,if_neg e1]
    by_cases e2:b'=n
    ·rw[if_pos e2,if_pos e2]
    ·rw[if_neg e2,if_neg e2,if_neg e1]
  ·match i,hi with
   |0,_=>exact C.int _ _
   |1,_=>exact .pure .nili
end Go.Proofs.YtpefhoohfkeflaaGreatDoor.Am
namespace Go.Proofs.YtpefhoohfkeflaaGreatDoor.Am
open Go Go.RowKit
theorem HG {h:HL}{b b2 n:Id}{T:TypeId}{cs:List D}{o l:List UInt8}(hb:look h b=some (.var T cs))(hc7:6<cs.length)(h5:cs[5]?=some (.ptr b 5))(h6:cs[6]?=some (.ref b2))(hr:look h b2=some (.row 5 ((fm o).map (.int .u8))))(hl0:l≠[])(hlen:o.length+l.length≤1000000000)
  (hn0:look h n=none) (hb2:b≠b2):
  ∀hout:HL,(∀b',look hout b'=look (put b (.var T ((cs.set 5 (.ptr b 5)).set 6 (.ref n))) (put n (.row 5 ((fm (o++l)).map (.int .u8))) (put b2 .gone h))) b')→Con Tryz.prog 83 [.ptr b 5,.str (bs l)] h (.tup [.int .i64 l.length,.nili]) hout:=by
 have hbn:b≠n:=fun e=>by rw[e,hn0] at hb;cases hb
 have hn2:n≠b2:=fun e=>by rw[e,hr] at hn0;cases hn0
 refine Eb hb hc7 hl0 hlen (by rw[af,if_neg hn2];exact hn0) hn0 (fun b' hb'=>hb'.put) (fun b' x hx=>?_) (by rw[af,if_neg hb2];exact hb) hbn fun w A ρ s=>?_
 ·rw[af] at hx
  split at hx
  ·exact .inr (ar hx).symm
  ·exact .inl hx
 ·obtain⟨-,-,v5,c5,hc5⟩:=s.atK hb h5
  obtain⟨-,rfl⟩:=hc5.ptr_inv
  obtain⟨-,-,v6,c6,hc6⟩:=s.atK hb h6
  obtain⟨-,rfl⟩:=hc6.ref_inv
  have hset:cs.set 5 (.ptr b 5)=cs:=by
   obtain⟨q1,q2⟩:=aQ.1 h5
   rw[←q2,List.set_getElem_self]
  have hlk:∀b',look (put b (.var T cs) h) b'=look h b':=fun b'=>by
   rw[af]
   split
   ·rename_i e;rw[e,hb]
   ·rfl
  have hown:=s.own b2 _ hr rfl
  obtain⟨c,g1,g2,g3,g4,g5,g6,g7,g8,g9⟩:=s.blk b2 _ hr
  have hsz:(ρ b2).sz=1:=by
   have:(Tryz.prog.info? 5).map (·.size)=some 1:=by kernel_rfl
   rw[this] at g7
   exact(ar g7).symm
  rw[hsz] at g2 g9
  rw[az,kP] at g3
  have hci:∀i (hi:i<o.length),c[i]?=some (.int .u8 o[i].toNat):=fun i hi=>by
   have q:=g9 i 0 (by rw[az,kP];exact hi) Nat.one_pos
   have e1:((fm o).map (D.int .u8)).getD i .undef= .int .u8 o[i].toNat:=by
    rw[aq,bf,fm,bf,am hi];rfl
   rw[e1] at q
   have q2:C ρ (Live h) (okOf A ρ h w) w (.int .u8 o[i].toNat) (c.getD (i*1+0) undef):=q
   have q3:=q2.int_inv
   have hic:i<c.size:=by omega
   rw[iX,jK,bL,eU hic,eg] at q3
   rw[eU hic,q3]
  refine⟨w,cs,_,(fm o).map (Value.int .u8),trivial,A1 (ρ b).blk 5 w c5,rfl,by rw[hset],s.congr (fun _=>rfl) hlk,c6,⟨by rw[az,kP,iX],.inr ⟨_,_,c,by rw[←g3],aX _,g1,by omega,g5,g2,?_⟩⟩,rfl,fun r e=>?_⟩
  ·refine mJ fun i=>?_
   rw[iX]
   by_cases hi:i<o.length
   ·rw[List.getElem?_take_of_lt hi,Array.getElem?_toList,hci i hi,fm,ep,bf,am hi]
    rfl
   ·rw[dP (by simp;omega),dP (by rw[az,kP];omega)]
  ·have e:(ρ b2).blk=r:=ar e
   subst e
   refine⟨fun hk=>hk.2 b2 _ (by rw[hlk];exact hr) rfl rfl,.inl ⟨b2,_,hr,rfl,rfl⟩,hown.1,fun b' x hx hlx e=>?_⟩
   rw[af] at hx
   by_cases e1:b'=b
   ·rw[e1] at e
    exact hb2 (s.inj b b2 _ _ hb hr rfl rfl e)
   ·rw[if_neg e1,af] at hx
    by_cases e2:b'=b2
    ·rw[if_pos e2] at hx
     obtain rfl:=ar hx
     cases hlx
    ·rw[if_neg e2] at hx
     exact e2 (s.inj b' b2 _ _ hx hr hlx rfl e)
theorem HF {h:HL}{b n:Id}{cs:List D}{l:List UInt8}(hb:look h b=some (.var 43 cs))(hc7:cs.length=7)(h5:cs[5]?=some .nilp)(h6:cs[6]?=some .nils)(hl0:l≠[])(hlen:l.length≤1000000000)(hn0:look h n=none):
  ∀hout:HL,(∀b',look hout b'=look (put b (.var 43 ((cs.set 5 (.ptr b 5)).set 6 (.ref n))) (put n (.row 5 ((fm ([]++l)).map (.int .u8))) h)) b')→Con Tryz.prog 83 [.ptr b 5,.str (bs l)] h (.tup [.int .i64 l.length,.nili]) hout:=by
 have hbn:b≠n:=fun e=>by rw[e,hn0] at hb;cases hb
 refine Eb (o:=[]) hb (by omega) hl0 (by simpa using hlen) hn0 hn0 (fun b' hb'=>hb') (fun b' x hx=>.inl hx) hb hbn fun w A ρ s=>?_
 obtain⟨hsh,hfz,v5,c5,hc5⟩:=s.atK hb h5
 obtain rfl:=hc5.nilp_inv
 obtain⟨-,-,v6,c6,hc6⟩:=s.atK hb h6
 obtain rfl:=hc6.nils_inv
 rw[hc7] at hsh
 have hlb:Live h b:=by unfold Live;rw[hb];rfl
 have s1:=s.cellK hb (k:=5) (by omega) (C.ptr b 5 hlb)
 have h61:(cs.set 5 (.ptr b 5))[6]?=some .nils:=by rw[n8 (by decide)];exact h6
 obtain⟨-,-,v6,c62,hc62⟩:=s1.atK (by rw[af,if_pos rfl]) h61
 obtain rfl:=hc62.nils_inv
 exact⟨_,cs.set 5 (.ptr b 5),_,[],trivial,D2 (ρ b).blk w c5 hsh hfz,by simp,rfl,s1,c62,World.ownsRow_nil _ _ _ _,rfl,fun r e=>by cases e⟩
abbrev dz (w:Wrl):VH:=[(4,.var 43 [.lst (.int .i64) w.com,.lst (.int .i64) w.lead,.int .i64 w.bad,.lst (.lst .vtx) w.views,.lst .ppl w.props,.nilp,.nils])]
abbrev bN (w:Wrl)(o:List UInt8):VH:=[(4,.var 43 [.lst (.int .i64) w.com,.lst (.int .i64) w.lead,.int .i64 w.bad,.lst (.lst .vtx) w.views,.lst .ppl w.props,.ptr 4 5,.ref 5]),(5,.row 5 (.int .u8) (fm o))]
abbrev jN (w:Wrl)(o:List UInt8):VH:=[(4,.var 43 [.lst (.int .i64) w.com,.lst (.int .i64) w.lead,.int .i64 w.bad,.lst (.lst .vtx) w.views,.lst .ppl w.props,.ptr 4 5,.ref 6]),(5,.gone),(6,.row 5 (.int .u8) (fm o))]
theorem Nx (w:Wrl)(o:List UInt8):ag Tryz.prog 122 [.ptr 4 5] (bN w o) (.tup []) (bN w o):=
 HC (h:=toH (bN w o)) (b:=(4,0)) rfl rfl
theorem NG (w:Wrl)(o l:List UInt8)(hl0:l≠[])(hlen:o.length+l.length≤1000000000):ag Tryz.prog 83 [.ptr 4 5,.str (bs l)] (bN w o) (.tup [.int .i64 l.length,.nili]) (jN w (o++l)):=by
 refine HG (h:=toH (bN w o)) (b:=(4,0)) (b2:=(5,0)) (n:=(6,0)) rfl (show 6<7 by decide) rfl rfl rfl hl0 hlen rfl (by decide) _ fun b'=>?_
 exact congrArg (fun z=>look z b') rfl
theorem NF (w:Wrl)(l:List UInt8)(hl0:l≠[])(hlen:l.length≤1000000000):ag Tryz.prog 83 [.ptr 4 5,.str (bs l)] (dz w) (.tup [.int .i64 l.length,.nili]) (bN w l):=by
 refine HF (h:=toH (dz w)) (b:=(4,0)) (n:=(5,0)) rfl rfl rfl rfl hl0 hlen rfl _ fun b'=>?_
 exact congrArg (fun z=>look z b') rfl
end Go.Proofs.YtpefhoohfkeflaaGreatDoor.Am
namespace Go.Proofs.YtpefhoohfkeflaaGreatDoor.Am
open Go Go.Shelf Go.RowKit
attribute [local irreducible] Mk ck Ari fK mQ jM cd cX i7 fC At ag
set_option maxRecDepth 10000
theorem ja {P : Program} {f : FuncId} {ds : List D} {r : D} (hf : ∃ fn, P.funcs[f]? = some fn ∧ fn.body.isNone = false ∧ (fn.name == "runtime.NumGoroutine") = false)
  (h:∀(w:World) (ok:Nat→Prop) (ρ:Id→Pl) (vs:Array Value),ds.length=vs.size→(∀i,i<ds.length→C ρ (fun _=>False) ok w (ds.getD i .undef) (vs.getD i undef))→
   Calls P f vs w fun e w'=>∃u,e= .returned u∧Below w.heap.size w w'∧∀ok',Rep ok' w' r u):Con P f ds [] r []:=by
 refine⟨hf,fun w A ρ vs hs hl hc=>?_⟩
 have hno:∀b,¬Live [] b:=fun b h=>by cases h
 have hc':∀i,i<ds.length→C ρ (fun _=>False) (okOf A ρ [] w) w (ds.getD i .undef) (vs.getD i undef):=fun i hi=>(hc i hi).mono (fun b hb=>absurd hb (hno b)) (fun b hb=>⟨hb,rfl⟩)
 refine Calls.mono (h w (okOf A ρ [] w) ρ vs hl hc') ?_
 rintro e w' ⟨u,rfl,hb,hr⟩
 refine⟨u,ρ,rfl,fun b hb=>absurd hb (hno b),⟨hs.base,hs.inS,⟨hb.os,hb.tape,hb.output,hb.size,fun i hi _=>hb.block i hi⟩,rfl,rfl,?_,?_,?_,?_,hs.gl⟩,.pure (hr _)⟩
 ·intro k d h;cases h
 ·intro k d h;cases h
 ·intro k d h;cases h
 ·intro b b' x x' h;cases h
theorem m6 {nb:Nat}{α β:Type}{xs:List α}{ys:List β}(h1:xs.length≤1000000)(h2:ys.length≤1000000)(hb:nb≤100):lw nb (xs.length+ys.length):=by
 have:(xs.length+ys.length)*nb≤2000000*100:=Nat.mul_le_mul (by omega) hb
 unfold lw
 omega
def z6:Go.Shelf.Ren:=⟨fun|15=>74|n=>n,fun|22=>27|3=>3|4=>4|n=>n,fun|n=>n⟩
theorem FB:Go.Proofs.Lays2.n15 Tryz.prog z6 where
  mixed:=by kernel_rfl
  f15:=Tryz.func74.trans (congrArg some (by kernel_rfl))
  t3:=Tryz.underlying3
  a3:=Tryz.isAgg3
  z3:=Tryz.sizeOf3
  v3:=Tryz.zeroValue3
  t4:=Tryz.underlying4
  a4:=Tryz.isAgg4
  z4:=Tryz.sizeOf4
  v4:=Tryz.zeroValue4
  t22:=Tryz.underlying27
  a22:=Tryz.isAgg27
  z22:=Tryz.sizeOf27
  v22:=Tryz.zeroValue27
  i3:=by kernel_rfl
theorem Ik (t:Ty):ag Tryz.prog 74 [.lst t []] [] (.lst t []) []:=by
 unfold ag
 refine ja ⟨_,Tryz.func74,rfl,rfl⟩ fun w ok ρ vs hl hc=>?_
 obtain⟨v,rfl⟩:∃v,vs= #[v]:=by
  have:vs.size=1:=hl.symm
  exact⟨vs[0],Array.ext (by simp[this]) fun i h1 h2=>by
   have:i=0:=by simpa using h2
   subst this;rfl⟩
 have h0:C ρ (fun _=>False) ok w (.lst []) v:=hc 0 (Nat.one_pos)
 have h1:=h0.lst_inv
 have fin:∀(w':World) (a:Option Addr) (cap:Nat),(a=none→cap=0)→cap≤maxLen→∀ok',Rep ok' w' ((V.lst t []).toD) (.slice a 0 cap):=fun w' a cap h1 h2 ok'=>.none a cap h1 h2
 obtain⟨a,cap,rfl,ha⟩:∃a cap,v= .slice a 0 cap∧(a=none→cap=0):=by
  cases h1 with
  |none a cap ha hcap=>exact⟨a,cap,rfl,ha⟩
  |lst l n b off cap f hn=>exact⟨_,cap,by rw[←hn];rfl,fun h=>by cases h⟩
 cases a with
 |none=>
  refine Calls.mono (Any.slices_Clone_int_nil FB 0 cap w) ?_
  rintro e w' ⟨rfl,rfl⟩
  exact⟨_,rfl,Below.refl _ _,fin _ _ _ (fun _=>rfl) (aX _)⟩
 |some a=>
  refine Calls.mono (Any.slices_Clone_int_zero FB a cap w) ?_
  rintro e w' ⟨v',rfl,ho,_,hb⟩
  refine⟨v',rfl,hb,?_⟩
  rcases ho.2 with⟨rfl,_⟩|⟨g,cap',cur,rfl,_,_,_,h3,_⟩
  ·exact fin _ _ _ (fun _=>rfl) (aX _)
  ·exact fin _ _ _ (fun h=>by cases h) h3
theorem Fd (l:List Int)(hb:l.length≤1000000):ag Tryz.prog 74 [.lst (.int .i64) l] [] (.lst (.int .i64) l) []:=by
 cases l with
 |nil=>exact Ik _
 |cons x l=>
  refine ab aj Tryz.func74 rfl rfl true 0 4 rfl rfl rfl rfl fun K hK hb1 hb2=>?_;simp only[ae,enc,Nat.reduceAdd]
  (repeat' first|refine st ?_|refine sa fun xe hxe=>?_|refine sb (fun hq=>?_) fun hq=>?_|exact aa)
  refine gj (m6 (aX _) hb (by decide)) ?_
  (repeat' first|refine st ?_|refine sa fun xe hxe=>?_|refine sb (fun hq=>?_) fun hq=>?_|exact aa)
  refine dy ?_
  (conv=>whnf)
  exact⟨rfl,rfl⟩
theorem Fc (l:List Int)(hl:l≠[])(hb:l.length≤1000000):ag Tryz.prog 78 [.lst (.int .i64) l] [] (.lst (.int .i64) l) []:=by
 cases l with
 |nil=>exact absurd rfl hl
 |cons x l=>
  refine ab aj Tryz.func78 rfl rfl true 0 4 rfl rfl rfl rfl fun K hK hb1 hb2=>?_;simp only[ae,enc,Nat.reduceAdd]
  (repeat' first|refine st ?_|refine sa fun xe hxe=>?_|refine sb (fun hq=>?_) fun hq=>?_|exact aa)
  refine gj (m6 (aX _) hb (by decide)) ?_
  (repeat' first|refine st ?_|refine sa fun xe hxe=>?_|refine sb (fun hq=>?_) fun hq=>?_|exact aa)
  refine dy ?_
  (conv=>whnf)
  exact⟨rfl,rfl⟩
end Go.Proofs.YtpefhoohfkeflaaGreatDoor.Am
namespace Go.Proofs.YtpefhoohfkeflaaGreatDoor.Am
open Go
def leaS (c l:List Int):Bool:=eH l.length (fun i=>dB c (l.getD i 0)) && decide ((l.length:Int)≤15)
theorem bS {c l:List Int}:leaS c l=true↔(∀x∈l,0≤x∧x<c.length)∧l.length≤15:=by
 simp only[leaS,aB,bD,dB,aC,decide_eq_true_eq]
 constructor
 ·rintro⟨h1,h2⟩
  refine⟨fun x hx=>?_,by omega⟩
  obtain⟨i,hi,rfl⟩:=ed (d:=0) hx
  have:=h1 i hi
  omega
 ·rintro⟨h1,h2⟩
  exact⟨fun i hi=>by have:=h1 _ (fj (d:=0) hi);omega,by omega⟩
def y6 (c:List Int):Int:=(n6 c-1).tdiv 3
theorem sC {c:List Int}(h:comV c=true):0≤y6 c∧y6 c≤20∧3*y6 c<n6 c:=by
 have h1:=jz h
 unfold y6
 rw[jH (by omega)]
 omega
def badS (c:List Int)(b:Int):Bool:=j5 b (-1) (c.length-1) && (decide (b<0)||decide (c.getD b.toNat 0≤y6 c))
theorem kw {c:List Int}{b:Int}:badS c b=true↔b= -1∨((0≤b∧b<c.length)∧c.getD b.toNat 0≤y6 c):=by
 simp only[badS,aB,aC,cK,decide_eq_true_eq]
 omega
def iP (c l:List Int)(b:Int):Bool:=comV c && (leaS c l && badS c b)
def w0:Wrl:=⟨[],[],0,[],[]⟩
def L2 (c l:List Int)(b:Int):Wrl:=⟨c,l,b,List.replicate c.length [],[]⟩
def lb (a b:Vtx):Bool:=a.round==b.round && (a.author==b.author && (a.digest==b.digest && a.parents==b.parents))
theorem pn {a b:Vtx}:lb a b=true↔a=b:=by
 obtain⟨r,x,ps,d⟩:=a
 obtain⟨r2,x2,ps2,d2⟩:=b
 simp only[lb,aB,beq_iff_eq,Vtx.mk.injEq]
 constructor
 ·rintro⟨h1,h2,h3,h4⟩;exact⟨h1,h2,h4,h3⟩
 ·rintro⟨h1,h2,h3,h4⟩;exact⟨h1,h2,h4,h3⟩
theorem G5 (a:Vtx):lb a a=true:=pn.2 rfl
def slt (a b:Vtx):Bool:=a.round==b.round && a.author==b.author
theorem pe {a b:Vtx}:slt a b=true↔a.round=b.round∧a.author=b.author:=by simp[slt]
theorem yI (a b:Vtx):slt a b=slt b a:=by
 rw[eo,pe,pe]
 constructor<;>rintro⟨h1,h2⟩<;>exact⟨h1.symm,h2.symm⟩
def lQ (bad:Int)(a b:List Int):Bool:=a.any fun m=>m !=bad && b.contains m
theorem l8 {bad:Int}{a b:List Int}:lQ bad a b=true↔∃m,m≠bad∧m∈a∧m∈b:=by
 simp only[lQ,fU,aB,bne_iff_ne,iF]
 constructor
 ·rintro⟨m,h1,h2,h3⟩;exact⟨m,h2,h1,h3⟩
 ·rintro⟨m,h1,h2,h3⟩;exact⟨m,h2,h1,h3⟩
theorem CM (bad:Int)(a b:List Int):lQ bad a b=lQ bad b a:=by
 rw[eo,l8,l8]
 constructor<;>rintro⟨m,h1,h2,h3⟩<;>exact⟨m,h1,h3,h2⟩
def fitP (bad:Int)(p q:Ppl):Bool:=!slt p.v q.v||(!lb p.v q.v && (p.v.author==bad && !lQ bad p.members q.members))
theorem pM (bad:Int)(p q:Ppl):fitP bad p q=fitP bad q p:=by
 unfold fitP
 rw[yI,CM]
 cases h:slt q.v p.v
 ·rfl
 ·have h1:=pe.1 h
  have h2:lb p.v q.v=lb q.v p.v:=by
   rw[eo,pn,pn]
   exact⟨Eq.symm,Eq.symm⟩
  rw[h2,h1.2]
def p0:Ppl:=⟨v0,[]⟩
def oneP (c:List Int)(p:Ppl):Bool:=vtxS c p.v && d8 c p.members
def gC (c:List Int)(bad:Int)(ps:List Ppl)(i:Nat):Bool:=oneP c (ps.getD i p0) && eH i (fun k=>fitP bad (ps.getD i p0) (ps.getD k p0))
def ia (c:List Int)(bad:Int)(ps:List Ppl):Bool:=eH ps.length (gC c bad ps) && decide ((ps.length:Int)≤220)
def don (c:List Int)(p:Ppl):Bool:=decide (quo c≤fo c p.members)
def knw (c:List Int)(ps:List Ppl)(v:Vtx):Bool:=ps.any fun p=>don c p && lb p.v v
def pp (c:List Int)(ps:List Ppl)(g:List Vtx):Bool:=g.all (knw c ps) && graS c g
def gt (c:List Int)(bad:Int)(ps:List Ppl)(gs:List (List Vtx)):Bool:=eH gs.length fun i=>pp c ps (gs.getD i []) && (!((i:Int)==bad)||(gs.getD i []).isEmpty)
def kg (bad:Int)(gs:List (List Vtx))(p:Ppl)(m:Nat):Bool:=!((m:Int) !=bad && ((m:Int)==p.v.author||p.members.contains (m:Int)))||parOK (gs.getD m []) p.v
def pT (bad:Int)(ps:List Ppl)(gs:List (List Vtx)):Bool:=ps.all fun p=>eH gs.length (kg bad gs p)
def lg (w:Wrl):Bool:=iP w.com w.lead w.bad && ((w.views.length==w.com.length) && (ia w.com w.bad w.props && (gt w.com w.bad w.props w.views && pT w.bad w.props w.views)))
def aT (g:List Vtx):List (Option Vtx):=g.foldl (fun t v=>t.set (v.round*7+v.author).toNat (some v)) (List.replicate 217 none)
theorem jj (g:List Vtx)(v:Vtx):aT (g++[v])=(aT g).set (v.round*7+v.author).toNat (some v):=by simp[aT]
theorem ef (g:List Vtx):(aT g).length=217:=by
 induction g using cq with
 |h0=>exact iG
 |h l x ih=>rw[jj,jI,ih]
theorem rR {g:List Vtx}(hg:∀v∈g,jq v){r a:Int}(hr:0≤r∧r≤30)(ha:0≤a∧a≤6):((aT g).getD (r*7+a).toNat none).isSome=d7 g r a:=by
 induction g using cq with
 |h0=>
  have:(aT []).getD (r*7+a).toNat none=none:=by
   simp only[aT,List.foldl_nil,aq,mL]
   split<;>rfl
  rw[this]
  rfl
 |h l x ih=>
  have ih:=ih fun v hv=>hg v (bi.2 (.inl hv))
  obtain⟨⟨x1,x2⟩,x3,x4⟩:=hg x (by simp)
  have hl:=ef l
  have hh:d7 (l++[x]) r a=(d7 l r a||fl r a x):=by simp[d7]
  rw[jj,hh,aq,dx]
  by_cases he:x.round=r∧x.author=a
  ·have:fl r a x=true:=by simp[fl,he.1,he.2]
   rw[this,Bool.or_true,if_pos (by rw[he.1,he.2]),if_pos (by omega)]
   rfl
  ·have:fl r a x=false:=by
    rw[cj]
    intro h
    simp only[fl,aB,beq_iff_eq,decide_eq_true_eq] at h
    exact he (by omega)
   rw[this,kq,if_neg (by omega),←aq,ih]
def qY (tab:List (Option Vtx))(v:Vtx):Bool:=v.parents.all fun p=>(tab.getD ((v.round-1)*7+p).toNat none).isSome
theorem r7 {α:Type}{l:List α}{p q:α→Bool}(h:∀x∈l,p x=q x):l.all p=l.all q:=by
 rw[eo,aM,aM]
 exact⟨fun h2 x hx=>by rw[←h x hx];exact h2 x hx,fun h2 x hx=>by rw[h x hx];exact h2 x hx⟩
theorem Cu {g:List Vtx}(hg:∀v∈g,jq v){v:Vtx}(hr:v.parents≠[]→1≤v.round∧v.round≤31)(hp:∀p∈v.parents,0≤p∧p≤6):qY (aT g) v=parOK g v:=
 r7 fun p h=>by
  have:=hr (List.ne_nil_of_mem h)
  exact rR hg (by omega) (hp p h)
def M7 (b:Int)(tabs:List (List (Option Vtx)))(v:Vtx)(ms:List Int):Bool:=ms.all fun m=>m==b||qY (tabs.getD m.toNat []) v
def ya (b:Int)(tabs:List (List (Option Vtx)))(ps:List Ppl):Bool:=ps.all fun p=>M7 b tabs p.v (p.v.author::p.members)
def Od (n:Nat)(p:Ppl):Prop:=(∀m∈p.v.author::p.members,0≤m∧m<n)∧(p.v.parents≠[]→1≤p.v.round∧p.v.round≤31)∧(∀q∈p.v.parents,0≤q∧q≤6)∧p.members.length≤1000000∧p.v.parents.length≤1000000
theorem LU {b:Int}{gs:List (List Vtx)}{ps:List Ppl}(hg:∀g∈gs,∀v∈g,jq v)(hp:∀p∈ps,Od gs.length p):ya b (gs.map aT) ps=pT b ps gs:=
 r7 fun p h=>by
  obtain⟨p1,p2,p3,-⟩:=hp p h
  have key:∀m:Nat,m<gs.length→qY ((gs.map aT).getD m []) p.v=parOK (gs.getD m []) p.v:=fun m hm=>by
   have e:(gs.map aT).getD m []=aT (gs.getD m []):=by simp only[aq,bf,am hm,aJ,eg]
   rw[e]
   refine Cu (hg _ ?_) p2 p3
   rw[aq,am hm]
   exact be hm
  rw[eo,bD]
  simp only[M7,aM,cK,beq_iff_eq]
  constructor
  ·intro h1 m hm
   simp only[kg,cK,fV,nO]
   by_cases hb:(m:Int)=b
   ·exact .inl (.inl (by simp[hb]))
   by_cases hv:(m:Int)=p.v.author∨(m:Int)∈p.members
   ·rcases h1 (m:Int) (aA.2 hv) with h2|h2
    ·exact absurd h2 hb
    ·rw[mP,key m hm] at h2
     exact .inr h2
   ·refine .inl (.inr ?_)
    rw[cj]
    intro h2
    simp only[cK,beq_iff_eq,iF] at h2
    exact hv h2
  ·intro h1 m hm
   have hr:=p1 m hm
   have h2:=h1 m.toNat (by omega)
   simp only[kg,cK,fV,nO,Int.toNat_of_nonneg hr.1] at h2
   rcases h2 with(h2|h2)|h2
   ·exact .inl (by simpa using h2)
   ·exfalso
    rw[cj] at h2
    apply h2
    simp only[cK,beq_iff_eq,iF]
    exact aA.1 hm
   ·rw[key m.toNat (by omega)]
    exact .inr h2
def fX (tab:List (Option Vtx)):List Vtx:=tab.filterMap id
theorem rl:∀{l:List (Option Vtx)},(∀x∈l,x=none)→l.filterMap id=[]
 |[],_=>rfl
 |x::l,h=>by
  rw[h x (bh ..),List.filterMap_cons_none rfl]
  exact rl fun y hy=>h y (bw _ hy)
theorem vL (l:List (Option Vtx))(y:Vtx):(some y::l).filterMap id=y::l.filterMap id:=List.filterMap_cons_some (f:=id) rfl
theorem EJ:∀{l:List (Option Vtx)} {k:Nat} {v:Vtx},k<l.length→(∀j,k≤j→l.getD j none=none)→(l.set k (some v)).filterMap id=l.filterMap id++[v]
 |[],_,_,h,_=>absurd h (Nat.not_lt_zero _)
 |x::l,0,v,_,h=>by
  have hn:∀y∈x::l,y=none:=fun y hy=>by
   obtain⟨j,hj,rfl⟩:=ed (d:=none) hy
   exact h j (aX _)
  rw[rl hn,List.set_cons_zero,vL,rl fun y hy=>hn y (bw _ hy)]
  rfl
 |x::l,k+1,v,hk,h=>by
  have ih:=EJ (l:=l) (k:=k) (v:=v) (by simpa using hk) fun j hj=>by
   have:=h (j+1) (by omega)
   simpa using this
  rw[List.set_cons_succ]
  cases x with
  |none=>rw[List.filterMap_cons_none rfl,List.filterMap_cons_none rfl,ih]
  |some y=>rw[vL,vL,ih];rfl
theorem Dw {g:List Vtx}{j:Nat}(h:∀v∈g,(v.round*7+v.author).toNat≠j):(aT g).getD j none=none:=by
 induction g using cq with
 |h0=>
  simp only[aT,List.foldl_nil,aq,mL]
  split<;>rfl
 |h l x ih=>
  rw[jj,aq,n8 (h x (by simp)),←aq]
  exact ih fun v hv=>h v (bi.2 (.inl hv))
theorem JN {g:List Vtx}(hg:∀v∈g,jq v)(hs:g.Pairwise fun a b=>bef a b=true):fX (aT g)=g:=by
 induction g using cq with
 |h0=>exact rl fun x hx=>qo hx
 |h l x ih=>
  obtain⟨s1,-,s3⟩:=qp.1 hs
  have ih:=ih (fun v hv=>hg v (bi.2 (.inl hv))) s1
  obtain⟨⟨x1,x2⟩,x3,x4⟩:=hg x (by simp)
  rw[jj,fX,EJ (by rw[ef];omega) fun j hj=>Dw fun v hv=>?_]
  ·exact congrArg (· ++[x]) ih
  ·have hb:=s3 v hv x (by simp)
   obtain⟨⟨v1,v2⟩,v3,v4⟩:=hg v (bi.2 (.inl hv))
   simp only[bef,cK,aB,decide_eq_true_eq] at hb
   omega
def gy (w:Wrl):Bool:=iP w.com w.lead w.bad && (ia w.com w.bad w.props && ((w.views.length==w.com.length) && gt w.com w.bad w.props w.views))
theorem nE (w:Wrl):lg w=(gy w && pT w.bad w.props w.views):=by
 simp only[lg,gy]
 cases iP w.com w.lead w.bad<;>cases (w.views.length==w.com.length)<;>cases ia w.com w.bad w.props<;>cases gt w.com w.bad w.props w.views<;>simp
theorem n5 {w:Wrl}(h:gy w=true):comV w.com=true∧leaS w.com w.lead=true∧badS w.com w.bad=true∧ia w.com w.bad w.props=true∧w.views.length=w.com.length∧gt w.com w.bad w.props w.views=true:=by
 simp only[gy,iP,aB,beq_iff_eq] at h
 obtain⟨⟨h1,h2,h3⟩,h4,h5,h6⟩:=h
 exact⟨h1,h2,h3,h4,h5,h6⟩
theorem Bw {c:List Int}{g:List Vtx}(h:graS c g=true):∀v∈g,vtxS c v=true:=by
 intro v hv
 obtain⟨j,hj,rfl⟩:=ed (d:=v0) hv
 simp only[graS,aB,bD] at h
 have:=h.2 j hj
 simp only[jV,aB] at this
 exact this.1
theorem B7 {w:Wrl}(h:gy w=true):∀g∈w.views,graS w.com g=true:=by
 obtain⟨-,-,-,-,-,h6⟩:=n5 h
 intro g hg
 obtain⟨j,hj,rfl⟩:=ed (d:=[]) hg
 simp only[gt,bD,aB] at h6
 have:=(h6 j hj).1
 simp only[pp,aB] at this
 exact this.2
theorem nY {α:Type}[BEq α][LawfulBEq α]:∀{a b:List α},a.Nodup→a⊆b→a.length≤b.length
 |[],_,_,_=>aX _
 |x::a,b,h,hs=>by
  rw[List.nodup_cons] at h
  have hx:x∈b:=hs (bh ..)
  have:=nY (b:=b.erase x) h.2 fun y hy=>by
   have hne:y≠x:=fun e=>h.1 (e▸hy)
   exact(List.mem_erase_of_ne hne).2 (hs (bw _ hy))
  rw[List.length_erase_of_mem hx] at this
  have:=List.length_pos_of_mem hx
  simp only[bH]
  omega
theorem kM {c ms:List Int}(h:d8 c ms=true):ms.length≤c.length:=by
 have h1:=cD h
 have h2:ms⊆(List.range c.length).map fun n:Nat=>(n:Int):=fun m hm=>by
  have:=h1 m hm
  rw[aD]
  exact⟨m.toNat,by rw[eC];omega,by omega⟩
 have h3:ms.Nodup:=(fq h).imp fun hab=>by omega
 have:=nY h3 h2
 simpa using this
theorem pq {c:List Int}{v:Vtx}(hc:comV c=true)(h:vtxS c v=true):v.parents.length≤7:=by
 obtain⟨-,-,h3,-⟩:=bG h
 have:=kM h3
 have:=(ay.1 hc).2
 omega
theorem o4 {w:Wrl}(h:gy w=true):∀g∈w.views,∀v∈g,jq v∧v.parents.length≤1000:=fun g hg v hv=>by
 have hc:=(n5 h).1
 have h1:=Bw (B7 h g hg) v hv
 exact⟨dw hc h1,by have:=pq hc h1;omega⟩
theorem rI {c:List Int}{b:Int}{ps:List Ppl}(h:ia c b ps=true):∀p∈ps,oneP c p=true:=by
 intro p hp
 obtain⟨j,hj,rfl⟩:=ed (d:=p0) hp
 simp only[ia,aB,bD] at h
 have:=h.1 j hj
 simp only[gC,aB] at this
 exact this.1
theorem ni {c:List Int}{b:Int}{ps:List Ppl}(h:ia c b ps=true):ps.length≤220:=by
 simp only[ia,aB,decide_eq_true_eq] at h
 omega
theorem IQ {c:List Int}{p:Ppl}(hc:comV c=true)(h:oneP c p=true):Od c.length p:=by
 simp only[oneP,aB] at h
 obtain⟨h1,h2⟩:=h
 have h7:=(ay.1 hc).2
 have hl:=pq hc h1
 obtain⟨v1,v2,v3,v4,v5,v6⟩:=bG h1
 have hml:=kM h2
 refine⟨fun m hm=>?_,fun hne=>?_,fun q hq=>?_,by omega,by omega⟩
 ·rcases aA.1 hm with rfl|hm
  ·omega
  ·exact cD h2 m hm
 ·by_cases h0:p.v.round=0
  ·exact absurd (v5 h0) hne
  ·omega
 ·have:=cD v3 q hq
  omega
theorem rH {w:Wrl}(h:gy w=true):∀p∈w.props,Od w.views.length p:=by
 obtain⟨hc,-,-,h4,h5,-⟩:=n5 h
 rw[h5]
 exact fun p hp=>IQ hc (rI h4 p hp)
theorem Gb {w:Wrl}(h:gy w=true):ya w.bad (w.views.map aT) w.props=pT w.bad w.props w.views:=
 LU (fun g hg v hv=>(o4 h g hg v hv).1) (rH h)
structure WOK (w:Wrl):Prop where
 com:comV w.com=true
 lead:leaS w.com w.lead=true
 bad:badS w.com w.bad=true
 one:∀p∈w.props,oneP w.com p=true
 fit:w.props.Pairwise fun q p=>fitP w.bad p q=true
 plen:w.props.length≤220
 vlen:w.views.length=w.com.length
 gra:∀g∈w.views,graS w.com g=true
 knw:∀g∈w.views,∀v∈g,∃p∈w.props,don w.com p=true∧p.v=v
 bv:∀i:Nat,i<w.views.length→(i:Int)=w.bad→w.views.getD i []=[]
 kp:∀p∈w.props,∀m:Nat,m<w.views.length→(m:Int)≠w.bad→((m:Int)=p.v.author∨(m:Int)∈p.members)→parOK (w.views.getD m []) p.v=true
theorem BM {c:List Int}{ps:List Ppl}{v:Vtx}:knw c ps v=true↔∃p∈ps,don c p=true∧p.v=v:=by
 simp only[knw,fU,aB,pn]
theorem yb {b:Int}{ps:List Ppl}{gs:List (List Vtx)}:pT b ps gs=true↔∀p∈ps,∀m:Nat,m<gs.length→(m:Int)≠b→((m:Int)=p.v.author∨(m:Int)∈p.members)→parOK (gs.getD m []) p.v=true:=by
 simp only[pT,aM,bD,kg,cK,fV,nO,bne_eq_false_iff_eq,Bool.or_eq_false_iff,beq_eq_false_iff_ne]
 constructor
 ·intro h p hp m hm hb hv
  rcases h p hp m hm with(h1|h1)|h1
  ·exact absurd h1 hb
  ·rcases hv with hv|hv
   ·exact absurd hv h1.1
   ·have:=h1.2
    rw[iF.2 hv] at this
    cases this
  ·exact h1
 ·intro h p hp m hm
  by_cases hb:(m:Int)=b
  ·exact .inl (.inl hb)
  by_cases hv:(m:Int)=p.v.author∨(m:Int)∈p.members
  ·exact .inr (h p hp m hm hb hv)
  ·refine .inl (.inr ⟨fun h=>hv (.inl h),?_⟩)
   rw[cj]
   exact fun h=>hv (.inr (iF.1 h))
theorem yy {c:List Int}{b:Int}{ps:List Ppl}:ia c b ps=true↔(∀p∈ps,oneP c p=true)∧(ps.Pairwise fun q p=>fitP b p q=true)∧ps.length≤220:=by
 constructor
 ·intro h
  refine⟨rI h,?_,ni h⟩
  simp only[ia,aB,bD] at h
  rw[qR]
  intro i j hi hj hij
  have:=h.1 j hj
  simp only[gC,aB,bD] at this
  have:=this.2 i hij
  simpa[aq,am hi,am hj] using this
 ·rintro⟨h1,h2,h3⟩
  simp only[ia,aB,bD,decide_eq_true_eq]
  refine⟨fun j hj=>?_,by omega⟩
  simp only[gC,aB,bD]
  refine⟨h1 _ (fj hj),fun i hi=>?_⟩
  have:=qR.1 h2 i j (by omega) hj hi
  simpa[aq,am hj,am (show i<ps.length by omega)] using this
theorem yY {c:List Int}{b:Int}{ps:List Ppl}{gs:List (List Vtx)}:gt c b ps gs=true↔(∀g∈gs,graS c g=true)∧(∀g∈gs,∀v∈g,knw c ps v=true)∧∀i:Nat,i<gs.length→(i:Int)=b→gs.getD i []=[]:=by
 simp only[gt,bD,pp,aB,aM,cK,fV,beq_eq_false_iff_ne,List.isEmpty_iff]
 constructor
 ·intro h
  refine⟨fun g hg=>?_,fun g hg=>?_,fun i hi hb=>?_⟩
  ·obtain⟨j,hj,rfl⟩:=ed (d:=[]) hg
   exact(h j hj).1.2
  ·obtain⟨j,hj,rfl⟩:=ed (d:=[]) hg
   exact(h j hj).1.1
  ·rcases (h i hi).2 with h1|h1
   ·exact absurd hb h1
   ·exact h1
 ·rintro⟨h1,h2,h3⟩ i hi
  have hm:gs.getD i []∈gs:=fj hi
  refine⟨⟨h2 _ hm,h1 _ hm⟩,?_⟩
  by_cases hb:(i:Int)=b
  ·exact .inr (h3 i hi hb)
  ·exact .inl hb
theorem i6 {w:Wrl}:lg w=true↔WOK w:=by
 rw[nE,aB]
 constructor
 ·rintro⟨h1,h2⟩
  obtain⟨p1,p2,p3,p4,p5,p6⟩:=n5 h1
  obtain⟨q1,q2,q3⟩:=yy.1 p4
  obtain⟨r1,r2,r3⟩:=yY.1 p6
  exact⟨p1,p2,p3,q1,q2,q3,p5,r1,fun g hg v hv=>BM.1 (r2 g hg v hv),r3,yb.1 h2⟩
 ·intro h
  refine⟨?_,yb.2 h.kp⟩
  have h1:=yy.2 ⟨h.one,h.fit,h.plen⟩
  have h2:=yY.2 ⟨h.gra,fun g hg v hv=>BM.2 (h.knw g hg v hv),h.bv⟩
  simp[gy,iP,h.com,h.lead,h.bad,h1,h2,h.vlen]
def good (w:Wrl)(m:Int):Bool:=dB w.com m && m !=w.bad
def view (w:Wrl)(m:Int):List Vtx:=w.views.getD m.toNat []
def lU (ps:List Ppl)(m:Int):Int:=ps.foldl (fun n p=>if p.v.author=m then max n (p.v.round+1) else n) 0
def tV (w:Wrl)(v:Vtx):Wrl:={w with props:=w.props++[⟨v,[]⟩]}
def iA (w:Wrl)(m d:Int):Vtx:=⟨iO w.com (view w m)+1,m,if 0<iO w.com (view w m)+1 then fE (view w m) (iO w.com (view w m)) else[],d⟩
def jP (w:Wrl)(m d:Int):Bool:=good w m && (j5 d 0 990 && (decide (w.props.length<220) && (decide (lU w.props m≤(iA w m d).round) && vtxS w.com (iA w m d))))
def eS (w:Wrl)(m d:Int):Wrl:=if jP w m d then tV w (iA w m d) else w
def fk:List Int→Int→List Int
 |[],n=>[n]
 |x::l,n=>if x<n then x::fk l n else if x=n then x::l else n::x::l
def aV (w:Wrl)(i:Int):Ppl:=w.props.getD i.toNat p0
def mA (w:Wrl)(i m:Int):Wrl:={w with props:=w.props.set i.toNat ⟨(aV w i).v,fk (aV w i).members m⟩}
def qV (w:Wrl)(i:Int):Bool:=j5 i 0 (w.props.length-1)
def HK (w:Wrl)(m i:Int):Bool:=(List.range w.props.length).any fun j=>(j:Int) !=i && (slt (w.props.getD j p0).v (aV w i).v && (w.props.getD j p0).members.contains m)
def jQ (w:Wrl)(m i:Int):Bool:=good w m && (qV w i && (!HK w m i && parOK (view w m) (aV w i).v))
def e9 (w:Wrl)(m i:Int):Wrl:=if jQ w m i then mA w i m else w
def gS:List Vtx→Vtx→List Vtx
 |[],v=>[v]
 |x::g,v=>if bef x v then x::gS g v else v::x::g
def eJ (w:Wrl)(m i:Int):Bool:=good w m && (qV w i && (don w.com (aV w i) && (!d7 (view w m) (aV w i).v.round (aV w i).v.author && parOK (view w m) (aV w i).v)))
def dh (w:Wrl)(m i:Int):Wrl:=if eJ w m i then {w with views:=w.views.set m.toNat (gS (view w m) (aV w i).v)} else w
def jO (w:Wrl)(v:Vtx):Bool:=decide (0≤w.bad) && (v.author==w.bad && (vtxS w.com v && (decide (w.props.length<220) && !w.props.any fun p=>lb p.v v)))
def iR (w:Wrl)(v:Vtx):Wrl:=if jO w v then tV w v else w
def l7 (w:Wrl)(i:Int):Bool:=decide (0≤w.bad) && qV w i
def iQ (w:Wrl)(i:Int):Wrl:=if l7 w i then mA w i w.bad else w
def jL (w:Wrl)(e:Evt):Wrl:=
 if e.kind=1 then eS w e.a e.b else if e.kind=2 then e9 w e.a e.b else if e.kind=3 then dh w e.a e.b else if e.kind=4 then iR w e.v else if e.kind=5 then iQ w e.b else w
theorem rF (ps:List Ppl)(p:Ppl)(m:Int):lU (ps++[p]) m=if p.v.author=m then max (lU ps m) (p.v.round+1) else lU ps m:=by simp only[lU,List.foldl_append,List.foldl_cons,List.foldl_nil]
theorem FP {ps:List Ppl}{m:Int}:∀p∈ps,p.v.author=m→p.v.round+1≤lU ps m:=by
 induction ps using cq with
 |h0=>intro p hp;cases hp
 |h l x ih=>
  intro p hp ha
  rw[rF]
  rcases bi.1 hp with h|h
  ·have:=ih p h ha
   split<;>omega
  ·obtain rfl:=aY.1 h
   rw[if_pos ha]
   omega
theorem FI (c:List Int):d8 c []=true:=rfl
theorem Hs {ps:List Ppl}{b:Int}{p:Ppl}(h:ps.Pairwise fun q p=>fitP b p q=true)(hn:∀q∈ps,fitP b p q=true):(ps++[p]).Pairwise fun q p=>fitP b p q=true:=
 qp.2 ⟨h,by simp,fun q hq p' hp'=>by obtain rfl:=aY.1 hp';exact hn q hq⟩
theorem EH {b:Int}{p q:Ppl}(h:¬(p.v.round=q.v.round∧p.v.author=q.v.author)):fitP b p q=true:=by
 have:slt p.v q.v=false:=by rw[cj];exact fun h2=>h (pe.1 h2)
 simp[fitP,this]
theorem AT {w:Wrl}(h:WOK w){v:Vtx}(h1:vtxS w.com v=true)(h2:w.props.length<220)(h3:∀q∈w.props,fitP w.bad ⟨v,[]⟩ q=true)
  (h4:∀m:Nat,m<w.views.length→(m:Int)≠w.bad→(m:Int)=v.author→parOK (w.views.getD m []) v=true):WOK (tV w v) where
 com:=h.com
 lead:=h.lead
 bad:=h.bad
 one p hp:=by
  rcases bi.1 hp with hp|hp
  ·exact h.one p hp
  ·obtain rfl:=aY.1 hp
   simp only[tV,oneP,h1,FI,Bool.and_self]
 fit:=Hs h.fit h3
 plen:=by simp only[tV,aO,mM];omega
 vlen:=h.vlen
 gra:=h.gra
 knw g hg u hu:=by
  obtain⟨p,hp,h5⟩:=h.knw g hg u hu
  exact⟨p,bi.2 (.inl hp),h5⟩
 bv:=h.bv
 kp p hp m hm hb hv:=by
  rcases bi.1 hp with hp|hp
  ·exact h.kp p hp m hm hb hv
  ·obtain rfl:=aY.1 hp
   rcases hv with hv|hv
   ·exact h4 m hm hb hv
   ·cases hv
theorem wn {w:Wrl}(h:WOK w)(m d:Int):WOK (eS w m d):=by
 unfold eS
 split
 rotate_left
 ·exact h
 rename_i hb
 simp only[jP,aB,decide_eq_true_eq] at hb
 obtain⟨-,-,h1,h2,h3⟩:=hb
 refine AT h h3 h1 (fun q hq=>EH fun hs=>?_) fun k hk _ hka=>?_
 ·have:=FP q hq (m:=m) hs.2.symm
  have:=hs.1
  dsimp only at this
  omega
 ·have hka:(k:Int)=m:=hka
  have hv:w.views.getD k []=view w m:=by unfold view;rw[←hka];rfl
  rw[hv,dK]
  intro p hp
  have hp:p∈if 0<iO w.com (view w m)+1 then fE (view w m) (iO w.com (view w m)) else[]:=hp
  split at hp
  ·have hr:(iA w m d).round-1=iO w.com (view w m):=by simp only[iA];omega
   rw[hr]
   exact se.1 hp
  ·cases hp
theorem Ch {w:Wrl}(h:WOK w)(v:Vtx):WOK (iR w v):=by
 unfold iR
 split
 rotate_left
 ·exact h
 rename_i hb
 simp only[jO,aB,decide_eq_true_eq,beq_iff_eq,fV] at hb
 obtain⟨h0,h1,h2,h3,h4⟩:=hb
 refine AT h h2 h3 (fun q hq=>?_) fun k _ hk hka=>absurd (hka.trans h1) hk
 have hne:lb v q.v=false:=by
  rw[cj]
  intro he
  rw[pn] at he
  have:(w.props.any fun p=>lb p.v v)=true:=fU.2 ⟨q,hq,by rw[he];exact G5 _⟩
  rw[h4] at this
  cases this
 have ha:(v.author==w.bad)=true:=by simpa using h1
 simp[fitP,hne,ha,lQ]
theorem kJ {l:List Int}{n x:Int}:x∈fk l n↔x=n∨x∈l:=by
 induction l with
 |nil=>simp[fk]
 |cons y l ih=>
  unfold fk
  split
  ·simp only[aA,ih]
   constructor
   ·rintro(h|h|h)
    ·exact .inr (.inl h)
    ·exact .inl h
    ·exact .inr (.inr h)
   ·rintro(h|h|h)
    ·exact .inr (.inl h)
    ·exact .inl h
    ·exact .inr (.inr h)
  ·split
   ·rename_i h1 h2
    simp only[aA,h2]
    constructor
    ·intro h;exact .inr h
    ·rintro(h|h)
     ·exact .inl h
     ·exact h
   ·simp only[aA]
theorem xQ {l:List Int}{n:Int}(h:l.Pairwise (· < ·)):(fk l n).Pairwise (· < ·):=by
 induction l with
 |nil=>simp[fk]
 |cons y l ih=>
  rw[fv] at h
  unfold fk
  split
  ·rw[fv]
   refine⟨fun x hx=>?_,ih h.2⟩
   rcases kJ.1 hx with rfl|hx
   ·assumption
   ·exact h.1 x hx
  ·split
   ·exact fv.2 h
   ·rw[fv,fv]
    refine⟨fun x hx=>?_,h⟩
    rcases aA.1 hx with rfl|hx
    ·omega
    ·have:=h.1 x hx
     omega
theorem C3 {c ms:List Int}{m:Int}(h:d8 c ms=true)(hm:0≤m∧m<c.length):d8 c (fk ms m)=true:=by
 refine BU (fun x hx=>?_) (xQ (fq h))
 rcases kJ.1 hx with rfl|hx
 ·exact hm
 ·exact cD h x hx
theorem xR {c:List Int}(hc:comV c=true)(m:Int):∀ms:List Int,fo c ms≤fo c (fk ms m)
 |[]=>by
  have:0≤c.getD m.toNat 0:=by
   by_cases h:m.toNat<c.length
   ·have:=(ay.1 hc).1 _ (fj (d:=0) h);omega
   ·rw[aq,dP (by omega)];simp
  simpa[fo,fk] using this
 |y::ms=>by
  have ih:=xR hc m ms
  have:0≤c.getD m.toNat 0:=by
   by_cases h:m.toNat<c.length
   ·have:=(ay.1 hc).1 _ (fj (d:=0) h);omega
   ·rw[aq,dP (by omega)];simp
  unfold fk
  simp only[fo] at ih⊢
  split
  ·simp only[bB,List.sum_cons];omega
  ·split
   ·simp
   ·simp only[bB,List.sum_cons];omega
theorem DZ {b m:Int}{a c:List Int}(h:m=b∨m∉c):lQ b (fk a m) c=lQ b a c:=by
 rw[eo,l8,l8]
 constructor
 ·rintro⟨x,h1,h2,h3⟩
  rcases kJ.1 h2 with rfl|h2
  ·rcases h with h|h
   ·exact absurd h h1
   ·exact absurd h3 h
  ·exact⟨x,h1,h2,h3⟩
 ·rintro⟨x,h1,h2,h3⟩
  exact⟨x,h1,kJ.2 (.inr h2),h3⟩
theorem Ml {α:Type}{R:α→α→Prop}{l:List α}{i:Nat}{x:α}(h:l.Pairwise R)(h1:∀j y,j<i→l[j]?=some y→R y x)(h2:∀j y,i<j→l[j]?=some y→R x y):(l.set i x).Pairwise R:=by
 rw[qR] at h⊢
 intro a b ha hb hab
 rw[jI] at ha hb
 rw[List.getElem_set,List.getElem_set]
 split
 ·rename_i e
  rw[if_neg (by omega)]
  exact h2 b _ (by omega) (am hb)
 ·split
  ·exact h1 a _ (by omega) (am ha)
  ·exact h a b ha hb hab
theorem mem_set {α:Type}{l:List α}{i:Nat}{x y:α}(h:y∈l.set i x):y=x∨y∈l:=by
 rcases List.mem_or_eq_of_mem_set h with h|h
 ·exact .inr h
 ·exact .inl h
theorem lE {w:Wrl}{i:Int}(hi:qV w i=true):i.toNat<w.props.length∧w.props[i.toNat]?=some (aV w i)∧aV w i∈w.props:=by
 have:=aC.1 hi
 have hl:i.toNat<w.props.length:=by omega
 refine⟨hl,?_,fj hl⟩
 unfold aV
 rw[aq,am hl]
 rfl
theorem Cg {w:Wrl}(h:WOK w){i m:Int}(hi:qV w i=true)(hm:0≤m∧m<w.com.length)
  (h1:m=w.bad∨(∀j:Nat,j<w.props.length→(j:Int)≠i→slt (w.props.getD j p0).v (aV w i).v=true→m∉(w.props.getD j p0).members))
  (h2:m=w.bad∨parOK (view w m) (aV w i).v=true):WOK (mA w i m):=by
 obtain⟨hl,hx,hp⟩:=lE hi
 have hir:=aC.1 hi
 have hone:=h.one _ hp
 have key:∀j:Nat,∀q,j≠i.toNat→w.props[j]?=some q→fitP w.bad (aV w i) q=true→fitP w.bad ⟨(aV w i).v,fk (aV w i).members m⟩ q=true:=fun j q hj hq hf=>by
  unfold fitP at hf⊢
  dsimp only
  cases hs:slt (aV w i).v q.v
  ·simp
  ·rw[hs] at hf
   rw[DZ]
   ·exact hf
   ·rcases h1 with h1|h1
    ·exact .inl h1
    ·right
     have:=h1 j (aQ.1 hq).1 (by omega) (by rw[bW hq,yI];exact hs)
     rwa [bW hq] at this
 have hset:∀y∈w.props,∃z∈(mA w i m).props,z.v=y.v∧(don w.com y=true→don w.com z=true):=fun y hy=>by
  obtain⟨j,hj⟩:=gw hy
  by_cases hji:j=i.toNat
  ·subst hji
   rw[hx] at hj
   obtain rfl:=ar hj
   refine⟨_,List.mem_set hl ..,rfl,fun hd=>?_⟩
   simp only[don,decide_eq_true_eq] at hd⊢
   have:=xR h.com m (aV w i).members
   omega
  ·refine⟨y,bn (i:=j) ?_,rfl,id⟩
   simp only[mA]
   rw[n8 (by omega)]
   exact hj
 refine⟨h.com,h.lead,h.bad,fun p hp'=>?_,Ml h.fit (fun j y hj hy=>?_) (fun j y hj hy=>?_),by simp only[mA,jI];exact h.plen,h.vlen,h.gra,fun g hg v hv=>?_,h.bv,fun p hp' k hk hb hv=>?_⟩
 ·rcases mem_set hp' with rfl|hp'
  ·simp only[oneP,aB] at hone⊢
   exact⟨hone.1,C3 hone.2 hm⟩
  ·exact h.one p hp'
 ·refine key j y (by omega) hy ?_
  exact ic h.fit hj hy hx
 ·rw[pM]
  refine key j y (by omega) hy ?_
  rw[pM]
  exact ic h.fit hj hx hy
 ·obtain⟨p,hp,hd,rfl⟩:=h.knw g hg v hv
  obtain⟨z,hz,hzv,hzd⟩:=hset p hp
  exact⟨z,hz,hzd hd,hzv⟩
 ·rcases mem_set hp' with rfl|hp'
  ·dsimp only at hv⊢
   by_cases hkm:(k:Int)=m
   ·rcases h2 with h2|h2
    ·exact absurd (hkm.trans h2) hb
    ·unfold view at h2
     rw[←hkm] at h2
     exact h2
   ·refine h.kp _ hp k hk hb ?_
    rcases hv with hv|hv
    ·exact .inl hv
    ·rcases kJ.1 hv with hv|hv
     ·exact absurd hv hkm
     ·exact .inr hv
  ·exact h.kp p hp' k hk hb hv
theorem eL {w:Wrl}{m:Int}:good w m=true↔(0≤m∧m<w.com.length)∧m≠w.bad:=by
 simp only[good,dB,aB,aC,bne_iff_ne]
 omega
theorem wq {w:Wrl}(h:WOK w)(m i:Int):WOK (e9 w m i):=by
 unfold e9
 split
 rotate_left
 ·exact h
 rename_i hb
 simp only[jQ,aB,fV] at hb
 obtain⟨h1,h2,h3,h4⟩:=hb
 refine Cg h h2 (eL.1 h1).1 (.inr fun j hj hji hs hm=>?_) (.inr h4)
 have:HK w m i=true:=by
  refine fU.2 ⟨j,eC.2 hj,?_⟩
  rw[hs,iF.2 hm]
  simpa using hji
 rw[h3] at this
 cases this
theorem Cf {w:Wrl}(h:WOK w)(i:Int):WOK (iQ w i):=by
 unfold iQ
 split
 rotate_left
 ·exact h
 rename_i hb
 simp only[l7,aB,decide_eq_true_eq] at hb
 have:=kw.1 h.bad
 exact Cg h hb.2 (by omega) (.inl rfl) (.inl rfl)
theorem kK {g:List Vtx}{v x:Vtx}:x∈gS g v↔x=v∨x∈g:=by
 induction g with
 |nil=>simp[gS]
 |cons y g ih=>
  unfold gS
  split
  ·simp only[aA,ih]
   constructor
   ·rintro(h|h|h)
    ·exact .inr (.inl h)
    ·exact .inl h
    ·exact .inr (.inr h)
   ·rintro(h|h|h)
    ·exact .inr (.inl h)
    ·exact .inl h
    ·exact .inr (.inr h)
  ·simp only[aA]
theorem Hx {a b:Vtx}(h:¬(a.round=b.round∧a.author=b.author))(h2:bef a b=false):bef b a=true:=by
 simp only[bef,cK,aB,decide_eq_true_eq,Bool.or_eq_false_iff,nO,decide_eq_false_iff_not] at *
 omega
theorem Is {g:List Vtx}{v:Vtx}(h:g.Pairwise fun a b=>bef a b=true)(hn:d7 g v.round v.author=false):(gS g v).Pairwise fun a b=>bef a b=true:=by
 induction g with
 |nil=>simp[gS]
 |cons y g ih=>
  rw[fv] at h
  have hn2:fl v.round v.author y=false∧d7 g v.round v.author=false:=by simpa[d7] using hn
  unfold gS
  split
  ·rw[fv]
   refine⟨fun x hx=>?_,ih h.2 hn2.2⟩
   rcases kK.1 hx with rfl|hx
   ·assumption
   ·exact h.1 x hx
  ·rename_i hb
   have hvy:bef v y=true:=Hx (fun he=>by
    rw[iw.2 he] at hn2
    cases hn2.1) (by simpa using hb)
   rw[fv,fv]
   refine⟨fun x hx=>?_,h⟩
   rcases aA.1 hx with rfl|hx
   ·exact hvy
   ·exact pF hvy (h.1 x hx)
theorem C0 {g g':List Vtx}{r a:Int}(h:∀x∈g,x∈g')(hh:d7 g r a=true):d7 g' r a=true:=by
 obtain⟨v,hv,e⟩:=ce.1 hh
 exact ce.2 ⟨v,h v hv,e⟩
theorem n3 {g g':List Vtx}{v:Vtx}(h:∀x∈g,x∈g')(hh:parOK g v=true):parOK g' v=true:=
 dK.2 fun p hp=>C0 h (dK.1 hh p hp)
theorem Ib {c:List Int}{g:List Vtx}(h:GraOK c g):graS c g=true:=by
 simp only[graS,aB,bD,jV,cK,beq_iff_eq]
 refine⟨h.com,fun i hi=>⟨h.vtx _ (fj hi),?_,h.par _ (fj hi)⟩⟩
 cases i with
 |zero=>exact .inl rfl
 |succ i=>
  right
  exact ic h.pw (show i<i+1 by omega) (by rw[Nat.add_sub_cancel,aq,am (show i<g.length by omega)];rfl) (by rw[aq,am hi];rfl)
theorem Fo {c:List Int}{g:List Vtx}{v:Vtx}(h:graS c g=true)(h1:vtxS c v=true)(h2:d7 g v.round v.author=false)(h3:parOK g v=true):graS c (gS g v)=true:=by
 have hg:=eZ h
 have hs:∀x∈g,x∈gS g v:=fun x hx=>kK.2 (.inr hx)
 refine Ib ⟨hg.com,fun x hx=>?_,Is hg.pw h2,fun x hx=>?_⟩
 ·rcases kK.1 hx with rfl|hx
  ·exact h1
  ·exact hg.vtx x hx
 ·rcases kK.1 hx with rfl|hx
  ·exact n3 hs h3
  ·exact n3 hs (hg.par x hx)
theorem xL {α:Type}{l:List α}{i j:Nat}{x d:α}(hi:i<l.length):(l.set i x).getD j d=if i=j then x else l.getD j d:=by
 simp only[aq,dx]
 split
 ·subst_vars;simp[hi]
 ·rfl
theorem rO {w:Wrl}(h:WOK w)(m i:Int):WOK (dh w m i):=by
 unfold dh
 split
 rotate_left
 ·exact h
 rename_i hb
 simp only[eJ,aB,fV] at hb
 obtain⟨h1,h2,h3,h4,h5⟩:=hb
 have hg:=eL.1 h1
 obtain⟨hl,hx,hp⟩:=lE h2
 have hone:=h.one _ hp
 simp only[oneP,aB] at hone
 have hml:m.toNat<w.views.length:=by rw[h.vlen];omega
 have hvm:view w m∈w.views:=fj hml
 refine⟨h.com,h.lead,h.bad,h.one,h.fit,h.plen,by simp only[jI];exact h.vlen,fun g hg'=>?_,fun g hg' v hv=>?_,fun k hk hkb=>?_,fun p hp' k hk hb hv=>?_⟩
 ·rcases mem_set hg' with rfl|hg'
  ·exact Fo (h.gra _ hvm) hone.1 h4 h5
  ·exact h.gra g hg'
 ·rcases mem_set hg' with rfl|hg'
  ·rcases kK.1 hv with rfl|hv
   ·exact⟨aV w i,hp,h3,rfl⟩
   ·exact h.knw _ hvm v hv
  ·exact h.knw g hg' v hv
 ·simp only[jI] at hk
  have hkb:(k:Int)=w.bad:=hkb
  dsimp only
  rw[xL hml,if_neg (by intro e;apply hg.2;omega)]
  exact h.bv k hk hkb
 ·simp only[jI] at hk
  have:=h.kp p hp' k hk hb hv
  dsimp only
  rw[xL hml]
  split
  ·rename_i e
   subst e
   exact n3 (fun x hx=>kK.2 (.inr hx)) this
  ·exact this
theorem Ar {w:Wrl}(h:WOK w)(e:Evt):WOK (jL w e):=by
 unfold jL
 split
 ·exact wn h _ _
 split
 ·exact wq h _ _
 split
 ·exact rO h _ _
 split
 ·exact Ch h _
 split
 ·exact Cf h _
 ·exact h
theorem Ic {c:List Int}{g:List Vtx}(h:graS c g=true):g.length≤217:=by
 have hg:=eZ h
 have ht:∀v∈g,jq v:=fun v hv=>dw hg.com (hg.vtx v hv)
 have h1:((g.map fun v=>(v.round*7+v.author).toNat)).Nodup:=by
  rw[List.Nodup,lL]
  refine hg.pw.imp_of_mem fun {a b} ha hb hab=>?_
  obtain⟨⟨a1,a2⟩,a3,a4⟩:=ht a ha
  obtain⟨⟨b1,b2⟩,b3,b4⟩:=ht b hb
  simp only[bef,cK,aB,decide_eq_true_eq] at hab
  omega
 have h2:=nY h1 (b:=List.range 217) fun k hk=>by
  obtain⟨v,hv,rfl⟩:=aD.1 hk
  obtain⟨⟨a1,a2⟩,a3,a4⟩:=ht v hv
  rw[eC]
  omega
 simpa using h2
theorem BE:∀{l:List Int} {n:Int} {k:Nat},(∀y∈l.take k,y<n)→k≤l.length→(∀y,l[k]?=some y→¬y<n)→fk l n=if l[k]?=some n then l else l.take k++[n]++l.drop k
 |[],n,k,_,hk,_=>by
  obtain rfl:k=0:=by simpa using hk
  simp[fk]
 |x::l,n,0,_,_,h=>by
  have hx:=h x rfl
  unfold fk
  rw[if_neg hx]
  simp
 |x::l,n,k+1,h1,hk,h=>by
  have hx:x<n:=h1 x (by simp)
  unfold fk
  rw[if_pos hx,BE (l:=l) (k:=k) (fun y hy=>h1 y (by simp[hy])) (by simpa using hk) (fun y hy=>h y (by simpa using hy))]
  simp only[List.getElem?_cons_succ]
  split<;>simp
theorem BF:∀{g:List Vtx} {v:Vtx} {k:Nat},(∀y∈g.take k,bef y v=true)→k≤g.length→(∀y,g[k]?=some y→bef y v=false)→gS g v=g.take k++[v]++g.drop k
 |[],v,k,_,hk,_=>by
  obtain rfl:k=0:=by simpa using hk
  simp[gS]
 |x::g,v,0,_,_,h=>by
  have hx:=h x rfl
  unfold gS
  rw[if_neg (by rw[hx];simp)]
  simp
 |x::g,v,k+1,h1,hk,h=>by
  have hx:bef x v=true:=h1 x (by simp)
  unfold gS
  rw[if_pos hx,BF (g:=g) (k:=k) (fun y hy=>h1 y (by simp[hy])) (by simpa using hk) (fun y hy=>h y (by simpa using hy))]
  simp
theorem xS (g:List Vtx)(v:Vtx):(gS g v).length=g.length+1:=by
 induction g with
 |nil=>rfl
 |cons x g ih=>unfold gS;split<;>simp[ih]
theorem FO {ps:List Ppl}{m:Int}(h:∀p∈ps,0≤p.v.round∧p.v.round≤30):0≤lU ps m∧lU ps m≤31:=by
 induction ps using cq with
 |h0=>simp[lU]
 |h l x ih=>
  have ih:=ih fun p hp=>h p (bi.2 (.inl hp))
  have hx:=h x (by simp)
  rw[rF]
  split<;>omega
theorem WOK.len {w:Wrl}(h:WOK w):1≤w.com.length∧w.com.length≤7:=(ay.1 h.com).2
theorem WOK.vl {w:Wrl}(h:WOK w):∀g∈w.views,g.length≤217:=fun g hg=>Ic (h.gra g hg)
theorem WOK.vv {w:Wrl}(h:WOK w):∀g∈w.views,∀v∈g,vtxS w.com v=true:=fun g hg=>Bw (h.gra g hg)
theorem WOK.pv {w:Wrl}(h:WOK w):∀p∈w.props,vtxS w.com p.v=true∧d8 w.com p.members=true:=fun p hp=>by
 have:=h.one p hp
 simpa only[oneP,aB] using this
theorem WOK.par {w:Wrl}(h:WOK w){v:Vtx}(hv:vtxS w.com v=true):v.parents.length≤7:=pq h.com hv
theorem WOK.mem {w:Wrl}(h:WOK w):∀p∈w.props,p.members.length≤7:=fun p hp=>by
 have:=kM (h.pv p hp).2
 have:=h.len
 omega
theorem WOK.view {w:Wrl}(h:WOK w){m:Int}(hm:good w m=true):w.views[m.toNat]?=some (view w m)∧view w m∈w.views∧m.toNat<w.views.length:=by
 have hg:=eL.1 hm
 have hl:m.toNat<w.views.length:=by rw[h.vlen];omega
 refine⟨?_,fj hl,hl⟩
 unfold Am.view
 rw[aq,am hl]
 rfl
def eu (w:Wrl):Nat:=(w.views.map List.length).sum
theorem Jz {l:List (List Vtx)}{i:Nat}{g x:List Vtx}(h:l[i]?=some g)(hx:x.length=g.length+1):((l.set i x).map List.length).sum=(l.map List.length).sum+1:=by
 induction l generalizing i with
 |nil=>simp at h
 |cons y l ih=>
  cases i with
  |zero=>
   simp only[iV,aw] at h
   subst h
   simp only[List.set_cons_zero,bB,List.sum_cons,hx]
   omega
  |succ i=>
   simp only[List.set_cons_succ,bB,List.sum_cons]
   rw[ih (by simpa using h)]
   omega
theorem ig {w:Wrl}(h:WOK w)(m i:Int):(eJ w m i=false∧dh w m i=w)∨(eJ w m i=true∧eu (dh w m i)=eu w+1):=by
 cases hb:eJ w m i
 ·exact .inl ⟨rfl,by simp[dh,hb]⟩
 ·refine .inr ⟨rfl,?_⟩
  have hg:good w m=true:=by
   simp only[eJ,aB] at hb
   exact hb.1
  have:=Jz (h.view hg).1 (xS (view w m) (aV w i).v)
  simpa[dh,hb,eu] using this
theorem pb (w:Wrl)(m i:Int):(dh w m i).com=w.com∧(dh w m i).props=w.props∧(dh w m i).bad=w.bad∧(dh w m i).lead=w.lead:=by
 unfold dh
 split<;>exact⟨rfl,rfl,rfl,rfl⟩
theorem tH {w:Wrl}(h:WOK w):eu w≤1519:=by
 have h1:∀l:List (List Vtx),(∀g∈l,g.length≤217)→(l.map List.length).sum≤217*l.length:=by
  intro l
  induction l with
  |nil=>intro _;simp
  |cons x l ih=>
   intro hl
   have:=ih fun g hg=>hl g (bw _ hg)
   have:=hl x (bh ..)
   simp only[bB,List.sum_cons,bH]
   omega
 have:=h1 w.views h.vl
 have:=h.vlen
 have:=h.len
 unfold eu
 omega
def cQ (w:Wrl)(i:Int):Nat→Wrl
 |0=>w
 |n+1=>dh (cQ w i n) n i
theorem ky {w:Wrl}(h:WOK w)(i:Int):∀n,WOK (cQ w i n)
 |0=>h
 |n+1=>rO (ky h i n) _ _
theorem kx (w:Wrl)(i:Int):∀n,(cQ w i n).com=w.com∧(cQ w i n).props=w.props
 |0=>⟨rfl,rfl⟩
 |n+1=>by
  have h1:=pb (cQ w i n) n i
  have h2:=kx w i n
  exact⟨h1.1.trans h2.1,h1.2.1.trans h2.2⟩
def bI (w:Wrl):Nat→Wrl
 |0=>w
 |k+1=>cQ (bI w k) k (bI w k).com.length
theorem ji {w:Wrl}(h:WOK w):∀k,WOK (bI w k)
 |0=>h
 |k+1=>ky (ji h k) _ _
theorem eR (w:Wrl):∀k,(bI w k).com=w.com∧(bI w k).props=w.props
 |0=>⟨rfl,rfl⟩
 |k+1=>by
  have h1:=kx (bI w k) k (bI w k).com.length
  have h2:=eR w k
  exact⟨h1.1.trans h2.1,h1.2.trans h2.2⟩
def pass (w:Wrl):Wrl:=bI w w.props.length
theorem lB {w:Wrl}(h:WOK w):WOK (pass w):=ji h _
def cW (w:Wrl):Wrl:=if h:eu w<eu (pass w)∧eu (pass w)≤1519 then cW (pass w) else pass w
termination_by 1519-eu w
decreasing_by omega
theorem Ci:∀(n:Nat) {w:Wrl},1519-eu w≤n→WOK w→WOK (cW w):=by
 intro n
 induction n with
 |zero=>
  intro w hn h
  rw[cW]
  split
  ·omega
  ·exact lB h
 |succ n ih=>
  intro w hn h
  rw[cW]
  split
  ·exact ih (by omega) (lB h)
  ·exact lB h
def iU (w:Wrl)(i:Int):Nat→Wrl
 |0=>w
 |n+1=>e9 (iU w i n) n i
theorem tK {w:Wrl}(h:WOK w)(i:Int):∀n,WOK (iU w i n)
 |0=>h
 |n+1=>wq (tK h i n) _ _
theorem Gz (w:Wrl)(m i:Int):(e9 w m i).com=w.com∧(e9 w m i).props.length=w.props.length:=by
 unfold e9
 split
 ·exact⟨rfl,by simp[mA]⟩
 ·exact⟨rfl,rfl⟩
theorem nC (w:Wrl)(i:Int):∀n,(iU w i n).com=w.com∧(iU w i n).props.length=w.props.length
 |0=>⟨rfl,rfl⟩
 |n+1=>by
  have h1:=Gz (iU w i n) n i
  have h2:=nC w i n
  exact⟨h1.1.trans h2.1,h1.2.trans h2.2⟩
def di (w:Wrl):Nat→Wrl
 |0=>w
 |k+1=>iU (di w k) k (di w k).com.length
theorem fT {w:Wrl}(h:WOK w):∀k,WOK (di w k)
 |0=>h
 |k+1=>tK (fT h k) _ _
theorem fJ (w:Wrl):∀k,(di w k).com=w.com∧(di w k).props.length=w.props.length
 |0=>⟨rfl,rfl⟩
 |k+1=>by
  have h1:=nC (di w k) k (di w k).com.length
  have h2:=fJ w k
  exact⟨h1.1.trans h2.1,h1.2.trans h2.2⟩
def iS (w:Wrl):Wrl:=di w w.props.length
def dL (w:Wrl)(r:Nat):Nat→Wrl
 |0=>w
 |n+1=>eS (dL w r n) n (7*r+n)
theorem mt {w:Wrl}(h:WOK w)(r:Nat):∀n,WOK (dL w r n)
 |0=>h
 |n+1=>wn (mt h r n) _ _
theorem Gy (w:Wrl)(m d:Int):(eS w m d).com=w.com:=by
 unfold eS
 split<;>rfl
theorem nj (w:Wrl)(r:Nat):∀n,(dL w r n).com=w.com
 |0=>rfl
 |n+1=>(Gy _ _ _).trans (nj w r n)
def gz (w:Wrl):Wrl:=cW (iS w)
def O9 (w:Wrl)(r:Nat):Wrl:=gz (dL (gz w) r (gz w).com.length)
def aU (w:Wrl):Nat→Wrl
 |0=>cW w
 |r+1=>O9 (aU w r) r
theorem nt {w:Wrl}(h:WOK w):WOK (gz w):=Ci _ (ax _) (fT h _)
theorem Mq {w:Wrl}(h:WOK w)(r:Nat):WOK (O9 w r):=nt (mt (nt h) _ _)
theorem gM {w:Wrl}(h:WOK w):∀r,WOK (aU w r)
 |0=>Ci _ (ax _) h
 |r+1=>Mq (gM h r) r
end Go.Proofs.YtpefhoohfkeflaaGreatDoor.Am
namespace Go.Proofs.YtpefhoohfkeflaaGreatDoor.Am
open Go
attribute [local irreducible] Mk ck Ari fK mQ jM cd cX i7 fC At ag
set_option maxRecDepth 10000
theorem nF (n lo hi:Int):ag Tryz.prog 32 [.int .i64 n,.int .i64 lo,.int .i64 hi] [] (.bool (j5 n lo hi)) []:=by
 refine ab aj Tryz.func32 rfl rfl false 0 4 rfl rfl rfl rfl fun K hK hb1 hb2=>?_;simp only[ae,enc,Nat.reduceAdd]
 (repeat' first|refine st ?_|refine sa fun xe hxe=>?_|refine sb (fun hq=>?_) fun hq=>?_|exact aa)
 all_goals (refine⟨?_,rfl⟩;simp_all[j5])
 omega
theorem zt (c:List Int):ag Tryz.prog 93 [.lst (.int .i64) c] [] (.bool (comV c)) []:=by
 refine ab aj Tryz.func93 rfl rfl false 0 4 rfl rfl rfl rfl fun K hK hb1 hb2=>?_;simp only[ae,enc,Nat.reduceAdd]
 simp[ak,V.toD,bnd,ai,D.cells] at hb1
 (repeat' first|refine st ?_|refine sa fun xe hxe=>?_|refine sb (fun hq=>?_) fun hq=>?_|refine cr (nF _ _ _) ?_|exact aa)
 refine ah hK [] [0,3] (fun i:Nat=>⟨[(0,.lst (.int .i64) c),(3,.int .i64 i)],[],4⟩) (fun i=>i≤c.length∧∀j,j<i→j5 (c.getD j 0) 1 9=true) (fun i=>c.length-i) 0 ⟨by simp,by simp⟩ rfl ?_
 rintro i ⟨hi,hall⟩
 (repeat' first|refine st ?_|refine sa fun xe hxe=>?_|refine sb (fun hq=>?_) fun hq=>?_|refine cr (nF _ _ _) ?_|exact aa)
 ·refine⟨?_,rfl⟩
  have:comV c=false:=by
   simp only[comV,nO]
   left
   exact dY (j:=i) (by omega) (by rw[bW hxe];exact hq)
  rw[this]
 ·refine⟨i+1,⟨by omega,cH hall (by rw[bW hxe];exact hq)⟩,by omega,rfl⟩
 ·refine⟨?_,rfl⟩
  have:i=c.length:=by omega
  subst this
  simp only[comV,dj hall,dX]
theorem yU {c:List Int}{i:Nat}{x:Int}(h:c[i]?=some x):n6 (c.take (i+1))=n6 (c.take i)+x:=by
 obtain⟨hl,rfl⟩:=aQ.1 h
 rw[ca hl]
 unfold n6
 rw[List.sum_append]
 simp
theorem G1 {c:List Int}(h:comV c=true)(i:Nat):0≤n6 (c.take i)∧n6 (c.take i)≤63:=by
 obtain⟨h1,h2,h3⟩:=ay.1 h
 have h4:=rQ (M:=9) (by omega) (l:=c.take i) fun x hx=>⟨by have:=h1 x (j7 hx);omega,(h1 x (j7 hx)).2⟩
 rw[bQ] at h4
 unfold n6
 omega
theorem G0 (c:List Int)(hc:comV c=true):ag Tryz.prog 48 [.lst (.int .i64) c] [] (.int .i64 (n6 c)) []:=by
 have hc1:=ay.1 hc
 refine ab aj Tryz.func48 rfl rfl false 0 4 rfl rfl rfl rfl fun K hK hb1 hb2=>?_;simp only[ae,enc,Nat.reduceAdd]
 clear hb1 hb2
 (repeat' first|refine st ?_|refine sa fun xe hxe=>?_|refine sb (fun hq=>?_) fun hq=>?_|exact aa)
 refine ah hK [] [0,3,4] (fun i:Nat=>⟨[(0,.lst (.int .i64) c),(3,.int .i64 (n6 (c.take i))),(4,.int .i64 i)],[],4⟩) (fun i=>i≤c.length) (fun i=>c.length-i) 0 (by simp) rfl ?_
 intro i hi
 have hb:=G1 hc i
 have hbx:∀x,c[i]?=some x→1≤x∧x≤9:=fun x hx=>hc1.1 x (bn hx)
 by_cases hlt:i<c.length
 ·have hxe:c[i]?=some c[i]:=am hlt
  have hb2:=hbx _ hxe
  have hsn:=yU hxe
  generalize c[i]=x at *
  (repeat' first|refine st ?_|refine sa fun xe hxe=>?_|refine sb (fun hq=>?_) fun hq=>?_|exact aa)
  exact⟨i+1,by omega,by omega,by rw[hsn];rfl⟩
 (repeat' first|refine st ?_|refine sa fun xe hxe=>?_|refine sb (fun hq=>?_) fun hq=>?_|exact aa)
 rw[br (by omega)]
 exact⟨rfl,rfl⟩
theorem yC (c:List Int)(hc:comV c=true):ag Tryz.prog 96 [.lst (.int .i64) c] [] (.int .i64 (quo c)) []:=by
 have h1:=jz hc
 have h2:=Gf hc
 have h3:(2*n6 c).tdiv 3+1=quo c:=rfl
 refine ab aj Tryz.func96 rfl rfl false 0 4 rfl rfl rfl rfl fun K hK hb1 hb2=>?_;simp only[ae,enc,Nat.reduceAdd]
 (repeat' first|refine st ?_|refine sa fun xe hxe=>?_|refine sb (fun hq=>?_) fun hq=>?_|refine cr (G0 _ hc) ?_|exact aa)
 exact⟨rfl,rfl⟩
theorem sr (n:Int):ag Tryz.prog 50 [.int .i64 n] [] (.bool (j5 n 0 990)) []:=by
 refine ab aj Tryz.func50 rfl rfl false 0 4 rfl rfl rfl rfl fun K hK hb1 hb2=>?_;simp only[ae,enc,Nat.reduceAdd]
 (repeat' first|refine st ?_|refine sa fun xe hxe=>?_|refine sb (fun hq=>?_) fun hq=>?_|refine cr (nF _ _ _) ?_|exact aa)
 exact⟨rfl,rfl⟩
theorem Ad (c ms:List Int):ag Tryz.prog 97 [.lst (.int .i64) c,.lst (.int .i64) ms] [] (.bool (d8 c ms)) []:=by
 refine ab aj Tryz.func97 rfl rfl false 0 4 rfl rfl rfl rfl fun K hK hb1 hb2=>?_;simp only[ae,enc,Nat.reduceAdd]
 simp[ak,V.toD,bnd,ai,D.cells] at hb1
 (repeat' first|refine st ?_|refine sa fun xe hxe=>?_|refine sb (fun hq=>?_) fun hq=>?_|refine cr (nF _ _ _) ?_|exact aa)
 refine ah hK [] [0,1,5] (fun i:Nat=>⟨[(0,.lst (.int .i64) c),(1,.lst (.int .i64) ms),(5,.int .i64 i)],[],4⟩) (fun i=>i≤ms.length∧∀j,j<i→ju c ms j=true) (fun i=>ms.length-i) 0 ⟨by simp,by simp⟩ rfl ?_
 rintro i ⟨hi,hall⟩
 (repeat' first|refine st ?_|refine sa fun xe hxe=>?_|refine sb (fun hq=>?_) fun hq=>?_|refine cr (nF _ _ _) ?_|exact aa)
 ·refine⟨?_,rfl⟩
  have:d8 c ms=false:=dY (j:=i) (by omega) (by simp only[ju,dB,bW hxe,hq,iJ])
  rw[this]
 ·rename_i x hx hq1 h0
  have hy':ms[i-1]?=some xe:=by rw[←hxe];congr 1;omega
  refine⟨?_,rfl⟩
  have:d8 c ms=false:=dY (j:=i) (by omega) (by simp only[ju,bW hx,bW hy',nO,Bool.or_eq_false_iff,decide_eq_false_iff_not];right;exact⟨by simp;omega,by omega⟩)
  rw[this]
 ·rename_i x hx hq1 h0
  have hy':ms[i-1]?=some xe:=by rw[←hxe];congr 1;omega
  refine⟨i+1,⟨by omega,cH hall ?_⟩,by omega,rfl⟩
  simp only[ju,dB,bW hx,bW hy',hq1,dX,cK,decide_eq_true_eq]
  right;omega
 ·have h0:i=0:=by omega
  subst h0
  refine⟨0+1,⟨by omega,cH hall ?_⟩,by omega,rfl⟩
  simp only[ju,dB,bW hxe, *]
  rfl
 ·refine⟨?_,rfl⟩
  have:i=ms.length:=by omega
  subst this
  have:d8 c ms=true:=dj hall
  rw[this]
theorem Hj {c ms:List Int}{i:Nat}{m:Int}(h:ms[i]?=some m):fo c (ms.take (i+1))=fo c (ms.take i)+c.getD m.toNat 0:=by
 obtain⟨hl,rfl⟩:=aQ.1 h
 rw[ca hl,tL]
theorem Cx (c ms:List Int)(hc:comV c=true)(hm:∀m∈ms,0≤m∧m<c.length)(hl:ms.length≤2000000):ag Tryz.prog 95 [.lst (.int .i64) c,.lst (.int .i64) ms] [] (.int .i64 (fo c ms)) []:=by
 refine ab aj Tryz.func95 rfl rfl false 0 4 rfl rfl rfl rfl fun K hK hb1 hb2=>?_;simp only[ae,enc,Nat.reduceAdd]
 clear hb1 hb2
 (repeat' first|refine st ?_|refine sa fun xe hxe=>?_|refine sb (fun hq=>?_) fun hq=>?_|exact aa)
 refine ah hK [] [0,1,5,6] (fun i:Nat=>⟨[(0,.lst (.int .i64) c),(1,.lst (.int .i64) ms),(5,.int .i64 (fo c (ms.take i))),(6,.int .i64 i)],[],4⟩) (fun i=>i≤ms.length) (fun i=>ms.length-i) 0 (by simp) rfl ?_
 intro i hi
 by_cases hlt:i<ms.length
 ·have hxe:ms[i]?=some ms[i]:=am hlt
  have h1:=hm _ (be hlt)
  have h2:=wH (ms:=ms.take i) hc
  have h3:=Hj (c:=c) hxe
  rw[bQ] at h2
  generalize ms[i]=m at *
  have hx2:c[m.toNat]?=some (c.getD m.toNat 0):=by rw[aq,am (show m.toNat<c.length by omega)];rfl
  have h4:=(ay.1 hc).1 _ (bn hx2)
  generalize c.getD m.toNat 0=x at *
  (repeat' first|refine st ?_|refine sa fun xe hxe=>?_|refine sb (fun hq=>?_) fun hq=>?_|exact aa)
  exact⟨i+1,by omega,by omega,by rw[h3];rfl⟩
 (repeat' first|refine st ?_|refine sa fun xe hxe=>?_|refine sb (fun hq=>?_) fun hq=>?_|exact aa)
 rw[br (by omega)]
 exact⟨rfl,rfl⟩
theorem oq (v u:Vtx):ag Tryz.prog 100 [.agg [.int .i64 v.round,.int .i64 v.author,.lst (.int .i64) v.parents,.int .i64 v.digest],.agg [.int .i64 u.round,.int .i64 u.author,.lst (.int .i64) u.parents,.int .i64 u.digest]] [] (.bool (bef v u)) []:=by
 refine ab aj Tryz.func100 rfl rfl false 0 4 rfl rfl rfl rfl fun K hK hb1 hb2=>?_;simp only[ae,enc,Nat.reduceAdd]
 (repeat' first|refine st ?_|refine sa fun xe hxe=>?_|refine sb (fun hq=>?_) fun hq=>?_|exact aa)
 all_goals (refine⟨?_,rfl⟩;simp_all[bef])
abbrev de (v:Vtx):V:=.agg [.int .i64 v.round,.int .i64 v.author,.lst (.int .i64) v.parents,.int .i64 v.digest]
theorem uF {α:Type}[BEq α][LawfulBEq α]:∀{a b:List α},a.Nodup→a⊆b→a.length≤b.length
 |[],_,_,_=>aX _
 |x::a,b,h,hs=>by
  rw[List.nodup_cons] at h
  have hx:x∈b:=hs (bh ..)
  have:=uF (b:=b.erase x) h.2 fun y hy=>by
   have hne:y≠x:=fun e=>h.1 (e▸hy)
   exact(List.mem_erase_of_ne hne).2 (hs (bw _ hy))
  rw[List.length_erase_of_mem hx] at this
  have:=List.length_pos_of_mem hx
  simp only[bH]
  omega
theorem eO {c ms:List Int}(h:d8 c ms=true):ms.length≤c.length:=by
 have h1:=cD h
 have h2:ms⊆(List.range c.length).map fun n:Nat=>(n:Int):=fun m hm=>by
  have:=h1 m hm
  rw[aD]
  exact⟨m.toNat,by rw[eC];omega,by omega⟩
 have h3:ms.Nodup:=(fq h).imp fun hab=>by omega
 have:=uF h3 h2
 simpa using this
theorem nM (c:List Int)(v:Vtx)(hc:comV c=true):ag Tryz.prog 54 [.lst (.int .i64) c,de v] [] (.bool (vtxS c v)) []:=by
 refine ab aj Tryz.func54 rfl rfl false 0 4 rfl rfl rfl rfl fun K hK hb1 hb2=>?_;simp only[ae,enc,Nat.reduceAdd]
 simp[ak,V.toD,bnd,ai,D.cells] at hb1
 have h7:=(ay.1 hc).2
 have h8:((v.parents.length:Int)==0)=(v.parents.length==0):=by rw[eo,beq_iff_eq,beq_iff_eq];omega
 cases hm:d8 c v.parents
 ·(repeat' first|refine st ?_|refine sa fun xe hxe=>?_|refine sb (fun hq=>?_) fun hq=>?_|refine cr (nF _ _ _) ?_|refine cr (Ad _ _) ?_|refine cr (sr _) ?_|refine cr (yC _ hc) ?_|exact aa)
  all_goals (refine⟨?_,rfl⟩;simp_all[vtxS,dB])
 ·have hl:=eO hm
  (repeat' first|refine st ?_|refine sa fun xe hxe=>?_|refine sb (fun hq=>?_) fun hq=>?_|refine cr (nF _ _ _) ?_|refine cr (Ad _ _) ?_|refine cr (sr _) ?_|refine cr (yC _ hc) ?_|((with_reducible refine fF ?_);(conv=>whnf);(first|with_reducible refine bg (Cx _ _ hc (cD hm) (by omega)) ?_);conv=>whnf)|exact aa)
  all_goals (refine⟨?_,rfl⟩;simp_all[vtxS,dB])
theorem bM {α:Type}{l:List α}{P:α→Prop}{x:α}(h:∀y∈l,P y)(hx:P x):∀y∈l++[x],P y:=by
 intro y hy
 rcases bi.1 hy with hy|hy
 ·exact h y hy
 ·rw[aY.1 hy];exact hx
theorem rk {α:Type}{l:List α}{p:α→Bool}{i:Nat}{x:α}(h:l[i]?=some x)(hn:∀y∈l.take i,p y=false)(hp:p x=true):l.findIdx? p=some i:=by
 obtain⟨hi,rfl⟩:=aQ.1 h
 rw[wN]
 refine⟨hi,hp,fun j hj=>?_⟩
 rw[hn _ (bn (i:=j) (by rw[eA,if_pos hj,am]))]
 simp
theorem pL (g:List Vtx)(r a:Int):ag Tryz.prog 60 [.lst .vtx g,.int .i64 r,.int .i64 a] [] (.int .i64 (lS g r a)) []:=by
 refine ab aj Tryz.func60 rfl rfl false 0 4 rfl rfl rfl rfl fun K hK hb1 hb2=>?_;simp only[ae,enc,Nat.reduceAdd]
 simp[ak,V.toD,bnd,ai,D.cells] at hb1
 (repeat' first|refine st ?_|refine sa fun xe hxe=>?_|refine sb (fun hq=>?_) fun hq=>?_|exact aa)
 refine ah hK [] [0,1,2,7] (fun i:Nat=>⟨[(0,.lst .vtx g),(1,.int .i64 r),(2,.int .i64 a),(7,.int .i64 i)],[],4⟩) (fun i=>i≤g.length∧∀v∈g.take i,fl r a v=false) (fun i=>g.length-i) 0 ⟨by simp,by simp⟩ rfl ?_
 rintro i ⟨hi,hall⟩
 by_cases hlt:i<g.length
 ·have hxe:g[i]?=some g[i]:=am hlt
  have h3:g.take (i+1)=g.take i++[g[i]]:=ca hlt
  have h4:=rk (l:=g) (p:=fl r a) hxe hall
  generalize g[i]=v at *
  have hA:fl r a v=(v.round==r && v.author==a):=rfl
  cases h1:v.round==r
  ·(repeat' first|refine st ?_|refine sa fun xe hxe=>?_|refine sb (fun hq=>?_) fun hq=>?_|exact aa)
   exact⟨i+1,⟨by omega,by rw[h3];exact bM hall (by simp[hA,h1])⟩,by omega,rfl⟩
  ·cases h2:v.author==a
   ·(repeat' first|refine st ?_|refine sa fun xe hxe=>?_|refine sb (fun hq=>?_) fun hq=>?_|exact aa)
    exact⟨i+1,⟨by omega,by rw[h3];exact bM hall (by simp[hA,h1,h2])⟩,by omega,rfl⟩
   ·(repeat' first|refine st ?_|refine sa fun xe hxe=>?_|refine sb (fun hq=>?_) fun hq=>?_|exact aa)
    refine⟨?_,rfl⟩
    rw[lS,h4 (by simp[hA,h1,h2])]
 ·(repeat' first|refine st ?_|refine sa fun xe hxe=>?_|refine sb (fun hq=>?_) fun hq=>?_|exact aa)
  refine⟨?_,rfl⟩
  rw[br (by omega)] at hall
  rw[lS,px.2 hall]
theorem zI (g:List Vtx)(r a:Int):decide (lS g r a<0)= !d7 g r a:=by
 rw[←vM]
 unfold lS
 cases g.findIdx? (fl r a) with
 |none=>rfl
 |some i=>simp
theorem e8 (g:List Vtx)(v:Vtx)(hr:-1000000<v.round∧v.round<1000000):ag Tryz.prog 57 [.lst .vtx g,de v] [] (.bool (parOK g v)) []:=by
 refine ab aj Tryz.func57 rfl rfl false 0 4 rfl rfl rfl rfl fun K hK hb1 hb2=>?_;simp only[ae,enc,Nat.reduceAdd]
 simp[ak,V.toD,bnd,ai,D.cells,gf] at hb1
 (repeat' first|refine st ?_|refine sa fun xe hxe=>?_|refine sb (fun hq=>?_) fun hq=>?_|exact aa)
 refine ah hK [] [0,3,5] (fun i:Nat=>⟨[(0,.lst .vtx g),(3,.ptr 4 0),(5,.int .i64 i)],[(4,.var 58 (de v).cells)],5⟩) (fun i=>i≤v.parents.length∧∀p∈v.parents.take i,d7 g (v.round-1) p=true) (fun i=>v.parents.length-i) 0 ⟨by simp,by simp⟩ rfl ?_
 rintro i ⟨hi,hall⟩
 by_cases hlt:i<v.parents.length
 ·have hxe:v.parents[i]?=some v.parents[i]:=am hlt
  have h3:v.parents.take (i+1)=v.parents.take i++[v.parents[i]]:=ca hlt
  have h4:v.parents[i]∈v.parents:=be hlt
  generalize v.parents[i]=p at *
  have hlt2:=zI g (v.round-1) p
  cases h5:d7 g (v.round-1) p
  ·have hlt2:lS g (v.round-1) p<0:=by simpa[h5] using hlt2
   (repeat' first|refine st ?_|refine sa fun xe hxe=>?_|refine sb (fun hq=>?_) fun hq=>?_|refine cr (pL _ _ _) ?_|exact aa)
   refine⟨?_,rfl⟩
   have:parOK g v=false:=by
    rw[cj]
    intro h
    rw[dK.1 h p h4] at h5
    cases h5
   rw[this]
  ·have hlt2:¬lS g (v.round-1) p<0:=by simpa[h5] using hlt2
   (repeat' first|refine st ?_|refine sa fun xe hxe=>?_|refine sb (fun hq=>?_) fun hq=>?_|refine cr (pL _ _ _) ?_|exact aa)
   exact⟨i+1,⟨by omega,by rw[h3];exact bM hall h5⟩,by omega,rfl⟩
 ·(repeat' first|refine st ?_|refine sa fun xe hxe=>?_|refine sb (fun hq=>?_) fun hq=>?_|exact aa)
  refine⟨?_,rfl⟩
  rw[br (by omega)] at hall
  rw[dK.2 hall]
theorem rT {c:List Int}{v:Vtx}(h:vtxS c v=true):-1000000<v.round∧v.round<1000000:=by
 have:=(bG h).1
 omega
theorem E0 (c:List Int)(g:List Vtx):ag Tryz.prog 103 [.lst (.int .i64) c,.lst .vtx g] [] (.bool (graS c g)) []:=by
 refine ab aj Tryz.func103 rfl rfl false 0 4 rfl rfl rfl rfl fun K hK hb1 hb2=>?_;simp only[ae,enc,Nat.reduceAdd]
 simp[ak,V.toD,bnd,ai,D.cells] at hb1
 cases hc:comV c
 ·(repeat' first|refine st ?_|refine sa fun xe hxe=>?_|refine sb (fun hq=>?_) fun hq=>?_|refine cr (zt _) ?_|exact aa)
  exact⟨by simp[graS,hc],rfl⟩
 (repeat' first|refine st ?_|refine sa fun xe hxe=>?_|refine sb (fun hq=>?_) fun hq=>?_|refine cr (zt _) ?_|exact aa)
 refine ah hK [] [0,1,5] (fun i:Nat=>⟨[(0,.lst (.int .i64) c),(1,.lst .vtx g),(5,.int .i64 i)],[],4⟩) (fun i=>i≤g.length∧∀j,j<i→jV c g j=true) (fun i=>g.length-i) 0 ⟨by simp,by simp⟩ rfl ?_
 rintro i ⟨hi,hall⟩
 have hno:jV c g i=false→i<g.length→V.bool false=V.bool (graS c g)∧([]:VH)=[]:=fun h1 h2=>⟨by simp only[graS,hc,dX];rw[dY h2 h1],rfl⟩
 by_cases hlt:i<g.length
 ·have hxe:g[i]?=some g[i]:=am hlt
  have hA:jV c g i=(vtxS c g[i] && ((i==0||bef (g.getD (i-1) v0) g[i]) && parOK g g[i])):=by simp only[jV,bW hxe]
  have hyes:jV c g i=true→∃y,(y≤g.length∧∀j,j<y→jV c g j=true)∧g.length-y<g.length-i∧VSt.mk [(0,.lst (.int .i64) c),(1,.lst .vtx g),(5,.int .i64 ((i:Int)+1))] [] 4=⟨[(0,.lst (.int .i64) c),(1,.lst .vtx g),(5,.int .i64 (y:Int))],[],4⟩:=fun h=>⟨i+1,⟨by omega,cH hall h⟩,by omega,rfl⟩
  generalize g[i]=v at *
  cases h1:vtxS c v
  ·(repeat' first|refine st ?_|refine sa fun xe hxe=>?_|refine sb (fun hq=>?_) fun hq=>?_|refine cr (nM _ _ hc) ?_|exact aa)
   exact hno (by rw[hA,h1];rfl) hlt
  have h0:-1000000<v.round∧v.round<1000000:=rT h1
  rw[h1] at hA
  cases h3:parOK g v
  ·rw[h3] at hA
   by_cases hi0:i=0
   ·(repeat' first|refine st ?_|refine sa fun xe hxe=>?_|refine sb (fun hq=>?_) fun hq=>?_|refine cr (nM _ _ hc) ?_|refine cr (e8 _ _ h0) ?_|exact aa)
    exact hno (by rw[hA];simp) hlt
   ·have hye:g[((i:Int)-1).toNat]?=some (g.getD (i-1) v0):=by rw[show ((i:Int)-1).toNat=i-1 by omega,aq,am (show i-1<g.length by omega)];rfl
    generalize g.getD (i-1) v0=u at *
    (repeat' first|refine st ?_|refine sa fun xe hxe=>?_|refine sb (fun hq=>?_) fun hq=>?_|refine cr (nM _ _ hc) ?_|refine cr (oq _ _) ?_|refine cr (e8 _ _ h0) ?_|exact aa)
    all_goals exact hno (by rw[hA];simp) hlt
  ·rw[h3] at hA
   by_cases hi0:i=0
   ·(repeat' first|refine st ?_|refine sa fun xe hxe=>?_|refine sb (fun hq=>?_) fun hq=>?_|refine cr (nM _ _ hc) ?_|refine cr (e8 _ _ h0) ?_|exact aa)
    exact hyes (by rw[hA];simp[hi0])
   ·have hye:g[((i:Int)-1).toNat]?=some (g.getD (i-1) v0):=by rw[show ((i:Int)-1).toNat=i-1 by omega,aq,am (show i-1<g.length by omega)];rfl
    generalize g.getD (i-1) v0=u at *
    cases h4:bef u v
    ·(repeat' first|refine st ?_|refine sa fun xe hxe=>?_|refine sb (fun hq=>?_) fun hq=>?_|refine cr (nM _ _ hc) ?_|refine cr (oq _ _) ?_|refine cr (e8 _ _ h0) ?_|exact aa)
     exact hno (by rw[hA,h4];simp[hi0]) hlt
    ·(repeat' first|refine st ?_|refine sa fun xe hxe=>?_|refine sb (fun hq=>?_) fun hq=>?_|refine cr (nM _ _ hc) ?_|refine cr (oq _ _) ?_|refine cr (e8 _ _ h0) ?_|exact aa)
     exact hyes (by rw[hA,h4];simp)
 ·(repeat' first|refine st ?_|refine sa fun xe hxe=>?_|refine sb (fun hq=>?_) fun hq=>?_|exact aa)
  refine⟨?_,rfl⟩
  have:i=g.length:=by omega
  subst this
  simp only[graS,hc,dj hall,dX]
theorem CL {g:List Vtx}{r:Int}{i:Nat}{v:Vtx}(h:g[i]?=some v):fE (g.take (i+1)) r=if v.round==r then fE (g.take i) r++[v.author] else fE (g.take i) r:=by
 obtain⟨hl,rfl⟩:=aQ.1 h
 rw[ca hl]
 simp only[fE,py,cg,lP,mI]
 split<;>simp
theorem DW (g:List Vtx)(r:Int)(i:Nat):(fE (g.take i) r).length≤g.length:=by
 unfold fE
 rw[az]
 refine cz (mN _ _) ?_
 rw[bQ]
 omega
theorem zj (g:List Vtx)(r:Int)(hl:g.length≤2000000):ag Tryz.prog 52 [.lst .vtx g,.int .i64 r] [] (.ref 4) [(4,.row 3 (.int .i64) (fE g r))]:=by
 refine ab aj Tryz.func52 rfl rfl false 0 4 rfl rfl rfl rfl fun K hK hb1 hb2=>?_;simp only[ae,enc,Nat.reduceAdd]
 clear hb1 hb2
 (repeat' first|refine st ?_|refine sa fun xe hxe=>?_|refine sb (fun hq=>?_) fun hq=>?_|exact aa)
 refine ah hK [] [0,1,5,6] (fun i:Nat=>⟨[(0,.lst .vtx g),(1,.int .i64 r),(5,.ref 4),(6,.int .i64 i)],[(4,.row 3 (.int .i64) (fE (g.take i) r))],5⟩) (fun i=>i≤g.length) (fun i=>g.length-i) 0 (by simp) rfl ?_
 intro i hi
 by_cases hlt:i<g.length
 ·have hxe:g[i]?=some g[i]:=am hlt
  have h3:=CL (r:=r) hxe
  have h4:=DW g r i
  generalize g[i]=v at *
  cases h1:v.round==r
  ·rw[h1,if_neg (by simp)] at h3
   (repeat' first|refine st ?_|refine sa fun xe hxe=>?_|refine sb (fun hq=>?_) fun hq=>?_|exact aa)
   exact⟨i+1,by omega,by omega,by rw[h3];rfl⟩
  ·rw[h1,if_pos rfl] at h3
   (repeat' first|refine st ?_|refine sa fun xe hxe=>?_|refine sb (fun hq=>?_) fun hq=>?_|exact aa)
   exact⟨i+1,by omega,by omega,by rw[h3];rfl⟩
 ·(repeat' first|refine st ?_|refine sa fun xe hxe=>?_|refine sb (fun hq=>?_) fun hq=>?_|exact aa)
  rw[br (by omega)]
  exact⟨rfl,rfl⟩
theorem Nt (c:List Int)(g:List Vtx)(h:GraOK c g)(hl:g.length≤2000000):ag Tryz.prog 51 [.lst (.int .i64) c,.lst .vtx g] [] (.int .i64 (iO c g)) []:=by
 have h7:=(ay.1 h.com).2
 refine ab aj Tryz.func51 rfl rfl false 0 4 rfl rfl rfl rfl fun K hK hb1 hb2=>?_;simp only[ae,enc,Nat.reduceAdd]
 clear hb1 hb2
 (repeat' first|refine st ?_|refine sa fun xe hxe=>?_|refine sb (fun hq=>?_) fun hq=>?_|exact aa)
 refine ah hK [] [0,1,5] (fun k:Int=>⟨[(0,.lst (.int .i64) c),(1,.lst .vtx g),(5,.int .i64 k)],[],4⟩) (fun k=>(-1≤k∧k≤30)∧iO c g=kH c g (k+1).toNat) (fun k=>(k+1).toNat) 30 ⟨by simp,rfl⟩ rfl ?_
 rintro k ⟨hi,hh⟩
 by_cases hk:k<0
 ·(repeat' first|refine st ?_|refine sa fun xe hxe=>?_|refine sb (fun hq=>?_) fun hq=>?_|exact aa)
  rw[show (k+1).toNat=0 by omega] at hh
  exact⟨by rw[hh];rfl,rfl⟩
 ·have h1:=pE h k
  have h2:=eO h1
  have h4:kH c g (k.toNat+1)=if quo c≤fo c (fE g k.toNat) then(k.toNat:Int) else kH c g k.toNat:=rfl
  rw[show ((k.toNat:Nat):Int)=k by omega] at h4
  rw[show (k+1).toNat=k.toNat+1 by omega,h4] at hh
  by_cases h5:quo c≤fo c (fE g k)
  ·rw[if_pos h5] at hh
   (repeat' first|refine st ?_|refine sa fun xe hxe=>?_|refine sb (fun hq=>?_) fun hq=>?_|refine cr (zj _ _ hl) ?_|refine cr (yC _ h.com) ?_|((with_reducible refine fF ?_);(conv=>whnf);(first|with_reducible refine bg (Cx _ _ h.com (cD h1) (by omega)) ?_);conv=>whnf)|exact aa)
   exact⟨by rw[hh],rfl⟩
  ·rw[if_neg h5] at hh
   (repeat' first|refine st ?_|refine sa fun xe hxe=>?_|refine sb (fun hq=>?_) fun hq=>?_|refine cr (zj _ _ hl) ?_|refine cr (yC _ h.com) ?_|((with_reducible refine fF ?_);(conv=>whnf);(first|with_reducible refine bg (Cx _ _ h.com (cD h1) (by omega)) ?_);conv=>whnf)|exact aa)
   exact⟨k-1,⟨by omega,by rw[hh];congr 1;omega⟩,by omega,rfl⟩
theorem v7 (c:List Int):ag Tryz.prog 132 [.lst (.int .i64) c] [] (.bool (comV c)) []:=by
 refine ab aj Tryz.func132 rfl rfl false 0 4 rfl rfl rfl rfl fun K hK hb1 hb2=>?_;simp only[ae,enc,Nat.reduceAdd]
 simp[ak,V.toD,bnd,ai,D.cells] at hb1
 have hno:¬(1≤c.length∧c.length≤7)→V.bool false=V.bool (comV c)∧([]:VH)=[]:=fun h=>by
  refine⟨?_,rfl⟩
  have:comV c=false:=by rw[cj];intro h2;exact h (ay.1 h2).2
  rw[this]
 (repeat' first|refine st ?_|refine sa fun xe hxe=>?_|refine sb (fun hq=>?_) fun hq=>?_|exact aa)
 ·exact hno (by omega)
 ·exact hno (by omega)
 refine ah hK [] [0,13,14,15] (fun i:Nat=>⟨[(0,.lst (.int .i64) c),(13,.lst (.int .i64) c),(14,.int .i64 c.length),(15,.int .i64 i)],[],4⟩) (fun i=>i≤c.length∧∀j,j<i→j5 (c.getD j 0) 1 9=true) (fun i=>c.length-i) 0 ⟨by simp,by simp⟩ rfl ?_
 rintro i ⟨hi,hall⟩
 have hno:∀x,c[i]?=some x→¬(1≤x∧x≤9)→V.bool false=V.bool (comV c)∧([]:VH)=[]:=fun x hx h=>by
  refine⟨?_,rfl⟩
  have:comV c=false:=by rw[cj];intro h2;exact h ((ay.1 h2).1 x (bn hx))
  rw[this]
 by_cases hlt:i<c.length
 ·have hxe:c[i]?=some c[i]:=am hlt
  have hn:=hno _ hxe
  have hy:=cH hall (p:=fun j=>j5 (c.getD j 0) 1 9) (i:=i)
  simp only[bW hxe] at hy
  generalize c[i]=x at *
  (repeat' first|refine st ?_|refine sa fun xe hxe=>?_|refine sb (fun hq=>?_) fun hq=>?_|exact aa)
  ·exact hn (by omega)
  ·exact hn (by omega)
  ·exact⟨i+1,⟨by omega,hy (aC.2 (by omega))⟩,by omega,rfl⟩
 ·(repeat' first|refine st ?_|refine sa fun xe hxe=>?_|refine sb (fun hq=>?_) fun hq=>?_|exact aa)
  refine⟨?_,rfl⟩
  have:i=c.length:=by omega
  subst this
  have h1:j5 c.length 1 7=true:=aC.2 (by omega)
  simp only[comV,dj hall,dX,h1]
theorem oN (c:List Int):ag Tryz.prog 105 [.lst (.int .i64) c] [] (.bool (comV c)) []:=by
 refine ab aj Tryz.func105 rfl rfl false 0 4 rfl rfl rfl rfl fun K hK hb1 hb2=>?_;simp only[ae,enc,Nat.reduceAdd]
 (repeat' first|refine st ?_|refine sa fun xe hxe=>?_|refine sb (fun hq=>?_) fun hq=>?_|refine cr (v7 _) ?_|exact aa)
 exact⟨rfl,rfl⟩
theorem zY (c:List Int)(hc:comV c=true):ag Tryz.prog 133 [.lst (.int .i64) c] [] (.int .i64 (n6 c)) []:=by
 have hc1:=ay.1 hc
 refine ab aj Tryz.func133 rfl rfl false 0 4 rfl rfl rfl rfl fun K hK hb1 hb2=>?_;simp only[ae,enc,Nat.reduceAdd]
 clear hb1 hb2
 (repeat' first|refine st ?_|refine sa fun xe hxe=>?_|refine sb (fun hq=>?_) fun hq=>?_|exact aa)
 refine ah hK [] [0,3,6,7,8] (fun i:Nat=>⟨[(0,.lst (.int .i64) c),(3,.int .i64 (n6 (c.take i))),(6,.lst (.int .i64) c),(7,.int .i64 c.length),(8,.int .i64 i)],[],4⟩) (fun i=>i≤c.length) (fun i=>c.length-i) 0 (by simp) rfl ?_
 intro i hi
 have hb:=G1 hc i
 by_cases hlt:i<c.length
 ·have hxe:c[i]?=some c[i]:=am hlt
  have hb2:=hc1.1 _ (bn hxe)
  have hsn:=yU hxe
  generalize c[i]=x at *
  (repeat' first|refine st ?_|refine sa fun xe hxe=>?_|refine sb (fun hq=>?_) fun hq=>?_|exact aa)
  exact⟨i+1,by omega,by omega,by rw[hsn];rfl⟩
 (repeat' first|refine st ?_|refine sa fun xe hxe=>?_|refine sb (fun hq=>?_) fun hq=>?_|exact aa)
 rw[br (by omega)]
 exact⟨rfl,rfl⟩
theorem zW (c:List Int)(hc:comV c=true):ag Tryz.prog 165 [.lst (.int .i64) c] [] (.int .i64 (quo c)) []:=by
 have h1:=jz hc
 have h2:=Gf hc
 have h3:(2*n6 c).tdiv 3+1=quo c:=rfl
 refine ab aj Tryz.func165 rfl rfl false 0 4 rfl rfl rfl rfl fun K hK hb1 hb2=>?_;simp only[ae,enc,Nat.reduceAdd]
 (repeat' first|refine st ?_|refine sa fun xe hxe=>?_|refine sb (fun hq=>?_) fun hq=>?_|refine cr (zY _ hc) ?_|exact aa)
 exact⟨rfl,rfl⟩
theorem BB (c:List Int):ag Tryz.prog 137 [.lst (.int .i64) c] [] (.int .i64 (if comV c then quo c else-1)) []:=by
 refine ab aj Tryz.func137 rfl rfl false 0 4 rfl rfl rfl rfl fun K hK hb1 hb2=>?_;simp only[ae,enc,Nat.reduceAdd]
 cases hc:comV c
 ·(repeat' first|refine st ?_|refine sa fun xe hxe=>?_|refine sb (fun hq=>?_) fun hq=>?_|refine cr (v7 _) ?_|exact aa)
  exact⟨rfl,rfl⟩
 ·(repeat' first|refine st ?_|refine sa fun xe hxe=>?_|refine sb (fun hq=>?_) fun hq=>?_|refine cr (v7 _) ?_|refine cr (zW _ hc) ?_|exact aa)
  exact⟨rfl,rfl⟩
theorem fG (c:List Int)(m:Int):ag Tryz.prog 106 [.lst (.int .i64) c,.int .i64 m] [] (.bool (dB c m)) []:=by
 refine ab aj Tryz.func106 rfl rfl false 0 4 rfl rfl rfl rfl fun K hK hb1 hb2=>?_;simp only[ae,enc,Nat.reduceAdd]
 simp[ak,V.toD,bnd,ai,D.cells] at hb1
 (repeat' first|refine st ?_|refine sa fun xe hxe=>?_|refine sb (fun hq=>?_) fun hq=>?_|exact aa)
 all_goals (refine⟨congrArg V.bool ?_,rfl⟩;rw[eo];simp only[dB,aC,decide_eq_true_eq];(try simp);omega)
theorem nW (r:Int):ag Tryz.prog 134 [.int .i64 r] [] (.bool (j5 r 0 30)) []:=by
 refine ab aj Tryz.func134 rfl rfl false 0 4 rfl rfl rfl rfl fun K hK hb1 hb2=>?_;simp only[ae,enc,Nat.reduceAdd]
 (repeat' first|refine st ?_|refine sa fun xe hxe=>?_|refine sb (fun hq=>?_) fun hq=>?_|exact aa)
 all_goals (refine⟨congrArg V.bool ?_,rfl⟩;rw[eo];simp only[aC,decide_eq_true_eq];(try simp);omega)
theorem Li (r:Int):ag Tryz.prog 135 [.int .i64 r] [] (.bool (j5 r 0 990)) []:=by
 refine ab aj Tryz.func135 rfl rfl false 0 4 rfl rfl rfl rfl fun K hK hb1 hb2=>?_;simp only[ae,enc,Nat.reduceAdd]
 (repeat' first|refine st ?_|refine sa fun xe hxe=>?_|refine sb (fun hq=>?_) fun hq=>?_|exact aa)
 all_goals (refine⟨congrArg V.bool ?_,rfl⟩;rw[eo];simp only[aC,decide_eq_true_eq];(try simp);omega)
theorem Ir (c ms:List Int):ag Tryz.prog 138 [.lst (.int .i64) c,.lst (.int .i64) ms] [] (.bool (d8 c ms)) []:=by
 refine ab aj Tryz.func138 rfl rfl false 0 4 rfl rfl rfl rfl fun K hK hb1 hb2=>?_;simp only[ae,enc,Nat.reduceAdd]
 simp[ak,V.toD,bnd,ai,D.cells] at hb1
 (repeat' first|refine st ?_|refine sa fun xe hxe=>?_|refine sb (fun hq=>?_) fun hq=>?_|exact aa)
 refine ah hK [] [0,1,7,8,9] (fun i:Nat=>⟨[(0,.lst (.int .i64) c),(1,.lst (.int .i64) ms),(7,.lst (.int .i64) ms),(8,.int .i64 ms.length),(9,.int .i64 i)],[],4⟩) (fun i=>i≤ms.length∧∀j,j<i→ju c ms j=true) (fun i=>ms.length-i) 0 ⟨by simp,by simp⟩ rfl ?_
 rintro i ⟨hi,hall⟩
 have hno:ju c ms i=false→i<ms.length→V.bool false=V.bool (d8 c ms)∧([]:VH)=[]:=fun h1 h2=>by
  have:d8 c ms=false:=dY h2 h1
  rw[this]
  exact⟨rfl,rfl⟩
 by_cases hlt:i<ms.length
 ·have hxe:ms[i]?=some ms[i]:=am hlt
  have hA:ju c ms i=(dB c ms[i] && (i==0||decide (ms.getD (i-1) 0<ms[i]))):=by simp only[ju,bW hxe]
  have hyes:ju c ms i=true→∃y,(y≤ms.length∧∀j,j<y→ju c ms j=true)∧ms.length-y<ms.length-i∧VSt.mk [(0,.lst (.int .i64) c),(1,.lst (.int .i64) ms),(7,.lst (.int .i64) ms),(8,.int .i64 ms.length),(9,.int .i64 ((i:Int)+1))] [] 4=⟨[(0,.lst (.int .i64) c),(1,.lst (.int .i64) ms),(7,.lst (.int .i64) ms),(8,.int .i64 ms.length),(9,.int .i64 (y:Int))],[],4⟩:=fun h=>⟨i+1,⟨by omega,cH hall h⟩,by omega,rfl⟩
  generalize ms[i]=m at *
  cases h1:dB c m
  ·(repeat' first|refine st ?_|refine sa fun xe hxe=>?_|refine sb (fun hq=>?_) fun hq=>?_|refine cr (fG _ _) ?_|exact aa)
   exact hno (by rw[hA,h1];rfl) hlt
  by_cases hi0:i=0
  ·(repeat' first|refine st ?_|refine sa fun xe hxe=>?_|refine sb (fun hq=>?_) fun hq=>?_|refine cr (fG _ _) ?_|exact aa)
   exact hyes (by rw[hA,h1];simp[hi0])
  ·have hye:ms[((i:Int)-1).toNat]?=some (ms.getD (i-1) 0):=by rw[show ((i:Int)-1).toNat=i-1 by omega,aq,am (show i-1<ms.length by omega)];rfl
   generalize ms.getD (i-1) 0=u at *
   (repeat' first|refine st ?_|refine sa fun xe hxe=>?_|refine sb (fun hq=>?_) fun hq=>?_|refine cr (fG _ _) ?_|exact aa)
   ·exact hno (by rw[hA,h1];simp;omega) hlt
   ·exact hyes (by rw[hA,h1];simp;omega)
 ·(repeat' first|refine st ?_|refine sa fun xe hxe=>?_|refine sb (fun hq=>?_) fun hq=>?_|exact aa)
  refine⟨?_,rfl⟩
  have:i=ms.length:=by omega
  subst this
  have:d8 c ms=true:=dj hall
  rw[this]
theorem rx (c ms:List Int):ag Tryz.prog 109 [.lst (.int .i64) c,.lst (.int .i64) ms] [] (.bool (comV c && d8 c ms)) []:=by
 refine ab aj Tryz.func109 rfl rfl false 0 4 rfl rfl rfl rfl fun K hK hb1 hb2=>?_;simp only[ae,enc,Nat.reduceAdd]
 (repeat' first|refine st ?_|refine sa fun xe hxe=>?_|refine sb (fun hq=>?_) fun hq=>?_|refine cr (v7 _) ?_|refine cr (Ir _ _) ?_|exact aa)
 all_goals (refine⟨?_,rfl⟩;simp_all)
theorem zZ (c ms:List Int)(hc:comV c=true)(hm:∀m∈ms,0≤m∧m<c.length)(hl:ms.length≤2000000):ag Tryz.prog 164 [.lst (.int .i64) c,.lst (.int .i64) ms] [] (.int .i64 (fo c ms)) []:=by
 refine ab aj Tryz.func164 rfl rfl false 0 4 rfl rfl rfl rfl fun K hK hb1 hb2=>?_;simp only[ae,enc,Nat.reduceAdd]
 clear hb1 hb2
 (repeat' first|refine st ?_|refine sa fun xe hxe=>?_|refine sb (fun hq=>?_) fun hq=>?_|exact aa)
 refine ah hK [] [0,1,5,8,9,10] (fun i:Nat=>⟨[(0,.lst (.int .i64) c),(1,.lst (.int .i64) ms),(5,.int .i64 (fo c (ms.take i))),(8,.lst (.int .i64) ms),(9,.int .i64 ms.length),(10,.int .i64 i)],[],4⟩) (fun i=>i≤ms.length) (fun i=>ms.length-i) 0 (by simp) rfl ?_
 intro i hi
 by_cases hlt:i<ms.length
 ·have hxe:ms[i]?=some ms[i]:=am hlt
  have h1:=hm _ (be hlt)
  have h2:=wH (ms:=ms.take i) hc
  have h3:=Hj (c:=c) hxe
  rw[bQ] at h2
  generalize ms[i]=m at *
  have hx2:c[m.toNat]?=some (c.getD m.toNat 0):=by rw[aq,am (show m.toNat<c.length by omega)];rfl
  have h4:=(ay.1 hc).1 _ (bn hx2)
  generalize c.getD m.toNat 0=x at *
  (repeat' first|refine st ?_|refine sa fun xe hxe=>?_|refine sb (fun hq=>?_) fun hq=>?_|exact aa)
  exact⟨i+1,by omega,by omega,by rw[h3];rfl⟩
 (repeat' first|refine st ?_|refine sa fun xe hxe=>?_|refine sb (fun hq=>?_) fun hq=>?_|exact aa)
 rw[br (by omega)]
 exact⟨rfl,rfl⟩
def DF (c ms:List Int):Int:=if comV c && d8 c ms then fo c ms else-1
theorem BI (c ms:List Int):ag Tryz.prog 136 [.lst (.int .i64) c,.lst (.int .i64) ms] [] (.int .i64 (DF c ms)) []:=by
 refine ab aj Tryz.func136 rfl rfl false 0 4 rfl rfl rfl rfl fun K hK hb1 hb2=>?_;simp only[ae,enc,Nat.reduceAdd]
 cases hv:comV c && d8 c ms
 ·(repeat' first|refine st ?_|refine sa fun xe hxe=>?_|refine sb (fun hq=>?_) fun hq=>?_|refine cr (rx _ _) ?_|exact aa)
  exact⟨by simp[DF,hv],rfl⟩
 ·have hc:comV c=true:=by simp_all
  have hm:d8 c ms=true:=by simp_all
  have h7:=(ay.1 hc).2
  have hl:=eO hm
  (repeat' first|refine st ?_|refine sa fun xe hxe=>?_|refine sb (fun hq=>?_) fun hq=>?_|refine cr (rx _ _) ?_|((with_reducible refine fF ?_);(conv=>whnf);(first|with_reducible refine bg (zZ _ _ hc (cD hm) (by omega)) ?_);conv=>whnf)|exact aa)
  exact⟨by simp[DF,hv],rfl⟩
theorem vV (v u:Vtx):ag Tryz.prog 167 [de v,de u] [] (.bool (bef v u)) []:=by
 refine ab aj Tryz.func167 rfl rfl false 0 4 rfl rfl rfl rfl fun K hK hb1 hb2=>?_;simp only[ae,enc,Nat.reduceAdd]
 (repeat' first|refine st ?_|refine sa fun xe hxe=>?_|refine sb (fun hq=>?_) fun hq=>?_|exact aa)
 all_goals (refine⟨?_,rfl⟩;simp_all[bef])
theorem ke (c:List Int)(v:Vtx):ag Tryz.prog 108 [.lst (.int .i64) c,de v] [] (.bool (comV c && vtxS c v)) []:=by
 refine ab aj Tryz.func108 rfl rfl false 0 4 rfl rfl rfl rfl fun K hK hb1 hb2=>?_;simp only[ae,enc,Nat.reduceAdd]
 simp[ak,V.toD,bnd,ai,D.cells] at hb1
 have h8:((v.parents.length:Int)==0)=(v.parents.length==0):=by rw[eo,beq_iff_eq,beq_iff_eq];omega
 (repeat' first|refine st ?_|refine sa fun xe hxe=>?_|refine sb (fun hq=>?_) fun hq=>?_|refine cr (rx _ _) ?_|refine cr (nW _) ?_|refine cr (fG _ _) ?_|refine cr (Li _) ?_|refine cr (BI _ _) ?_|refine cr (BB _) ?_|exact aa)
 all_goals (refine⟨?_,rfl⟩;simp_all[vtxS,dB,DF])
def Θg:TT:=(181,⟨.ptr 193,1,8,some (.nilp),some (.hp 0),false⟩)::Θ
theorem eW:TT.ok Tryz.prog Θg:=TT.okB_ok (by kernel_rfl)
theorem j4 {P Q:Prop}(h:Q)(s:Hid Q→P:=by
  intro h
  (first|(with_reducible first|apply dZ|apply cZ)|((first|with_reducible apply cN eW|refine go ?_|(with_reducible first|apply dk|apply dy|apply cL|apply cO|refine cM eW mixed (by kernel_rfl) ?_))<;>conv=>whnf))
  repeat(first|(with_reducible first|apply dZ|apply cZ)|((first|with_reducible apply cN eW|refine go ?_|(with_reducible first|apply dk|apply dy|apply cL|apply cO|refine cM eW mixed (by kernel_rfl) ?_))<;>conv=>whnf))
  exact h.h):P:=s ⟨h⟩
abbrev gZ (c:List Int)(s:GS):VH:=[(0,.fvar 193 (.nod 1) s.nodes),(1,.frow 181 (.hp 0) s.rows),(4,.vari 185 [.lst (.int .i64) c,.nils] 217 (.hp 0) s.plc [])]
abbrev O5 (c:List Int)(s:GS)(x:VB):VH:=[(0,.fvar 193 (.nod 1) s.nodes),(1,.frow 181 (.hp 0) s.rows),(4,.vari 185 [.lst (.int .i64) c,.nils] 217 (.hp 0) s.plc []),(5,x)]
abbrev gR (c:List Int)(s:GS):VH:=[(0,.fvar 193 (.nod 1) s.nodes),(1,.frow 181 (.hp 0) s.rows),(4,.vari 185 [.lst (.int .i64) c,.ref 5] 217 (.hp 0) s.plc []),(5,.row 181 (.hp 0) ((List.range s.nodes.length).map some))]
abbrev H7 (c:List Int)(s:GS)(x:VB):VH:=[(0,.fvar 193 (.nod 1) s.nodes),(1,.frow 181 (.hp 0) s.rows),(4,.vari 185 [.lst (.int .i64) c,.ref 5] 217 (.hp 0) s.plc []),(5,.row 181 (.hp 0) ((List.range s.nodes.length).map some)),(6,x)]
theorem rG {s:GS}(hs:s.plc.length=217){r a:Int}(hr:j5 r 0 30=true)(ha:0≤a∧a≤6):s.plc[r.toNat * 7+a.toNat]?=some (s.at r a):=by
 have hr:=aC.1 hr
 have e:(r*7+a).toNat=r.toNat * 7+a.toNat:=by omega
 rw[GS.at,e,aq,am (by omega)]
 rfl
def qy (s:GS)(r:Int)(n:Nat):List Int:=((List.range n).filter fun a:Nat=>j5 r 0 30 && (s.at r (a:Int)).isSome).map fun a:Nat=>(a:Int)
theorem KC (s:GS)(r:Int)(n:Nat):qy s r (n+1)=if j5 r 0 30 && (s.at r (n:Int)).isSome then qy s r n++[(n:Int)] else qy s r n:=by
 simp only[qy,mH,py,cg,lP,mI]
 split<;>simp
theorem M5 (s:GS)(r:Int)(n:Nat):(qy s r n).length≤n:=by
 unfold qy
 rw[az]
 exact cz (mN _ _) (by simp)
theorem Ok (c:List Int)(s:GS)(r a:Int)(h:(j5 r 0 30 && dB c a)=false):ag Tryz.prog 185 [.ptr 4 0,.int .i64 r,.int .i64 a] (gR c s) .nilp (gR c s):=by
 refine ab eW Tryz.func185 rfl rfl false 2 6 rfl rfl rfl rfl fun K hK hb1 hb2=>?_;simp only[ae,enc,Nat.reduceAdd]
 clear hb1 hb2
 cases h1:j5 r 0 30
 ·(repeat' first|refine st ?_|refine sa fun xe hxe=>?_|refine sb (fun hq=>?_) fun hq=>?_|refine cr (nW _) ?_|refine cr (fG _ _) ?_|exact aa)
  exact⟨rfl,rfl⟩
 ·have h2:dB c a=false:=by simp_all
  (repeat' first|refine st ?_|refine sa fun xe hxe=>?_|refine sb (fun hq=>?_) fun hq=>?_|refine cr (nW _) ?_|refine cr (fG _ _) ?_|exact aa)
  exact⟨rfl,rfl⟩
theorem nS (c:List Int)(s:GS)(r a:Int)(hs:s.plc.length=217)(hc:c.length≤7)(h1:j5 r 0 30=true)(h2:dB c a=true):ag Tryz.prog 185 [.ptr 4 0,.int .i64 r,.int .i64 a] (gR c s) (.hpo 0 (s.at r a)) (gR c s):=by
 refine ab eW Tryz.func185 rfl rfl false 2 6 rfl rfl rfl rfl fun K hK hb1 hb2=>?_;simp only[ae,enc,Nat.reduceAdd]
 clear hb1 hb2
 have hr:=aC.1 h1
 have ha:=aC.1 h2
 have hp:=rG hs h1 (a:=a) (by omega)
 (repeat' first|refine st ?_|refine sa fun xe hxe=>?_|refine sb (fun hq=>?_) fun hq=>?_|refine cr (nW _) ?_|refine cr (fG _ _) ?_|exact aa)
 exact⟨rfl,rfl⟩
theorem Ol (c:List Int)(s:GS)(r a:Int)(h:(j5 r 0 30 && dB c a)=false):ag Tryz.prog 185 [.ptr 4 0,.int .i64 r,.int .i64 a] (gZ c s) .nilp (gZ c s):=by
 refine ab eW Tryz.func185 rfl rfl false 1 5 rfl rfl rfl rfl fun K hK hb1 hb2=>?_;simp only[ae,enc,Nat.reduceAdd]
 clear hb1 hb2
 cases h1:j5 r 0 30
 ·(repeat' first|refine st ?_|refine sa fun xe hxe=>?_|refine sb (fun hq=>?_) fun hq=>?_|refine cr (nW _) ?_|refine cr (fG _ _) ?_|exact aa)
  exact⟨rfl,rfl⟩
 ·have h2:dB c a=false:=by simp_all
  (repeat' first|refine st ?_|refine sa fun xe hxe=>?_|refine sb (fun hq=>?_) fun hq=>?_|refine cr (nW _) ?_|refine cr (fG _ _) ?_|exact aa)
  exact⟨rfl,rfl⟩
theorem DV (c:List Int)(s:GS)(r a:Int)(hs:s.plc.length=217)(hc:c.length≤7)(h1:j5 r 0 30=true)(h2:dB c a=true):ag Tryz.prog 185 [.ptr 4 0,.int .i64 r,.int .i64 a] (gZ c s) (.hpo 0 (s.at r a)) (gZ c s):=by
 refine ab eW Tryz.func185 rfl rfl false 1 5 rfl rfl rfl rfl fun K hK hb1 hb2=>?_;simp only[ae,enc,Nat.reduceAdd]
 clear hb1 hb2
 have hr:=aC.1 h1
 have ha:=aC.1 h2
 have hp:=rG hs h1 (a:=a) (by omega)
 (repeat' first|refine st ?_|refine sa fun xe hxe=>?_|refine sb (fun hq=>?_) fun hq=>?_|refine cr (nW _) ?_|refine cr (fG _ _) ?_|exact aa)
 exact⟨rfl,rfl⟩

end Go.Proofs.YtpefhoohfkeflaaGreatDoor.Am
