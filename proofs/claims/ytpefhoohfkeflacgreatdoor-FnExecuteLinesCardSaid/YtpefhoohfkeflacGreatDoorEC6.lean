/- The program's types, by program (gsa.py). Committees and graphs: what the specification's functions give. Committees and vertices: what the program's functions give. Graphs: what the program's functions give. Graphs: a vertex is linked. Graphs: all vertices are linked. Graphs: heights, authors, places. -/
import Derived.Test.YtpefhoohfkeflacGreatDoorRows
import Derived.Test.YtpefhoohfkeflacGreatDoorEC5
set_option linter.unusedSimpArgs false
set_option linter.unusedVariables false
set_option maxHeartbeats 1000000
namespace Go.Proofs.YtpefhoohfkeflacGreatDoor.Am
open Go
def Θ:TT:=[
  (3,⟨.int .i64,1,8,some (.int .i64 0),some (.int .i64),false⟩),
  (5,⟨.int .u8,1,1,some (.int .u8 0),some (.int .u8),false⟩),
  (21,⟨.int .i32,1,4,some (.int .i32 0),some (.int .i32),false⟩),
  (89,⟨.int .u32,1,4,some (.int .u32 0),some (.int .u32),false⟩),
  (166,⟨.int .u64,1,8,some (.int .u64 0),some (.int .u64),false⟩),
  (4,⟨.bool,1,1,some (.bool false),some (.bool),false⟩),
  (22,⟨.slice 5,1,24,some (.nils),some (.lst (.int .u8)),false⟩),
  (32,⟨.slice 3,1,24,some (.nils),some (.lst (.int .i64)),false⟩),
  (33,⟨.slice 82,1,24,some (.nils),some (.lst (.lst (.vtx))),false⟩),
  (34,⟨.slice 123,1,24,some (.nils),some (.lst (.ppl)),false⟩),
  (44,⟨.slice 9,1,24,some (.nils),some (.lst (.str)),false⟩),
  (64,⟨.slice 67,1,24,some (.nils),some (.lst (.slt)),false⟩),
  (82,⟨.slice 73,1,24,some (.nils),some (.lst (.vtx)),false⟩),
  (95,⟨.slice 98,1,24,some (.nils),none,false⟩),
  (154,⟨.slice 157,1,24,some (.nils),none,false⟩),
  (176,⟨.slice 4,1,24,some (.nils),some (.lst (.bool)),false⟩),
  (177,⟨.slice 178,1,24,some (.nils),none,false⟩),
  (94,⟨.slice 3,1,24,some (.nils),some (.lst (.int .i64)),false⟩),
  (187,⟨.slice 73,1,24,some (.nils),some (.lst (.vtx)),false⟩),
  (36,⟨.struct [(32,0,1),(32,1,1),(3,2,1),(33,3,1),(34,4,1)],5,104,some (.agg [.nils,.nils,.int .i64 0,.nils,.nils]),some (.wrl),false⟩),
  (39,⟨.struct [(37,0,1),(22,1,1)],2,32,some (.agg [.nilp,.nils]),none,false⟩),
  (41,⟨.struct [(36,0,5),(39,5,2)],7,136,some (.agg [.nils,.nils,.int .i64 0,.nils,.nils,.nilp,.nils]),none,false⟩),
  (54,⟨.struct [(22,0,1),(3,1,1)],2,32,some (.agg [.nils,.int .i64 0]),none,false⟩),
  (61,⟨.struct [(9,0,1)],1,16,some (.agg [.str ⟨#[]⟩]),none,false⟩),
  (67,⟨.struct [(3,0,1),(3,1,1)],2,16,some (.agg [.int .i64 0,.int .i64 0]),some (.slt),false⟩),
  (73,⟨.struct [(3,0,1),(3,1,1),(32,2,1),(3,3,1)],4,48,some (.agg [.int .i64 0,.int .i64 0,.nils,.int .i64 0]),some (.vtx),false⟩),
  (77,⟨.struct [(3,0,1),(3,1,1),(3,2,1),(73,3,4)],7,72,some (.agg [.int .i64 0,.int .i64 0,.int .i64 0,.int .i64 0,.int .i64 0,.nils,.int .i64 0]),some (.evt),false⟩),
  (88,⟨.struct [],0,0,some (.agg []),none,false⟩),
  (91,⟨.struct [(21,0,1),(89,1,1)],2,8,some (.agg [.int .i32 0,.int .u32 0]),none,false⟩),
  (93,⟨.struct [(88,0,0),(91,0,2)],2,8,some (.agg [.int .i32 0,.int .u32 0]),none,false⟩),
  (97,⟨.struct [(93,0,2),(94,2,1),(32,3,1),(3,4,1),(95,5,1),(34,6,1)],7,112,some (.agg [.int .i32 0,.int .u32 0,.nils,.nils,.int .i64 0,.nils,.nils]),none,false⟩),
  (123,⟨.struct [(73,0,4),(32,4,1)],5,72,some (.agg [.int .i64 0,.int .i64 0,.nils,.int .i64 0,.nils]),some (.ppl),false⟩),
  (151,⟨.struct [(149,0,1),(32,1,1)],2,32,some (.agg [.nilp,.nils]),none,false⟩),
  (157,⟨.struct [(73,0,4),(3,4,1)],5,56,some (.agg [.int .i64 0,.int .i64 0,.nils,.int .i64 0,.int .i64 0]),none,false⟩),
  (182,⟨.struct [(94,0,1),(177,1,1),(180,2,217)],219,1784,some (.agg [.nils,.nils,.nilp,.nilp,.nilp,.nilp,.nilp,.nilp,.nilp,.nilp,.nilp,.nilp,.nilp,.nilp,.nilp,.nilp,.nilp,.nilp,.nilp,.nilp,.nilp,.nilp,.nilp,.nilp,.nilp,.nilp,.nilp,.nilp,.nilp,.nilp,.nilp,.nilp,.nilp,.nilp,.nilp,.nilp,.nilp,.nilp,.nilp,.nilp,.nilp,.nilp,.nilp,.nilp,.nilp,.nilp,.nilp,.nilp,.nilp,.nilp,.nilp,.nilp,.nilp,.nilp,.nilp,.nilp,.nilp,.nilp,.nilp,.nilp,.nilp,.nilp,.nilp,.nilp,.nilp,.nilp,.nilp,.nilp,.nilp,.nilp,.nilp,.nilp,.nilp,.nilp,.nilp,.nilp,.nilp,.nilp,.nilp,.nilp,.nilp,.nilp,.nilp,.nilp,.nilp,.nilp,.nilp,.nilp,.nilp,.nilp,.nilp,.nilp,.nilp,.nilp,.nilp,.nilp,.nilp,.nilp,.nilp,.nilp,.nilp,.nilp,.nilp,.nilp,.nilp,.nilp,.nilp,.nilp,.nilp,.nilp,.nilp,.nilp,.nilp,.nilp,.nilp,.nilp,.nilp,.nilp,.nilp,.nilp,.nilp,.nilp,.nilp,.nilp,.nilp,.nilp,.nilp,.nilp,.nilp,.nilp,.nilp,.nilp,.nilp,.nilp,.nilp,.nilp,.nilp,.nilp,.nilp,.nilp,.nilp,.nilp,.nilp,.nilp,.nilp,.nilp,.nilp,.nilp,.nilp,.nilp,.nilp,.nilp,.nilp,.nilp,.nilp,.nilp,.nilp,.nilp,.nilp,.nilp,.nilp,.nilp,.nilp,.nilp,.nilp,.nilp,.nilp,.nilp,.nilp,.nilp,.nilp,.nilp,.nilp,.nilp,.nilp,.nilp,.nilp,.nilp,.nilp,.nilp,.nilp,.nilp,.nilp,.nilp,.nilp,.nilp,.nilp,.nilp,.nilp,.nilp,.nilp,.nilp,.nilp,.nilp,.nilp,.nilp,.nilp,.nilp,.nilp,.nilp,.nilp,.nilp,.nilp,.nilp,.nilp,.nilp,.nilp,.nilp,.nilp,.nilp,.nilp,.nilp,.nilp,.nilp,.nilp,.nilp,.nilp,.nilp,.nilp]),none,false⟩),
  (190,⟨.struct [(73,0,4),(3,4,1),(177,5,1)],6,80,some (.agg [.int .i64 0,.int .i64 0,.nils,.int .i64 0,.int .i64 0,.nils]),none,false⟩),
  (9,⟨.str,1,16,some (.str ⟨#[]⟩),some (.str),false⟩),
  (26,⟨.ptr 54,1,8,some (.nilp),none,false⟩),
  (31,⟨.ptr 41,1,8,some (.nilp),none,false⟩),
  (37,⟨.ptr 39,1,8,some (.nilp),none,false⟩),
  (56,⟨.ptr 97,1,8,some (.nilp),none,false⟩),
  (98,⟨.ptr 143,1,8,some (.nilp),none,false⟩),
  (140,⟨.ptr 73,1,8,some (.nilp),none,false⟩),
  (141,⟨.arr 7 140,7,56,some (.agg [.nilp,.nilp,.nilp,.nilp,.nilp,.nilp,.nilp]),none,false⟩),
  (149,⟨.ptr 182,1,8,some (.nilp),none,false⟩),
  (178,⟨.ptr 190,1,8,some (.nilp),none,false⟩),
  (179,⟨.arr 7 178,7,56,some (.agg [.nilp,.nilp,.nilp,.nilp,.nilp,.nilp,.nilp]),none,false⟩),
  (180,⟨.arr 31 179,217,1736,some (.agg [.nilp,.nilp,.nilp,.nilp,.nilp,.nilp,.nilp,.nilp,.nilp,.nilp,.nilp,.nilp,.nilp,.nilp,.nilp,.nilp,.nilp,.nilp,.nilp,.nilp,.nilp,.nilp,.nilp,.nilp,.nilp,.nilp,.nilp,.nilp,.nilp,.nilp,.nilp,.nilp,.nilp,.nilp,.nilp,.nilp,.nilp,.nilp,.nilp,.nilp,.nilp,.nilp,.nilp,.nilp,.nilp,.nilp,.nilp,.nilp,.nilp,.nilp,.nilp,.nilp,.nilp,.nilp,.nilp,.nilp,.nilp,.nilp,.nilp,.nilp,.nilp,.nilp,.nilp,.nilp,.nilp,.nilp,.nilp,.nilp,.nilp,.nilp,.nilp,.nilp,.nilp,.nilp,.nilp,.nilp,.nilp,.nilp,.nilp,.nilp,.nilp,.nilp,.nilp,.nilp,.nilp,.nilp,.nilp,.nilp,.nilp,.nilp,.nilp,.nilp,.nilp,.nilp,.nilp,.nilp,.nilp,.nilp,.nilp,.nilp,.nilp,.nilp,.nilp,.nilp,.nilp,.nilp,.nilp,.nilp,.nilp,.nilp,.nilp,.nilp,.nilp,.nilp,.nilp,.nilp,.nilp,.nilp,.nilp,.nilp,.nilp,.nilp,.nilp,.nilp,.nilp,.nilp,.nilp,.nilp,.nilp,.nilp,.nilp,.nilp,.nilp,.nilp,.nilp,.nilp,.nilp,.nilp,.nilp,.nilp,.nilp,.nilp,.nilp,.nilp,.nilp,.nilp,.nilp,.nilp,.nilp,.nilp,.nilp,.nilp,.nilp,.nilp,.nilp,.nilp,.nilp,.nilp,.nilp,.nilp,.nilp,.nilp,.nilp,.nilp,.nilp,.nilp,.nilp,.nilp,.nilp,.nilp,.nilp,.nilp,.nilp,.nilp,.nilp,.nilp,.nilp,.nilp,.nilp,.nilp,.nilp,.nilp,.nilp,.nilp,.nilp,.nilp,.nilp,.nilp,.nilp,.nilp,.nilp,.nilp,.nilp,.nilp,.nilp,.nilp,.nilp,.nilp,.nilp,.nilp,.nilp,.nilp,.nilp,.nilp,.nilp,.nilp,.nilp,.nilp,.nilp,.nilp,.nilp,.nilp,.nilp,.nilp,.nilp,.nilp,.nilp]),none,false⟩),
  (186,⟨.ptr 187,1,8,some (.nilp),none,false⟩),
  (219,⟨.ptr 123,1,8,some (.nilp),none,false⟩),
  (143,⟨.arr 31 141,217,1736,some (.agg [.nilp,.nilp,.nilp,.nilp,.nilp,.nilp,.nilp,.nilp,.nilp,.nilp,.nilp,.nilp,.nilp,.nilp,.nilp,.nilp,.nilp,.nilp,.nilp,.nilp,.nilp,.nilp,.nilp,.nilp,.nilp,.nilp,.nilp,.nilp,.nilp,.nilp,.nilp,.nilp,.nilp,.nilp,.nilp,.nilp,.nilp,.nilp,.nilp,.nilp,.nilp,.nilp,.nilp,.nilp,.nilp,.nilp,.nilp,.nilp,.nilp,.nilp,.nilp,.nilp,.nilp,.nilp,.nilp,.nilp,.nilp,.nilp,.nilp,.nilp,.nilp,.nilp,.nilp,.nilp,.nilp,.nilp,.nilp,.nilp,.nilp,.nilp,.nilp,.nilp,.nilp,.nilp,.nilp,.nilp,.nilp,.nilp,.nilp,.nilp,.nilp,.nilp,.nilp,.nilp,.nilp,.nilp,.nilp,.nilp,.nilp,.nilp,.nilp,.nilp,.nilp,.nilp,.nilp,.nilp,.nilp,.nilp,.nilp,.nilp,.nilp,.nilp,.nilp,.nilp,.nilp,.nilp,.nilp,.nilp,.nilp,.nilp,.nilp,.nilp,.nilp,.nilp,.nilp,.nilp,.nilp,.nilp,.nilp,.nilp,.nilp,.nilp,.nilp,.nilp,.nilp,.nilp,.nilp,.nilp,.nilp,.nilp,.nilp,.nilp,.nilp,.nilp,.nilp,.nilp,.nilp,.nilp,.nilp,.nilp,.nilp,.nilp,.nilp,.nilp,.nilp,.nilp,.nilp,.nilp,.nilp,.nilp,.nilp,.nilp,.nilp,.nilp,.nilp,.nilp,.nilp,.nilp,.nilp,.nilp,.nilp,.nilp,.nilp,.nilp,.nilp,.nilp,.nilp,.nilp,.nilp,.nilp,.nilp,.nilp,.nilp,.nilp,.nilp,.nilp,.nilp,.nilp,.nilp,.nilp,.nilp,.nilp,.nilp,.nilp,.nilp,.nilp,.nilp,.nilp,.nilp,.nilp,.nilp,.nilp,.nilp,.nilp,.nilp,.nilp,.nilp,.nilp,.nilp,.nilp,.nilp,.nilp,.nilp,.nilp,.nilp,.nilp,.nilp,.nilp,.nilp,.nilp,.nilp,.nilp,.nilp,.nilp,.nilp,.nilp,.nilp]),none,false⟩)]
theorem aj:TT.ok Tryz.prog Θ:=TT.okB_ok (by kernel_rfl)
theorem mixed:Tryz.prog.follows .mixedOrders=true:=by kernel_rfl
structure Hid (Q:Prop):Prop where
 h:Q
theorem KL:(∀(p:Prop) [Decidable p],(decide p=true)=p)∧(∀(p:Prop) [Decidable p],(decide p=false)=¬p)∧(∀b:Bool,((!b)=true)=(b=false))∧(∀b:Bool,((!b)=false)=(b=true))∧(∀(α:Type) [BEq α] [LawfulBEq α] (a b:α),((a==b)=true)=(a=b))∧(∀(α:Type) [BEq α] [LawfulBEq α] (a b:α),((a !=b)=true)=¬a=b)∧(∀(α:Type) [BEq α] [LawfulBEq α] (a b:α),((a==b)=false)=¬a=b)∧(∀(α:Type) [BEq α] [LawfulBEq α] (a b:α),((a !=b)=false)=(a=b))∧∀(α:Type) (a b:α),(a≠b)=¬a=b:=by
 refine⟨fun p _=>by simp,fun p _=>by simp,fun b=>by simp,fun b=>by simp,fun α _ _ a b=>by simp,fun α _ _ a b=>by simp,fun α _ _ a b=>by simp,fun α _ _ a b=>by simp,fun α a b=>rfl⟩
theorem cr {P:Program}{h:VH}{n:Nat}{f:FuncId}{vs vs':List V}{K:V→VH→List Nat→Prop}{hin hout:VH}{r:V}{Q:Prop}(hc:ag P f vs' hin r hout)(k:Q)(s:ag P f vs' hin r hout→Hid Q→b9 P h n f vs K:=by
  intro hc h
  refine ft ?_
  conv=>whnf
  with_reducible refine bf hc ?_
  conv=>whnf
  exact h.h):b9 P h n f vs K:=s hc ⟨k⟩
theorem co {P:Program}{h:VH}{n:Nat}{f:FuncId}{vs vs':List V}{K:V→VH→List Nat→Prop}{hin hout:VH}{r:V}{Q:Prop}(hc:ag P f vs' hin r hout)(k:Q)(s:ag P f vs' hin r hout→Hid Q→b9 P h n f vs K:=by
  intro hc h
  refine Kh ?_
  conv=>whnf
  with_reducible refine bf hc ?_
  conv=>whnf
  exact h.h):b9 P h n f vs K:=s hc ⟨k⟩
theorem sa {α:Type}{P:Prop}{C Q:α→Prop}(h:∀x,C x→Q x)(s:(∀x,C x→Q x)→P:=by
  intro h
  with_reducible first|refine JQ (by omega) fun x hx=>?_|refine JP (by omega) (by omega) fun x hx=>?_|refine JM (by omega) fun x hx=>?_|refine EG (by first|omega|(simp only[bF,dz,jq,aP];omega)) fun x hx=>?_
  conv=>whnf
  exact h x hx):P:=s h
theorem sb {b:Bool}{A B C D Q R:Prop}(h:C→Q)(k:D→R)(s:(C→Q)→(D→R)→ju b A B:=by
  intro h k
  with_reducible refine uc (fun hq=>?_) (fun hq=>?_)
  ·first|(have _:True→True:=h;((try simp only[KL] at hq)<;>omega))|((try simp only[KL] at hq);(conv=>whnf);exact h hq)
  ·first|(have _:True→True:=k;((try simp only[KL] at hq)<;>omega))|((try simp only[KL] at hq);(conv=>whnf);exact k hq)):ju b A B:=s h k
theorem st {P Q:Prop}(h:Q)(s:Hid Q→P:=by
  intro h
  (first|(with_reducible first|apply dQ|apply cU)|((first|with_reducible apply cJ aj|refine go ?_|(with_reducible first|apply df|apply dp|apply cH|apply cK|refine cI aj mixed (by kernel_rfl) ?_))<;>conv=>whnf))
  repeat(first|(with_reducible first|apply dQ|apply cU)|((first|with_reducible apply cJ aj|refine go ?_|(with_reducible first|apply df|apply dp|apply cH|apply cK|refine cI aj mixed (by kernel_rfl) ?_))<;>conv=>whnf))
  exact h.h):P:=s ⟨h⟩
theorem OW {P Q:Prop}(h:Q)(s:Hid Q→P:=by
  intro h
  (first|(with_reducible first|apply dQ)|((first|with_reducible apply cJ aj|refine go ?_|(with_reducible first|apply df|apply dp|apply cH|apply cK|refine cI aj mixed (by kernel_rfl) ?_))<;>conv=>whnf))
  repeat(first|(with_reducible first|apply dQ)|((first|with_reducible apply cJ aj|refine go ?_|(with_reducible first|apply df|apply dp|apply cH|apply cK|refine cI aj mixed (by kernel_rfl) ?_))<;>conv=>whnf))
  exact h.h):P:=s ⟨h⟩
theorem OV {P Q:Prop}(h:Q)(s:Hid Q→P:=by
  intro h
  (first|(with_reducible first|apply dQ)|((first|with_reducible apply cJ aj|refine go ?_|(with_reducible first|apply dp|apply cH|apply cK|refine cI aj mixed (by kernel_rfl) ?_))<;>conv=>whnf))
  repeat(first|(with_reducible first|apply dQ)|((first|with_reducible apply cJ aj|refine go ?_|(with_reducible first|apply dp|apply cH|apply cK|refine cI aj mixed (by kernel_rfl) ?_))<;>conv=>whnf))
  exact h.h):P:=s ⟨h⟩
end Go.Proofs.YtpefhoohfkeflacGreatDoor.Am
namespace Go.Proofs.YtpefhoohfkeflacGreatDoor.Am
open Go
attribute [local irreducible] Mk ci Ari fB mA ju b9 cR iT fo At ag
set_option maxRecDepth 10000
theorem nh (n lo hi:Int):ag Tryz.prog 41 [.int .i64 n,.int .i64 lo,.int .i64 hi] [] (.bool (jS n lo hi)) []:=by
 refine ab aj Tryz.func41 rfl rfl false 0 4 rfl rfl rfl rfl fun K hK hb1 hb2=>?_;simp only[ae,enc,Nat.reduceAdd]
 (repeat' first|refine st ?_|refine sa fun xe hxe=>?_|refine sb (fun hq=>?_) fun hq=>?_|exact aa)
 all_goals (refine⟨?_,rfl⟩;simp_all[jS])
 omega
theorem y9 (c:List Int):ag Tryz.prog 117 [.lst (.int .i64) c] [] (.bool (comV c)) []:=by
 refine ab aj Tryz.func117 rfl rfl false 0 4 rfl rfl rfl rfl fun K hK hb1 hb2=>?_;simp only[ae,enc,Nat.reduceAdd]
 simp[ak,V.toD,bnd,ai,D.cells] at hb1
 (repeat' first|refine st ?_|refine sa fun xe hxe=>?_|refine sb (fun hq=>?_) fun hq=>?_|refine cr (nh _ _ _) ?_|exact aa)
 refine ah hK [] [0,3] (fun i:Nat=>⟨[(0,.lst (.int .i64) c),(3,.int .i64 i)],[],4⟩) (fun i=>i≤c.length∧∀j,j<i→jS (c.getD j 0) 1 9=true) (fun i=>c.length-i) 0 ⟨by simp,by simp⟩ rfl ?_
 rintro i ⟨hi,hall⟩
 (repeat' first|refine st ?_|refine sa fun xe hxe=>?_|refine sb (fun hq=>?_) fun hq=>?_|refine cr (nh _ _ _) ?_|exact aa)
 ·refine⟨?_,rfl⟩
  have:comV c=false:=by
   simp only[comV,nw]
   left
   exact dP (j:=i) (by omega) (by rw[bZ hxe];exact hq)
  rw[this]
 ·refine⟨i+1,⟨by omega,cD hall (by rw[bZ hxe];exact hq)⟩,by omega,rfl⟩
 ·refine⟨?_,rfl⟩
  have:i=c.length:=by omega
  subst this
  simp only[comV,de hall,d7]
theorem yD {c:List Int}{i:Nat}{x:Int}(h:c[i]?=some x):qD (c.take (i+1))=qD (c.take i)+x:=by
 obtain⟨hl,rfl⟩:=aR.1 h
 rw[b8 hl]
 unfold qD
 rw[List.sum_append]
 simp
theorem GL {c:List Int}(h:comV c=true)(i:Nat):0≤qD (c.take i)∧qD (c.take i)≤63:=by
 obtain⟨h1,h2,h3⟩:=ay.1 h
 have h4:=rI (M:=9) (by omega) (l:=c.take i) fun x hx=>⟨by have:=h1 x (jU hx);omega,(h1 x (jU hx)).2⟩
 rw[bP] at h4
 unfold qD
 omega
theorem GK (c:List Int)(hc:comV c=true):ag Tryz.prog 71 [.lst (.int .i64) c] [] (.int .i64 (qD c)) []:=by
 have hc1:=ay.1 hc
 refine ab aj Tryz.func71 rfl rfl false 0 4 rfl rfl rfl rfl fun K hK hb1 hb2=>?_;simp only[ae,enc,Nat.reduceAdd]
 clear hb1 hb2
 (repeat' first|refine st ?_|refine sa fun xe hxe=>?_|refine sb (fun hq=>?_) fun hq=>?_|exact aa)
 refine ah hK [] [0,3,4] (fun i:Nat=>⟨[(0,.lst (.int .i64) c),(3,.int .i64 (qD (c.take i))),(4,.int .i64 i)],[],4⟩) (fun i=>i≤c.length) (fun i=>c.length-i) 0 (by simp) rfl ?_
 intro i hi
 have hb:=GL hc i
 have hbx:∀x,c[i]?=some x→1≤x∧x≤9:=fun x hx=>hc1.1 x (br hx)
 by_cases hlt:i<c.length
 ·have hxe:c[i]?=some c[i]:=am hlt
  have hb2:=hbx _ hxe
  have hsn:=yD hxe
  generalize c[i]=x at *
  (repeat' first|refine st ?_|refine sa fun xe hxe=>?_|refine sb (fun hq=>?_) fun hq=>?_|exact aa)
  exact⟨i+1,by omega,by omega,by rw[hsn];rfl⟩
 (repeat' first|refine st ?_|refine sa fun xe hxe=>?_|refine sb (fun hq=>?_) fun hq=>?_|exact aa)
 rw[bp (by omega)]
 exact⟨rfl,rfl⟩
theorem yl (c:List Int)(hc:comV c=true):ag Tryz.prog 120 [.lst (.int .i64) c] [] (.int .i64 (quo c)) []:=by
 have h1:=lr hc
 have h2:=F1 hc
 have h3:(2*qD c).tdiv 3+1=quo c:=rfl
 refine ab aj Tryz.func120 rfl rfl false 0 4 rfl rfl rfl rfl fun K hK hb1 hb2=>?_;simp only[ae,enc,Nat.reduceAdd]
 (repeat' first|refine st ?_|refine sa fun xe hxe=>?_|refine sb (fun hq=>?_) fun hq=>?_|refine cr (GK _ hc) ?_|exact aa)
 exact⟨rfl,rfl⟩
theorem sg (n:Int):ag Tryz.prog 73 [.int .i64 n] [] (.bool (jS n 0 990)) []:=by
 refine ab aj Tryz.func73 rfl rfl false 0 4 rfl rfl rfl rfl fun K hK hb1 hb2=>?_;simp only[ae,enc,Nat.reduceAdd]
 (repeat' first|refine st ?_|refine sa fun xe hxe=>?_|refine sb (fun hq=>?_) fun hq=>?_|refine cr (nh _ _ _) ?_|exact aa)
 exact⟨rfl,rfl⟩
theorem zP (c ms:List Int):ag Tryz.prog 121 [.lst (.int .i64) c,.lst (.int .i64) ms] [] (.bool (ee c ms)) []:=by
 refine ab aj Tryz.func121 rfl rfl false 0 4 rfl rfl rfl rfl fun K hK hb1 hb2=>?_;simp only[ae,enc,Nat.reduceAdd]
 simp[ak,V.toD,bnd,ai,D.cells] at hb1
 (repeat' first|refine st ?_|refine sa fun xe hxe=>?_|refine sb (fun hq=>?_) fun hq=>?_|refine cr (nh _ _ _) ?_|exact aa)
 refine ah hK [] [0,1,5] (fun i:Nat=>⟨[(0,.lst (.int .i64) c),(1,.lst (.int .i64) ms),(5,.int .i64 i)],[],4⟩) (fun i=>i≤ms.length∧∀j,j<i→jj c ms j=true) (fun i=>ms.length-i) 0 ⟨by simp,by simp⟩ rfl ?_
 rintro i ⟨hi,hall⟩
 (repeat' first|refine st ?_|refine sa fun xe hxe=>?_|refine sb (fun hq=>?_) fun hq=>?_|refine cr (nh _ _ _) ?_|exact aa)
 ·refine⟨?_,rfl⟩
  have:ee c ms=false:=dP (j:=i) (by omega) (by simp only[jj,dt,bZ hxe,hq,iy])
  rw[this]
 ·rename_i x hx hq1 h0
  have hy':ms[i-1]?=some xe:=by rw[←hxe];congr 1;omega
  refine⟨?_,rfl⟩
  have:ee c ms=false:=dP (j:=i) (by omega) (by simp only[jj,bZ hx,bZ hy',nw,Bool.or_eq_false_iff,decide_eq_false_iff_not];right;exact⟨by simp;omega,by omega⟩)
  rw[this]
 ·rename_i x hx hq1 h0
  have hy':ms[i-1]?=some xe:=by rw[←hxe];congr 1;omega
  refine⟨i+1,⟨by omega,cD hall ?_⟩,by omega,rfl⟩
  simp only[jj,dt,bZ hx,bZ hy',hq1,d7,cN,decide_eq_true_eq]
  right;omega
 ·have h0:i=0:=by omega
  subst h0
  refine⟨0+1,⟨by omega,cD hall ?_⟩,by omega,rfl⟩
  simp only[jj,dt,bZ hxe, *]
  rfl
 ·refine⟨?_,rfl⟩
  have:i=ms.length:=by omega
  subst this
  have:ee c ms=true:=de hall
  rw[this]
theorem G3 {c ms:List Int}{i:Nat}{m:Int}(h:ms[i]?=some m):lF c (ms.take (i+1))=lF c (ms.take i)+c.getD m.toNat 0:=by
 obtain⟨hl,rfl⟩:=aR.1 h
 rw[b8 hl,tz]
theorem Ci (c ms:List Int)(hc:comV c=true)(hm:∀m∈ms,0≤m∧m<c.length)(hl:ms.length≤2000000):ag Tryz.prog 119 [.lst (.int .i64) c,.lst (.int .i64) ms] [] (.int .i64 (lF c ms)) []:=by
 refine ab aj Tryz.func119 rfl rfl false 0 4 rfl rfl rfl rfl fun K hK hb1 hb2=>?_;simp only[ae,enc,Nat.reduceAdd]
 clear hb1 hb2
 (repeat' first|refine st ?_|refine sa fun xe hxe=>?_|refine sb (fun hq=>?_) fun hq=>?_|exact aa)
 refine ah hK [] [0,1,5,6] (fun i:Nat=>⟨[(0,.lst (.int .i64) c),(1,.lst (.int .i64) ms),(5,.int .i64 (lF c (ms.take i))),(6,.int .i64 i)],[],4⟩) (fun i=>i≤ms.length) (fun i=>ms.length-i) 0 (by simp) rfl ?_
 intro i hi
 by_cases hlt:i<ms.length
 ·have hxe:ms[i]?=some ms[i]:=am hlt
  have h1:=hm _ (bd hlt)
  have h2:=wq (ms:=ms.take i) hc
  have h3:=G3 (c:=c) hxe
  rw[bP] at h2
  generalize ms[i]=m at *
  have hx2:c[m.toNat]?=some (c.getD m.toNat 0):=by rw[aq,am (show m.toNat<c.length by omega)];rfl
  have h4:=(ay.1 hc).1 _ (br hx2)
  generalize c.getD m.toNat 0=x at *
  (repeat' first|refine st ?_|refine sa fun xe hxe=>?_|refine sb (fun hq=>?_) fun hq=>?_|exact aa)
  exact⟨i+1,by omega,by omega,by rw[h3];rfl⟩
 (repeat' first|refine st ?_|refine sa fun xe hxe=>?_|refine sb (fun hq=>?_) fun hq=>?_|exact aa)
 rw[bp (by omega)]
 exact⟨rfl,rfl⟩
theorem nY (v u:Vtx):ag Tryz.prog 124 [.agg [.int .i64 v.round,.int .i64 v.author,.lst (.int .i64) v.parents,.int .i64 v.digest],.agg [.int .i64 u.round,.int .i64 u.author,.lst (.int .i64) u.parents,.int .i64 u.digest]] [] (.bool (bef v u)) []:=by
 refine ab aj Tryz.func124 rfl rfl false 0 4 rfl rfl rfl rfl fun K hK hb1 hb2=>?_;simp only[ae,enc,Nat.reduceAdd]
 (repeat' first|refine st ?_|refine sa fun xe hxe=>?_|refine sb (fun hq=>?_) fun hq=>?_|exact aa)
 all_goals (refine⟨?_,rfl⟩;simp_all[bef])
abbrev cY (v:Vtx):V:=.agg [.int .i64 v.round,.int .i64 v.author,.lst (.int .i64) v.parents,.int .i64 v.digest]
theorem ur {α:Type}[BEq α][LawfulBEq α]:∀{a b:List α},a.Nodup→a⊆b→a.length≤b.length
 |[],_,_,_=>aW _
 |x::a,b,h,hs=>by
  rw[List.nodup_cons] at h
  have hx:x∈b:=hs (bk ..)
  have:=ur (b:=b.erase x) h.2 fun y hy=>by
   have hne:y≠x:=fun e=>h.1 (e▸hy)
   exact(List.mem_erase_of_ne hne).2 (hs (bA _ hy))
  rw[List.length_erase_of_mem hx] at this
  have:=List.length_pos_of_mem hx
  simp only[bF]
  omega
theorem eD {c ms:List Int}(h:ee c ms=true):ms.length≤c.length:=by
 have h1:=dC h
 have h2:ms⊆(List.range c.length).map fun n:Nat=>(n:Int):=fun m hm=>by
  have:=h1 m hm
  rw[aB]
  exact⟨m.toNat,by rw[eM];omega,by omega⟩
 have h3:ms.Nodup:=(jl h).imp fun hab=>by omega
 have:=ur h3 h2
 simpa using this
theorem nu (c:List Int)(v:Vtx)(hc:comV c=true):ag Tryz.prog 77 [.lst (.int .i64) c,cY v] [] (.bool (vtxS c v)) []:=by
 refine ab aj Tryz.func77 rfl rfl false 0 4 rfl rfl rfl rfl fun K hK hb1 hb2=>?_;simp only[ae,enc,Nat.reduceAdd]
 simp[ak,V.toD,bnd,ai,D.cells] at hb1
 have h7:=(ay.1 hc).2
 have h8:((v.parents.length:Int)==0)=(v.parents.length==0):=by rw[d6,beq_iff_eq,beq_iff_eq];omega
 cases hm:ee c v.parents
 ·(repeat' first|refine st ?_|refine sa fun xe hxe=>?_|refine sb (fun hq=>?_) fun hq=>?_|refine cr (nh _ _ _) ?_|refine cr (zP _ _) ?_|refine cr (sg _) ?_|refine cr (yl _ hc) ?_|exact aa)
  all_goals (refine⟨?_,rfl⟩;simp_all[vtxS,dt])
 ·have hl:=eD hm
  (repeat' first|refine st ?_|refine sa fun xe hxe=>?_|refine sb (fun hq=>?_) fun hq=>?_|refine cr (nh _ _ _) ?_|refine cr (zP _ _) ?_|refine cr (sg _) ?_|refine cr (yl _ hc) ?_|((with_reducible refine ft ?_);(conv=>whnf);(first|with_reducible refine bf (Ci _ _ hc (dC hm) (by omega)) ?_);conv=>whnf)|exact aa)
  all_goals (refine⟨?_,rfl⟩;simp_all[vtxS,dt])
theorem bL {α:Type}{l:List α}{P:α→Prop}{x:α}(h:∀y∈l,P y)(hx:P x):∀y∈l++[x],P y:=by
 intro y hy
 rcases bl.1 hy with hy|hy
 ·exact h y hy
 ·rw[aY.1 hy];exact hx
theorem qY {α:Type}{l:List α}{p:α→Bool}{i:Nat}{x:α}(h:l[i]?=some x)(hn:∀y∈l.take i,p y=false)(hp:p x=true):l.findIdx? p=some i:=by
 obtain⟨hi,rfl⟩:=aR.1 h
 rw[ww]
 refine⟨hi,hp,fun j hj=>?_⟩
 rw[hn _ (br (i:=j) (by rw[en,if_pos hj,am]))]
 simp
theorem px (g:List Vtx)(r a:Int):ag Tryz.prog 83 [.lst .vtx g,.int .i64 r,.int .i64 a] [] (.int .i64 (lB g r a)) []:=by
 refine ab aj Tryz.func83 rfl rfl false 0 4 rfl rfl rfl rfl fun K hK hb1 hb2=>?_;simp only[ae,enc,Nat.reduceAdd]
 simp[ak,V.toD,bnd,ai,D.cells] at hb1
 (repeat' first|refine st ?_|refine sa fun xe hxe=>?_|refine sb (fun hq=>?_) fun hq=>?_|exact aa)
 refine ah hK [] [0,1,2,7] (fun i:Nat=>⟨[(0,.lst .vtx g),(1,.int .i64 r),(2,.int .i64 a),(7,.int .i64 i)],[],4⟩) (fun i=>i≤g.length∧∀v∈g.take i,eZ r a v=false) (fun i=>g.length-i) 0 ⟨by simp,by simp⟩ rfl ?_
 rintro i ⟨hi,hall⟩
 by_cases hlt:i<g.length
 ·have hxe:g[i]?=some g[i]:=am hlt
  have h3:g.take (i+1)=g.take i++[g[i]]:=b8 hlt
  have h4:=qY (l:=g) (p:=eZ r a) hxe hall
  generalize g[i]=v at *
  have hA:eZ r a v=(v.round==r && v.author==a):=rfl
  cases h1:v.round==r
  ·(repeat' first|refine st ?_|refine sa fun xe hxe=>?_|refine sb (fun hq=>?_) fun hq=>?_|exact aa)
   exact⟨i+1,⟨by omega,by rw[h3];exact bL hall (by simp[hA,h1])⟩,by omega,rfl⟩
  ·cases h2:v.author==a
   ·(repeat' first|refine st ?_|refine sa fun xe hxe=>?_|refine sb (fun hq=>?_) fun hq=>?_|exact aa)
    exact⟨i+1,⟨by omega,by rw[h3];exact bL hall (by simp[hA,h1,h2])⟩,by omega,rfl⟩
   ·(repeat' first|refine st ?_|refine sa fun xe hxe=>?_|refine sb (fun hq=>?_) fun hq=>?_|exact aa)
    refine⟨?_,rfl⟩
    rw[lB,h4 (by simp[hA,h1,h2])]
 ·(repeat' first|refine st ?_|refine sa fun xe hxe=>?_|refine sb (fun hq=>?_) fun hq=>?_|exact aa)
  refine⟨?_,rfl⟩
  rw[bp (by omega)] at hall
  rw[lB,pd.2 hall]
theorem zn (g:List Vtx)(r a:Int):decide (lB g r a<0)= !ed g r a:=by
 rw[←vq]
 unfold lB
 cases g.findIdx? (eZ r a) with
 |none=>rfl
 |some i=>simp
theorem eQ (g:List Vtx)(v:Vtx)(hr:-1000000<v.round∧v.round<1000000):ag Tryz.prog 80 [.lst .vtx g,cY v] [] (.bool (parOK g v)) []:=by
 refine ab aj Tryz.func80 rfl rfl false 0 4 rfl rfl rfl rfl fun K hK hb1 hb2=>?_;simp only[ae,enc,Nat.reduceAdd]
 simp[ak,V.toD,bnd,ai,D.cells,fW] at hb1
 (repeat' first|refine st ?_|refine sa fun xe hxe=>?_|refine sb (fun hq=>?_) fun hq=>?_|exact aa)
 refine ah hK [] [0,3,5] (fun i:Nat=>⟨[(0,.lst .vtx g),(3,.ptr 4 0),(5,.int .i64 i)],[(4,.var 73 (cY v).cells)],5⟩) (fun i=>i≤v.parents.length∧∀p∈v.parents.take i,ed g (v.round-1) p=true) (fun i=>v.parents.length-i) 0 ⟨by simp,by simp⟩ rfl ?_
 rintro i ⟨hi,hall⟩
 by_cases hlt:i<v.parents.length
 ·have hxe:v.parents[i]?=some v.parents[i]:=am hlt
  have h3:v.parents.take (i+1)=v.parents.take i++[v.parents[i]]:=b8 hlt
  have h4:v.parents[i]∈v.parents:=bd hlt
  generalize v.parents[i]=p at *
  have hlt2:=zn g (v.round-1) p
  cases h5:ed g (v.round-1) p
  ·have hlt2:lB g (v.round-1) p<0:=by simpa[h5] using hlt2
   (repeat' first|refine st ?_|refine sa fun xe hxe=>?_|refine sb (fun hq=>?_) fun hq=>?_|refine cr (px _ _ _) ?_|exact aa)
   refine⟨?_,rfl⟩
   have:parOK g v=false:=by
    rw[ck]
    intro h
    rw[d9.1 h p h4] at h5
    cases h5
   rw[this]
  ·have hlt2:¬lB g (v.round-1) p<0:=by simpa[h5] using hlt2
   (repeat' first|refine st ?_|refine sa fun xe hxe=>?_|refine sb (fun hq=>?_) fun hq=>?_|refine cr (px _ _ _) ?_|exact aa)
   exact⟨i+1,⟨by omega,by rw[h3];exact bL hall h5⟩,by omega,rfl⟩
 ·(repeat' first|refine st ?_|refine sa fun xe hxe=>?_|refine sb (fun hq=>?_) fun hq=>?_|exact aa)
  refine⟨?_,rfl⟩
  rw[bp (by omega)] at hall
  rw[d9.2 hall]
theorem rL {c:List Int}{v:Vtx}(h:vtxS c v=true):-1000000<v.round∧v.round<1000000:=by
 have:=(bG h).1
 omega
theorem EL (c:List Int)(g:List Vtx):ag Tryz.prog 127 [.lst (.int .i64) c,.lst .vtx g] [] (.bool (graS c g)) []:=by
 refine ab aj Tryz.func127 rfl rfl false 0 4 rfl rfl rfl rfl fun K hK hb1 hb2=>?_;simp only[ae,enc,Nat.reduceAdd]
 simp[ak,V.toD,bnd,ai,D.cells] at hb1
 cases hc:comV c
 ·(repeat' first|refine st ?_|refine sa fun xe hxe=>?_|refine sb (fun hq=>?_) fun hq=>?_|refine cr (y9 _) ?_|exact aa)
  exact⟨by simp[graS,hc],rfl⟩
 (repeat' first|refine st ?_|refine sa fun xe hxe=>?_|refine sb (fun hq=>?_) fun hq=>?_|refine cr (y9 _) ?_|exact aa)
 refine ah hK [] [0,1,5] (fun i:Nat=>⟨[(0,.lst (.int .i64) c),(1,.lst .vtx g),(5,.int .i64 i)],[],4⟩) (fun i=>i≤g.length∧∀j,j<i→jK c g j=true) (fun i=>g.length-i) 0 ⟨by simp,by simp⟩ rfl ?_
 rintro i ⟨hi,hall⟩
 have hno:jK c g i=false→i<g.length→V.bool false=V.bool (graS c g)∧([]:VH)=[]:=fun h1 h2=>⟨by simp only[graS,hc,d7];rw[dP h2 h1],rfl⟩
 by_cases hlt:i<g.length
 ·have hxe:g[i]?=some g[i]:=am hlt
  have hA:jK c g i=(vtxS c g[i] && ((i==0||bef (g.getD (i-1) v0) g[i]) && parOK g g[i])):=by simp only[jK,bZ hxe]
  have hyes:jK c g i=true→∃y,(y≤g.length∧∀j,j<y→jK c g j=true)∧g.length-y<g.length-i∧VSt.mk [(0,.lst (.int .i64) c),(1,.lst .vtx g),(5,.int .i64 ((i:Int)+1))] [] 4=⟨[(0,.lst (.int .i64) c),(1,.lst .vtx g),(5,.int .i64 (y:Int))],[],4⟩:=fun h=>⟨i+1,⟨by omega,cD hall h⟩,by omega,rfl⟩
  generalize g[i]=v at *
  cases h1:vtxS c v
  ·(repeat' first|refine st ?_|refine sa fun xe hxe=>?_|refine sb (fun hq=>?_) fun hq=>?_|refine cr (nu _ _ hc) ?_|exact aa)
   exact hno (by rw[hA,h1];rfl) hlt
  have h0:-1000000<v.round∧v.round<1000000:=rL h1
  rw[h1] at hA
  cases h3:parOK g v
  ·rw[h3] at hA
   by_cases hi0:i=0
   ·(repeat' first|refine st ?_|refine sa fun xe hxe=>?_|refine sb (fun hq=>?_) fun hq=>?_|refine cr (nu _ _ hc) ?_|refine cr (eQ _ _ h0) ?_|exact aa)
    exact hno (by rw[hA];simp) hlt
   ·have hye:g[((i:Int)-1).toNat]?=some (g.getD (i-1) v0):=by rw[show ((i:Int)-1).toNat=i-1 by omega,aq,am (show i-1<g.length by omega)];rfl
    generalize g.getD (i-1) v0=u at *
    (repeat' first|refine st ?_|refine sa fun xe hxe=>?_|refine sb (fun hq=>?_) fun hq=>?_|refine cr (nu _ _ hc) ?_|refine cr (nY _ _) ?_|refine cr (eQ _ _ h0) ?_|exact aa)
    all_goals exact hno (by rw[hA];simp) hlt
  ·rw[h3] at hA
   by_cases hi0:i=0
   ·(repeat' first|refine st ?_|refine sa fun xe hxe=>?_|refine sb (fun hq=>?_) fun hq=>?_|refine cr (nu _ _ hc) ?_|refine cr (eQ _ _ h0) ?_|exact aa)
    exact hyes (by rw[hA];simp[hi0])
   ·have hye:g[((i:Int)-1).toNat]?=some (g.getD (i-1) v0):=by rw[show ((i:Int)-1).toNat=i-1 by omega,aq,am (show i-1<g.length by omega)];rfl
    generalize g.getD (i-1) v0=u at *
    cases h4:bef u v
    ·(repeat' first|refine st ?_|refine sa fun xe hxe=>?_|refine sb (fun hq=>?_) fun hq=>?_|refine cr (nu _ _ hc) ?_|refine cr (nY _ _) ?_|refine cr (eQ _ _ h0) ?_|exact aa)
     exact hno (by rw[hA,h4];simp[hi0]) hlt
    ·(repeat' first|refine st ?_|refine sa fun xe hxe=>?_|refine sb (fun hq=>?_) fun hq=>?_|refine cr (nu _ _ hc) ?_|refine cr (nY _ _) ?_|refine cr (eQ _ _ h0) ?_|exact aa)
     exact hyes (by rw[hA,h4];simp)
 ·(repeat' first|refine st ?_|refine sa fun xe hxe=>?_|refine sb (fun hq=>?_) fun hq=>?_|exact aa)
  refine⟨?_,rfl⟩
  have:i=g.length:=by omega
  subst this
  simp only[graS,hc,de hall,d7]
theorem Cw {g:List Vtx}{r:Int}{i:Nat}{v:Vtx}(h:g[i]?=some v):fq (g.take (i+1)) r=if v.round==r then fq (g.take i) r++[v.author] else fq (g.take i) r:=by
 obtain⟨hl,rfl⟩:=aR.1 h
 rw[b8 hl]
 simp only[fq,pe,ce,nz,mo]
 split<;>simp
theorem DD (g:List Vtx)(r:Int)(i:Nat):(fq (g.take i) r).length≤g.length:=by
 unfold fq
 rw[az]
 refine cu (my _ _) ?_
 rw[bP]
 omega
theorem yW (g:List Vtx)(r:Int)(hl:g.length≤2000000):ag Tryz.prog 75 [.lst .vtx g,.int .i64 r] [] (.ref 4) [(4,.row 3 (.int .i64) (fq g r))]:=by
 refine ab aj Tryz.func75 rfl rfl false 0 4 rfl rfl rfl rfl fun K hK hb1 hb2=>?_;simp only[ae,enc,Nat.reduceAdd]
 clear hb1 hb2
 (repeat' first|refine st ?_|refine sa fun xe hxe=>?_|refine sb (fun hq=>?_) fun hq=>?_|exact aa)
 refine ah hK [] [0,1,5,6] (fun i:Nat=>⟨[(0,.lst .vtx g),(1,.int .i64 r),(5,.ref 4),(6,.int .i64 i)],[(4,.row 3 (.int .i64) (fq (g.take i) r))],5⟩) (fun i=>i≤g.length) (fun i=>g.length-i) 0 (by simp) rfl ?_
 intro i hi
 by_cases hlt:i<g.length
 ·have hxe:g[i]?=some g[i]:=am hlt
  have h3:=Cw (r:=r) hxe
  have h4:=DD g r i
  generalize g[i]=v at *
  cases h1:v.round==r
  ·rw[h1,if_neg (by simp)] at h3
   (repeat' first|refine st ?_|refine sa fun xe hxe=>?_|refine sb (fun hq=>?_) fun hq=>?_|exact aa)
   exact⟨i+1,by omega,by omega,by rw[h3];rfl⟩
  ·rw[h1,if_pos rfl] at h3
   (repeat' first|refine st ?_|refine sa fun xe hxe=>?_|refine sb (fun hq=>?_) fun hq=>?_|exact aa)
   exact⟨i+1,by omega,by omega,by rw[h3];rfl⟩
 ·(repeat' first|refine st ?_|refine sa fun xe hxe=>?_|refine sb (fun hq=>?_) fun hq=>?_|exact aa)
  rw[bp (by omega)]
  exact⟨rfl,rfl⟩
theorem M7 (c:List Int)(g:List Vtx)(h:GraOK c g)(hl:g.length≤2000000):ag Tryz.prog 74 [.lst (.int .i64) c,.lst .vtx g] [] (.int .i64 (iD c g)) []:=by
 have h7:=(ay.1 h.com).2
 refine ab aj Tryz.func74 rfl rfl false 0 4 rfl rfl rfl rfl fun K hK hb1 hb2=>?_;simp only[ae,enc,Nat.reduceAdd]
 clear hb1 hb2
 (repeat' first|refine st ?_|refine sa fun xe hxe=>?_|refine sb (fun hq=>?_) fun hq=>?_|exact aa)
 refine ah hK [] [0,1,5] (fun k:Int=>⟨[(0,.lst (.int .i64) c),(1,.lst .vtx g),(5,.int .i64 k)],[],4⟩) (fun k=>(-1≤k∧k≤30)∧iD c g=kr c g (k+1).toNat) (fun k=>(k+1).toNat) 30 ⟨by simp,rfl⟩ rfl ?_
 rintro k ⟨hi,hh⟩
 by_cases hk:k<0
 ·(repeat' first|refine st ?_|refine sa fun xe hxe=>?_|refine sb (fun hq=>?_) fun hq=>?_|exact aa)
  rw[show (k+1).toNat=0 by omega] at hh
  exact⟨by rw[hh];rfl,rfl⟩
 ·have h1:=pk h k
  have h2:=eD h1
  have h4:kr c g (k.toNat+1)=if quo c≤lF c (fq g k.toNat) then(k.toNat:Int) else kr c g k.toNat:=rfl
  rw[show ((k.toNat:Nat):Int)=k by omega] at h4
  rw[show (k+1).toNat=k.toNat+1 by omega,h4] at hh
  by_cases h5:quo c≤lF c (fq g k)
  ·rw[if_pos h5] at hh
   (repeat' first|refine st ?_|refine sa fun xe hxe=>?_|refine sb (fun hq=>?_) fun hq=>?_|refine cr (yW _ _ hl) ?_|refine cr (yl _ h.com) ?_|((with_reducible refine ft ?_);(conv=>whnf);(first|with_reducible refine bf (Ci _ _ h.com (dC h1) (by omega)) ?_);conv=>whnf)|exact aa)
   exact⟨by rw[hh],rfl⟩
  ·rw[if_neg h5] at hh
   (repeat' first|refine st ?_|refine sa fun xe hxe=>?_|refine sb (fun hq=>?_) fun hq=>?_|refine cr (yW _ _ hl) ?_|refine cr (yl _ h.com) ?_|((with_reducible refine ft ?_);(conv=>whnf);(first|with_reducible refine bf (Ci _ _ h.com (dC h1) (by omega)) ?_);conv=>whnf)|exact aa)
   exact⟨k-1,⟨by omega,by rw[hh];congr 1;omega⟩,by omega,rfl⟩
theorem vL (c:List Int):ag Tryz.prog 129 [.lst (.int .i64) c] [] (.bool (comV c)) []:=by
 refine ab aj Tryz.func129 rfl rfl false 0 4 rfl rfl rfl rfl fun K hK hb1 hb2=>?_;simp only[ae,enc,Nat.reduceAdd]
 simp[ak,V.toD,bnd,ai,D.cells] at hb1
 have hno:¬(1≤c.length∧c.length≤7)→V.bool false=V.bool (comV c)∧([]:VH)=[]:=fun h=>by
  refine⟨?_,rfl⟩
  have:comV c=false:=by rw[ck];intro h2;exact h (ay.1 h2).2
  rw[this]
 (repeat' first|refine st ?_|refine sa fun xe hxe=>?_|refine sb (fun hq=>?_) fun hq=>?_|exact aa)
 ·exact hno (by omega)
 ·exact hno (by omega)
 refine ah hK [] [0,13,14,15] (fun i:Nat=>⟨[(0,.lst (.int .i64) c),(13,.lst (.int .i64) c),(14,.int .i64 c.length),(15,.int .i64 i)],[],4⟩) (fun i=>i≤c.length∧∀j,j<i→jS (c.getD j 0) 1 9=true) (fun i=>c.length-i) 0 ⟨by simp,by simp⟩ rfl ?_
 rintro i ⟨hi,hall⟩
 have hno:∀x,c[i]?=some x→¬(1≤x∧x≤9)→V.bool false=V.bool (comV c)∧([]:VH)=[]:=fun x hx h=>by
  refine⟨?_,rfl⟩
  have:comV c=false:=by rw[ck];intro h2;exact h ((ay.1 h2).1 x (br hx))
  rw[this]
 by_cases hlt:i<c.length
 ·have hxe:c[i]?=some c[i]:=am hlt
  have hn:=hno _ hxe
  have hy:=cD hall (p:=fun j=>jS (c.getD j 0) 1 9) (i:=i)
  simp only[bZ hxe] at hy
  generalize c[i]=x at *
  (repeat' first|refine st ?_|refine sa fun xe hxe=>?_|refine sb (fun hq=>?_) fun hq=>?_|exact aa)
  ·exact hn (by omega)
  ·exact hn (by omega)
  ·exact⟨i+1,⟨by omega,hy (aC.2 (by omega))⟩,by omega,rfl⟩
 ·(repeat' first|refine st ?_|refine sa fun xe hxe=>?_|refine sb (fun hq=>?_) fun hq=>?_|exact aa)
  refine⟨?_,rfl⟩
  have:i=c.length:=by omega
  subst this
  have h1:jS c.length 1 7=true:=aC.2 (by omega)
  simp only[comV,de hall,d7,h1]
theorem ow (c:List Int):ag Tryz.prog 93 [.lst (.int .i64) c] [] (.bool (comV c)) []:=by
 refine ab aj Tryz.func93 rfl rfl false 0 4 rfl rfl rfl rfl fun K hK hb1 hb2=>?_;simp only[ae,enc,Nat.reduceAdd]
 (repeat' first|refine st ?_|refine sa fun xe hxe=>?_|refine sb (fun hq=>?_) fun hq=>?_|refine cr (vL _) ?_|exact aa)
 exact⟨rfl,rfl⟩
theorem zH (c:List Int)(hc:comV c=true):ag Tryz.prog 130 [.lst (.int .i64) c] [] (.int .i64 (qD c)) []:=by
 have hc1:=ay.1 hc
 refine ab aj Tryz.func130 rfl rfl false 0 4 rfl rfl rfl rfl fun K hK hb1 hb2=>?_;simp only[ae,enc,Nat.reduceAdd]
 clear hb1 hb2
 (repeat' first|refine st ?_|refine sa fun xe hxe=>?_|refine sb (fun hq=>?_) fun hq=>?_|exact aa)
 refine ah hK [] [0,3,6,7,8] (fun i:Nat=>⟨[(0,.lst (.int .i64) c),(3,.int .i64 (qD (c.take i))),(6,.lst (.int .i64) c),(7,.int .i64 c.length),(8,.int .i64 i)],[],4⟩) (fun i=>i≤c.length) (fun i=>c.length-i) 0 (by simp) rfl ?_
 intro i hi
 have hb:=GL hc i
 by_cases hlt:i<c.length
 ·have hxe:c[i]?=some c[i]:=am hlt
  have hb2:=hc1.1 _ (br hxe)
  have hsn:=yD hxe
  generalize c[i]=x at *
  (repeat' first|refine st ?_|refine sa fun xe hxe=>?_|refine sb (fun hq=>?_) fun hq=>?_|exact aa)
  exact⟨i+1,by omega,by omega,by rw[hsn];rfl⟩
 (repeat' first|refine st ?_|refine sa fun xe hxe=>?_|refine sb (fun hq=>?_) fun hq=>?_|exact aa)
 rw[bp (by omega)]
 exact⟨rfl,rfl⟩
theorem zF (c:List Int)(hc:comV c=true):ag Tryz.prog 163 [.lst (.int .i64) c] [] (.int .i64 (quo c)) []:=by
 have h1:=lr hc
 have h2:=F1 hc
 have h3:(2*qD c).tdiv 3+1=quo c:=rfl
 refine ab aj Tryz.func163 rfl rfl false 0 4 rfl rfl rfl rfl fun K hK hb1 hb2=>?_;simp only[ae,enc,Nat.reduceAdd]
 (repeat' first|refine st ?_|refine sa fun xe hxe=>?_|refine sb (fun hq=>?_) fun hq=>?_|refine cr (zH _ hc) ?_|exact aa)
 exact⟨rfl,rfl⟩
theorem Bo (c:List Int):ag Tryz.prog 134 [.lst (.int .i64) c] [] (.int .i64 (if comV c then quo c else-1)) []:=by
 refine ab aj Tryz.func134 rfl rfl false 0 4 rfl rfl rfl rfl fun K hK hb1 hb2=>?_;simp only[ae,enc,Nat.reduceAdd]
 cases hc:comV c
 ·(repeat' first|refine st ?_|refine sa fun xe hxe=>?_|refine sb (fun hq=>?_) fun hq=>?_|refine cr (vL _) ?_|exact aa)
  exact⟨rfl,rfl⟩
 ·(repeat' first|refine st ?_|refine sa fun xe hxe=>?_|refine sb (fun hq=>?_) fun hq=>?_|refine cr (vL _) ?_|refine cr (zF _ hc) ?_|exact aa)
  exact⟨rfl,rfl⟩
theorem fw (c:List Int)(m:Int):ag Tryz.prog 94 [.lst (.int .i64) c,.int .i64 m] [] (.bool (dt c m)) []:=by
 refine ab aj Tryz.func94 rfl rfl false 0 4 rfl rfl rfl rfl fun K hK hb1 hb2=>?_;simp only[ae,enc,Nat.reduceAdd]
 simp[ak,V.toD,bnd,ai,D.cells] at hb1
 (repeat' first|refine st ?_|refine sa fun xe hxe=>?_|refine sb (fun hq=>?_) fun hq=>?_|exact aa)
 all_goals (refine⟨congrArg V.bool ?_,rfl⟩;rw[d6];simp only[dt,aC,decide_eq_true_eq];(try simp);omega)
theorem nG (r:Int):ag Tryz.prog 131 [.int .i64 r] [] (.bool (jS r 0 30)) []:=by
 refine ab aj Tryz.func131 rfl rfl false 0 4 rfl rfl rfl rfl fun K hK hb1 hb2=>?_;simp only[ae,enc,Nat.reduceAdd]
 (repeat' first|refine st ?_|refine sa fun xe hxe=>?_|refine sb (fun hq=>?_) fun hq=>?_|exact aa)
 all_goals (refine⟨congrArg V.bool ?_,rfl⟩;rw[d6];simp only[aC,decide_eq_true_eq];(try simp);omega)
theorem KV (r:Int):ag Tryz.prog 132 [.int .i64 r] [] (.bool (jS r 0 990)) []:=by
 refine ab aj Tryz.func132 rfl rfl false 0 4 rfl rfl rfl rfl fun K hK hb1 hb2=>?_;simp only[ae,enc,Nat.reduceAdd]
 (repeat' first|refine st ?_|refine sa fun xe hxe=>?_|refine sb (fun hq=>?_) fun hq=>?_|exact aa)
 all_goals (refine⟨congrArg V.bool ?_,rfl⟩;rw[d6];simp only[aC,decide_eq_true_eq];(try simp);omega)
theorem H8 (c ms:List Int):ag Tryz.prog 135 [.lst (.int .i64) c,.lst (.int .i64) ms] [] (.bool (ee c ms)) []:=by
 refine ab aj Tryz.func135 rfl rfl false 0 4 rfl rfl rfl rfl fun K hK hb1 hb2=>?_;simp only[ae,enc,Nat.reduceAdd]
 simp[ak,V.toD,bnd,ai,D.cells] at hb1
 (repeat' first|refine st ?_|refine sa fun xe hxe=>?_|refine sb (fun hq=>?_) fun hq=>?_|exact aa)
 refine ah hK [] [0,1,7,8,9] (fun i:Nat=>⟨[(0,.lst (.int .i64) c),(1,.lst (.int .i64) ms),(7,.lst (.int .i64) ms),(8,.int .i64 ms.length),(9,.int .i64 i)],[],4⟩) (fun i=>i≤ms.length∧∀j,j<i→jj c ms j=true) (fun i=>ms.length-i) 0 ⟨by simp,by simp⟩ rfl ?_
 rintro i ⟨hi,hall⟩
 have hno:jj c ms i=false→i<ms.length→V.bool false=V.bool (ee c ms)∧([]:VH)=[]:=fun h1 h2=>by
  have:ee c ms=false:=dP h2 h1
  rw[this]
  exact⟨rfl,rfl⟩
 by_cases hlt:i<ms.length
 ·have hxe:ms[i]?=some ms[i]:=am hlt
  have hA:jj c ms i=(dt c ms[i] && (i==0||decide (ms.getD (i-1) 0<ms[i]))):=by simp only[jj,bZ hxe]
  have hyes:jj c ms i=true→∃y,(y≤ms.length∧∀j,j<y→jj c ms j=true)∧ms.length-y<ms.length-i∧VSt.mk [(0,.lst (.int .i64) c),(1,.lst (.int .i64) ms),(7,.lst (.int .i64) ms),(8,.int .i64 ms.length),(9,.int .i64 ((i:Int)+1))] [] 4=⟨[(0,.lst (.int .i64) c),(1,.lst (.int .i64) ms),(7,.lst (.int .i64) ms),(8,.int .i64 ms.length),(9,.int .i64 (y:Int))],[],4⟩:=fun h=>⟨i+1,⟨by omega,cD hall h⟩,by omega,rfl⟩
  generalize ms[i]=m at *
  cases h1:dt c m
  ·(repeat' first|refine st ?_|refine sa fun xe hxe=>?_|refine sb (fun hq=>?_) fun hq=>?_|refine cr (fw _ _) ?_|exact aa)
   exact hno (by rw[hA,h1];rfl) hlt
  by_cases hi0:i=0
  ·(repeat' first|refine st ?_|refine sa fun xe hxe=>?_|refine sb (fun hq=>?_) fun hq=>?_|refine cr (fw _ _) ?_|exact aa)
   exact hyes (by rw[hA,h1];simp[hi0])
  ·have hye:ms[((i:Int)-1).toNat]?=some (ms.getD (i-1) 0):=by rw[show ((i:Int)-1).toNat=i-1 by omega,aq,am (show i-1<ms.length by omega)];rfl
   generalize ms.getD (i-1) 0=u at *
   (repeat' first|refine st ?_|refine sa fun xe hxe=>?_|refine sb (fun hq=>?_) fun hq=>?_|refine cr (fw _ _) ?_|exact aa)
   ·exact hno (by rw[hA,h1];simp;omega) hlt
   ·exact hyes (by rw[hA,h1];simp;omega)
 ·(repeat' first|refine st ?_|refine sa fun xe hxe=>?_|refine sb (fun hq=>?_) fun hq=>?_|exact aa)
  refine⟨?_,rfl⟩
  have:i=ms.length:=by omega
  subst this
  have:ee c ms=true:=de hall
  rw[this]
theorem rh (c ms:List Int):ag Tryz.prog 97 [.lst (.int .i64) c,.lst (.int .i64) ms] [] (.bool (comV c && ee c ms)) []:=by
 refine ab aj Tryz.func97 rfl rfl false 0 4 rfl rfl rfl rfl fun K hK hb1 hb2=>?_;simp only[ae,enc,Nat.reduceAdd]
 (repeat' first|refine st ?_|refine sa fun xe hxe=>?_|refine sb (fun hq=>?_) fun hq=>?_|refine cr (vL _) ?_|refine cr (H8 _ _) ?_|exact aa)
 all_goals (refine⟨?_,rfl⟩;simp_all)
theorem zI (c ms:List Int)(hc:comV c=true)(hm:∀m∈ms,0≤m∧m<c.length)(hl:ms.length≤2000000):ag Tryz.prog 162 [.lst (.int .i64) c,.lst (.int .i64) ms] [] (.int .i64 (lF c ms)) []:=by
 refine ab aj Tryz.func162 rfl rfl false 0 4 rfl rfl rfl rfl fun K hK hb1 hb2=>?_;simp only[ae,enc,Nat.reduceAdd]
 clear hb1 hb2
 (repeat' first|refine st ?_|refine sa fun xe hxe=>?_|refine sb (fun hq=>?_) fun hq=>?_|exact aa)
 refine ah hK [] [0,1,5,8,9,10] (fun i:Nat=>⟨[(0,.lst (.int .i64) c),(1,.lst (.int .i64) ms),(5,.int .i64 (lF c (ms.take i))),(8,.lst (.int .i64) ms),(9,.int .i64 ms.length),(10,.int .i64 i)],[],4⟩) (fun i=>i≤ms.length) (fun i=>ms.length-i) 0 (by simp) rfl ?_
 intro i hi
 by_cases hlt:i<ms.length
 ·have hxe:ms[i]?=some ms[i]:=am hlt
  have h1:=hm _ (bd hlt)
  have h2:=wq (ms:=ms.take i) hc
  have h3:=G3 (c:=c) hxe
  rw[bP] at h2
  generalize ms[i]=m at *
  have hx2:c[m.toNat]?=some (c.getD m.toNat 0):=by rw[aq,am (show m.toNat<c.length by omega)];rfl
  have h4:=(ay.1 hc).1 _ (br hx2)
  generalize c.getD m.toNat 0=x at *
  (repeat' first|refine st ?_|refine sa fun xe hxe=>?_|refine sb (fun hq=>?_) fun hq=>?_|exact aa)
  exact⟨i+1,by omega,by omega,by rw[h3];rfl⟩
 (repeat' first|refine st ?_|refine sa fun xe hxe=>?_|refine sb (fun hq=>?_) fun hq=>?_|exact aa)
 rw[bp (by omega)]
 exact⟨rfl,rfl⟩
def Do (c ms:List Int):Int:=if comV c && ee c ms then lF c ms else-1
theorem Bu (c ms:List Int):ag Tryz.prog 133 [.lst (.int .i64) c,.lst (.int .i64) ms] [] (.int .i64 (Do c ms)) []:=by
 refine ab aj Tryz.func133 rfl rfl false 0 4 rfl rfl rfl rfl fun K hK hb1 hb2=>?_;simp only[ae,enc,Nat.reduceAdd]
 cases hv:comV c && ee c ms
 ·(repeat' first|refine st ?_|refine sa fun xe hxe=>?_|refine sb (fun hq=>?_) fun hq=>?_|refine cr (rh _ _) ?_|exact aa)
  exact⟨by simp[Do,hv],rfl⟩
 ·have hc:comV c=true:=by simp_all
  have hm:ee c ms=true:=by simp_all
  have h7:=(ay.1 hc).2
  have hl:=eD hm
  (repeat' first|refine st ?_|refine sa fun xe hxe=>?_|refine sb (fun hq=>?_) fun hq=>?_|refine cr (rh _ _) ?_|((with_reducible refine ft ?_);(conv=>whnf);(first|with_reducible refine bf (zI _ _ hc (dC hm) (by omega)) ?_);conv=>whnf)|exact aa)
  exact⟨by simp[Do,hv],rfl⟩
theorem vG (v u:Vtx):ag Tryz.prog 165 [cY v,cY u] [] (.bool (bef v u)) []:=by
 refine ab aj Tryz.func165 rfl rfl false 0 4 rfl rfl rfl rfl fun K hK hb1 hb2=>?_;simp only[ae,enc,Nat.reduceAdd]
 (repeat' first|refine st ?_|refine sa fun xe hxe=>?_|refine sb (fun hq=>?_) fun hq=>?_|exact aa)
 all_goals (refine⟨?_,rfl⟩;simp_all[bef])
theorem jZ (c:List Int)(v:Vtx):ag Tryz.prog 96 [.lst (.int .i64) c,cY v] [] (.bool (comV c && vtxS c v)) []:=by
 refine ab aj Tryz.func96 rfl rfl false 0 4 rfl rfl rfl rfl fun K hK hb1 hb2=>?_;simp only[ae,enc,Nat.reduceAdd]
 simp[ak,V.toD,bnd,ai,D.cells] at hb1
 have h8:((v.parents.length:Int)==0)=(v.parents.length==0):=by rw[d6,beq_iff_eq,beq_iff_eq];omega
 (repeat' first|refine st ?_|refine sa fun xe hxe=>?_|refine sb (fun hq=>?_) fun hq=>?_|refine cr (rh _ _) ?_|refine cr (nG _) ?_|refine cr (fw _ _) ?_|refine cr (KV _) ?_|refine cr (Bu _ _) ?_|refine cr (Bo _) ?_|exact aa)
 all_goals (refine⟨?_,rfl⟩;simp_all[vtxS,dt,Do])
def Θg:TT:=(178,⟨.ptr 190,1,8,some (.nilp),some (.hp 0),false⟩)::Θ
theorem eN:TT.ok Tryz.prog Θg:=TT.okB_ok (by kernel_rfl)
theorem jR {P Q:Prop}(h:Q)(s:Hid Q→P:=by
  intro h
  (first|(with_reducible first|apply dQ|apply cU)|((first|with_reducible apply cJ eN|refine go ?_|(with_reducible first|apply df|apply dp|apply cH|apply cK|refine cI eN mixed (by kernel_rfl) ?_))<;>conv=>whnf))
  repeat(first|(with_reducible first|apply dQ|apply cU)|((first|with_reducible apply cJ eN|refine go ?_|(with_reducible first|apply df|apply dp|apply cH|apply cK|refine cI eN mixed (by kernel_rfl) ?_))<;>conv=>whnf))
  exact h.h):P:=s ⟨h⟩
abbrev gZ (c:List Int)(s:GS):VH:=[(0,.fvar 190 (.nod 1) s.nodes),(1,.frow 178 (.hp 0) s.rows),(4,.vari 182 [.lst (.int .i64) c,.nils] 217 (.hp 0) s.plc [])]
abbrev OO (c:List Int)(s:GS)(x:VB):VH:=[(0,.fvar 190 (.nod 1) s.nodes),(1,.frow 178 (.hp 0) s.rows),(4,.vari 182 [.lst (.int .i64) c,.nils] 217 (.hp 0) s.plc []),(5,x)]
abbrev gR (c:List Int)(s:GS):VH:=[(0,.fvar 190 (.nod 1) s.nodes),(1,.frow 178 (.hp 0) s.rows),(4,.vari 182 [.lst (.int .i64) c,.ref 5] 217 (.hp 0) s.plc []),(5,.row 178 (.hp 0) ((List.range s.nodes.length).map some))]
abbrev HO (c:List Int)(s:GS)(x:VB):VH:=[(0,.fvar 190 (.nod 1) s.nodes),(1,.frow 178 (.hp 0) s.rows),(4,.vari 182 [.lst (.int .i64) c,.ref 5] 217 (.hp 0) s.plc []),(5,.row 178 (.hp 0) ((List.range s.nodes.length).map some)),(6,x)]
theorem rv {s:GS}(hs:s.plc.length=217){r a:Int}(hr:jS r 0 30=true)(ha:0≤a∧a≤6):s.plc[r.toNat * 7+a.toNat]?=some (s.at r a):=by
 have hr:=aC.1 hr
 have e:(r*7+a).toNat=r.toNat * 7+a.toNat:=by omega
 rw[GS.at,e,aq,am (by omega)]
 rfl
def qm (s:GS)(r:Int)(n:Nat):List Int:=((List.range n).filter fun a:Nat=>jS r 0 30 && (s.at r (a:Int)).isSome).map fun a:Nat=>(a:Int)
theorem Kg (s:GS)(r:Int)(n:Nat):qm s r (n+1)=if jS r 0 30 && (s.at r (n:Int)).isSome then qm s r n++[(n:Int)] else qm s r n:=by
 simp only[qm,mn,pe,ce,nz,mo]
 split<;>simp
theorem MJ (s:GS)(r:Int)(n:Nat):(qm s r n).length≤n:=by
 unfold qm
 rw[az]
 exact cu (my _ _) (by simp)
theorem N2 (c:List Int)(s:GS)(r a:Int)(h:(jS r 0 30 && dt c a)=false):ag Tryz.prog 183 [.ptr 4 0,.int .i64 r,.int .i64 a] (gR c s) .nilp (gR c s):=by
 refine ab eN Tryz.func183 rfl rfl false 2 6 rfl rfl rfl rfl fun K hK hb1 hb2=>?_;simp only[ae,enc,Nat.reduceAdd]
 clear hb1 hb2
 cases h1:jS r 0 30
 ·(repeat' first|refine st ?_|refine sa fun xe hxe=>?_|refine sb (fun hq=>?_) fun hq=>?_|refine cr (nG _) ?_|refine cr (fw _ _) ?_|exact aa)
  exact⟨rfl,rfl⟩
 ·have h2:dt c a=false:=by simp_all
  (repeat' first|refine st ?_|refine sa fun xe hxe=>?_|refine sb (fun hq=>?_) fun hq=>?_|refine cr (nG _) ?_|refine cr (fw _ _) ?_|exact aa)
  exact⟨rfl,rfl⟩
theorem nB (c:List Int)(s:GS)(r a:Int)(hs:s.plc.length=217)(hc:c.length≤7)(h1:jS r 0 30=true)(h2:dt c a=true):ag Tryz.prog 183 [.ptr 4 0,.int .i64 r,.int .i64 a] (gR c s) (.hpo 0 (s.at r a)) (gR c s):=by
 refine ab eN Tryz.func183 rfl rfl false 2 6 rfl rfl rfl rfl fun K hK hb1 hb2=>?_;simp only[ae,enc,Nat.reduceAdd]
 clear hb1 hb2
 have hr:=aC.1 h1
 have ha:=aC.1 h2
 have hp:=rv hs h1 (a:=a) (by omega)
 (repeat' first|refine st ?_|refine sa fun xe hxe=>?_|refine sb (fun hq=>?_) fun hq=>?_|refine cr (nG _) ?_|refine cr (fw _ _) ?_|exact aa)
 exact⟨rfl,rfl⟩
theorem N3 (c:List Int)(s:GS)(r a:Int)(h:(jS r 0 30 && dt c a)=false):ag Tryz.prog 183 [.ptr 4 0,.int .i64 r,.int .i64 a] (gZ c s) .nilp (gZ c s):=by
 refine ab eN Tryz.func183 rfl rfl false 1 5 rfl rfl rfl rfl fun K hK hb1 hb2=>?_;simp only[ae,enc,Nat.reduceAdd]
 clear hb1 hb2
 cases h1:jS r 0 30
 ·(repeat' first|refine st ?_|refine sa fun xe hxe=>?_|refine sb (fun hq=>?_) fun hq=>?_|refine cr (nG _) ?_|refine cr (fw _ _) ?_|exact aa)
  exact⟨rfl,rfl⟩
 ·have h2:dt c a=false:=by simp_all
  (repeat' first|refine st ?_|refine sa fun xe hxe=>?_|refine sb (fun hq=>?_) fun hq=>?_|refine cr (nG _) ?_|refine cr (fw _ _) ?_|exact aa)
  exact⟨rfl,rfl⟩
theorem DC (c:List Int)(s:GS)(r a:Int)(hs:s.plc.length=217)(hc:c.length≤7)(h1:jS r 0 30=true)(h2:dt c a=true):ag Tryz.prog 183 [.ptr 4 0,.int .i64 r,.int .i64 a] (gZ c s) (.hpo 0 (s.at r a)) (gZ c s):=by
 refine ab eN Tryz.func183 rfl rfl false 1 5 rfl rfl rfl rfl fun K hK hb1 hb2=>?_;simp only[ae,enc,Nat.reduceAdd]
 clear hb1 hb2
 have hr:=aC.1 h1
 have ha:=aC.1 h2
 have hp:=rv hs h1 (a:=a) (by omega)
 (repeat' first|refine st ?_|refine sa fun xe hxe=>?_|refine sb (fun hq=>?_) fun hq=>?_|refine cr (nG _) ?_|refine cr (fw _ _) ?_|exact aa)
 exact⟨rfl,rfl⟩
abbrev gO (c:List Int)(s:GS):VH:=[(0,.fvar 190 (.nod 1) s.nodes),(1,.frow 178 (.hp 0) s.rows),(4,.vari 182 [.lst (.int .i64) c,.ref 6] 217 (.hp 0) s.plc []),(5,.gone),(6,.row 178 (.hp 0) ((List.range s.nodes.length).map some))]
theorem uq (s:GS)(v:Vtx):(List.range s.nodes.length).map some++[some s.nodes.length]=(List.range (cE s v).nodes.length).map some:=by
 simp[cE,mn]
theorem pC (s:GS)(v:Vtx)(h:0≤v.round∧0≤v.author):s.plc.set (v.round.toNat * 7+v.author.toNat) (some s.nodes.length)=(cE s v).plc:=by
 have e:(v.round*7+v.author).toNat=v.round.toNat * 7+v.author.toNat:=by omega
 simp only[cE,e]
def pR (s:GS)(v:Vtx):Bool:=v.parents.all fun p=>(s.at (v.round-1) p).isSome
abbrev Iy (v:Vtx)(n:Int)(p:V):VB:=.var 190 [.int .i64 v.round,.int .i64 v.author,.lst (.int .i64) v.parents,.int .i64 v.digest,.int .i64 n,p]
abbrev IE (s:GS)(v:Vtx)(i:Nat):VB:=.row 178 (.hp 0) ((v.parents.take i).map fun p=>s.at (v.round-1) p)
def vO (c:List Int)(s:GS)(v:Vtx):Nat→VSt
 |0=>⟨[(0,.ptr 4 0),(3,.ptr 6 0),(5,.ptr 7 0),(18,.lst (.int .i64) v.parents),(19,.int .i64 v.parents.length),(20,.int .i64 0)],gR c s++[(6,.var 73 (cY v).cells),(7,Iy v s.nodes.length .nils)],8⟩
 |i+1=>⟨[(0,.ptr 4 0),(3,.ptr 6 0),(5,.ptr 7 0),(18,.lst (.int .i64) v.parents),(19,.int .i64 v.parents.length),(20,.int .i64 ((i+1:Nat):Int))],gR c s++[(6,.var 73 (cY v).cells),(7,Iy v s.nodes.length (.ref 8)),(8,IE s v (i+1))],9⟩
theorem Iv (c:List Int)(s:GS)(v:Vtx)(hs:s.plc.length=217)(hc:comV c=true)(hv:vtxS c v=true)(hn:s.nodes.length≤2000000):ag Tryz.prog 166 [.ptr 4 0,cY v] (gR c s) (.bool (pR s v)) (if pR s v then gO c (cE s v) else gR c s):=by
 have h7:=(ay.1 hc).2
 obtain⟨v1,v2,v3,v4,v5,v6⟩:=bG hv
 have hml:=eD v3
 have hmi:=dC v3
 have hrl:((List.range s.nodes.length).map some).length=s.nodes.length:=by simp
 refine ab eN Tryz.func166 rfl rfl false 2 6 rfl rfl rfl rfl fun K hK hb1 hb2=>?_;simp only[ae,enc,Nat.reduceAdd]
 clear hb1 hb2
 (repeat' first|refine jR ?_|refine sa fun xe hxe=>?_|refine sb (fun hq=>?_) fun hq=>?_|exact aa)
 refine ah hK [] [0,3,5,18,19,20] (vO c s v) (fun i=>i≤v.parents.length∧∀p∈v.parents.take i,(s.at (v.round-1) p).isSome=true) (fun i=>v.parents.length-i) 0 ⟨by simp,by simp⟩ (by simp only[hrl];rfl) ?_
 rintro i ⟨hi,hall⟩
 have hno:∀p∈v.parents,s.at (v.round-1) p=none→pR s v=false:=fun p hp h=>by
  rw[ck]
  intro h2
  have:=aM.1 h2 p hp
  rw[h] at this
  cases this
 by_cases hlt:i<v.parents.length
 ·have hxe:v.parents[i]?=some v.parents[i]:=am hlt
  have h3:v.parents.take (i+1)=v.parents.take i++[v.parents[i]]:=b8 hlt
  have h4:v.parents[i]∈v.parents:=bd hlt
  have hr0:v.round≠0:=fun h=>by rw[v5 h] at hlt;simp at hlt
  have h1:jS (v.round-1) 0 30=true:=aC.2 (by omega)
  have hlk:vO c s v (i+1)=⟨[(0,.ptr 4 0),(3,.ptr 6 0),(5,.ptr 7 0),(18,.lst (.int .i64) v.parents),(19,.int .i64 v.parents.length),(20,.int .i64 ((i+1:Nat):Int))],gR c s++[(6,.var 73 (cY v).cells),(7,Iy v s.nodes.length (.ref 8)),(8,.row 178 (.hp 0) (((v.parents.take i).map fun p=>s.at (v.round-1) p)++[s.at (v.round-1) v.parents[i]]))],9⟩:=by
   rw[vO,IE,h3,ce];rfl
  generalize v.parents[i]=p at *
  have h2:dt c p=true:=aC.2 (by have:=hmi p h4;omega)
  have hl2:((v.parents.take i).map fun p=>s.at (v.round-1) p).length=i:=by rw[az,bP];omega
  cases h5:s.at (v.round-1) p with
  |none=>
   have hin:(s.at (v.round-1) p).isNone=true:=by rw[h5];rfl
   have hnn:=hno p h4 h5
   cases i with
   |zero=>
    have hx0:v.parents[(0:Int).toNat]?=some p:=hxe
    unfold vO
    (repeat' first|refine jR ?_|refine sa fun xe hxe=>?_|refine sb (fun hq=>?_) fun hq=>?_|refine co (nB c s (v.round-1) p hs h7.2 h1 h2) ?_|exact aa)
    exact⟨by rw[hnn],by rw[hnn];rfl⟩
   |succ i=>
    unfold vO
    (repeat' first|refine jR ?_|refine sa fun xe hxe=>?_|refine sb (fun hq=>?_) fun hq=>?_|refine co (nB c s (v.round-1) p hs h7.2 h1 h2) ?_|exact aa)
    exact⟨by rw[hnn],by rw[hnn];rfl⟩
  |some k=>
   have hin:(s.at (v.round-1) p).isNone=false:=by rw[h5];rfl
   cases i with
   |zero=>
    have hx0:v.parents[(0:Int).toNat]?=some p:=hxe
    unfold vO
    (repeat' first|refine jR ?_|refine sa fun xe hxe=>?_|refine sb (fun hq=>?_) fun hq=>?_|refine co (nB c s (v.round-1) p hs h7.2 h1 h2) ?_|exact aa)
    refine⟨0+1,⟨by omega,by rw[h3];exact bL hall (by rw[h5];rfl)⟩,by omega,?_⟩
    refine Eq.trans ?_ hlk.symm
    rfl
   |succ i=>
    unfold vO
    simp only[IE]
    generalize (List.map (fun p=>s.at (v.round-1) p) (List.take (i+1) v.parents))=ps at *
    (repeat' first|refine jR ?_|refine sa fun xe hxe=>?_|refine sb (fun hq=>?_) fun hq=>?_|refine co (nB c s (v.round-1) p hs h7.2 h1 h2) ?_|exact aa)
    refine⟨i+1+1,⟨by omega,by rw[h3];exact bL hall (by rw[h5];rfl)⟩,by omega,?_⟩
    refine Eq.trans ?_ hlk.symm
    rfl
 ·rw[bp (by omega)] at hall
  have hy:pR s v=true:=aM.2 hall
  have hpl:=rv hs (aC.2 v1) (a:=v.author) (by omega)
  cases i with
  |zero=>
   unfold vO
   simp only[gR]
   generalize hnr:(List.map some (List.range s.nodes.length))=nr at *
   (repeat' first|refine jR ?_|refine sa fun xe hxe=>?_|refine sb (fun hq=>?_) fun hq=>?_|exact aa)
   rw[hy]
   refine⟨rfl,?_⟩
   have e1:=uq s v
   have e2:=pC s v ⟨v1.1,v2.1⟩
   simp only[if_true,gO]
   rw[←e1,←e2,hnr]
   have e3:v.parents=[]:=nP.1 (by omega)
   have e4:(cE s v).nodes=s.nodes++[⟨v,s.nodes.length,none⟩]:=by simp[cE,e3]
   have e5:(cE s v).rows=s.rows:=by simp[cE,e3]
   rw[e4,e5]
  |succ i=>
   unfold vO
   simp only[IE]
   generalize hps:(List.map (fun p=>s.at (v.round-1) p) (List.take (i+1) v.parents))=ps at *
   simp only[gR]
   generalize hnr:(List.map some (List.range s.nodes.length))=nr at *
   (repeat' first|refine jR ?_|refine sa fun xe hxe=>?_|refine sb (fun hq=>?_) fun hq=>?_|exact aa)
   rw[hy]
   refine⟨rfl,?_⟩
   have e1:=uq s v
   have e2:=pC s v ⟨v1.1,v2.1⟩
   simp only[if_true,gO]
   rw[←e1,←e2,hnr]
   have e3:v.parents≠[]:=fun h=>by rw[h] at hi;simp at hi
   rw[bp (by omega)] at hps
   simp only[cE,e3,if_false,hps]
theorem zu (r a:Int):jX.at r a=none:=by
 simp only[jX,GS.at,aq,mt]
 split<;>rfl
theorem Ns (v:Vtx):pR jX v=v.parents.isEmpty:=by
 unfold pR
 cases v.parents with
 |nil=>rfl
 |cons p l=>simp[zu]
theorem Iw (c:List Int)(v:Vtx)(hc:comV c=true)(hv:vtxS c v=true):ag Tryz.prog 166 [.ptr 4 0,cY v] (gZ c jX) (.bool (pR jX v)) (if pR jX v then gR c (cE jX v) else gZ c jX):=by
 have h7:=(ay.1 hc).2
 have hs:jX.plc.length=217:=iu
 obtain⟨v1,v2,v3,v4,v5,v6⟩:=bG hv
 have hmi:=dC v3
 refine ab eN Tryz.func166 rfl rfl false 1 5 rfl rfl rfl rfl fun K hK hb1 hb2=>?_;simp only[ae,enc,Nat.reduceAdd]
 clear hb1 hb2
 (repeat' first|refine jR ?_|refine sa fun xe hxe=>?_|refine sb (fun hq=>?_) fun hq=>?_|exact aa)
 refine ah hK [] [0,3,5,18,19,20] (fun i:Nat=>⟨[(0,.ptr 4 0),(3,.ptr 5 0),(5,.ptr 6 0),(18,.lst (.int .i64) v.parents),(19,.int .i64 v.parents.length),(20,.int .i64 0)],gZ c jX++[(5,.var 73 (cY v).cells),(6,Iy v 0 .nils)],7⟩) (fun i=>i=0) (fun i=>i) 0 rfl (by simp only[dz];rfl) ?_
 rintro i rfl
 have hy:=Ns v
 by_cases hlt:0<v.parents.length
 ·have hxe:v.parents[0]?=some v.parents[0]:=am hlt
  have h4:v.parents[0]∈v.parents:=bd hlt
  have hr0:v.round≠0:=fun h=>by rw[v5 h] at hlt;simp at hlt
  have h1:jS (v.round-1) 0 30=true:=aC.2 (by omega)
  have hne:v.parents.isEmpty=false:=by cases h:v.parents with|nil=>rw[h] at hlt;simp at hlt|cons _ _=>rfl
  rw[hne] at hy
  rw[hy]
  generalize v.parents[0]=p at *
  have h2:dt c p=true:=aC.2 (by have:=hmi p h4;omega)
  have hx0:v.parents[(0:Int).toNat]?=some p:=hxe
  have hin:(jX.at (v.round-1) p).isNone=true:=by rw[zu];rfl
  (repeat' first|refine jR ?_|refine sa fun xe hxe=>?_|refine sb (fun hq=>?_) fun hq=>?_|refine co (DC c jX (v.round-1) p hs h7.2 h1 h2) ?_|exact aa)
  exact⟨rfl,rfl⟩
 ·have e3:v.parents=[]:=nP.1 (by omega)
  have hem:v.parents.isEmpty=true:=by rw[e3];rfl
  rw[hem] at hy
  rw[hy]
  have hpl:=rv hs (aC.2 v1) (a:=v.author) (by omega)
  have e2:=pC jX v ⟨v1.1,v2.1⟩
  have e4:(cE jX v).nodes=[⟨v,0,none⟩]:=by simp[cE,e3,jX]
  have e5:(cE jX v).rows=[]:=by simp[cE,e3,jX]
  simp only[if_true,gR]
  rw[←e2,e4,e5]
  (repeat' first|refine jR ?_|refine sa fun xe hxe=>?_|refine sb (fun hq=>?_) fun hq=>?_|exact aa)
  exact⟨rfl,rfl⟩
theorem IF {c:List Int}{g:List Vtx}{v:Vtx}(hc:comV c=true)(hg:∀u∈g,vtxS c u=true)(hv:vtxS c v=true):pR (da g) v=parOK g v:=by
 obtain⟨v1,v2,v3,v4,v5,v6⟩:=bG hv
 have h7:=(ay.1 hc).2
 unfold pR parOK
 rw[d6,aM,aM]
 have key:∀p∈v.parents,((da g).at (v.round-1) p).isSome=ed g (v.round-1) p:=by
  intro p hp
  have hr0:v.round≠0:=fun h=>by rw[v5 h] at hp;cases hp
  have:=dC v3 p hp
  exact(vE (fun u hu=>dk hc (hg u hu)) (by omega) (by omega)).1
 constructor
 ·intro h p hp;rw[←key p hp];exact h p hp
 ·intro h p hp;rw[key p hp];exact h p hp
def Iu (c:List Int)(g:List Vtx):Nat→VSt
 |0=>⟨[(0,.lst (.int .i64) c),(1,.lst .vtx g),(6,.ptr 4 0),(15,.lst .vtx g),(16,.int .i64 g.length),(17,.int .i64 0)],gZ c jX,5⟩
 |i+1=>⟨[(0,.lst (.int .i64) c),(1,.lst .vtx g),(6,.ptr 4 0),(15,.lst .vtx g),(16,.int .i64 g.length),(17,.int .i64 ((i+1:Nat):Int))],gR c (da (g.take (i+1))),6⟩
def gF (c:List Int)(g:List Vtx):VH:=match g with|[]=>gZ c jX|v::l=>gR c (da (v::l))
def Dr (c:List Int)(g:List Vtx):V:=if graS c g then .tup [.ptr 4 0,.bool true] else .tup [.nilp,.bool false]
def Dq (c:List Int)(g:List Vtx):VH:=if graS c g then gF c g else[]
theorem HS {c:List Int}{g:List Vtx}{i:Nat}(hi:i<g.length)(h:gB c g i=false):graS c g=false:=by
 unfold graS
 rw[←Bi,dP hi h,lz]
theorem EK {c:List Int}{g:List Vtx}{i:Nat}(h:∀j,j<i→gB c g j=true):∀u∈g.take i,vtxS c u=true:=by
 intro u hu
 obtain⟨j,hj,rfl⟩:=dV (d:=v0) hu
 rw[bP] at hj
 have:=h j (by omega)
 simp only[gB,aA] at this
 rw[show (g.take i).getD j v0=g.getD j v0 by simp only[aq,en,if_pos (show j<i by omega)]]
 exact this.1
theorem vN (c:List Int)(g:List Vtx)(hl:g.length≤2000000):ag Tryz.prog 138 [.lst (.int .i64) c,.lst .vtx g] [] (Dr c g) (Dq c g):=by
 have hbad:graS c g=false→V.tup [.nilp,.bool false]=Dr c g∧([]:VH)=Dq c g:=fun h=>by simp[Dr,Dq,h]
 refine ab eN Tryz.func138 rfl rfl false 0 4 rfl rfl rfl rfl fun K hK hb1 hb2=>?_;simp only[ae,enc,Nat.reduceAdd]
 clear hb1 hb2
 cases hc:comV c
 ·(repeat' first|refine jR ?_|refine sa fun xe hxe=>?_|refine sb (fun hq=>?_) fun hq=>?_|refine cr (ow _) ?_|exact aa)
  exact hbad (by simp[graS,hc])
 (repeat' first|refine jR ?_|refine sa fun xe hxe=>?_|refine sb (fun hq=>?_) fun hq=>?_|refine cr (ow _) ?_|exact aa)
 refine DB 4 2 217 (.hp 0) ?_
 ((conv=>whnf);refine LE (by kernel_rfl) ?_;(conv=>whnf))
 refine uW 0 (.fvar 190 (.nod 1) []) rfl ?_
 refine uW 1 (.frow 178 (.hp 0) []) rfl ?_
 refine ah hK [] [0,1,6,15,16,17] (Iu c g) (fun i=>i≤g.length∧∀j,j<i→gB c g j=true) (fun i=>g.length-i) 0 ⟨by simp,by simp⟩ rfl ?_
 rintro i ⟨hi,hall⟩
 by_cases hlt:i<g.length
 ·have hxe:g[i]?=some g[i]:=am hlt
  have hA:gB c g i=(vtxS c g[i] && ((i==0||bef (g.getD (i-1) v0) g[i]) && parOK (g.take i) g[i])):=by simp only[gB,bZ hxe]
  have hno:gB c g i=false→V.tup [.nilp,.bool false]=Dr c g∧([]:VH)=Dq c g:=fun h=>hbad (HS hlt h)
  have hgs:da (g.take (i+1))=cE (da (g.take i)) g[i]:=by rw[b8 hlt,lR]
  have hgv:=EK hall
  have hys:gB c g i=true→∀j,j<i+1→gB c g j=true:=fun h=>cD hall h
  generalize g[i]=v at *
  cases h1:vtxS c v
  ·have h2:(comV c && vtxS c v)=false:=by simp[h1]
   cases i with
   |zero=>
    have hx0:g[(0:Int).toNat]?=some v:=hxe
    unfold Iu
    (repeat' first|refine jR ?_|refine sa fun xe hxe=>?_|refine sb (fun hq=>?_) fun hq=>?_|refine cr (jZ _ _) ?_|exact aa)
    exact hno (by simp[hA,h1])
   |succ i=>
    unfold Iu
    (repeat' first|refine jR ?_|refine sa fun xe hxe=>?_|refine sb (fun hq=>?_) fun hq=>?_|refine cr (jZ _ _) ?_|exact aa)
    exact hno (by simp[hA,h1])
  have h2:(comV c && vtxS c v)=true:=by simp[h1,hc]
  have hpe:=IF hc hgv h1
  cases i with
  |zero=>
   have hx0:g[(0:Int).toNat]?=some v:=hxe
   have hL:=Iw c v hc h1
   have hpe:pR jX v=parOK (g.take 0) v:=hpe
   have hf1:bz (VB.fvar 190 (.nod 1) jX.nodes)≤bz (VB.fvar 190 (.nod 1) (cE jX v).nodes):=aW _
   have hf2:bz (VB.frow 178 (.hp 0) jX.rows)≤bz (VB.frow 178 (.hp 0) (cE jX v).rows):=aW _
   cases h3:pR jX v
   ·rw[h3] at hL
    simp only[eW,if_false] at hL
    unfold Iu
    (repeat' first|refine jR ?_|refine sa fun xe hxe=>?_|refine sb (fun hq=>?_) fun hq=>?_|refine cr (jZ _ _) ?_|refine co (hL) ?_|exact aa)
    exact hno (by rw[hA,←hpe,h3];simp)
   ·rw[h3] at hL
    simp only[if_true] at hL
    unfold Iu
    (repeat' first|refine jR ?_|refine sa fun xe hxe=>?_|refine sb (fun hq=>?_) fun hq=>?_|refine cr (jZ _ _) ?_|refine co (hL) ?_|exact aa)
    refine⟨0+1,⟨by omega,hys (by rw[hA,←hpe,h3,h1];simp)⟩,by omega,?_⟩
    show _=VSt.mk _ (gR c (da (g.take (0+1)))) _
    rw[hgs]
    rfl
  |succ i=>
   have hgl:(da (g.take (i+1))).nodes.length≤2000000:=by rw[(fj _).1,bP];omega
   have hL:=Iv c (da (g.take (i+1))) v (fj _).2 hc h1 hgl
   have hye:g[(((i+1:Nat):Int)-1).toNat]?=some (g.getD (i+1-1) v0):=by rw[show (((i+1:Nat):Int)-1).toNat=i by omega,aq,am (show i<g.length by omega)];simp only[Nat.add_sub_cancel,am (show i<g.length by omega)];rfl
   generalize g.getD (i+1-1) v0=u at *
   have hst:Iu c g (i+1)=⟨[(0,.lst (.int .i64) c),(1,.lst .vtx g),(6,.ptr 4 0),(15,.lst .vtx g),(16,.int .i64 g.length),(17,.int .i64 ((i+1:Nat):Int))],gR c (da (g.take (i+1))),6⟩:=rfl
   rw[hst]
   clear hst
   generalize da (g.take (i+1))=s at *
   have hf1:bz (VB.fvar 190 (.nod 1) s.nodes)≤bz (VB.fvar 190 (.nod 1) (cE s v).nodes):=by simp[bz,cE]
   have hf2:bz (VB.frow 178 (.hp 0) s.rows)≤bz (VB.frow 178 (.hp 0) (cE s v).rows):=by simp only[bz,cE];split<;>simp
   cases h4:bef u v
   ·(repeat' first|refine jR ?_|refine sa fun xe hxe=>?_|refine sb (fun hq=>?_) fun hq=>?_|refine cr (jZ _ _) ?_|refine cr (vG _ _) ?_|exact aa)
    exact hno (by simp[hA,h1,h4])
   cases h3:pR s v
   ·rw[h3] at hL
    simp only[eW,if_false] at hL
    (repeat' first|refine jR ?_|refine sa fun xe hxe=>?_|refine sb (fun hq=>?_) fun hq=>?_|refine cr (jZ _ _) ?_|refine cr (vG _ _) ?_|refine co (hL) ?_|exact aa)
    exact hno (by rw[hA,←hpe,h3];simp)
   ·rw[h3] at hL
    simp only[if_true] at hL
    (repeat' first|refine jR ?_|refine sa fun xe hxe=>?_|refine sb (fun hq=>?_) fun hq=>?_|refine cr (jZ _ _) ?_|refine cr (vG _ _) ?_|refine co (hL) ?_|exact aa)
    refine⟨i+1+1,⟨by omega,hys (by rw[hA,←hpe,h3,h1,h4];simp)⟩,by omega,?_⟩
    show _=VSt.mk _ (gR c (da (g.take (i+1+1)))) _
    rw[hgs]
    rfl
 ·have hg:graS c g=true:=by
   unfold graS
   rw[hc,←Bi,de (fun j hj=>hall j (by omega))]
   rfl
  have e1:Dr c g= .tup [.ptr 4 0,.bool true]:=by simp[Dr,hg]
  have e2:Dq c g=gF c g:=by simp[Dq,hg]
  rw[e1,e2]
  cases i with
  |zero=>
   have e3:g=[]:=nP.1 (by omega)
   subst e3
   unfold Iu
   (repeat' first|refine jR ?_|refine sa fun xe hxe=>?_|refine sb (fun hq=>?_) fun hq=>?_|exact aa)
   exact⟨rfl,rfl⟩
  |succ i=>
   have hst:Iu c g (i+1)=⟨[(0,.lst (.int .i64) c),(1,.lst .vtx g),(6,.ptr 4 0),(15,.lst .vtx g),(16,.int .i64 g.length),(17,.int .i64 ((i+1:Nat):Int))],gR c (da g),6⟩:=by rw[Iu,bp (by omega)]
   rw[hst]
   cases g with
   |nil=>simp at hi
   |cons w g=>
    (repeat' first|refine jR ?_|refine sa fun xe hxe=>?_|refine sb (fun hq=>?_) fun hq=>?_|exact aa)
    exact⟨rfl,rfl⟩
theorem MT {c:List Int}{g:List Vtx}(h:GraOK c g)(r:Int):qm (da g) r c.length=fq g r:=by
 rw[←wO h r]
 unfold qm wN
 congr 1
 refine nR fun a ha=>?_
 have h7:=(ay.1 h.com).2
 have ha:=eM.1 ha
 cases h1:jS r 0 30
 ·rw[iy]
  symm
  rw[ck]
  intro h2
  obtain⟨v,hv,hr,-⟩:=cF.1 h2
  have:=(bG (h.vtx v hv)).1
  rw[hr] at this
  rw[aC.2 this] at h1
  cases h1
 ·rw[d7]
  exact(vE (fun u hu=>dk h.com (h.vtx u hu)) (aC.1 h1) (by omega)).1
theorem lQ {g:List Vtx}:∀{i:Nat} {v:Vtx},g[i]?=some v→∃p,(da g).nodes[i]?=some ⟨v,i,p⟩:=by
 induction g using cj with
 |h0=>intro i v h;simp at h
 |h l x ih=>
  intro i v h
  rw[lR]
  have hl:=(fj l).1
  rcases cG i l.length with hlt|hge
  ·rw[cW hlt] at h
   obtain⟨p,hp⟩:=ih h
   refine⟨p,?_⟩
   simp only[cE]
   rw[cW (by omega)]
   exact hp
  ·have he:i=l.length:=by have:=(aR.1 h).1;simp at this;omega
   subst he
   rw[eJ (ax _)] at h
   simp at h
   subst h
   simp only[cE]
   rw[←hl,eJ (ax _)]
   simp

end Go.Proofs.YtpefhoohfkeflacGreatDoor.Am
