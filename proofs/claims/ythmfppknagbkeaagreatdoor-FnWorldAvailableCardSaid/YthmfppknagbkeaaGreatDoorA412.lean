/- Quiet periods: the reference's WorldCalm, what is drawn; the law of invalid runs. Orders: the laws' orders, slot by slot. Orders: the program's OrderSlots, WorldOrder. Orders: slots held against each other. Orders: FnWorldOrder. The laws of runs: what is proposed, voted for, certified. Orders: FnWorldAgreement, FnWorldStable. The laws of runs: single events, repeated, unknown, and what they keep. The laws of runs: members have only certified vertices. Quiet periods: what is drawn; all members have the same graph, every round adds a round. -/
import Derived.Test.YthmfppknagbkeaaGreatDoorA411
set_option linter.unusedSimpArgs false
set_option linter.unusedVariables false
set_option maxHeartbeats 1000000
namespace Go.Proofs.YthmfppknagbkeaaGreatDoor.Am
open Go
attribute [local irreducible] Mk bk Ari eD ky iB br b8 fY er At af
set_option maxRecDepth 10000
theorem Cn (w:Wrl)(r:Int)(hl:w.com.length≤2000000):af Tryz.prog 32 [ap w,.int .i64 r] [] (if decide (0≤r∧r≤12) && dw w then ap (aX w r.toNat) else sM) []:=by
 have hV:=uG w hl
 have hI:=kG r 0 12
 cases hs:dw w
 ·rw[hs] at hV
  rw[Bool.and_false]
  refine aa al Tryz.func32 rfl rfl true 0 4 rfl rfl rfl rfl fun K hK hb1 hb2=>?_;simp only[ae,enc,Nat.reduceAdd]
  clear hb1 hb2
  (repeat' first|refine st ?_|refine sa fun xe hxe=>?_|refine sb (fun hq=>?_) fun hq=>?_|refine cr (hV) ?_|refine cr (hI) ?_|exact True.intro)
  exact⟨rfl,rfl⟩
 ·rw[Bool.and_true]
  by_cases hr:0≤r∧r≤12
  ·rw[decide_eq_true hr]
   have h:=sr w r.toNat (ce.1 hs) (by omega)
   rw[show ((r.toNat:Nat):Int)=r by omega] at h
   exact h
  ·rw[decide_eq_false hr]
   rw[hs] at hV
   have hv:gM r 0 12=false:=by
    rw[Bool.eq_false_iff]
    intro h
    exact hr (ar.1 h)
   rw[hv] at hI
   refine aa al Tryz.func32 rfl rfl true 0 4 rfl rfl rfl rfl fun K hK hb1 hb2=>?_;simp only[ae,enc,Nat.reduceAdd]
   clear hb1 hb2
   (repeat' first|refine st ?_|refine sa fun xe hxe=>?_|refine sb (fun hq=>?_) fun hq=>?_|refine cr (hV) ?_|refine cr (hI) ?_|exact True.intro)
   exact⟨rfl,rfl⟩
noncomputable def ordS (c:List Int) (g:List Vtx) (l:List Int):List Slt:=if CL c g l then(ordG c g l).map lL else[]
noncomputable def wo (w:Wrl) (m:Int):List Slt:=if dw w && gM m 0 ((w.com.length:Int)-1) then ordS w.com (w.views.getD m.toNat []) w.lead else[]
end Go.Proofs.YthmfppknagbkeaaGreatDoor.Am
namespace Go.Proofs.YthmfppknagbkeaaGreatDoor.Am
open Go
attribute [local irreducible] Mk bk Ari eD ky iB br b8 fY er At af kQ
set_option maxRecDepth 10000
theorem DS (v:Vtx):af Tryz.prog 90 [bA v] [] (.agg [.int .i64 v.round,.int .i64 v.author]) []:=by
 refine aa al Tryz.func90 rfl rfl false 0 4 rfl rfl rfl rfl fun K hK hb1 hb2=>?_;simp only[ae,enc,Nat.reduceAdd]
 clear hb1 hb2
 (repeat' first|refine st ?_|refine sa fun xe hxe=>?_|refine sb (fun hq=>?_) fun hq=>?_|exact True.intro)
 exact⟨rfl,rfl⟩
theorem xN {c:List Int}{g:List Vtx}(l:List Int)(h:CL c g l=true):(oddTo g l [] (cmt c g l l.length).1).map (fun o=>lL o.v)=ordS c g l:=by
 have e:=xM g l (cmt c g l l.length).1 []
 rw[ordS,h,if_pos rfl,ordG,show ([]:List Vtx)=([]:List Odd).map (·.v) from rfl,←e,List.map_map]
 rfl
theorem DO (c:List Int)(l:List Int)(hc:comV c=true)(hl:leaS c l=true):af Tryz.prog 89 [.agg [.ptr 4 0,.lst (.int .i64) l]] (gZ c gz) (.lst .odd []) (gZ c gz):=by
 have hC:=DG c l hc hl
 refine aa cm Tryz.func89 rfl rfl true 1 5 rfl rfl rfl rfl fun K hK hb1 hb2=>?_;simp only[ae,enc,Nat.reduceAdd]
 clear hb1 hb2
 (repeat' first|refine gH ?_|refine sa fun xe hxe=>?_|refine sb (fun hq=>?_) fun hq=>?_|refine co (hC) ?_|exact True.intro)
 clear hC
 refine ab hK [] [1,3,4,22,23,24] (fun i:Nat=>⟨[(1,.ptr 5 0),(3,.ref 6),(4,.ref 7),(22,.lst (.int .i64) []),(23,.int .i64 0),(24,.int .i64 (i:Int))],I8 c gz (.var 126 [.ptr 4 0,.lst (.int .i64) l])++[(6,.row 134 .odd []),(7,.row 4 .bool [])],8⟩) (fun i=>i=0) (fun i=>i) 0 rfl ?_ ?_
 ·rfl
 rintro i rfl
 (repeat' first|refine gH ?_|refine sa fun xe hxe=>?_|refine sb (fun hq=>?_) fun hq=>?_|exact True.intro)
 exact⟨rfl,rfl⟩
theorem H7 (c:List Int)(g:List Vtx)(l:List Int)(hgl:g.length≤1000):af Tryz.prog 44 [.lst (.int .i64) c,.lst .vtx g,.lst (.int .i64) l] [] (.lst .slt (ordS c g l)) []:=by
 cases hw:CL c g l
 ·have hN:=Gs c g l (by omega) hw
  have e:ordS c g l=[]:=by rw[ordS,hw];rfl
  rw[e]
  refine aa cm Tryz.func44 rfl rfl true 0 4 rfl rfl rfl rfl fun K hK hb1 hb2=>?_;simp only[ae,enc,Nat.reduceAdd]
  clear hb1 hb2
  (repeat' first|refine gH ?_|refine sa fun xe hxe=>?_|refine sb (fun hq=>?_) fun hq=>?_|refine cr (hN) ?_|exact True.intro)
  exact⟨rfl,rfl⟩
 ·obtain⟨hg,hl⟩:graS c g=true∧leaS c l=true:=by simpa[CL] using hw
  have hok:=cP hg
  have hll:=(be.1 hl).2
  have hos:=xN l hw
  have hol:=j9 g l (cmt c g l l.length).1 []
  have hcl:=nt c g l hok.com l.length
  have hol2:(oddTo g l [] (cmt c g l l.length).1).length≤15000:=by
   refine Nat.le_trans hol ?_
   simp only[List.length_nil,Nat.zero_add]
   exact Nat.le_trans (Nat.mul_le_mul (show (cmt c g l l.length).1.length≤15 by omega) hgl) (by omega)
  clear hol
  cases g with
  |nil=>
   have hN:=Gr c l hok.com hl
   have hC:=DO c l hok.com hl
   rw[w4 c l hok.com] at hos
   have e:ordS c [] l=[]:=hos.symm
   rw[e]
   refine aa cm Tryz.func44 rfl rfl true 0 4 rfl rfl rfl rfl fun K hK hb1 hb2=>?_;simp only[ae,enc,Nat.reduceAdd]
   clear hb1 hb2
   (repeat' first|refine gH ?_|refine sa fun xe hxe=>?_|refine sb (fun hq=>?_) fun hq=>?_|refine cr (hN) ?_|refine co (hC) ?_|exact True.intro)
   refine ab hK [] [7,24,25,26] (fun i:Nat=>⟨[(7,.ref 4),(24,.lst .odd []),(25,.int .i64 0),(26,.int .i64 (i:Int))],[(0,.fvar 178 (.nod 1) gz.nodes),(1,.frow 166 (.hp 0) gz.rows),(4,.row 54 .slt [])],5⟩) (fun i=>i=0) (fun i=>i) 0 rfl rfl ?_
   rintro i rfl
   (repeat' first|refine gH ?_|refine sa fun xe hxe=>?_|refine sb (fun hq=>?_) fun hq=>?_|exact True.intro)
   exact⟨rfl,rfl⟩
  |cons v g=>
   have hN:=Gq c v g l (by omega) hg hl
   have hC:=Gt c (v::g) l hok hgl hl
   rw[←hos]
   generalize oddTo (v::g) l [] (cmt c (v::g) l l.length).1=os at *
   refine aa cm Tryz.func44 rfl rfl true 0 4 rfl rfl rfl rfl fun K hK hb1 hb2=>?_;simp only[ae,enc,Nat.reduceAdd]
   clear hb1 hb2
   (repeat' first|refine gH ?_|refine sa fun xe hxe=>?_|refine sb (fun hq=>?_) fun hq=>?_|refine cr (hN) ?_|refine co (hC) ?_|exact True.intro)
   clear hN hC
   refine ab hK [] [7,24,25,26] (fun i:Nat=>⟨[(7,.ref 4),(24,.lst .odd os),(25,.int .i64 os.length),(26,.int .i64 (i:Int))],[(0,.fvar 178 (.nod 1) (bM (v::g)).nodes),(1,.frow 166 (.hp 0) (bM (v::g)).rows),(4,.row 54 .slt ((os.take i).map fun o=>lL o.v))],5⟩) (fun i=>i≤os.length) (fun i=>os.length-i) 0 (Nat.zero_le _) rfl ?_
   intro i hi
   by_cases hlt:i<os.length
   ·have hxe:os[i]?=some os[i]:=List.getElem?_eq_getElem hlt
    have h3:os.take (i+1)=os.take i++[os[i]]:=List.take_succ_eq_append_getElem hlt
    have hI:=DS os[i].v
    have h4:(os.take (i+1)).map (fun o=>lL o.v)=(os.take i).map (fun o=>lL o.v)++[lL os[i].v]:=by rw[h3,List.map_append];rfl
    have hal:((os.take i).map fun o=>lL o.v).length=i:=by simp;omega
    generalize hA:((os.take i).map fun o=>lL o.v)=A at *
    generalize os[i]=o at *
    (repeat' first|refine gH ?_|refine sa fun xe hxe=>?_|refine sb (fun hq=>?_) fun hq=>?_|refine cr (hI) ?_|exact True.intro)
    exact⟨i+1,by omega,by omega,by rw[h4];rfl⟩
   ·obtain rfl:i=os.length:=by omega
    rw[List.take_length]
    (repeat' first|refine gH ?_|refine sa fun xe hxe=>?_|refine sb (fun hq=>?_) fun hq=>?_|exact True.intro)
    exact⟨rfl,rfl⟩
theorem lu (w:Wrl)(m:Int)(hl:∀g∈w.views,g.length≤2000000):af Tryz.prog 11 [ap w,.int .i64 m] [] (.lst .slt (wo w m)) []:=by
 have hV:=Fi w hl
 refine aa cm Tryz.func11 rfl rfl true 0 4 rfl rfl rfl rfl fun K hK hb1 hb2=>?_;simp only[ae,enc,Nat.reduceAdd]
 clear hb1 hb2
 cases hw:dw w
 ·rw[hw] at hV
  have e:wo w m=[]:=by rw[wo,hw];rfl
  rw[e]
  (repeat' first|refine gH ?_|refine sa fun xe hxe=>?_|refine sb (fun hq=>?_) fun hq=>?_|refine cr (hV) ?_|exact True.intro)
  exact⟨rfl,rfl⟩
 ·rw[hw] at hV
  have hok:=ce.1 hw
  have hvl:=hok.vlen
  cases hm:gM m 0 ((w.com.length:Int)-1)
  ·have e:wo w m=[]:=by rw[wo,hw,hm];rfl
   have hb:¬(0≤m∧m≤(w.com.length:Int)-1):=fun h=>by rw[ar.2 h] at hm;cases hm
   rw[e]
   by_cases h0:m<0
   ·(repeat' first|refine gH ?_|refine sa fun xe hxe=>?_|refine sb (fun hq=>?_) fun hq=>?_|refine cr (hV) ?_|exact True.intro)
    exact⟨rfl,rfl⟩
   ·(repeat' first|refine gH ?_|refine sa fun xe hxe=>?_|refine sb (fun hq=>?_) fun hq=>?_|refine cr (hV) ?_|exact True.intro)
    exact⟨rfl,rfl⟩
  ·have hb:=ar.1 hm
   have e:wo w m=ordS w.com (w.views.getD m.toNat []) w.lead:=by rw[wo,hw,hm];rfl
   have hx:w.views[m.toNat]?=some (w.views.getD m.toNat []):=by rw[List.getD_eq_getElem?_getD,List.getElem?_eq_getElem (by omega)];rfl
   have hgl:=hok.vl _ (List.mem_of_getElem? hx)
   rw[e]
   generalize w.views.getD m.toNat []=g at *
   have hO:=H7 w.com g w.lead (by omega)
   (repeat' first|refine gH ?_|refine sa fun xe hxe=>?_|refine sb (fun hq=>?_) fun hq=>?_|refine cr (hV) ?_|refine cr (hO) ?_|exact True.intro)
   exact⟨rfl,rfl⟩
theorem Cd {x y:Slt}:(x.round==y.round && x.author==y.author)=true↔x=y:=by
 cases x;cases y
 simp
theorem In (a b:List Slt)(hl:a.length≤1000000):af Tryz.prog 63 [.lst .slt a,.lst .slt b] [] (.bool (decide (a=b))) []:=by
 refine aa al Tryz.func63 rfl rfl false 0 4 rfl rfl rfl rfl fun K hK hb1 hb2=>?_;simp only[ae,enc,Nat.reduceAdd]
 simp[ah,V.toD,bnd,ag,D.cells] at hb1
 by_cases hln:(a.length:Int)=(b.length:Int)
 ·(repeat' first|refine st ?_|refine sa fun xe hxe=>?_|refine sb (fun hq=>?_) fun hq=>?_|exact True.intro)
  refine ab hK [] [0,1,12,13] (fun i:Nat=>⟨[(0,.lst .slt a),(1,.lst .slt b),(12,.int .i64 a.length),(13,.int .i64 (i:Int))],[],4⟩) (fun i=>i≤a.length∧a.take i=b.take i) (fun i=>a.length-i) 0 ⟨Nat.zero_le _,by simp⟩ rfl ?_
  rintro i ⟨hi,hall⟩
  by_cases hlt:i<a.length
  ·have hxe:a[i]?=some a[i]:=List.getElem?_eq_getElem hlt
   have hyl:i<b.length:=by omega
   have hye:b[i]?=some b[i]:=List.getElem?_eq_getElem hyl
   have h3:a.take (i+1)=a.take i++[a[i]]:=List.take_succ_eq_append_getElem hlt
   have h4:b.take (i+1)=b.take i++[b[i]]:=List.take_succ_eq_append_getElem hyl
   have hdf:a[i]≠b[i]→a≠b:=fun h e=>by subst e;exact h rfl
   generalize a[i]=x at *
   generalize b[i]=y at *
   cases hq0:(x.round==y.round && x.author==y.author)
   ·have hne:x≠y:=fun h=>by rw[Cd.2 h] at hq0;cases hq0
    have hq1:(!(x.round==y.round && x.author==y.author))=true:=by rw[hq0];rfl
    rw[decide_eq_false (hdf hne)]
    (repeat' first|refine st ?_|refine sa fun xe hxe=>?_|refine sb (fun hq=>?_) fun hq=>?_|exact True.intro)
    (try any_goals(first|exact absurd trivial hq|exact absurd rfl hq|exact absurd hq (by omega)|(exfalso;simp at hq;done)))
    exact⟨rfl,rfl⟩
   ·have he:=Cd.1 hq0
    have hq1:(!(x.round==y.round && x.author==y.author))=false:=by rw[hq0];rfl
    (repeat' first|refine st ?_|refine sa fun xe hxe=>?_|refine sb (fun hq=>?_) fun hq=>?_|exact True.intro)
    (try any_goals(first|exact absurd trivial hq|exact absurd rfl hq|exact absurd hq (by omega)|(exfalso;simp at hq;done)))
    exact⟨i+1,⟨by omega,by rw[h3,h4,hall,he]⟩,by omega,rfl⟩
  ·rw[List.take_of_length_le (by omega),List.take_of_length_le (by omega)] at hall
   rw[decide_eq_true hall]
   (repeat' first|refine st ?_|refine sa fun xe hxe=>?_|refine sb (fun hq=>?_) fun hq=>?_|exact True.intro)
   (try any_goals(first|exact absurd trivial hq|exact absurd rfl hq|exact absurd hq (by omega)|(exfalso;simp at hq;done)))
   exact⟨rfl,rfl⟩
 ·rw[decide_eq_false (fun e=>hln (by rw[e]))]
  (repeat' first|refine st ?_|refine sa fun xe hxe=>?_|refine sb (fun hq=>?_) fun hq=>?_|exact True.intro)
  (try any_goals(first|exact absurd trivial hq|exact absurd rfl hq|exact absurd hq (by omega)|(exfalso;simp at hq;done)))
  exact⟨rfl,rfl⟩
def zp (a b:List Slt):Bool:=decide (a.length≤b.length) && decide (a=b.take a.length)
theorem r8 (a b:List Slt):zp a (a++b)=true:=by simp[zp]
theorem pn (a b:List Slt)(hl:a.length≤1000000)(hl2:b.length≤1000000):af Tryz.prog 21 [.lst .slt a,.lst .slt b] [] (.bool (zp a b)) []:=by
 have hE:=In a (b.take a.length) hl
 refine aa al Tryz.func21 rfl rfl false 0 4 rfl rfl rfl rfl fun K hK hb1 hb2=>?_;simp only[ae,enc,Nat.reduceAdd]
 clear hb1 hb2
 by_cases h:a.length≤b.length
 ·have e:zp a b=decide (a=b.take a.length):=by rw[zp,decide_eq_true h,Bool.true_and]
  rw[e]
  cases hd:decide (a=b.take a.length)
  ·rw[hd] at hE
   have hE:af Tryz.prog 63 [.lst .slt a,.lst .slt (fF b none (some (.int .i64 (a.length:Int))) 0 ((a.length:Int).toNat))] [] (.bool false) []:=hE
   (repeat' first|refine st ?_|refine sa fun xe hxe=>?_|refine sb (fun hq=>?_) fun hq=>?_|refine cr (hE) ?_|exact True.intro)
   (try any_goals(first|exact absurd trivial hq|exact absurd rfl hq|exact absurd hq (by omega)|(exfalso;simp at hq;done)))
   exact⟨rfl,rfl⟩
  ·rw[hd] at hE
   have hE:af Tryz.prog 63 [.lst .slt a,.lst .slt (fF b none (some (.int .i64 (a.length:Int))) 0 ((a.length:Int).toNat))] [] (.bool true) []:=hE
   (repeat' first|refine st ?_|refine sa fun xe hxe=>?_|refine sb (fun hq=>?_) fun hq=>?_|refine cr (hE) ?_|exact True.intro)
   (try any_goals(first|exact absurd trivial hq|exact absurd rfl hq|exact absurd hq (by omega)|(exfalso;simp at hq;done)))
   exact⟨rfl,rfl⟩
 ·have e:zp a b=false:=by rw[zp,decide_eq_false h,Bool.false_and]
  rw[e]
  (repeat' first|refine st ?_|refine sa fun xe hxe=>?_|refine sb (fun hq=>?_) fun hq=>?_|refine cr (hE) ?_|exact True.intro)
  (try any_goals(first|exact absurd trivial hq|exact absurd rfl hq|exact absurd hq (by omega)|(exfalso;simp at hq;done)))
  exact⟨rfl,rfl⟩
theorem BI (c:List Int)(g:List Vtx)(l:List Int)(hgl:g.length≤1000):(ordS c g l).length≤1000000:=by
 cases hw:CL c g l
 ·rw[ordS,hw];simp
 ·obtain⟨hg,hl⟩:graS c g=true∧leaS c l=true:=by simpa[CL] using hw
  have hok:=cP hg
  have hll:=(be.1 hl).2
  have hol:=j9 g l (cmt c g l l.length).1 []
  have hcl:=nt c g l hok.com l.length
  rw[←xN l hw,List.length_map]
  refine Nat.le_trans hol ?_
  simp only[List.length_nil,Nat.zero_add]
  exact Nat.le_trans (Nat.mul_le_mul (show (cmt c g l l.length).1.length≤15 by omega) hgl) (by omega)
theorem yl {w:Wrl}(hw:WOK w){m:Nat}(hm:m<w.com.length):wo w (m:Int)=ordS w.com (w.views.getD m []) w.lead:=by
 rw[wo,ce.2 hw,ar.2 (by omega)]
 rfl
theorem i7 {w:Wrl}(hw:WOK w)(m:Int):(wo w m).length≤1000000:=by
 rw[wo]
 split
 ·rename_i h
  simp only[Bool.and_eq_true] at h
  have hb:=ar.1 h.2
  refine BI _ _ _ ?_
  have:=hw.vl _ (gu hw (m:=m.toNat) (by omega))
  omega
 ·simp
end Go.Proofs.YthmfppknagbkeaaGreatDoor.Am
namespace Go.Proofs.YthmfppknagbkeaaGreatDoor.Am
open Go
attribute [local irreducible] Mk bk Ari eD ky iB br b8 fY er At af
set_option maxRecDepth 10000
theorem HO (a b:List Int)(hl:a.length≤1000000):af Tryz.prog 34 [.lst (.int .i64) a,.lst (.int .i64) b] [] (.lst (.int .i64) (q7 a b)) []:=by
 refine aa al Tryz.func34 rfl rfl true 0 4 rfl rfl rfl rfl fun K hK hb1 hb2=>?_;simp only[ae,enc,Nat.reduceAdd]
 clear hb1 hb2
 (repeat' first|refine st ?_|refine sa fun xe hxe=>?_|refine sb (fun hq=>?_) fun hq=>?_|exact True.intro)
 (try any_goals(first|exact absurd trivial hq|exact absurd rfl hq|exact absurd hq (by omega)|(exfalso;simp at hq;done)))
 refine ab hK [] [0,1,5,6] (fun i:Nat=>⟨[(0,.lst (.int .i64) a),(1,.lst (.int .i64) b),(5,.ref 4),(6,.int .i64 (i:Int))],[(4,.row 3 (.int .i64) (q7 (a.take i) b))],5⟩) (fun i=>i≤a.length) (fun i=>a.length-i) 0 (by simp) rfl ?_
 intro i hi
 by_cases hlt:i<a.length
 ·have hx:a[i]?=some a[i]:=List.getElem?_eq_getElem hlt
  have hsn:q7 (a.take (i+1)) b=if b.contains a[i] then q7 (a.take i) b++[a[i]] else q7 (a.take i) b:=by
   unfold q7
   rw[List.take_succ_eq_append_getElem hlt,List.filter_append,List.filter_cons,List.filter_nil]
   split<;>simp
  have hll:(q7 (a.take i) b).length≤i:=Nat.le_trans (List.length_filter_le _ _) (by rw[List.length_take];omega)
  generalize a[i]=x at *
  have hH:=F8 b x
  generalize q7 (a.take i) b=r at *
  cases h:b.contains x
  ·rw[h] at hH hsn
   (repeat' first|refine st ?_|refine sa fun xe hxe=>?_|refine sb (fun hq=>?_) fun hq=>?_|refine cr (hH) ?_|exact True.intro)
   (try any_goals(first|exact absurd trivial hq|exact absurd rfl hq|exact absurd hq (by omega)|(exfalso;simp at hq;done)))
   exact⟨i+1,by omega,by omega,by rw[hsn];rfl⟩
  ·rw[h] at hH hsn
   (repeat' first|refine st ?_|refine sa fun xe hxe=>?_|refine sb (fun hq=>?_) fun hq=>?_|refine cr (hH) ?_|exact True.intro)
   (try any_goals(first|exact absurd trivial hq|exact absurd rfl hq|exact absurd hq (by omega)|(exfalso;simp at hq;done)))
   exact⟨i+1,by omega,by omega,by rw[hsn];rfl⟩
 ·(repeat' first|refine st ?_|refine sa fun xe hxe=>?_|refine sb (fun hq=>?_) fun hq=>?_|exact True.intro)
  (try any_goals(first|exact absurd trivial hq|exact absurd rfl hq|exact absurd hq (by omega)|(exfalso;simp at hq;done)))
  rw[List.take_of_length_le (by omega)]
  exact⟨rfl,rfl⟩
end Go.Proofs.YthmfppknagbkeaaGreatDoor.Am
namespace Go.Proofs.YthmfppknagbkeaaGreatDoor.Am
open Go
attribute [local irreducible] Mk bk Ari eD ky iB br b8 fY er At af kQ
set_option maxRecDepth 10000
theorem nQ {c:List Int}{g:List Vtx}{l:List Int}(hg:graS c g=true)(hl:leaS c l=true):ordS c g l=(ordG c g l).map lL:=by
 rw[ordS,CL,hg,hl];rfl
theorem Hs {w:Wrl}(hw:WOK w){i k:Nat}(hi:i<w.com.length)(hk:k<w.com.length):zp (wo w i) (wo w k)=true∨zp (wo w k) (wo w i)=true:=by
 obtain⟨U,hU,hUs⟩:=EB hw
 have h1:=gu hw hi
 have h2:=gu hw hk
 have g1:=hw.gra _ h1
 have g2:=hw.gra _ h2
 rw[yl hw hi,yl hw hk,nQ g1 hw.lead,nQ g2 hw.lead]
 rcases D8 (cP g1) (cP g2) hU (hUs _ h1) (hUs _ h2) w.lead with⟨vs,e⟩|⟨vs,e⟩
 ·rw[e,List.map_append]
  exact .inl (r8 _ _)
 ·rw[e,List.map_append]
  exact .inr (r8 _ _)
theorem sL {w u:Wrl}(hw:WOK w)(hu:WOK u)(hg:Grw w u){m:Nat}(hm:m<w.com.length):zp (wo w m) (wo u m)=true:=by
 have hm2:m<u.com.length:=by rw[hg.com];exact hm
 have h1:=gu hw hm
 have h2:=gu hu hm2
 have g1:=hw.gra _ h1
 have g2:=hu.gra _ h2
 rw[yl hw hm,yl hu hm2,nQ g1 hw.lead,nQ g2 hu.lead]
 have g2':=cP g2
 rw[hg.com] at g2'
 obtain⟨vs,e⟩:=BL (cP g1) g2' (fun v hv=>hg.views m v hv) w.lead
 rw[hg.com,hg.lead,e,List.map_append]
 exact r8 _ _
set_option maxHeartbeats 1000000 in
theorem Bf (c:List Int)(hc:∀x∈c,0≤x∧x≤255):af Tryz.prog 4 [.lst (.int .u8) c] [] (.bool true) []:=by
 obtain⟨⟨w,es⟩,⟨hw,he1,he2⟩,hd⟩:=Fc c hc
 dsimp only at hw he1 he2 hd
 have hI:=A6 w es (fun g hg=>by have:=hw.vl g hg;omega) (by omega)
 have hS:=Cp w es (by have:=hw.len;omega) (by omega) (fun e he=>by have:=he2 e he;omega)
 rw[ce.2 hw,Bool.and_true] at hI hS
 refine aa al Tryz.func4 rfl rfl false 0 4 rfl rfl rfl rfl fun K hK hb1 hb2=>?_;simp only[ae,enc,Nat.reduceAdd]
 clear hb1 hb2
 by_cases hl:1048576<(c.length:Int)
 ·(repeat' first|refine st ?_|refine sa fun xe hxe=>?_|refine sb (fun hq=>?_) fun hq=>?_|exact True.intro)
  (try any_goals(first|exact absurd trivial hq|exact absurd rfl hq|exact absurd hq (by omega)|(exfalso;simp at hq;done)))
  exact⟨rfl,rfl⟩
 cases h80:decide (es.length≤80)
 ·simp only[h80,Bool.false_eq_true,if_false] at hI hS
  (repeat' first|refine st ?_|refine sa fun xe hxe=>?_|refine sb (fun hq=>?_) fun hq=>?_|refine cr (hd) ?_|refine cr (hI) ?_|refine cr (hS) ?_|refine cr (pg) ?_|exact True.intro)
  (try any_goals(first|exact absurd trivial hq|exact absurd rfl hq|exact absurd hq (by omega)|(exfalso;simp at hq;done)))
  exact⟨rfl,rfl⟩
 ·simp only[h80,if_true] at hI hS
  have hu:=lJ hw es
  generalize eC w es=u at *
  have hE:=pf u
  have h7:=hu.len
  have hvl:=hu.vlen
  (repeat' first|refine st ?_|refine sa fun xe hxe=>?_|refine sb (fun hq=>?_) fun hq=>?_|refine cr (hd) ?_|refine cr (hI) ?_|refine cr (hS) ?_|refine cr (hE) ?_|exact True.intro)
  (try any_goals(first|exact absurd trivial hq|exact absurd rfl hq|exact absurd hq (by omega)|(exfalso;simp at hq;done)))
  refine ab hK [] [5,9] (fun i:Nat=>⟨[(5,.ptr 4 0),(9,.int .i64 (i:Int))],[(4,.var 33 (ap u).cells)],5⟩) (fun i=>i≤u.views.length) (fun i=>u.views.length-i) 0 (Nat.zero_le _) rfl ?_
  intro i hi
  by_cases hlt:i<u.views.length
  ·(repeat' first|refine st ?_|refine sa fun xe hxe=>?_|refine sb (fun hq=>?_) fun hq=>?_|exact True.intro)
   (try any_goals(first|exact absurd trivial hq|exact absurd rfl hq|exact absurd hq (by omega)|(exfalso;simp at hq;done)))
   refine ab hK [] [5,9,10] (fun k:Nat=>⟨[(5,.ptr 4 0),(9,.int .i64 (i:Int)),(10,.int .i64 (k:Int))],[(4,.var 33 (ap u).cells)],5⟩) (fun k=>k≤i) (fun k=>i-k) 0 (Nat.zero_le _) rfl ?_
   intro k hk
   by_cases hki:k<i
   ·have hA:=lu u (i:Int) (fun g hg=>by have:=hu.vl g hg;omega)
    have hB:=lu u (k:Int) (fun g hg=>by have:=hu.vl g hg;omega)
    have hla:=i7 hu (i:Int)
    have hlb:=i7 hu (k:Int)
    have hcm:=Hs hu (i:=i) (k:=k) (by omega) (by omega)
    generalize wo u (i:Int)=a at *
    generalize wo u (k:Int)=b at *
    have hP:=pn a b hla hlb
    have hQ:=pn b a hlb hla
    cases h1:zp a b
    ·have h2:zp b a=true:=by
      rcases hcm with h|h
      ·rw[h1] at h;cases h
      ·exact h
     rw[h1] at hP
     rw[h2] at hQ
     (repeat' first|refine st ?_|refine sa fun xe hxe=>?_|refine sb (fun hq=>?_) fun hq=>?_|refine cr (hA) ?_|refine cr (hB) ?_|refine cr (hP) ?_|refine cr (hQ) ?_|exact True.intro)
     (try any_goals(first|exact absurd trivial hq|exact absurd rfl hq|exact absurd hq (by omega)|(exfalso;simp at hq;done)))
     exact⟨k+1,by omega,by omega,rfl⟩
    ·rw[h1] at hP
     (repeat' first|refine st ?_|refine sa fun xe hxe=>?_|refine sb (fun hq=>?_) fun hq=>?_|refine cr (hA) ?_|refine cr (hB) ?_|refine cr (hP) ?_|refine cr (hQ) ?_|exact True.intro)
     (try any_goals(first|exact absurd trivial hq|exact absurd rfl hq|exact absurd hq (by omega)|(exfalso;simp at hq;done)))
     exact⟨k+1,by omega,by omega,rfl⟩
   ·(repeat' first|refine st ?_|refine sa fun xe hxe=>?_|refine sb (fun hq=>?_) fun hq=>?_|exact True.intro)
    (try any_goals(first|exact absurd trivial hq|exact absurd rfl hq|exact absurd hq (by omega)|(exfalso;simp at hq;done)))
    exact⟨i+1,by omega,by omega,rfl⟩
  ·(repeat' first|refine st ?_|refine sa fun xe hxe=>?_|refine sb (fun hq=>?_) fun hq=>?_|exact True.intro)
   (try any_goals(first|exact absurd trivial hq|exact absurd rfl hq|exact absurd hq (by omega)|(exfalso;simp at hq;done)))
   exact⟨rfl,rfl⟩
end Go.Proofs.YthmfppknagbkeaaGreatDoor.Am
namespace Go.Proofs.YthmfppknagbkeaaGreatDoor.Am
open Go
attribute [local irreducible] Mk bk Ari eD ky iB br b8 fY er At af
set_option maxRecDepth 10000
theorem HR (c:List Int)(hc:∀x∈c,0≤x∧x≤255):∃(w:Wrl) (kd a b rd au dg:Int) (ps:List Int) (pz:V),wL w∧ps.length≤30∧(pz= .lst (.int .i64) ps∨(pz= .nils∧ps=[]))∧af Tryz.prog 26 [.lst (.int .u8) c] [] (.tup [ap w,.agg [.int .i64 kd,.int .i64 a,.int .i64 b,.int .i64 rd,.int .i64 au,pz,.int .i64 dg]]) []:=by
 obtain⟨⟨w,z,⟨kd,a,b,⟨rd,au,ps,dg⟩⟩⟩,⟨hw,he1,he2⟩,hd⟩:=HQ c hc
 dsimp only at hw he1 he2 hd
 cases z with
 |false=>exact⟨w,kd,a,b,rd,au,dg,ps,_,hw,he1,.inl rfl,hd⟩
 |true=>exact⟨w,kd,a,b,rd,au,dg,ps,_,hw,he1,.inr ⟨rfl,he2 rfl⟩,hd⟩
theorem H2 {w:Wrl}(hw:wL w)(kd a b rd au dg:Int)(ps:List Int):af Tryz.prog 27 [ap w,.agg [.int .i64 kd,.int .i64 a,.int .i64 b,.int .i64 rd,.int .i64 au,.lst (.int .i64) ps,.int .i64 dg]] [] (if dw w then ap (dG w ⟨kd,a,b,⟨rd,au,ps,dg⟩⟩) else sM) []:=
 H1 w ⟨kd,a,b,⟨rd,au,ps,dg⟩⟩ (fun g hg=>by have:=hw.2 g hg;omega)
theorem Im {w:Wrl}(hw:wL w)(kd a b rd au dg:Int){ps:List Int}(hl:ps.length≤30):af Tryz.prog 28 [ap w,.agg [.int .i64 kd,.int .i64 a,.int .i64 b,.int .i64 rd,.int .i64 au,.lst (.int .i64) ps,.int .i64 dg]] [] (if dw w then ap (dG w ⟨kd,a,b,⟨rd,au,ps,dg⟩⟩) else sM) []:=
 Hi w ⟨kd,a,b,⟨rd,au,ps,dg⟩⟩ (by have:=hw.1;omega) (by dsimp only;omega)
theorem HI {w:Wrl}{l:List Int}{i:Nat}{e:Int}(hw:wL w)(hl:∀x∈l,-1≤x∧x≤13)(h:l[i]?=some e):∃x:Wrl×Int,(wL x.1∧-1≤x.2∧x.2≤13)∧V.tup [ap w,.int .i64 e]= .tup [ap x.1,.int .i64 x.2]∧([]:VH)=[]:=by
 have:=hl e (List.mem_of_getElem? h)
 exact⟨(w,e),⟨hw,this.1,this.2⟩,rfl,rfl⟩
set_option maxHeartbeats 1000000 in
theorem FJ (c:List Int)(hc:∀x∈c,0≤x∧x≤255):∃x:Wrl×Int,(wL x.1∧-1≤x.2∧x.2≤13)∧af Tryz.prog 30 [.lst (.int .u8) c] [] (.tup [ap x.1,.int .i64 x.2]) []:=by
 have h:=GZ hc
 obtain⟨⟨w,q⟩,⟨h1,h2,h3⟩,hw⟩:=vo _ 0 h (by omega)
 dsimp only at h1 h2 h3 hw
 obtain⟨n,hn,hnc⟩:=dP _ q 14 h (by omega) (by omega)
 by_cases h0:n=0
 ·obtain⟨⟨w2,q2⟩,⟨g1,g2,g3⟩,hW⟩:=Ad _ (q+1) h (by omega)
  dsimp only at g1 g2 g3 hW
  obtain⟨k,hk,hkc⟩:=dP _ q2 4 h (by omega) (by omega)
  refine⟨(w2,k),⟨g3,by dsimp only;omega,by dsimp only;omega⟩,?_⟩
  refine aa al Tryz.func30 rfl rfl true 0 4 rfl rfl rfl rfl fun K hK hb1 hb2=>?_;simp only[ae,enc,Nat.reduceAdd]
  clear hb1 hb2
  (repeat' first|refine st ?_|refine sa fun xe hxe=>?_|refine sb (fun hq=>?_) fun hq=>?_|refine cr (kK _) ?_|refine cr (hw) ?_|refine cr (hnc) ?_|refine cr (hW) ?_|refine cr (hkc) ?_|exact True.intro)
  exact⟨rfl,rfl⟩
 ·obtain⟨a1,b1,k1⟩:=dP _ (q+1) 8 h (by omega) (by omega)
  obtain⟨a2,b2,k2⟩:=dP _ (q+1+1) 8 h (by omega) (by omega)
  obtain⟨a3,b3,k3⟩:=dP _ (q+1+1+1) 8 h (by omega) (by omega)
  obtain⟨a4,b4,k4⟩:=dP _ (q+1+1+1+1) 8 h (by omega) (by omega)
  obtain⟨a5,b5,k5⟩:=dP _ (q+1+1+1+1+1) 8 h (by omega) (by omega)
  obtain⟨i,bi,ki⟩:=dP _ (q+1+1+1+1+1+1) 8 h (by omega) (by omega)
  suffices hs:∃r hout,(∃x:Wrl×Int,(wL x.1∧-1≤x.2∧x.2≤13)∧r= .tup [ap x.1,.int .i64 x.2]∧hout=[])∧af Tryz.prog 30 [.lst (.int .u8) c] [] r hout by
   obtain⟨r,hout,⟨v,hv,rfl,rfl⟩,h⟩:=hs
   exact⟨v,hv,h⟩
  refine dM al Tryz.func30 rfl rfl true 0 4 rfl rfl rfl rfl (R:=fun r hout=>∃x:Wrl×Int,(wL x.1∧-1≤x.2∧x.2≤13)∧r= .tup [ap x.1,.int .i64 x.2]∧hout=[]) (r0:=.tup [ap w,.int .i64 0]) (hout0:=[]) (⟨(w,0),⟨h3.sm,by dsimp only;omega,by dsimp only;omega⟩,rfl,rfl⟩) fun K hK hb1 hb2=>?_;simp only[ae,enc,Nat.reduceAdd]
  clear hb1 hb2
  (repeat' first|refine st ?_|refine sa fun xe hxe=>?_|refine sb (fun hq=>?_) fun hq=>?_|refine cr (kK _) ?_|refine cr (hw) ?_|refine cr (hnc) ?_|refine cr (k1) ?_|refine cr (k2) ?_|refine cr (k3) ?_|refine cr (k4) ?_|refine cr (k5) ?_|refine cr (ki) ?_|exact True.intro)
  refine HI h3.sm ?_ hxe
  intro x hx
  simp only[List.mem_cons,List.not_mem_nil,or_false] at hx
  omega
def Hx (g:List Vtx)(v:Vtx)(n:Nat):Bool:=(g.take n).any fun u=>gL u v

end Go.Proofs.YthmfppknagbkeaaGreatDoor.Am
