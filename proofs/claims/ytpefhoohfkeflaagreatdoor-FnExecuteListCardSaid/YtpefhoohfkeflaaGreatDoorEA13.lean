/- Scripts: the orders, printed. Scripts: what the console does with the run; its list of proposals. Scripts: a line's command. Scripts: the deferred closure of a line. Scripts: a line without a command. Scripts: execute's contract. Scripts: a line. Scripts: lines and last lines, plain. Scripts: impl's Execute. Scripts: the program's Execute returns what the reference's returns. A listed table of numbers, as it lies; an argument that is a text. Scripts: what is drawn. -/
import Derived.Test.YtpefhoohfkeflaaGreatDoorRows
import Derived.Tactics
import Derived.Tactics2
import Derived.Defers
import Derived.Recover
import Derived.Laws.Pointers
import Derived.WalkKit
import Derived.WalkLawsBesides
import Derived.Below
import Derived.Shelf.Strings.Count
import Derived.Stop.LaidErr
import Derived.OpenShut
import Derived.ChangeMaps5
import Derived.Test.YtpefhoohfkeflaaGreatDoorEA12
set_option linter.unusedSimpArgs false
set_option linter.unusedVariables false
set_option maxHeartbeats 1000000
namespace Go.Proofs.YtpefhoohfkeflaaGreatDoor.Am
open Go Go.RowKit
attribute [local irreducible] Mk ck Ari fK mQ jM cd cX i7 fC At ag
set_option maxRecDepth 10000
noncomputable def ordB (w:Wrl) (m:Nat):List UInt8:=cw++aR m++bR (wo w m)
theorem rC (w:Wrl)(m:Nat):linO w m=ordB w m++[10]:=rfl
theorem B4 (w:Wrl)(m:Nat):ordB w m≠[]:=by simp[ordB]
noncomputable def finN (w:Wrl):Nat→VSt
 |0=>⟨[(0,.ptr 4 0),(11,.int .i64 w.com.length),(12,.int .i64 0)],dz w,5⟩
 |i+1=>⟨[(0,.ptr 4 0),(11,.int .i64 w.com.length),(12,.int .i64 ((i+1:Nat):Int))],bN w (outOs w (i+1)),6⟩
set_option maxHeartbeats 4000000 in
theorem LO {w:Wrl}(hw:WOK w)(h4:w.com.length=4)(h3:w.bad=3):ag Tryz.prog 18 [.ptr 4 0] (dz w) (.tup []) (bN w (outO w)):=by
 have hvl:∀g∈w.views,g.length≤2000000:=fun g hg=>by have:=hw.vl g hg;omega
 refine ab aj Tryz.func18 rfl rfl false 1 5 rfl rfl rfl rfl fun K hK hb1 hb2=>?_;simp only[ae,enc,Nat.reduceAdd]
 clear hb1 hb2
 (repeat' first|refine st ?_|refine sa fun xe hxe=>?_|refine sb (fun hq=>?_) fun hq=>?_|exact aa)
 refine ah hK [] [0,11,12] (finN w) (fun i=>i≤w.com.length) (fun i=>w.com.length-i) 0 (aX _) rfl ?_
 intro i hi
 have hol:=jg hw i
 by_cases hlt:i<w.com.length
 ·by_cases hb:(i:Int)=w.bad
  ·obtain rfl:i=3:=by omega
   have hs:outOs w (3+1)=outOs w 3:=by rw[outOs,if_pos hb]
   have hst:finN w (3+1)=⟨[(0,.ptr 4 0),(11,.int .i64 w.com.length),(12,.int .i64 4)],bN w (outOs w 3),6⟩:=by
    rw[finN,hs]
    rfl
   have hs0:finN w 3=⟨[(0,.ptr 4 0),(11,.int .i64 w.com.length),(12,.int .i64 3)],bN w (outOs w 3),6⟩:=rfl
   rw[hs0]
   generalize outOs w 3=oo at *
   (repeat' first|refine st ?_|refine sa fun xe hxe=>?_|refine sb (fun hq=>?_) fun hq=>?_|exact aa)
   exact⟨4,by omega,by omega,hst.symm⟩
  ·have hs:outOs w (i+1)=outOs w i++linO w i:=by rw[outOs,if_neg hb]
   have hO:=Ke w (i:Int) hvl
   have hin:=Cy hw (i:Int)
   have hwl:=wM hw (i:Int)
   have hsl:=ft (wo w (i:Int))
   have d1:=dI (i:Int) (by omega) (by omega)
   have l1:=(aP (i:Int)).2
   have hne:=B4 w i
   have hob:(ordB w i).length≤10000011:=by have:=sT hw i;rw[rC,aO] at this;simp at this;omega
   rw[rC] at hs
   have hbo:∀x1:List UInt8,aR (i:Int)=x1→bs (cw++x1++bR (wo w i))=bs (ordB w i):=by rintro x1 rfl;rfl
   have hbo:=hbo _ rfl
   cases i with
   |zero=>
    have hP:=zU w (ordB w 0) hne (by omega)
    rw[←hbo] at hP
    have hst:finN w (0+1)=⟨[(0,.ptr 4 0),(11,.int .i64 w.com.length),(12,.int .i64 (0+1))],bN w (ordB w 0++[10]),6⟩:=by
     rw[finN,hs]
     rfl
    have hs0:finN w 0=⟨[(0,.ptr 4 0),(11,.int .i64 w.com.length),(12,.int .i64 0)],dz w,5⟩:=rfl
    rw[hs0]
    generalize ordB w 0++[10]=ln at *
    clear hbo hs
    generalize wo w 0=sl at *
    generalize aR ((0:Nat):Int)=x1 at *
    (repeat' first|((first|with_reducible refine aF ?_ (by assumption)|with_reducible refine aE ?_ (by assumption));conv=>whnf)|refine st ?_|refine sa fun xe hxe=>?_|refine sb (fun hq=>?_) fun hq=>?_|((with_reducible refine aG ?_)<;>conv=>whnf)|refine cr (d1) ?_|refine cr (hO) ?_|exact aa)
    refine ah hK [] [0,3,11,12,30,31,32] (fun j:Nat=>⟨[(0,.ptr 4 0),(3,.str (bs (cw++x1++bR (sl.take j)))),(11,.int .i64 w.com.length),(12,.int .i64 0),(30,.lst .slt sl),(31,.int .i64 sl.length),(32,.int .i64 (j:Int))],dz w,5⟩) (fun j=>j≤sl.length) (fun j=>sl.length-j) 0 (aX _) ?_ ?_
    ·have hb0:bs (cw++x1++bR (sl.take 0))=⟨#[111,114,100,101,114,32]⟩++bs x1:=by
      apply iW
      simp[bR]
     rw[hb0]
     rfl
    intro j hj
    have holj:=ft (sl.take j)
    rw[bQ,mO hj] at holj
    by_cases hltj:j<sl.length
    ·have hx:sl[j]?=some sl[j]:=am hltj
     have hsj:bR (sl.take (j+1))=bR (sl.take j)++jx sl[j]:=by rw[ca hltj,jh]
     have hbj:=hin _ (be hltj)
     generalize sl[j]=p at *
     have d2:=dI p.round (by omega) (by omega)
     have d3:=dI p.author (by omega) (by omega)
     have l2:=(aP p.round).2
     have l3:=(aP p.author).2
     have hb:∀x2 x3:List UInt8,aR p.round=x2→aR p.author=x3→bs (cw++x1++bR (sl.take j))++(⟨#[32]⟩++bs x2++⟨#[46]⟩++bs x3)=bs (cw++x1++bR (sl.take (j+1))):=by
      rintro x2 x3 rfl rfl
      rw[hsj]
      apply iW
      simp[jx]
     have hb:=hb _ _ rfl rfl
     generalize aR p.round=x2 at *
     generalize aR p.author=x3 at *
     have hll:(cw++x1++bR (sl.take j)).length≤100000000:=by simp only[aO,bH,dG];omega
     generalize cw++x1++bR (sl.take j)=lj at *
     (repeat' first|((first|with_reducible refine aF ?_ (by assumption)|with_reducible refine aE ?_ (by assumption));conv=>whnf)|refine st ?_|refine sa fun xe hxe=>?_|refine sb (fun hq=>?_) fun hq=>?_|((with_reducible refine aG ?_)<;>conv=>whnf)|refine cr (d2) ?_|refine cr (d3) ?_|exact aa)
     refine⟨j+1,by omega,by omega,?_⟩
     rw[←hb]
     rfl
    ·obtain rfl:j=sl.length:=by omega
     rw[iH]
     generalize cw++x1++bR sl=lj at *
     (repeat' first|((first|with_reducible refine aF ?_ (by assumption)|with_reducible refine aE ?_ (by assumption));conv=>whnf)|refine st ?_|refine sa fun xe hxe=>?_|refine sb (fun hq=>?_) fun hq=>?_|((with_reducible refine aG ?_)<;>conv=>whnf)|refine co (hP) ?_|exact aa)
     exact⟨1,by omega,by omega,hst.symm⟩
   |succ i=>
    have hP:=nV w (outOs w (i+1)) (ordB w (i+1)) hne (by omega)
    rw[bJ,←hs,←hbo] at hP
    have hst:finN w (i+1+1)=⟨[(0,.ptr 4 0),(11,.int .i64 w.com.length),(12,.int .i64 (((i+1:Nat):Int)+1))],bN w (outOs w (i+1+1)),6⟩:=rfl
    have hs0:finN w (i+1)=⟨[(0,.ptr 4 0),(11,.int .i64 w.com.length),(12,.int .i64 ((i+1:Nat):Int))],bN w (outOs w (i+1)),6⟩:=rfl
    rw[hs0]
    generalize outOs w (i+1+1)=ln at *
    generalize outOs w (i+1)=lo at *
    clear hbo hs
    generalize wo w (i+1:Nat)=sl at *
    generalize aR ((i+1:Nat):Int)=x1 at *
    (repeat' first|((first|with_reducible refine aF ?_ (by assumption)|with_reducible refine aE ?_ (by assumption));conv=>whnf)|refine st ?_|refine sa fun xe hxe=>?_|refine sb (fun hq=>?_) fun hq=>?_|((with_reducible refine aG ?_)<;>conv=>whnf)|refine cr (d1) ?_|refine cr (hO) ?_|exact aa)
    refine ah hK [] [0,3,11,12,30,31,32] (fun j:Nat=>⟨[(0,.ptr 4 0),(3,.str (bs (cw++x1++bR (sl.take j)))),(11,.int .i64 w.com.length),(12,.int .i64 ((i+1:Nat):Int)),(30,.lst .slt sl),(31,.int .i64 sl.length),(32,.int .i64 (j:Int))],bN w lo,6⟩) (fun j=>j≤sl.length) (fun j=>sl.length-j) 0 (aX _) ?_ ?_
    ·have hb0:bs (cw++x1++bR (sl.take 0))=⟨#[111,114,100,101,114,32]⟩++bs x1:=by
      apply iW
      simp[bR]
     rw[hb0]
     rfl
    intro j hj
    have holj:=ft (sl.take j)
    rw[bQ,mO hj] at holj
    by_cases hltj:j<sl.length
    ·have hx:sl[j]?=some sl[j]:=am hltj
     have hsj:bR (sl.take (j+1))=bR (sl.take j)++jx sl[j]:=by rw[ca hltj,jh]
     have hbj:=hin _ (be hltj)
     generalize sl[j]=p at *
     have d2:=dI p.round (by omega) (by omega)
     have d3:=dI p.author (by omega) (by omega)
     have l2:=(aP p.round).2
     have l3:=(aP p.author).2
     have hb:∀x2 x3:List UInt8,aR p.round=x2→aR p.author=x3→bs (cw++x1++bR (sl.take j))++(⟨#[32]⟩++bs x2++⟨#[46]⟩++bs x3)=bs (cw++x1++bR (sl.take (j+1))):=by
      rintro x2 x3 rfl rfl
      rw[hsj]
      apply iW
      simp[jx]
     have hb:=hb _ _ rfl rfl
     generalize aR p.round=x2 at *
     generalize aR p.author=x3 at *
     have hll:(cw++x1++bR (sl.take j)).length≤100000000:=by simp only[aO,bH,dG];omega
     generalize cw++x1++bR (sl.take j)=lj at *
     (repeat' first|((first|with_reducible refine aF ?_ (by assumption)|with_reducible refine aE ?_ (by assumption));conv=>whnf)|refine st ?_|refine sa fun xe hxe=>?_|refine sb (fun hq=>?_) fun hq=>?_|((with_reducible refine aG ?_)<;>conv=>whnf)|refine cr (d2) ?_|refine cr (d3) ?_|exact aa)
     refine⟨j+1,by omega,by omega,?_⟩
     rw[←hb]
     rfl
    ·obtain rfl:j=sl.length:=by omega
     rw[iH]
     generalize cw++x1++bR sl=lj at *
     (repeat' first|((first|with_reducible refine aF ?_ (by assumption)|with_reducible refine aE ?_ (by assumption));conv=>whnf)|refine st ?_|refine sa fun xe hxe=>?_|refine sb (fun hq=>?_) fun hq=>?_|((with_reducible refine aG ?_)<;>conv=>whnf)|refine co (hP) ?_|exact aa)
     exact⟨i+2,by omega,by omega,hst.symm⟩
 ·obtain rfl:i=4:=by omega
  have hs0:finN w 4=⟨[(0,.ptr 4 0),(11,.int .i64 w.com.length),(12,.int .i64 4)],bN w (outOs w 4),6⟩:=rfl
  rw[hs0]
  have hO:outO w=outOs w 4:=by unfold outO;rw[h4]
  rw[hO]
  generalize outOs w 4=oo at *
  (repeat' first|refine st ?_|refine sa fun xe hxe=>?_|refine sb (fun hq=>?_) fun hq=>?_|exact aa)
  exact⟨rfl,rfl⟩
noncomputable def finY (w:Wrl) (o:List UInt8):Nat→VSt
 |0=>⟨[(0,.ptr 4 0),(11,.int .i64 w.com.length),(12,.int .i64 0)],bN w o,6⟩
 |i+1=>⟨[(0,.ptr 4 0),(11,.int .i64 w.com.length),(12,.int .i64 ((i+1:Nat):Int))],jN w (o++outOs w (i+1)),7⟩
set_option maxHeartbeats 4000000 in
theorem LP {w:Wrl}(hw:WOK w)(h4:w.com.length=4)(h3:w.bad=3)(o:List UInt8)(hol0:o.length≤5000000):ag Tryz.prog 18 [.ptr 4 0] (bN w o) (.tup []) (jN w (o++outO w)):=by
 have hvl:∀g∈w.views,g.length≤2000000:=fun g hg=>by have:=hw.vl g hg;omega
 refine ab aj Tryz.func18 rfl rfl false 2 6 rfl rfl rfl rfl fun K hK hb1 hb2=>?_;simp only[ae,enc,Nat.reduceAdd]
 clear hb1 hb2
 (repeat' first|refine st ?_|refine sa fun xe hxe=>?_|refine sb (fun hq=>?_) fun hq=>?_|exact aa)
 refine ah hK [] [0,11,12] (finY w o) (fun i=>i≤w.com.length) (fun i=>w.com.length-i) 0 (aX _) rfl ?_
 intro i hi
 have hol:=jg hw i
 by_cases hlt:i<w.com.length
 ·by_cases hb:(i:Int)=w.bad
  ·obtain rfl:i=3:=by omega
   have hs:outOs w (3+1)=outOs w 3:=by rw[outOs,if_pos hb]
   have hst:finY w o (3+1)=⟨[(0,.ptr 4 0),(11,.int .i64 w.com.length),(12,.int .i64 4)],jN w (o++outOs w 3),7⟩:=by
    rw[finY,hs]
    rfl
   have hs0:finY w o 3=⟨[(0,.ptr 4 0),(11,.int .i64 w.com.length),(12,.int .i64 3)],jN w (o++outOs w 3),7⟩:=rfl
   rw[hs0]
   generalize outOs w 3=oo at *
   (repeat' first|refine st ?_|refine sa fun xe hxe=>?_|refine sb (fun hq=>?_) fun hq=>?_|exact aa)
   exact⟨4,by omega,by omega,hst.symm⟩
  ·have hs:outOs w (i+1)=outOs w i++linO w i:=by rw[outOs,if_neg hb]
   have hO:=Ke w (i:Int) hvl
   have hin:=Cy hw (i:Int)
   have hwl:=wM hw (i:Int)
   have hsl:=ft (wo w (i:Int))
   have d1:=dI (i:Int) (by omega) (by omega)
   have l1:=(aP (i:Int)).2
   have hne:=B4 w i
   have hob:(ordB w i).length≤10000011:=by have:=sT hw i;rw[rC,aO] at this;simp at this;omega
   rw[rC] at hs
   have hbo:∀x1:List UInt8,aR (i:Int)=x1→bs (cw++x1++bR (wo w i))=bs (ordB w i):=by rintro x1 rfl;rfl
   have hbo:=hbo _ rfl
   cases i with
   |zero=>
    have hP:=nV w o (ordB w 0) hne (by omega)
    rw[←hbo] at hP
    have hst:finY w o (0+1)=⟨[(0,.ptr 4 0),(11,.int .i64 w.com.length),(12,.int .i64 (0+1))],jN w (o++ordB w 0++[10]),7⟩:=by
     rw[finY,hs]
     show _=(⟨_,jN w (o++ordB w 0++[10]),7⟩:VSt)
     rw[bJ]
     rfl
    have hs0:finY w o 0=⟨[(0,.ptr 4 0),(11,.int .i64 w.com.length),(12,.int .i64 0)],bN w o,6⟩:=rfl
    rw[hs0]
    generalize o++ordB w 0++[10]=ln at *
    clear hbo hs
    generalize wo w 0=sl at *
    generalize aR ((0:Nat):Int)=x1 at *
    (repeat' first|((first|with_reducible refine aF ?_ (by assumption)|with_reducible refine aE ?_ (by assumption));conv=>whnf)|refine st ?_|refine sa fun xe hxe=>?_|refine sb (fun hq=>?_) fun hq=>?_|((with_reducible refine aG ?_)<;>conv=>whnf)|refine cr (d1) ?_|refine cr (hO) ?_|exact aa)
    refine ah hK [] [0,3,11,12,30,31,32] (fun j:Nat=>⟨[(0,.ptr 4 0),(3,.str (bs (cw++x1++bR (sl.take j)))),(11,.int .i64 w.com.length),(12,.int .i64 0),(30,.lst .slt sl),(31,.int .i64 sl.length),(32,.int .i64 (j:Int))],bN w o,6⟩) (fun j=>j≤sl.length) (fun j=>sl.length-j) 0 (aX _) ?_ ?_
    ·have hb0:bs (cw++x1++bR (sl.take 0))=⟨#[111,114,100,101,114,32]⟩++bs x1:=by
      apply iW
      simp[bR]
     rw[hb0]
     rfl
    intro j hj
    have holj:=ft (sl.take j)
    rw[bQ,mO hj] at holj
    by_cases hltj:j<sl.length
    ·have hx:sl[j]?=some sl[j]:=am hltj
     have hsj:bR (sl.take (j+1))=bR (sl.take j)++jx sl[j]:=by rw[ca hltj,jh]
     have hbj:=hin _ (be hltj)
     generalize sl[j]=p at *
     have d2:=dI p.round (by omega) (by omega)
     have d3:=dI p.author (by omega) (by omega)
     have l2:=(aP p.round).2
     have l3:=(aP p.author).2
     have hb:∀x2 x3:List UInt8,aR p.round=x2→aR p.author=x3→bs (cw++x1++bR (sl.take j))++(⟨#[32]⟩++bs x2++⟨#[46]⟩++bs x3)=bs (cw++x1++bR (sl.take (j+1))):=by
      rintro x2 x3 rfl rfl
      rw[hsj]
      apply iW
      simp[jx]
     have hb:=hb _ _ rfl rfl
     generalize aR p.round=x2 at *
     generalize aR p.author=x3 at *
     have hll:(cw++x1++bR (sl.take j)).length≤100000000:=by simp only[aO,bH,dG];omega
     generalize cw++x1++bR (sl.take j)=lj at *
     (repeat' first|((first|with_reducible refine aF ?_ (by assumption)|with_reducible refine aE ?_ (by assumption));conv=>whnf)|refine st ?_|refine sa fun xe hxe=>?_|refine sb (fun hq=>?_) fun hq=>?_|((with_reducible refine aG ?_)<;>conv=>whnf)|refine cr (d2) ?_|refine cr (d3) ?_|exact aa)
     refine⟨j+1,by omega,by omega,?_⟩
     rw[←hb]
     rfl
    ·obtain rfl:j=sl.length:=by omega
     rw[iH]
     generalize cw++x1++bR sl=lj at *
     (repeat' first|((first|with_reducible refine aF ?_ (by assumption)|with_reducible refine aE ?_ (by assumption));conv=>whnf)|refine st ?_|refine sa fun xe hxe=>?_|refine sb (fun hq=>?_) fun hq=>?_|((with_reducible refine aG ?_)<;>conv=>whnf)|refine co (hP) ?_|exact aa)
     exact⟨1,by omega,by omega,hst.symm⟩
   |succ i=>
    have hP:=nV w (o++outOs w (i+1)) (ordB w (i+1)) hne (by rw[aO];omega)
    rw[bJ,bJ,←hs,←hbo] at hP
    have hst:finY w o (i+1+1)=⟨[(0,.ptr 4 0),(11,.int .i64 w.com.length),(12,.int .i64 (((i+1:Nat):Int)+1))],jN w (o++outOs w (i+1+1)),7⟩:=rfl
    have hs0:finY w o (i+1)=⟨[(0,.ptr 4 0),(11,.int .i64 w.com.length),(12,.int .i64 ((i+1:Nat):Int))],jN w (o++outOs w (i+1)),7⟩:=rfl
    rw[hs0]
    generalize o++outOs w (i+1+1)=ln at *
    generalize o++outOs w (i+1)=lo at *
    clear hbo hs
    generalize wo w (i+1:Nat)=sl at *
    generalize aR ((i+1:Nat):Int)=x1 at *
    (repeat' first|((first|with_reducible refine aF ?_ (by assumption)|with_reducible refine aE ?_ (by assumption));conv=>whnf)|refine st ?_|refine sa fun xe hxe=>?_|refine sb (fun hq=>?_) fun hq=>?_|((with_reducible refine aG ?_)<;>conv=>whnf)|refine cr (d1) ?_|refine cr (hO) ?_|exact aa)
    refine ah hK [] [0,3,11,12,30,31,32] (fun j:Nat=>⟨[(0,.ptr 4 0),(3,.str (bs (cw++x1++bR (sl.take j)))),(11,.int .i64 w.com.length),(12,.int .i64 ((i+1:Nat):Int)),(30,.lst .slt sl),(31,.int .i64 sl.length),(32,.int .i64 (j:Int))],jN w lo,7⟩) (fun j=>j≤sl.length) (fun j=>sl.length-j) 0 (aX _) ?_ ?_
    ·have hb0:bs (cw++x1++bR (sl.take 0))=⟨#[111,114,100,101,114,32]⟩++bs x1:=by
      apply iW
      simp[bR]
     rw[hb0]
     rfl
    intro j hj
    have holj:=ft (sl.take j)
    rw[bQ,mO hj] at holj
    by_cases hltj:j<sl.length
    ·have hx:sl[j]?=some sl[j]:=am hltj
     have hsj:bR (sl.take (j+1))=bR (sl.take j)++jx sl[j]:=by rw[ca hltj,jh]
     have hbj:=hin _ (be hltj)
     generalize sl[j]=p at *
     have d2:=dI p.round (by omega) (by omega)
     have d3:=dI p.author (by omega) (by omega)
     have l2:=(aP p.round).2
     have l3:=(aP p.author).2
     have hb:∀x2 x3:List UInt8,aR p.round=x2→aR p.author=x3→bs (cw++x1++bR (sl.take j))++(⟨#[32]⟩++bs x2++⟨#[46]⟩++bs x3)=bs (cw++x1++bR (sl.take (j+1))):=by
      rintro x2 x3 rfl rfl
      rw[hsj]
      apply iW
      simp[jx]
     have hb:=hb _ _ rfl rfl
     generalize aR p.round=x2 at *
     generalize aR p.author=x3 at *
     have hll:(cw++x1++bR (sl.take j)).length≤100000000:=by simp only[aO,bH,dG];omega
     generalize cw++x1++bR (sl.take j)=lj at *
     (repeat' first|((first|with_reducible refine aF ?_ (by assumption)|with_reducible refine aE ?_ (by assumption));conv=>whnf)|refine st ?_|refine sa fun xe hxe=>?_|refine sb (fun hq=>?_) fun hq=>?_|((with_reducible refine aG ?_)<;>conv=>whnf)|refine cr (d2) ?_|refine cr (d3) ?_|exact aa)
     refine⟨j+1,by omega,by omega,?_⟩
     rw[←hb]
     rfl
    ·obtain rfl:j=sl.length:=by omega
     rw[iH]
     generalize cw++x1++bR sl=lj at *
     (repeat' first|((first|with_reducible refine aF ?_ (by assumption)|with_reducible refine aE ?_ (by assumption));conv=>whnf)|refine st ?_|refine sa fun xe hxe=>?_|refine sb (fun hq=>?_) fun hq=>?_|((with_reducible refine aG ?_)<;>conv=>whnf)|refine co (hP) ?_|exact aa)
     exact⟨i+2,by omega,by omega,hst.symm⟩
 ·obtain rfl:i=4:=by omega
  have hs0:finY w o 4=⟨[(0,.ptr 4 0),(11,.int .i64 w.com.length),(12,.int .i64 4)],jN w (o++outOs w 4),7⟩:=rfl
  rw[hs0]
  have hO:outO w=outOs w 4:=by unfold outO;rw[h4]
  rw[hO]
  generalize outOs w 4=oo at *
  (repeat' first|refine st ?_|refine sa fun xe hxe=>?_|refine sb (fun hq=>?_) fun hq=>?_|exact aa)
  exact⟨rfl,rfl⟩
theorem cB (os:List Nat){P:Program}{h:VH}{n:Nat}{f:FuncId}{vs:List V}{K:V→VH→List Nat→Prop}(hk:ot P h n f vs os [] K):cd P h n f vs K:=by
 unfold cd
 exact⟨_,_,hk⟩
theorem Pa {w:Wrl}(hw:WOK w):∀g∈w.views,g.length≤2000000:=fun g hg=>by have:=hw.vl g hg;omega
theorem Ku {w:Wrl}(hw:WOK w)(e:Evt):ag Tryz.prog 123 [bd w,t7 e] [] (bd (jL w e)) []:=by
 have h:=Ny w e (Pa hw)
 rw[i6.2 hw,if_pos rfl] at h
 exact h
theorem xY {w:Wrl}(hw:WOK w)(e:Evt):ag Tryz.prog 86 [.ptr 4 0,t7 e] (dz w) (.tup []) (dz (jL w e)):=by
 have hD:=Ku hw e
 generalize jL w e=u at *
 refine ab aj Tryz.func86 rfl rfl false 1 5 rfl rfl rfl rfl fun K hK hb1 hb2=>?_;simp only[ae,enc,Nat.reduceAdd]
 clear hb1 hb2
 (repeat' first|refine st ?_|refine sa fun xe hxe=>?_|refine sb (fun hq=>?_) fun hq=>?_|refine cr (hD) ?_|exact aa)
 exact⟨rfl,rfl⟩
theorem xZ {w:Wrl}(hw:WOK w)(e:Evt)(o:List UInt8):ag Tryz.prog 86 [.ptr 4 0,t7 e] (bN w o) (.tup []) (bN (jL w e) o):=by
 have hD:=Ku hw e
 generalize jL w e=u at *
 refine ab aj Tryz.func86 rfl rfl false 2 6 rfl rfl rfl rfl fun K hK hb1 hb2=>?_;simp only[ae,enc,Nat.reduceAdd]
 clear hb1 hb2
 (repeat' first|refine st ?_|refine sa fun xe hxe=>?_|refine sb (fun hq=>?_) fun hq=>?_|refine cr (hD) ?_|exact aa)
 exact⟨rfl,rfl⟩
theorem LQ {w:Wrl}(hw:WOK w)(r d:Int):ag Tryz.prog 87 [.ptr 4 0,.int .i64 r,.int .i64 d] (dz w) (.tup []) (dz (iR w (lx r d))):=by
 have hD:=xY hw ⟨4,0,0,lx r d⟩
 have hD:ag Tryz.prog 86 [.ptr 4 0,.agg [.int .i64 4,.int .i64 0,.int .i64 0,.int .i64 r,.int .i64 3,.lst (.int .i64) (if 0<r then[0,1,2] else[]),.int .i64 d]] (dz w) (.tup []) (dz (iR w (lx r d))):=hD
 generalize iR w (lx r d)=u at *
 by_cases hr:0<r
 ·rw[if_pos hr] at hD
  refine ab aj Tryz.func87 rfl rfl false 1 5 rfl rfl rfl rfl fun K hK hb1 hb2=>?_;simp only[ae,enc,Nat.reduceAdd]
  clear hb1 hb2
  (repeat' first|refine st ?_|refine sa fun xe hxe=>?_|refine sb (fun hq=>?_) fun hq=>?_|((with_reducible refine cB [4] ?_);(conv=>whnf);(with_reducible refine bg (hD) ?_);conv=>whnf)|exact aa)
  exact⟨rfl,rfl⟩
 ·rw[if_neg hr] at hD
  refine ab aj Tryz.func87 rfl rfl false 1 5 rfl rfl rfl rfl fun K hK hb1 hb2=>?_;simp only[ae,enc,Nat.reduceAdd]
  clear hb1 hb2
  (repeat' first|refine st ?_|refine sa fun xe hxe=>?_|refine sb (fun hq=>?_) fun hq=>?_|((with_reducible refine cB [4] ?_);(conv=>whnf);(with_reducible refine bg (hD) ?_);conv=>whnf)|exact aa)
  exact⟨rfl,rfl⟩
theorem LR {w:Wrl}(hw:WOK w)(r d:Int)(o:List UInt8):ag Tryz.prog 87 [.ptr 4 0,.int .i64 r,.int .i64 d] (bN w o) (.tup []) (bN (iR w (lx r d)) o):=by
 have hD:=xZ hw ⟨4,0,0,lx r d⟩ o
 have hD:ag Tryz.prog 86 [.ptr 4 0,.agg [.int .i64 4,.int .i64 0,.int .i64 0,.int .i64 r,.int .i64 3,.lst (.int .i64) (if 0<r then[0,1,2] else[]),.int .i64 d]] (bN w o) (.tup []) (bN (iR w (lx r d)) o):=hD
 generalize iR w (lx r d)=u at *
 by_cases hr:0<r
 ·rw[if_pos hr] at hD
  refine ab aj Tryz.func87 rfl rfl false 2 6 rfl rfl rfl rfl fun K hK hb1 hb2=>?_;simp only[ae,enc,Nat.reduceAdd]
  clear hb1 hb2
  (repeat' first|refine st ?_|refine sa fun xe hxe=>?_|refine sb (fun hq=>?_) fun hq=>?_|((with_reducible refine cB [4,5] ?_);(conv=>whnf);(with_reducible refine bg (hD) ?_);conv=>whnf)|exact aa)
  exact⟨rfl,rfl⟩
 ·rw[if_neg hr] at hD
  refine ab aj Tryz.func87 rfl rfl false 2 6 rfl rfl rfl rfl fun K hK hb1 hb2=>?_;simp only[ae,enc,Nat.reduceAdd]
  clear hb1 hb2
  (repeat' first|refine st ?_|refine sa fun xe hxe=>?_|refine sb (fun hq=>?_) fun hq=>?_|((with_reducible refine cB [4,5] ?_);(conv=>whnf);(with_reducible refine bg (hD) ?_);conv=>whnf)|exact aa)
  exact⟨rfl,rfl⟩
def CO (w:Wrl)(r:Int):Wrl:=if 0≤r∧r≤12 then aU w r.toNat else w
theorem Hg {w:Wrl}(hw:WOK w)(r:Int)(hr:0≤r∧r≤12):ag Tryz.prog 124 [bd w,.int .i64 r] [] (bd (aU w r.toNat)) []:=by
 have h:=Ij w r (Pa hw) (by omega)
 rw[i6.2 hw,decide_eq_true hr,Bool.and_true,if_pos rfl] at h
 exact h
theorem LG {w:Wrl}(hw:WOK w)(r:Int):ag Tryz.prog 88 [.ptr 4 0,.int .i64 r] (dz w) (.tup []) (dz (CO w r)):=by
 unfold CO
 by_cases hr:0≤r∧r≤12
 ·rw[if_pos hr]
  have hD:=Hg hw r hr
  generalize aU w r.toNat=u at *
  refine ab aj Tryz.func88 rfl rfl false 1 5 rfl rfl rfl rfl fun K hK hb1 hb2=>?_;simp only[ae,enc,Nat.reduceAdd]
  clear hb1 hb2
  (repeat' first|refine st ?_|refine sa fun xe hxe=>?_|refine sb (fun hq=>?_) fun hq=>?_|refine cr (hD) ?_|exact aa)
  exact⟨rfl,rfl⟩
 ·rw[if_neg hr]
  refine ab aj Tryz.func88 rfl rfl false 1 5 rfl rfl rfl rfl fun K hK hb1 hb2=>?_;simp only[ae,enc,Nat.reduceAdd]
  clear hb1 hb2
  by_cases h0:0≤r
  ·(repeat' first|refine st ?_|refine sa fun xe hxe=>?_|refine sb (fun hq=>?_) fun hq=>?_|exact aa)
   exact⟨rfl,rfl⟩
  ·(repeat' first|refine st ?_|refine sa fun xe hxe=>?_|refine sb (fun hq=>?_) fun hq=>?_|exact aa)
   exact⟨rfl,rfl⟩
theorem LH {w:Wrl}(hw:WOK w)(r:Int)(o:List UInt8):ag Tryz.prog 88 [.ptr 4 0,.int .i64 r] (bN w o) (.tup []) (bN (CO w r) o):=by
 unfold CO
 by_cases hr:0≤r∧r≤12
 ·rw[if_pos hr]
  have hD:=Hg hw r hr
  generalize aU w r.toNat=u at *
  refine ab aj Tryz.func88 rfl rfl false 2 6 rfl rfl rfl rfl fun K hK hb1 hb2=>?_;simp only[ae,enc,Nat.reduceAdd]
  clear hb1 hb2
  (repeat' first|refine st ?_|refine sa fun xe hxe=>?_|refine sb (fun hq=>?_) fun hq=>?_|refine cr (hD) ?_|exact aa)
  exact⟨rfl,rfl⟩
 ·rw[if_neg hr]
  refine ab aj Tryz.func88 rfl rfl false 2 6 rfl rfl rfl rfl fun K hK hb1 hb2=>?_;simp only[ae,enc,Nat.reduceAdd]
  clear hb1 hb2
  by_cases h0:0≤r
  ·(repeat' first|refine st ?_|refine sa fun xe hxe=>?_|refine sb (fun hq=>?_) fun hq=>?_|exact aa)
   exact⟨rfl,rfl⟩
  ·(repeat' first|refine st ?_|refine sa fun xe hxe=>?_|refine sb (fun hq=>?_) fun hq=>?_|exact aa)
   exact⟨rfl,rfl⟩
def mi (i:Nat)(p:Ppl):List UInt8:=aR i++[32]++aR p.v.round++[46]++aR p.v.author++[32]++aR p.v.digest++LF++aR p.members.length
theorem rA (i:Nat)(p:Ppl):ua i p=mi i p++[10]:=rfl
theorem BQ (i:Nat)(p:Ppl):mi i p≠[]:=by simp[mi]
def Kh (w:Wrl):Nat→VSt
 |0=>⟨[(0,.ptr 4 0),(10,.lst .ppl w.props),(11,.int .i64 w.props.length),(12,.int .i64 0)],dz w,5⟩
 |i+1=>⟨[(0,.ptr 4 0),(10,.lst .ppl w.props),(11,.int .i64 w.props.length),(12,.int .i64 ((i+1:Nat):Int))],bN w (cR w (i+1)),6⟩
def Ki (w:Wrl)(o:List UInt8):Nat→VSt
 |0=>⟨[(0,.ptr 4 0),(10,.lst .ppl w.props),(11,.int .i64 w.props.length),(12,.int .i64 0)],bN w o,6⟩
 |i+1=>⟨[(0,.ptr 4 0),(10,.lst .ppl w.props),(11,.int .i64 w.props.length),(12,.int .i64 ((i+1:Nat):Int))],jN w (o++cR w (i+1)),7⟩
theorem LS {w:Wrl}(hw:WOK w):ag Tryz.prog 89 [.ptr 4 0] (dz w) (.tup []) (if w.props.length=0 then dz w else bN w (nG w)):=by
 have hpl:=hw.plen
 have hcl:=hw.len
 refine ab aj Tryz.func89 rfl rfl false 1 5 rfl rfl rfl rfl fun K hK hb1 hb2=>?_;simp only[ae,enc,Nat.reduceAdd]
 clear hb1 hb2
 (repeat' first|refine st ?_|refine sa fun xe hxe=>?_|refine sb (fun hq=>?_) fun hq=>?_|exact aa)
 refine ah hK [] [0,10,11,12] (Kh w) (fun i=>i≤w.props.length) (fun i=>w.props.length-i) 0 (aX _) rfl ?_
 intro i hi
 have hol:=kQ w i
 by_cases hlt:i<w.props.length
 ·have hx:w.props[i]?=some (w.props.getD i p0):=by rw[aq,am hlt];rfl
  have hpm:w.props.getD i p0∈w.props:=bn hx
  have hv:=bG (hw.pv _ hpm).1
  have hm:=hw.mem _ hpm
  have hs:cR w (i+1)=cR w i++ua i (w.props.getD i p0):=rfl
  have d1:=dI (i:Int) (by omega) (by omega)
  have l1:=(aP (i:Int)).2
  generalize w.props.getD i p0=p at *
  have d2:=dI p.v.round (by omega) (by omega)
  have d3:=dI p.v.author (by omega) (by omega)
  have d4:=dI p.v.digest (by omega) (by omega)
  have d5:=dI (p.members.length:Nat) (by omega) (by omega)
  have l2:=(aP p.v.round).2
  have l3:=(aP p.v.author).2
  have l4:=(aP p.v.digest).2
  have l5:=(aP (p.members.length:Nat)).2
  have hlb:(mi i p).length≤30:=by have:=sU i p;rw[rA,aO] at this;simpa using this
  have hb:∀x1 x2 x3 x4 x5:List UInt8,aR (i:Int)=x1→aR p.v.round=x2→aR p.v.author=x3→aR p.v.digest=x4→aR (p.members.length:Nat)=x5→bs x1++⟨#[32]⟩++(bs x2++⟨#[46]⟩++bs x3)++⟨#[32]⟩++bs x4++⟨#[32,118,111,116,101,115,32]⟩++bs x5=bs (mi i p):=by
   rintro x1 x2 x3 x4 x5 rfl rfl rfl rfl rfl
   apply iW
   simp[mi]
  have hb:=hb _ _ _ _ _ rfl rfl rfl rfl rfl
  have hne:=BQ i p
  rw[rA] at hs
  cases i with
  |zero=>
   have hP:=zU w (mi 0 p) hne (by omega)
   rw[←hb] at hP
   have hst:Kh w (0+1)=⟨[(0,.ptr 4 0),(10,.lst .ppl w.props),(11,.int .i64 w.props.length),(12,.int .i64 (0+1))],bN w (mi 0 p++[10]),6⟩:=by
    rw[Kh,hs]
    rfl
   have hs0:Kh w 0=⟨[(0,.ptr 4 0),(10,.lst .ppl w.props),(11,.int .i64 w.props.length),(12,.int .i64 0)],dz w,5⟩:=rfl
   rw[hs0]
   generalize mi 0 p++[10]=ln at *
   generalize aR ((0:Nat):Int)=x1 at *
   generalize aR p.v.round=x2 at *
   generalize aR p.v.author=x3 at *
   generalize aR p.v.digest=x4 at *
   generalize aR (p.members.length:Nat)=x5 at *
   (repeat' first|((first|with_reducible refine aF ?_ (by assumption)|with_reducible refine aE ?_ (by assumption));conv=>whnf)|refine st ?_|refine sa fun xe hxe=>?_|refine sb (fun hq=>?_) fun hq=>?_|((with_reducible refine aG ?_)<;>conv=>whnf)|exact aa)
   obtain rfl:=ar (hx.symm.trans hxe)
   clear hxe
   (repeat' first|((first|with_reducible refine aF ?_ (by assumption)|with_reducible refine aE ?_ (by assumption));conv=>whnf)|refine st ?_|refine sa fun xe hxe=>?_|refine sb (fun hq=>?_) fun hq=>?_|((with_reducible refine aG ?_)<;>conv=>whnf)|refine cr (d1) ?_|refine cr (d2) ?_|refine cr (d3) ?_|refine cr (d4) ?_|refine cr (d5) ?_|refine co (hP) ?_|exact aa)
   exact⟨1,by omega,by omega,hst.symm⟩
  |succ i=>
   have hP:=nV w (cR w (i+1)) (mi (i+1) p) hne (by omega)
   rw[←hb,bJ,←hs] at hP
   have hst:Kh w (i+1+1)=⟨[(0,.ptr 4 0),(10,.lst .ppl w.props),(11,.int .i64 w.props.length),(12,.int .i64 (((i+1:Nat):Int)+1))],bN w (cR w (i+1+1)),6⟩:=rfl
   have hs0:Kh w (i+1)=⟨[(0,.ptr 4 0),(10,.lst .ppl w.props),(11,.int .i64 w.props.length),(12,.int .i64 ((i+1:Nat):Int))],bN w (cR w (i+1)),6⟩:=rfl
   rw[hs0]
   generalize cR w (i+1+1)=ln at *
   generalize cR w (i+1)=lo at *
   generalize aR ((i+1:Nat):Int)=x1 at *
   generalize aR p.v.round=x2 at *
   generalize aR p.v.author=x3 at *
   generalize aR p.v.digest=x4 at *
   generalize aR (p.members.length:Nat)=x5 at *
   (repeat' first|((first|with_reducible refine aF ?_ (by assumption)|with_reducible refine aE ?_ (by assumption));conv=>whnf)|refine st ?_|refine sa fun xe hxe=>?_|refine sb (fun hq=>?_) fun hq=>?_|((with_reducible refine aG ?_)<;>conv=>whnf)|refine cr (d1) ?_|refine cr (d2) ?_|refine cr (d3) ?_|refine cr (d4) ?_|refine cr (d5) ?_|refine co (hP) ?_|exact aa)
   exact⟨i+2,by omega,by omega,hst.symm⟩
 ·obtain rfl:i=w.props.length:=by omega
  generalize hk:w.props.length=k at *
  cases k with
  |zero=>
   have hs0:Kh w 0=⟨[(0,.ptr 4 0),(10,.lst .ppl w.props),(11,.int .i64 w.props.length),(12,.int .i64 0)],dz w,5⟩:=rfl
   rw[hs0,hk]
   (repeat' first|refine st ?_|refine sa fun xe hxe=>?_|refine sb (fun hq=>?_) fun hq=>?_|exact aa)
   exact⟨rfl,rfl⟩
  |succ k=>
   have hs0:Kh w (k+1)=⟨[(0,.ptr 4 0),(10,.lst .ppl w.props),(11,.int .i64 w.props.length),(12,.int .i64 ((k+1:Nat):Int))],bN w (cR w (k+1)),6⟩:=rfl
   rw[hs0,hk]
   (repeat' first|refine st ?_|refine sa fun xe hxe=>?_|refine sb (fun hq=>?_) fun hq=>?_|exact aa)
   refine⟨rfl,?_⟩
   rw[if_neg (by omega)]
   unfold nG
   rw[hk]
theorem LT {w:Wrl}(hw:WOK w)(o:List UInt8)(hol0:o.length≤5000000):ag Tryz.prog 89 [.ptr 4 0] (bN w o) (.tup []) (if w.props.length=0 then bN w o else jN w (o++nG w)):=by
 have hpl:=hw.plen
 have hcl:=hw.len
 refine ab aj Tryz.func89 rfl rfl false 2 6 rfl rfl rfl rfl fun K hK hb1 hb2=>?_;simp only[ae,enc,Nat.reduceAdd]
 clear hb1 hb2
 (repeat' first|refine st ?_|refine sa fun xe hxe=>?_|refine sb (fun hq=>?_) fun hq=>?_|exact aa)
 refine ah hK [] [0,10,11,12] (Ki w o) (fun i=>i≤w.props.length) (fun i=>w.props.length-i) 0 (aX _) rfl ?_
 intro i hi
 have hol:=kQ w i
 by_cases hlt:i<w.props.length
 ·have hx:w.props[i]?=some (w.props.getD i p0):=by rw[aq,am hlt];rfl
  have hpm:w.props.getD i p0∈w.props:=bn hx
  have hv:=bG (hw.pv _ hpm).1
  have hm:=hw.mem _ hpm
  have hs:cR w (i+1)=cR w i++ua i (w.props.getD i p0):=rfl
  have d1:=dI (i:Int) (by omega) (by omega)
  have l1:=(aP (i:Int)).2
  generalize w.props.getD i p0=p at *
  have d2:=dI p.v.round (by omega) (by omega)
  have d3:=dI p.v.author (by omega) (by omega)
  have d4:=dI p.v.digest (by omega) (by omega)
  have d5:=dI (p.members.length:Nat) (by omega) (by omega)
  have l2:=(aP p.v.round).2
  have l3:=(aP p.v.author).2
  have l4:=(aP p.v.digest).2
  have l5:=(aP (p.members.length:Nat)).2
  have hlb:(mi i p).length≤30:=by have:=sU i p;rw[rA,aO] at this;simpa using this
  have hb:∀x1 x2 x3 x4 x5:List UInt8,aR (i:Int)=x1→aR p.v.round=x2→aR p.v.author=x3→aR p.v.digest=x4→aR (p.members.length:Nat)=x5→bs x1++⟨#[32]⟩++(bs x2++⟨#[46]⟩++bs x3)++⟨#[32]⟩++bs x4++⟨#[32,118,111,116,101,115,32]⟩++bs x5=bs (mi i p):=by
   rintro x1 x2 x3 x4 x5 rfl rfl rfl rfl rfl
   apply iW
   simp[mi]
  have hb:=hb _ _ _ _ _ rfl rfl rfl rfl rfl
  have hne:=BQ i p
  rw[rA] at hs
  cases i with
  |zero=>
   have hP:=nV w o (mi 0 p) hne (by omega)
   rw[←hb] at hP
   have hst:Ki w o (0+1)=⟨[(0,.ptr 4 0),(10,.lst .ppl w.props),(11,.int .i64 w.props.length),(12,.int .i64 (0+1))],jN w (o++mi 0 p++[10]),7⟩:=by
    rw[Ki,hs,bJ]
    rfl
   have hs0:Ki w o 0=⟨[(0,.ptr 4 0),(10,.lst .ppl w.props),(11,.int .i64 w.props.length),(12,.int .i64 0)],bN w o,6⟩:=rfl
   rw[hs0]
   generalize o++mi 0 p++[10]=ln at *
   generalize aR ((0:Nat):Int)=x1 at *
   generalize aR p.v.round=x2 at *
   generalize aR p.v.author=x3 at *
   generalize aR p.v.digest=x4 at *
   generalize aR (p.members.length:Nat)=x5 at *
   (repeat' first|((first|with_reducible refine aF ?_ (by assumption)|with_reducible refine aE ?_ (by assumption));conv=>whnf)|refine st ?_|refine sa fun xe hxe=>?_|refine sb (fun hq=>?_) fun hq=>?_|((with_reducible refine aG ?_)<;>conv=>whnf)|exact aa)
   obtain rfl:=ar (hx.symm.trans hxe)
   clear hxe
   (repeat' first|((first|with_reducible refine aF ?_ (by assumption)|with_reducible refine aE ?_ (by assumption));conv=>whnf)|refine st ?_|refine sa fun xe hxe=>?_|refine sb (fun hq=>?_) fun hq=>?_|((with_reducible refine aG ?_)<;>conv=>whnf)|refine cr (d1) ?_|refine cr (d2) ?_|refine cr (d3) ?_|refine cr (d4) ?_|refine cr (d5) ?_|refine co (hP) ?_|exact aa)
   exact⟨1,by omega,by omega,hst.symm⟩
  |succ i=>
   have hP:=nV w (o++cR w (i+1)) (mi (i+1) p) hne (by rw[aO];omega)
   rw[←hb,bJ,bJ,←hs] at hP
   have hst:Ki w o (i+1+1)=⟨[(0,.ptr 4 0),(10,.lst .ppl w.props),(11,.int .i64 w.props.length),(12,.int .i64 (((i+1:Nat):Int)+1))],jN w (o++cR w (i+1+1)),7⟩:=rfl
   have hs0:Ki w o (i+1)=⟨[(0,.ptr 4 0),(10,.lst .ppl w.props),(11,.int .i64 w.props.length),(12,.int .i64 ((i+1:Nat):Int))],jN w (o++cR w (i+1)),7⟩:=rfl
   rw[hs0]
   generalize o++cR w (i+1+1)=ln at *
   generalize o++cR w (i+1)=lo at *
   generalize aR ((i+1:Nat):Int)=x1 at *
   generalize aR p.v.round=x2 at *
   generalize aR p.v.author=x3 at *
   generalize aR p.v.digest=x4 at *
   generalize aR (p.members.length:Nat)=x5 at *
   (repeat' first|((first|with_reducible refine aF ?_ (by assumption)|with_reducible refine aE ?_ (by assumption));conv=>whnf)|refine st ?_|refine sa fun xe hxe=>?_|refine sb (fun hq=>?_) fun hq=>?_|((with_reducible refine aG ?_)<;>conv=>whnf)|refine cr (d1) ?_|refine cr (d2) ?_|refine cr (d3) ?_|refine cr (d4) ?_|refine cr (d5) ?_|refine co (hP) ?_|exact aa)
   exact⟨i+2,by omega,by omega,hst.symm⟩
 ·obtain rfl:i=w.props.length:=by omega
  generalize hk:w.props.length=k at *
  cases k with
  |zero=>
   have hs0:Ki w o 0=⟨[(0,.ptr 4 0),(10,.lst .ppl w.props),(11,.int .i64 w.props.length),(12,.int .i64 0)],bN w o,6⟩:=rfl
   rw[hs0,hk]
   (repeat' first|refine st ?_|refine sa fun xe hxe=>?_|refine sb (fun hq=>?_) fun hq=>?_|exact aa)
   exact⟨rfl,rfl⟩
  |succ k=>
   have hs0:Ki w o (k+1)=⟨[(0,.ptr 4 0),(10,.lst .ppl w.props),(11,.int .i64 w.props.length),(12,.int .i64 ((k+1:Nat):Int))],jN w (o++cR w (k+1)),7⟩:=rfl
   rw[hs0,hk]
   (repeat' first|refine st ?_|refine sa fun xe hxe=>?_|refine sb (fun hq=>?_) fun hq=>?_|exact aa)
   refine⟨rfl,?_⟩
   rw[if_neg (by omega)]
   unfold nG
   rw[hk]
theorem kO (ws:List (List UInt8))(k:Nat):s7 ((ws++[[],[]]).getD k [])=cE ws k:=by
 unfold cE
 congr 1
 rw[aq,aq,qq]
 split
 ·rfl
 ·rename_i h
  rw[dP (l:=ws) (by omega)]
  generalize k-ws.length=j
  match j with
  |0=>rfl
  |1=>rfl
  |j+2=>rfl
theorem fH (ws:List (List UInt8)){k:Nat}(h:k<ws.length+2):(ws.map bs++[(⟨#[]⟩:ByteArray),⟨#[]⟩])[k]?=some (bs ((ws++[[],[]]).getD k [])):=by
 have e:ws.map bs++[(⟨#[]⟩:ByteArray),⟨#[]⟩]=(ws++[[],[]]).map bs:=by rw[cg];rfl
 rw[e,bf,aq,am (by simpa using h)]
 rfl
theorem oX (ws:List (List UInt8))(hmem:∀x∈ws,x.length≤600)(k:Nat):((ws++[[],[]]).getD k []).length≤2000000:=by
 rw[aq]
 cases h:(ws++[[],[]])[k]? with
 |none=>simp
 |some x=>
  rcases bi.1 (bn h) with h|h
  ·have:=hmem x h;simp only[eg];omega
  ·simp only[aA,gE,or_false,or_self] at h;subst h;simp
theorem yu (ws:List (List UInt8))(h:0<ws.length):(ws++[[],[]]).getD 0 []=ws.getD 0 []:=by
 rw[aq,aq,db h]
theorem qU {k c:List UInt8}(h:ByteArray.toList (bs k)=ByteArray.toList (bs c)):k=c:=by
 rw[AZ,AZ] at h
 exact h
set_option maxHeartbeats 4000000 in
theorem LI {w:Wrl}(hw:WOK w)(l:List UInt8)(hl:l.length≤600)(hk:eN ((aK 32 l).getD 0 [])):ag Tryz.prog 43 [.ptr 4 0,.str (bs l)] (dz w) (.tup []) (dz (bU w (aK 32 l))):=by
 have hS:=pR l 32 (by omega)
 have hle:=iY 32 l
 have hlen:=eI 32 l
 have hmem:=gb 32 l
 generalize aK 32 l=ws at *
 have hml:(ws.map bs).length=ws.length:=az ..
 have hx0:=fH ws (k:=0) (by omega)
 have hx1:=fH ws (k:=1) (by omega)
 have hx2:=fH ws (k:=2) (by omega)
 have hgl:=oX ws (fun x hx=>by have:=hmem x hx;omega)
 have n1:=kb _ (hgl 1)
 have n2:=kb _ (hgl 2)
 rw[kO] at n1 n2
 have e0:=yu ws (by omega)
 rw[e0] at hx0
 generalize (ws++[[],[]]).getD 1 []=g1 at *
 generalize (ws++[[],[]]).getD 2 []=g2 at *
 generalize hu:bU w ws=u
 unfold bU at hu
 generalize cE ws 1=a at *
 generalize cE ws 2=b at *
 generalize ws.getD 0 []=k at *
 refine ab aj Tryz.func43 rfl rfl false 1 5 rfl rfl rfl rfl fun K hK hb1 hb2=>?_;simp only[ae,enc,Nat.reduceAdd]
 clear hb1 hb2
 (repeat' first|((first|with_reducible refine aF ?_ (by assumption)|with_reducible refine aE ?_ (by assumption));conv=>whnf)|refine st ?_|refine sa fun xe hxe=>?_|refine sb (fun hq=>?_) fun hq=>?_|((with_reducible refine aG ?_)<;>conv=>whnf)|refine cr (hS) ?_|exact aa)
 obtain rfl:=ar (hx1.symm.trans hxe)
 clear hxe
 (repeat' first|((first|with_reducible refine aF ?_ (by assumption)|with_reducible refine aE ?_ (by assumption));conv=>whnf)|refine st ?_|refine sa fun xe hxe=>?_|refine sb (fun hq=>?_) fun hq=>?_|((with_reducible refine aG ?_)<;>conv=>whnf)|refine cr (n1) ?_|exact aa)
 obtain rfl:=ar (hx2.symm.trans hxe)
 clear hxe
 (repeat' first|((first|with_reducible refine aF ?_ (by assumption)|with_reducible refine aE ?_ (by assumption));conv=>whnf)|refine st ?_|refine sa fun xe hxe=>?_|refine sb (fun hq=>?_) fun hq=>?_|((with_reducible refine aG ?_)<;>conv=>whnf)|refine cr (n2) ?_|exact aa)
 all_goals (obtain rfl:=ar (hx0.symm.trans hxe);clear hxe)
 ·obtain rfl:k=Da:=qU hq
  rw[if_pos rfl] at hu
  subst hu
  have hD:ag Tryz.prog 86 [.ptr 4 0,.agg [.int .i64 1,.int .i64 a,.int .i64 b,.int .i64 0,.int .i64 0,.lst (.int .i64) [],.int .i64 0]] (dz w) (.tup []) (dz (eS w a b)):=xY hw ⟨1,a,b,v0⟩
  generalize (eS w a b)=u at *
  (repeat' first|refine st ?_|refine sa fun xe hxe=>?_|refine sb (fun hq=>?_) fun hq=>?_|((with_reducible refine cB [4] ?_);(conv=>whnf);(with_reducible refine bg (hD) ?_);conv=>whnf)|exact aa)
  exact⟨rfl,rfl⟩
 ·obtain rfl:k=Db:=qU hq
  rw[if_neg (by decide),if_pos rfl] at hu
  subst hu
  have hD:ag Tryz.prog 86 [.ptr 4 0,.agg [.int .i64 2,.int .i64 a,.int .i64 b,.int .i64 0,.int .i64 0,.lst (.int .i64) [],.int .i64 0]] (dz w) (.tup []) (dz (e9 w a b)):=xY hw ⟨2,a,b,v0⟩
  generalize (e9 w a b)=u at *
  (repeat' first|refine st ?_|refine sa fun xe hxe=>?_|refine sb (fun hq=>?_) fun hq=>?_|((with_reducible refine cB [4] ?_);(conv=>whnf);(with_reducible refine bg (hD) ?_);conv=>whnf)|exact aa)
  exact⟨rfl,rfl⟩
 ·obtain rfl:k=C8:=qU hq
  rw[if_neg (by decide),if_neg (by decide),if_pos rfl] at hu
  subst hu
  have hD:ag Tryz.prog 86 [.ptr 4 0,.agg [.int .i64 3,.int .i64 a,.int .i64 b,.int .i64 0,.int .i64 0,.lst (.int .i64) [],.int .i64 0]] (dz w) (.tup []) (dz (dh w a b)):=xY hw ⟨3,a,b,v0⟩
  generalize (dh w a b)=u at *
  (repeat' first|refine st ?_|refine sa fun xe hxe=>?_|refine sb (fun hq=>?_) fun hq=>?_|((with_reducible refine cB [4] ?_);(conv=>whnf);(with_reducible refine bg (hD) ?_);conv=>whnf)|exact aa)
  exact⟨rfl,rfl⟩
 ·obtain rfl:k=C9:=qU hq
  rw[if_neg (by decide),if_neg (by decide),if_neg (by decide),if_pos rfl] at hu
  subst hu
  have hD:ag Tryz.prog 87 [.ptr 4 0,.int .i64 a,.int .i64 b] (dz w) (.tup []) (dz (iR w (lx a b))):=LQ hw a b
  generalize (iR w (lx a b))=u at *
  (repeat' first|refine st ?_|refine sa fun xe hxe=>?_|refine sb (fun hq=>?_) fun hq=>?_|((with_reducible refine cB [4] ?_);(conv=>whnf);(with_reducible refine bg (hD) ?_);conv=>whnf)|exact aa)
  exact⟨rfl,rfl⟩
 ·obtain rfl:k=C6:=qU hq
  rw[if_neg (by decide),if_neg (by decide),if_neg (by decide),if_neg (by decide),if_pos rfl] at hu
  subst hu
  have hD:ag Tryz.prog 86 [.ptr 4 0,.agg [.int .i64 5,.int .i64 0,.int .i64 a,.int .i64 0,.int .i64 0,.lst (.int .i64) [],.int .i64 0]] (dz w) (.tup []) (dz (iQ w a)):=xY hw ⟨5,0,a,v0⟩
  generalize (iQ w a)=u at *
  (repeat' first|refine st ?_|refine sa fun xe hxe=>?_|refine sb (fun hq=>?_) fun hq=>?_|((with_reducible refine cB [4] ?_);(conv=>whnf);(with_reducible refine bg (hD) ?_);conv=>whnf)|exact aa)
  exact⟨rfl,rfl⟩
 ·obtain rfl:k=C7:=qU hq
  rw[if_neg (by decide),if_neg (by decide),if_neg (by decide),if_neg (by decide),if_neg (by decide),if_pos rfl] at hu
  subst hu
  have hD:ag Tryz.prog 88 [.ptr 4 0,.int .i64 a] (dz w) (.tup []) (dz (CO w a)):=LG hw a
  have hD2:ag Tryz.prog 88 [.ptr 4 0,.int .i64 a] (dz w) (.tup []) (dz (if 0≤a∧a≤12 then aU w a.toNat else w)):=hD
  clear hD
  generalize (if 0≤a∧a≤12 then aU w a.toNat else w)=u at *
  (repeat' first|refine st ?_|refine sa fun xe hxe=>?_|refine sb (fun hq=>?_) fun hq=>?_|((with_reducible refine cB [4] ?_);(conv=>whnf);(with_reducible refine bg (hD2) ?_);conv=>whnf)|exact aa)
  exact⟨rfl,rfl⟩
 ·obtain rfl:k=kf:=qU hq
  exact absurd hk (by decide)
 ·exfalso
  rename_i q1 q2 q3 q4 q5 q6
  rcases hk with rfl|rfl|rfl|rfl|rfl|rfl<;>first|exact q1 rfl|exact q2 rfl|exact q3 rfl|exact q4 rfl|exact q5 rfl|exact q6 rfl
set_option maxHeartbeats 4000000 in
theorem LJ {w:Wrl}(hw:WOK w)(l:List UInt8)(hl:l.length≤600)(o:List UInt8)(hk:eN ((aK 32 l).getD 0 [])):ag Tryz.prog 43 [.ptr 4 0,.str (bs l)] (bN w o) (.tup []) (bN (bU w (aK 32 l)) o):=by
 have hS:=pR l 32 (by omega)
 have hle:=iY 32 l
 have hlen:=eI 32 l
 have hmem:=gb 32 l
 generalize aK 32 l=ws at *
 have hml:(ws.map bs).length=ws.length:=az ..
 have hx0:=fH ws (k:=0) (by omega)
 have hx1:=fH ws (k:=1) (by omega)
 have hx2:=fH ws (k:=2) (by omega)
 have hgl:=oX ws (fun x hx=>by have:=hmem x hx;omega)
 have n1:=kb _ (hgl 1)
 have n2:=kb _ (hgl 2)
 rw[kO] at n1 n2
 have e0:=yu ws (by omega)
 rw[e0] at hx0
 generalize (ws++[[],[]]).getD 1 []=g1 at *
 generalize (ws++[[],[]]).getD 2 []=g2 at *
 generalize hu:bU w ws=u
 unfold bU at hu
 generalize cE ws 1=a at *
 generalize cE ws 2=b at *
 generalize ws.getD 0 []=k at *
 refine ab aj Tryz.func43 rfl rfl false 2 6 rfl rfl rfl rfl fun K hK hb1 hb2=>?_;simp only[ae,enc,Nat.reduceAdd]
 clear hb1 hb2
 (repeat' first|((first|with_reducible refine aF ?_ (by assumption)|with_reducible refine aE ?_ (by assumption));conv=>whnf)|refine st ?_|refine sa fun xe hxe=>?_|refine sb (fun hq=>?_) fun hq=>?_|((with_reducible refine aG ?_)<;>conv=>whnf)|refine cr (hS) ?_|exact aa)
 obtain rfl:=ar (hx1.symm.trans hxe)
 clear hxe
 (repeat' first|((first|with_reducible refine aF ?_ (by assumption)|with_reducible refine aE ?_ (by assumption));conv=>whnf)|refine st ?_|refine sa fun xe hxe=>?_|refine sb (fun hq=>?_) fun hq=>?_|((with_reducible refine aG ?_)<;>conv=>whnf)|refine cr (n1) ?_|exact aa)
 obtain rfl:=ar (hx2.symm.trans hxe)
 clear hxe
 (repeat' first|((first|with_reducible refine aF ?_ (by assumption)|with_reducible refine aE ?_ (by assumption));conv=>whnf)|refine st ?_|refine sa fun xe hxe=>?_|refine sb (fun hq=>?_) fun hq=>?_|((with_reducible refine aG ?_)<;>conv=>whnf)|refine cr (n2) ?_|exact aa)
 all_goals (obtain rfl:=ar (hx0.symm.trans hxe);clear hxe)
 ·obtain rfl:k=Da:=qU hq
  rw[if_pos rfl] at hu
  subst hu
  have hD:ag Tryz.prog 86 [.ptr 4 0,.agg [.int .i64 1,.int .i64 a,.int .i64 b,.int .i64 0,.int .i64 0,.lst (.int .i64) [],.int .i64 0]] (bN w o) (.tup []) (bN (eS w a b) o):=xZ hw ⟨1,a,b,v0⟩ o
  generalize (eS w a b)=u at *
  (repeat' first|refine st ?_|refine sa fun xe hxe=>?_|refine sb (fun hq=>?_) fun hq=>?_|((with_reducible refine cB [4,5] ?_);(conv=>whnf);(with_reducible refine bg (hD) ?_);conv=>whnf)|exact aa)
  exact⟨rfl,rfl⟩
 ·obtain rfl:k=Db:=qU hq
  rw[if_neg (by decide),if_pos rfl] at hu
  subst hu
  have hD:ag Tryz.prog 86 [.ptr 4 0,.agg [.int .i64 2,.int .i64 a,.int .i64 b,.int .i64 0,.int .i64 0,.lst (.int .i64) [],.int .i64 0]] (bN w o) (.tup []) (bN (e9 w a b) o):=xZ hw ⟨2,a,b,v0⟩ o
  generalize (e9 w a b)=u at *
  (repeat' first|refine st ?_|refine sa fun xe hxe=>?_|refine sb (fun hq=>?_) fun hq=>?_|((with_reducible refine cB [4,5] ?_);(conv=>whnf);(with_reducible refine bg (hD) ?_);conv=>whnf)|exact aa)
  exact⟨rfl,rfl⟩
 ·obtain rfl:k=C8:=qU hq
  rw[if_neg (by decide),if_neg (by decide),if_pos rfl] at hu
  subst hu
  have hD:ag Tryz.prog 86 [.ptr 4 0,.agg [.int .i64 3,.int .i64 a,.int .i64 b,.int .i64 0,.int .i64 0,.lst (.int .i64) [],.int .i64 0]] (bN w o) (.tup []) (bN (dh w a b) o):=xZ hw ⟨3,a,b,v0⟩ o
  generalize (dh w a b)=u at *
  (repeat' first|refine st ?_|refine sa fun xe hxe=>?_|refine sb (fun hq=>?_) fun hq=>?_|((with_reducible refine cB [4,5] ?_);(conv=>whnf);(with_reducible refine bg (hD) ?_);conv=>whnf)|exact aa)
  exact⟨rfl,rfl⟩
 ·obtain rfl:k=C9:=qU hq
  rw[if_neg (by decide),if_neg (by decide),if_neg (by decide),if_pos rfl] at hu
  subst hu
  have hD:ag Tryz.prog 87 [.ptr 4 0,.int .i64 a,.int .i64 b] (bN w o) (.tup []) (bN (iR w (lx a b)) o):=LR hw a b o
  generalize (iR w (lx a b))=u at *
  (repeat' first|refine st ?_|refine sa fun xe hxe=>?_|refine sb (fun hq=>?_) fun hq=>?_|((with_reducible refine cB [4,5] ?_);(conv=>whnf);(with_reducible refine bg (hD) ?_);conv=>whnf)|exact aa)
  exact⟨rfl,rfl⟩
 ·obtain rfl:k=C6:=qU hq
  rw[if_neg (by decide),if_neg (by decide),if_neg (by decide),if_neg (by decide),if_pos rfl] at hu
  subst hu
  have hD:ag Tryz.prog 86 [.ptr 4 0,.agg [.int .i64 5,.int .i64 0,.int .i64 a,.int .i64 0,.int .i64 0,.lst (.int .i64) [],.int .i64 0]] (bN w o) (.tup []) (bN (iQ w a) o):=xZ hw ⟨5,0,a,v0⟩ o
  generalize (iQ w a)=u at *
  (repeat' first|refine st ?_|refine sa fun xe hxe=>?_|refine sb (fun hq=>?_) fun hq=>?_|((with_reducible refine cB [4,5] ?_);(conv=>whnf);(with_reducible refine bg (hD) ?_);conv=>whnf)|exact aa)
  exact⟨rfl,rfl⟩
 ·obtain rfl:k=C7:=qU hq
  rw[if_neg (by decide),if_neg (by decide),if_neg (by decide),if_neg (by decide),if_neg (by decide),if_pos rfl] at hu
  subst hu
  have hD:ag Tryz.prog 88 [.ptr 4 0,.int .i64 a] (bN w o) (.tup []) (bN (CO w a) o):=LH hw a o
  have hD2:ag Tryz.prog 88 [.ptr 4 0,.int .i64 a] (bN w o) (.tup []) (bN (if 0≤a∧a≤12 then aU w a.toNat else w) o):=hD
  clear hD
  generalize (if 0≤a∧a≤12 then aU w a.toNat else w)=u at *
  (repeat' first|refine st ?_|refine sa fun xe hxe=>?_|refine sb (fun hq=>?_) fun hq=>?_|((with_reducible refine cB [4,5] ?_);(conv=>whnf);(with_reducible refine bg (hD2) ?_);conv=>whnf)|exact aa)
  exact⟨rfl,rfl⟩
 ·obtain rfl:k=kf:=qU hq
  exact absurd hk (by decide)
 ·exfalso
  rename_i q1 q2 q3 q4 q5 q6
  rcases hk with rfl|rfl|rfl|rfl|rfl|rfl<;>first|exact q1 rfl|exact q2 rfl|exact q3 rfl|exact q4 rfl|exact q5 rfl|exact q6 rfl
set_option maxHeartbeats 4000000 in
theorem BK {w:Wrl}(hw:WOK w)(l:List UInt8)(hl:l.length≤600)(hk:(aK 32 l).getD 0 []=kf):ag Tryz.prog 43 [.ptr 4 0,.str (bs l)] (dz w) (.tup []) (if w.props.length=0 then dz w else bN w (nG w)):=by
 have hS:=pR l 32 (by omega)
 have hle:=iY 32 l
 have hlen:=eI 32 l
 have hmem:=gb 32 l
 generalize aK 32 l=ws at *
 have hml:(ws.map bs).length=ws.length:=az ..
 have hx0:=fH ws (k:=0) (by omega)
 have hx1:=fH ws (k:=1) (by omega)
 have hx2:=fH ws (k:=2) (by omega)
 have hgl:=oX ws (fun x hx=>by have:=hmem x hx;omega)
 have n1:=kb _ (hgl 1)
 have n2:=kb _ (hgl 2)
 rw[kO] at n1 n2
 have e0:=yu ws (by omega)
 rw[e0] at hx0
 generalize (ws++[[],[]]).getD 1 []=g1 at *
 generalize (ws++[[],[]]).getD 2 []=g2 at *
 generalize cE ws 1=a at *
 generalize cE ws 2=b at *
 generalize ws.getD 0 []=k at *
 have hL:=LS hw
 subst hk
 by_cases h0:w.props.length=0
 ·rw[if_pos h0] at hL⊢
  refine ab aj Tryz.func43 rfl rfl false 1 5 rfl rfl rfl rfl fun K hK hb1 hb2=>?_;simp only[ae,enc,Nat.reduceAdd]
  clear hb1 hb2
  (repeat' first|((first|with_reducible refine aF ?_ (by assumption)|with_reducible refine aE ?_ (by assumption));conv=>whnf)|refine st ?_|refine sa fun xe hxe=>?_|refine sb (fun hq=>?_) fun hq=>?_|((with_reducible refine aG ?_)<;>conv=>whnf)|refine cr (hS) ?_|exact aa)
  obtain rfl:=ar (hx1.symm.trans hxe)
  clear hxe
  (repeat' first|((first|with_reducible refine aF ?_ (by assumption)|with_reducible refine aE ?_ (by assumption));conv=>whnf)|refine st ?_|refine sa fun xe hxe=>?_|refine sb (fun hq=>?_) fun hq=>?_|((with_reducible refine aG ?_)<;>conv=>whnf)|refine cr (n1) ?_|exact aa)
  obtain rfl:=ar (hx2.symm.trans hxe)
  clear hxe
  (repeat' first|((first|with_reducible refine aF ?_ (by assumption)|with_reducible refine aE ?_ (by assumption));conv=>whnf)|refine st ?_|refine sa fun xe hxe=>?_|refine sb (fun hq=>?_) fun hq=>?_|((with_reducible refine aG ?_)<;>conv=>whnf)|refine cr (n2) ?_|exact aa)
  all_goals (obtain rfl:=ar (hx0.symm.trans hxe);clear hxe)
  all_goals first|exact absurd (qU hq) (by decide)|skip
  ·(repeat' first|refine st ?_|refine sa fun xe hxe=>?_|refine sb (fun hq=>?_) fun hq=>?_|((with_reducible refine cB [4] ?_);(conv=>whnf);(with_reducible refine bg (hL) ?_);conv=>whnf)|exact aa)
   exact⟨rfl,rfl⟩
  ·exact absurd rfl hq
 ·rw[if_neg h0] at hL⊢
  generalize nG w=oo at *
  refine ab aj Tryz.func43 rfl rfl false 1 5 rfl rfl rfl rfl fun K hK hb1 hb2=>?_;simp only[ae,enc,Nat.reduceAdd]
  clear hb1 hb2
  (repeat' first|((first|with_reducible refine aF ?_ (by assumption)|with_reducible refine aE ?_ (by assumption));conv=>whnf)|refine st ?_|refine sa fun xe hxe=>?_|refine sb (fun hq=>?_) fun hq=>?_|((with_reducible refine aG ?_)<;>conv=>whnf)|refine cr (hS) ?_|exact aa)
  obtain rfl:=ar (hx1.symm.trans hxe)
  clear hxe
  (repeat' first|((first|with_reducible refine aF ?_ (by assumption)|with_reducible refine aE ?_ (by assumption));conv=>whnf)|refine st ?_|refine sa fun xe hxe=>?_|refine sb (fun hq=>?_) fun hq=>?_|((with_reducible refine aG ?_)<;>conv=>whnf)|refine cr (n1) ?_|exact aa)
  obtain rfl:=ar (hx2.symm.trans hxe)
  clear hxe
  (repeat' first|((first|with_reducible refine aF ?_ (by assumption)|with_reducible refine aE ?_ (by assumption));conv=>whnf)|refine st ?_|refine sa fun xe hxe=>?_|refine sb (fun hq=>?_) fun hq=>?_|((with_reducible refine aG ?_)<;>conv=>whnf)|refine cr (n2) ?_|exact aa)
  all_goals (obtain rfl:=ar (hx0.symm.trans hxe);clear hxe)
  all_goals first|exact absurd (qU hq) (by decide)|skip
  ·(repeat' first|refine st ?_|refine sa fun xe hxe=>?_|refine sb (fun hq=>?_) fun hq=>?_|((with_reducible refine cB [4] ?_);(conv=>whnf);(with_reducible refine bg (hL) ?_);conv=>whnf)|exact aa)
   exact⟨rfl,rfl⟩
  ·exact absurd rfl hq
set_option maxHeartbeats 4000000 in
theorem BL {w:Wrl}(hw:WOK w)(l:List UInt8)(hl:l.length≤600)(o:List UInt8)(hol:o.length≤5000000)(hk:(aK 32 l).getD 0 []=kf):ag Tryz.prog 43 [.ptr 4 0,.str (bs l)] (bN w o) (.tup []) (if w.props.length=0 then bN w o else jN w (o++nG w)):=by
 have hS:=pR l 32 (by omega)
 have hle:=iY 32 l
 have hlen:=eI 32 l
 have hmem:=gb 32 l
 generalize aK 32 l=ws at *
 have hml:(ws.map bs).length=ws.length:=az ..
 have hx0:=fH ws (k:=0) (by omega)
 have hx1:=fH ws (k:=1) (by omega)
 have hx2:=fH ws (k:=2) (by omega)
 have hgl:=oX ws (fun x hx=>by have:=hmem x hx;omega)
 have n1:=kb _ (hgl 1)
 have n2:=kb _ (hgl 2)
 rw[kO] at n1 n2
 have e0:=yu ws (by omega)
 rw[e0] at hx0
 generalize (ws++[[],[]]).getD 1 []=g1 at *
 generalize (ws++[[],[]]).getD 2 []=g2 at *
 generalize cE ws 1=a at *
 generalize cE ws 2=b at *
 generalize ws.getD 0 []=k at *
 have hL:=LT hw o hol
 subst hk
 by_cases h0:w.props.length=0
 ·rw[if_pos h0] at hL⊢
  refine ab aj Tryz.func43 rfl rfl false 2 6 rfl rfl rfl rfl fun K hK hb1 hb2=>?_;simp only[ae,enc,Nat.reduceAdd]
  clear hb1 hb2
  (repeat' first|((first|with_reducible refine aF ?_ (by assumption)|with_reducible refine aE ?_ (by assumption));conv=>whnf)|refine st ?_|refine sa fun xe hxe=>?_|refine sb (fun hq=>?_) fun hq=>?_|((with_reducible refine aG ?_)<;>conv=>whnf)|refine cr (hS) ?_|exact aa)
  obtain rfl:=ar (hx1.symm.trans hxe)
  clear hxe
  (repeat' first|((first|with_reducible refine aF ?_ (by assumption)|with_reducible refine aE ?_ (by assumption));conv=>whnf)|refine st ?_|refine sa fun xe hxe=>?_|refine sb (fun hq=>?_) fun hq=>?_|((with_reducible refine aG ?_)<;>conv=>whnf)|refine cr (n1) ?_|exact aa)
  obtain rfl:=ar (hx2.symm.trans hxe)
  clear hxe
  (repeat' first|((first|with_reducible refine aF ?_ (by assumption)|with_reducible refine aE ?_ (by assumption));conv=>whnf)|refine st ?_|refine sa fun xe hxe=>?_|refine sb (fun hq=>?_) fun hq=>?_|((with_reducible refine aG ?_)<;>conv=>whnf)|refine cr (n2) ?_|exact aa)
  all_goals (obtain rfl:=ar (hx0.symm.trans hxe);clear hxe)
  all_goals first|exact absurd (qU hq) (by decide)|skip
  ·(repeat' first|refine st ?_|refine sa fun xe hxe=>?_|refine sb (fun hq=>?_) fun hq=>?_|((with_reducible refine cB [4,5] ?_);(conv=>whnf);(with_reducible refine bg (hL) ?_);conv=>whnf)|exact aa)
   exact⟨rfl,rfl⟩
  ·exact absurd rfl hq
 ·rw[if_neg h0] at hL⊢
  generalize nG w=oo at *
  refine ab aj Tryz.func43 rfl rfl false 2 6 rfl rfl rfl rfl fun K hK hb1 hb2=>?_;simp only[ae,enc,Nat.reduceAdd]
  clear hb1 hb2
  (repeat' first|((first|with_reducible refine aF ?_ (by assumption)|with_reducible refine aE ?_ (by assumption));conv=>whnf)|refine st ?_|refine sa fun xe hxe=>?_|refine sb (fun hq=>?_) fun hq=>?_|((with_reducible refine aG ?_)<;>conv=>whnf)|refine cr (hS) ?_|exact aa)
  obtain rfl:=ar (hx1.symm.trans hxe)
  clear hxe
  (repeat' first|((first|with_reducible refine aF ?_ (by assumption)|with_reducible refine aE ?_ (by assumption));conv=>whnf)|refine st ?_|refine sa fun xe hxe=>?_|refine sb (fun hq=>?_) fun hq=>?_|((with_reducible refine aG ?_)<;>conv=>whnf)|refine cr (n1) ?_|exact aa)
  obtain rfl:=ar (hx2.symm.trans hxe)
  clear hxe
  (repeat' first|((first|with_reducible refine aF ?_ (by assumption)|with_reducible refine aE ?_ (by assumption));conv=>whnf)|refine st ?_|refine sa fun xe hxe=>?_|refine sb (fun hq=>?_) fun hq=>?_|((with_reducible refine aG ?_)<;>conv=>whnf)|refine cr (n2) ?_|exact aa)
  all_goals (obtain rfl:=ar (hx0.symm.trans hxe);clear hxe)
  all_goals first|exact absurd (qU hq) (by decide)|skip
  ·(repeat' first|refine st ?_|refine sa fun xe hxe=>?_|refine sb (fun hq=>?_) fun hq=>?_|((with_reducible refine cB [4,5] ?_);(conv=>whnf);(with_reducible refine bg (hL) ?_);conv=>whnf)|exact aa)
   exact⟨rfl,rfl⟩
  ·exact absurd rfl hq
end Go.Proofs.YtpefhoohfkeflaaGreatDoor.Am
namespace Go.Proofs.YtpefhoohfkeflaaGreatDoor.Am
open Go Go.RowKit Go.Shelf
abbrev M8 (line:ByteArray):Value:=.iface 75 (.agg #[.string line])
set_option maxRecDepth 100000 in
theorem MO (w:World):(Instr.typeAssert .nilIface 20 75 true).run Tryz.prog w= .ok (.tuple #[.agg #[.string ⟨#[]⟩],.bool false]) w:=by
 have hz:(Tryz.prog.info? 75).map (·.zero)=some (some (.agg #[.string ⟨#[]⟩])):=by kernel_rfl
 obtain⟨j,hj,hj2⟩:=bm.1 hz
 simp[Instr.typeAssert,run_underlying Tryz.underlying75,zeroValue,typeInfo,hj,hj2]
set_option maxRecDepth 100000 in
theorem MN (line:ByteArray)(w:World):(Instr.typeAssert (M8 line) 20 75 true).run Tryz.prog w= .ok (.tuple #[.agg #[.string line],.bool true]) w:=by
 have hz:(Tryz.prog.info? 75).map (·.zero)=some (some (.agg #[.string ⟨#[]⟩])):=by kernel_rfl
 obtain⟨j,hj,hj2⟩:=bm.1 hz
 simp[Instr.typeAssert,run_underlying Tryz.underlying75,zeroValue,typeInfo,hj,hj2]
set_option maxHeartbeats 1000000 in
set_option maxRecDepth 100000 in
theorem D4 (p:Addr)(w:World):
  CallsD Tryz.prog 41 #[.pointer (some p)] .returning w fun e u' w'=>
   e= .returned (.tuple #[])∧u'= .returning∧Below w.heap.size w w':=by
 refine callsD_of_wpS Tryz.func41 rfl fun c₀ cs hu=>?_
 apply wpS_seq
 apply wpS_region
 simp[wpOpsS,go_sem,recoverD,hu,Tryz.ntmps41,Exit.thenS,MO]
 apply wpS_seq
 apply wpS_region
 simp[wpOpsS,go_sem,recoverD,hu,Exit.thenS]
 refine wpS_cond (t:=false) (by simp[Act.eval,Array.replicate]) ?_
 simp only[fg,if_false]
 refine wpS_of_wp (wp_skip ?_)
 refine⟨rfl,c₀.mode,by cases c₀;rfl,.tuple #[],?_,rfl,hu,(Below.refl _ _).alloc (ax _) _⟩
 simp[results,Tryz.results41]
set_option maxHeartbeats 1000000 in
set_option maxRecDepth 100000 in
theorem CP (p:Addr)(pc:Value)(line:ByteArray)(w:World)(R:World→Prop)(hp:w.cell? p=some pc)
  (hP:∀w1,Below w.heap.size w w1→Calls Tryz.prog 42 #[pc,.string ⟨#[119,104,97,116]⟩] w1 fun e w'=>e= .returned (.tuple #[])∧R w'):
  CallsD Tryz.prog 41 #[.pointer (some p)] (.panicking [{v:=M8 line,recovered:=false}]) w fun e u' w'=>
   e= .returned (.tuple #[])∧u'= .panicking [{v:=M8 line,recovered:=true}]∧R w':=by
 have hpb:∀o:Obj,(w.alloc o).cell? p=some pc:=fun o=>by
  have hl:p.block<w.heap.size:=by
   rcases ct p.block w.heap.size with hl|hl
   ·exact hl
   ·have:w.heap[p.block]?=none:=by simp[hl]
    simp[World.cell?,this] at hp
  rw[←hp]
  exact World.cell?_of_block (((Below.refl w.heap.size w).alloc (ax _) o).block p.block hl)
 refine callsD_of_wpS Tryz.func41 rfl fun c₀ cs hu=>?_
 apply wpS_seq
 apply wpS_region
 simp[wpOpsS,go_sem,recoverD,hu,Tryz.ntmps41,Exit.thenS,MN]
 apply wpS_seq
 apply wpS_region
 simp[wpOpsS,go_sem,recoverD,Exit.thenS]
 refine wpS_cond (t:=true) (by simp[Act.eval,Array.replicate]) ?_
 simp only[if_true]
 have hcl:=hpb (.cells #[.string line] 75)
 apply wpS_region
 have hE:∀args w,(callFunc 42 args).run Tryz.prog w= .ok (.enter 42 args) w:=enters_of Tryz.func42 (by kernel_rfl) rfl
 simp[wpOpsS,go_sem,hcl,hE]
 refine(hP _ ((Below.refl _ _).alloc (ax _) _)).mono ?_
 rintro e w' ⟨rfl,hR⟩
 exact⟨rfl,_,rfl,.tuple #[],by simp[results,Tryz.results41],rfl,rfl,hR⟩
theorem KU (a:Addr)(line:ByteArray)(w:World)(R:World→Prop)
  (hC:∀w1,Below w.heap.size w w1→Calls Tryz.prog 43 #[.pointer (some a),.string line] w1 fun e w'=>e= .returned (.tuple #[])∧∀w2,Below w'.heap.size w' w2→R w2):
  Calls Tryz.prog 17 #[.pointer (some a),.string line] w fun e w'=>e= .returned (.tuple #[])∧R w':=by
 have hmf:∀(fn:Fn) (first cap:Array Value) (w:World),(Instr.makeFunc fn first cap).run Tryz.prog w= .ok (.func fn first cap) w:=fun _ _ _ _=>rfl
 have hc0:(w.alloc (.cells #[.pointer (some a)] 38)).cell? ⟨w.heap.size,0,none⟩=some (.pointer (some a)):=by rw[World.cell?_alloc_at _ _ _ _ rfl];rfl
 go_enter_defers Tryz.func17,Tryz.ntmps17
 go_wp2_with (fail)
 refine(hC _ ((Below.refl _ _).alloc (ax _) _)).mono ?_
 rintro e w' ⟨rfl,hR⟩
 dsimp only
 go_wp2
 refine leaves_cons (f:=41) (args:=#[.pointer (some ⟨w.heap.size,0,none⟩)]) (by simp) (by simp[go_sem]) ?_
 refine(D4 ⟨w.heap.size,0,none⟩ _).mono ?_
 rintro e u' w'' ⟨rfl,rfl,hb⟩
 exact⟨.tuple #[],by simp[results,Tryz.results17,go_sem],rfl,hR _ hb⟩
theorem CS (a:Addr)(line:ByteArray)(w:World)(R:World→Prop)(hcm:∀w1,Below w.heap.size w w1→Calls Tryz.prog 43 #[.pointer (some a),.string line] w1 fun e w'=>e= .panicked [{v:=M8 line,recovered:=false}]∧Below w1.heap.size w1 w')
  (hP:∀w1,Below w.heap.size w w1→Calls Tryz.prog 42 #[.pointer (some a),.string ⟨#[119,104,97,116]⟩] w1 fun e w'=>e= .returned (.tuple #[])∧R w'):
  Calls Tryz.prog 17 #[.pointer (some a),.string line] w fun e w'=>e= .returned (.tuple #[])∧R w':=by
 have hmf:∀(fn:Fn) (first cap:Array Value) (w:World),(Instr.makeFunc fn first cap).run Tryz.prog w= .ok (.func fn first cap) w:=fun _ _ _ _=>rfl
 have hc0:(w.alloc (.cells #[.pointer (some a)] 38)).cell? ⟨w.heap.size,0,none⟩=some (.pointer (some a)):=by rw[World.cell?_alloc_at _ _ _ _ rfl];rfl
 have hal:Below w.heap.size w (w.alloc (.cells #[.pointer (some a)] 38)):=(Below.refl _ _).alloc (ax _) _
 have hsz:(w.alloc (.cells #[.pointer (some a)] 38)).heap.size=w.heap.size+1:=World.size_alloc ..
 go_enter_defers Tryz.func17,Tryz.ntmps17
 go_wp2_with (fail)
 refine(hcm _ hal).mono ?_
 rintro e w' ⟨rfl,hb⟩
 dsimp only
 have hc1:w'.cell? ⟨w.heap.size,0,none⟩=some (.pointer (some a)):=by
  rw[←hc0]
  exact World.cell?_of_block (a:=⟨w.heap.size,0,none⟩) (hb.block w.heap.size (by omega))
 refine leaves_cons (f:=41) (args:=#[.pointer (some ⟨w.heap.size,0,none⟩)]) (by simp) (by simp[go_sem]) ?_
 refine(CP ⟨w.heap.size,0,none⟩ (.pointer (some a)) line w' R hc1 fun w1 hb1=>hP w1 ?_).mono ?_
 ·exact(hal.trans (hb.mono (by omega))).trans (hb1.mono (by have:=hb.size;omega))
 rintro e u' w'' ⟨rfl,rfl,hR⟩
 exact⟨.tuple #[],by simp[results,Tryz.results17,go_sem],rfl,hR⟩
end Go.Proofs.YtpefhoohfkeflaaGreatDoor.Am
namespace Go.Proofs.YtpefhoohfkeflaaGreatDoor.Am
open Go Go.RowKit
theorem pD {P:Program}{N:Nat}{K:Id→Prop}{Q:Exit→VSt→Prop}{σ:VSt}{Θ:TT}(hΘ:Θ.ok P){id:Nat}{ops:Array Oper}{od:Oper}{x:Tmp}{T:TypeId}{bt:ByteArray}(h1:ops.toList.getLast? =some od)(hod:od.op= .panic (.tmp x)∧od.guard=none)
  (h:lJ P Θ ops (fun _=>[]) false N ops.toList.dropLast 0 [] σ (fun σ=>look (fW σ.t) x=some (.ifc T (.agg [.str bt]))∧Q (.panic [{v:=.iface T (.agg #[.string bt]),recovered:=false}]) σ)):At P N K (.region id ops false) Q σ:=by
 refine DT hΘ (l:=ops.toList.dropLast) (od:=od) ?_ hod h
 generalize ops.toList=k at *
 rcases List.eq_nil_or_concat k with rfl|⟨k,y,rfl⟩
 ·cases h1
 ·rw[List.concat_eq_append] at h1⊢
  simp only[List.getLast?_append,List.getLast?_singleton,Option.some_or,aw] at h1
  rw[List.dropLast_concat,h1]
attribute [local irreducible] Mk ck Ari fK mQ jM cd cX i7 fC At ag
set_option maxRecDepth 10000
set_option maxHeartbeats 4000000 in
theorem Fw (l:List UInt8)(hl:l.length≤600)(hk:¬eN ((aK 32 l).getD 0 []))(hkl:(aK 32 l).getD 0 []≠kf):
  ∃fn c,Tryz.prog.funcs[43]?=some fn∧fn.body=some c∧2≤fn.ntmps∧At Tryz.prog fn.ntmps (fun _=>False) c (fun e _=>e= .panic [{v:=M8 (bs l),recovered:=false}]) ⟨[(1,.str (bs l))],[],4⟩:=by
 refine⟨_,_,Tryz.func43,rfl,by decide,?_⟩
 have hS:=pR l 32 (by omega)
 have hle:=iY 32 l
 have hlen:=eI 32 l
 have hmem:=gb 32 l
 generalize aK 32 l=ws at *
 have hml:(ws.map bs).length=ws.length:=az ..
 have hx0:=fH ws (k:=0) (by omega)
 have hx1:=fH ws (k:=1) (by omega)
 have hx2:=fH ws (k:=2) (by omega)
 have hgl:=oX ws (fun x hx=>by have:=hmem x hx;omega)
 have n1:=kb _ (hgl 1)
 have n2:=kb _ (hgl 2)
 rw[kO] at n1 n2
 have e0:=yu ws (by omega)
 rw[e0] at hx0
 generalize (ws++[[],[]]).getD 1 []=g1 at *
 generalize (ws++[[],[]]).getD 2 []=g2 at *
 generalize cE ws 1=a at *
 generalize cE ws 2=b at *
 generalize ws.getD 0 []=k at *
 (repeat(any_goals(first|((first|with_reducible refine aF ?_ (by assumption)|with_reducible refine aE ?_ (by assumption));conv=>whnf)|(first|(with_reducible first|apply dZ|apply cZ)|((first|refine pD (T:=75) (bt:=bs l) aj rfl ⟨rfl,rfl⟩ ?_|with_reducible apply cN aj|refine go ?_|(with_reducible first|apply dk|apply dy|apply cL|apply cO|refine cM aj mixed (by kernel_rfl) ?_))<;>conv=>whnf))|((first|refine OK fun xe hxe=>?_|with_reducible refine D5 (fun hq=>?_) fun hq=>?_)<;>conv=>whnf)|((with_reducible refine um (fun hq=>?_) fun hq=>?_)<;>((try simp only[K8] at hq)<;>(first|omega|conv=>whnf)))|((with_reducible refine aG ?_)<;>conv=>whnf)|refine cr (hS) ?_)))
 obtain rfl:=ar (hx1.symm.trans hxe)
 clear hxe
 (repeat(any_goals(first|((first|with_reducible refine aF ?_ (by assumption)|with_reducible refine aE ?_ (by assumption));conv=>whnf)|(first|(with_reducible first|apply dZ|apply cZ)|((first|refine pD (T:=75) (bt:=bs l) aj rfl ⟨rfl,rfl⟩ ?_|with_reducible apply cN aj|refine go ?_|(with_reducible first|apply dk|apply dy|apply cL|apply cO|refine cM aj mixed (by kernel_rfl) ?_))<;>conv=>whnf))|((first|refine OK fun xe hxe=>?_|with_reducible refine D5 (fun hq=>?_) fun hq=>?_)<;>conv=>whnf)|((with_reducible refine um (fun hq=>?_) fun hq=>?_)<;>((try simp only[K8] at hq)<;>(first|omega|conv=>whnf)))|((with_reducible refine aG ?_)<;>conv=>whnf)|refine cr (n1) ?_)))
 obtain rfl:=ar (hx2.symm.trans hxe)
 clear hxe
 (repeat(any_goals(first|((first|with_reducible refine aF ?_ (by assumption)|with_reducible refine aE ?_ (by assumption));conv=>whnf)|(first|(with_reducible first|apply dZ|apply cZ)|((first|refine pD (T:=75) (bt:=bs l) aj rfl ⟨rfl,rfl⟩ ?_|with_reducible apply cN aj|refine go ?_|(with_reducible first|apply dk|apply dy|apply cL|apply cO|refine cM aj mixed (by kernel_rfl) ?_))<;>conv=>whnf))|((first|refine OK fun xe hxe=>?_|with_reducible refine D5 (fun hq=>?_) fun hq=>?_)<;>conv=>whnf)|((with_reducible refine um (fun hq=>?_) fun hq=>?_)<;>((try simp only[K8] at hq)<;>(first|omega|conv=>whnf)))|((with_reducible refine aG ?_)<;>conv=>whnf)|refine cr (n2) ?_)))
 all_goals (obtain rfl:=ar (hx0.symm.trans hxe);clear hxe)
 ·exact hk (.inl (qU hq))
 ·exact hk (.inr (.inl (qU hq)))
 ·exact hk (.inr (.inr (.inl (qU hq))))
 ·exact hk (.inr (.inr (.inr (.inl (qU hq)))))
 ·exact hk (.inr (.inr (.inr (.inr (.inl (qU hq))))))
 ·exact hk (.inr (.inr (.inr (.inr (.inr (qU hq))))))
 ·exact hkl (qU hq)
 ·exact⟨rfl,rfl⟩
end Go.Proofs.YtpefhoohfkeflaaGreatDoor.Am
namespace Go.Proofs.YtpefhoohfkeflaaGreatDoor.Am
open Go Go.RowKit
variable {P:Program} {w0:World} {S:SD} {A:Nat→Prop} {N:Nat} {ρ:Id→Pl} {t:List (Nat×D)} {h:HL} {a:Act} {w:World}
theorem Below.fr {S:Nat→Prop}{w w':World}(h:Below w.heap.size w w'):Fr S w w':=⟨h.os,h.tape,h.output,h.size,fun i hi _=>h.block i hi⟩
theorem Sim.later (s:Sim P w0 S A N ρ t h a w){w':World}(hb:Below w.heap.size w w'):Sim P w0 S A N ρ t h a w':=by
 refine s.step (s.fr.andThen (T:=fun _=>False) (Below.fr hb) fun i _ e=>e.elim) (fun b hb'=>⟨hb',rfl⟩) (fun k hk=>⟨⟨⟨lh hk.1.1 hb.size,hk.1.2⟩,hk.2⟩,hb.block k hk.1.1⟩) (fun b x hx=>.inl ⟨hx,fun hm=>hb.block _ (s.own b x hx (by cases x<;>first|rfl|cases hm)).1⟩) hb.size s.inj
theorem Sim.rebase {w1:World}(s:Sim P w S A N ρ t h a w)(hb:Below w.heap.size w w1):Sim P w1 S A N ρ t h a w1:=by
 have s1:=s.later hb
 refine⟨fun k hk=>s.base k (cz hb.size hk),s.inS,Fr.refl _ _,s.defers,s.size,s1.tmp,s1.blk,fun b x hx hl=>⟨(s1.own b x hx hl).1,?_⟩,s.inj,fun g x hx=>?_,fun g zs hx=>?_⟩
 ·rcases (s.own b x hx hl).2 with q|q
  ·exact .inl q
  ·have:=(s.own b x hx hl).1;omega
 ·obtain⟨⟨q1,q2,q3⟩,ad,q4⟩:=s.gl.1 g x hx
  exact⟨⟨q1,q2,lh q3 hb.size⟩,ad,(World.cell?_of_block (a:=⟨g,0,none⟩) (hb.block g q3)).trans q4⟩
 ·obtain⟨⟨q1,q2,q3⟩,T,fz,q4⟩:=s.gl.2 g zs hx
  exact⟨⟨q1,q2,lh q3 hb.size⟩,T,fz,(hb.block g q3).trans q4⟩
theorem Sim.unbase {w1 w':World}{ρ':Id→Pl}{t':List (Nat×D)}{h':HL}{a':Act}(s:Sim P w S A N ρ t h a w)(hb:Below w.heap.size w w1)(s1:Sim P w1 S A N ρ' t' h' a' w'):Sim P w S A N ρ' t' h' a' w':=
 ⟨s.base,s.inS,(Below.fr hb).andThen s1.fr fun i _ e=>.inl e,s1.defers,s1.size,s1.tmp,s1.blk,fun b x hx hl=>⟨(s1.own b x hx hl).1,by
  rcases (s1.own b x hx hl).2 with q|q
  ·exact .inl q
  ·exact .inr (cz hb.size q)⟩,s1.inj,s.gl⟩
theorem Con.behind {f:FuncId}{ds:List D}{hin hout:HL}{r:D}(hC:Con P f ds hin r hout){w:World}{A:Nat→Prop}{ρ:Id→Pl}{vs:Array Value}(s:Sim P w (qJ ρ hin) A 0 ρ [] hin er w)(hl:ds.length=vs.size)
  (hcv:∀i,i<ds.length→C ρ (Live hin) (okOf A ρ hin w) w (ds.getD i .undef) (vs.getD i undef)) {w1:World} (hb:Below w.heap.size w w1):
  Calls P f vs w1 fun e w'=>∃u ρ',e= .returned u∧∀w2,Below w'.heap.size w' w2→(∀b,Live hin b→ρ' b=ρ b∧Live hout b)∧Sim P w (qJ ρ hin) A 0 ρ' [] hout er w2∧C ρ' (Live hout) (okOf A ρ' hout w') w' r u:=by
 refine(hC.2 w1 A ρ vs (s.rebase hb) hl fun i hi=>(hcv i hi).mono (fun b hb'=>⟨hb',rfl⟩) fun k hk=>⟨⟨⟨lh hk.1.1 hb.size,hk.1.2⟩,hk.2⟩,hb.block k hk.1.1⟩).mono ?_
 rintro e w' ⟨u,ρ',rfl,h1,h2,h3⟩
 exact⟨u,ρ',rfl,fun w2 hb2=>⟨h1,(s.unbase hb h2).later hb2,h3⟩⟩
theorem mZ {hin hout:HL}{b:Id}{line:ByteArray}(hC:Con Tryz.prog 43 [.ptr b 0,.str line] hin (.tup []) hout):Con Tryz.prog 17 [.ptr b 0,.str line] hin (.tup []) hout:=by
 refine⟨⟨_,Tryz.func17,rfl,rfl⟩,fun w A ρ vs s hl hcv=>?_⟩
 obtain⟨v0,v1,rfl⟩:=w4 hl
 obtain⟨hlb,e0⟩:=(hcv 0 (Nat.zero_lt_two)).ptr_inv
 have e0:v0= .pointer (some ⟨(ρ b).blk,0,none⟩):=e0
 have e1:C ρ (Live hin) (okOf A ρ hin w) w (.str line) v1:=hcv 1 (Nat.one_lt_two)
 obtain rfl:=e1.str_inv
 subst e0
 refine(KU ⟨(ρ b).blk,0,none⟩ line w (fun w2=>∃ρ',(∀b,Live hin b→ρ' b=ρ b∧Live hout b)∧Sim Tryz.prog w (qJ ρ hin) A 0 ρ' [] hout er w2) fun w1 hb=>?_).mono ?_
 ·refine(hC.behind s hl hcv hb).mono ?_
  rintro e w' ⟨u,ρ',rfl,h⟩
  obtain⟨-,-,h3⟩:=h w' (Below.refl _ _)
  obtain⟨vs,rfl,h4,-⟩:=h3.tup_inv
  have h4:0=vs.size:=h4
  obtain rfl:vs= #[]:=by
   apply Array.eq_empty_of_size_eq_zero
   omega
  exact⟨rfl,fun w2 hb2=>⟨ρ',(h w2 hb2).1,(h w2 hb2).2.1⟩⟩
 ·rintro e w' ⟨rfl,ρ',h1,h2⟩
  exact⟨_,ρ',rfl,h1,h2,.tup [] #[] rfl (fun i hi=>by simp at hi)⟩
theorem xj {hin hout:HL}{b:Id}{line:ByteArray}{fn:Func}{c:Code}(hf:Tryz.prog.funcs[43]?=some fn)(hc:fn.body=some c)(hN:2≤fn.ntmps)(hA:At Tryz.prog fn.ntmps (fun _=>False) c (fun e _=>e= .panic [{v:=M8 line,recovered:=false}]) ⟨[(1,.str line)],[],4⟩)
  (hP:Con Tryz.prog 42 [.ptr b 0,.str ⟨#[119,104,97,116]⟩] hin (.tup []) hout):Con Tryz.prog 17 [.ptr b 0,.str line] hin (.tup []) hout:=by
 refine⟨⟨_,Tryz.func17,rfl,rfl⟩,fun w A ρ vs s hl hcv=>?_⟩
 obtain⟨v0,v1,rfl⟩:=w4 hl
 obtain⟨hlb,e0⟩:=(hcv 0 (Nat.zero_lt_two)).ptr_inv
 have e0:v0= .pointer (some ⟨(ρ b).blk,0,none⟩):=e0
 have e1:C ρ (Live hin) (okOf A ρ hin w) w (.str line) v1:=hcv 1 (Nat.one_lt_two)
 obtain rfl:=e1.str_inv
 subst e0
 refine(CS ⟨(ρ b).blk,0,none⟩ line w (fun w2=>∃ρ',(∀b,Live hin b→ρ' b=ρ b∧Live hout b)∧Sim Tryz.prog w (qJ ρ hin) A 0 ρ' [] hout er w2) (fun w1 hb=>?_) fun w1 hb=>?_).mono ?_
 ·have s1:=s.rebase hb
  exact xc hf hc hN hA w1 _ ⟨fun g y hx=>⟨(s1.gl.1 g y hx).1.2.2,(s1.gl.1 g y hx).2⟩,fun g y hx=>⟨(s1.gl.2 g y hx).1.2.2,(s1.gl.2 g y hx).2⟩⟩
 ·refine(hP.behind s (vs:=#[.pointer (some ⟨(ρ b).blk,0,none⟩),.string ⟨#[119,104,97,116]⟩]) rfl (fun i hi=>?_) hb).mono ?_
  ·match i,hi with
   |0,_=>exact C.ptr b 0 hlb
   |1,_=>exact C.str _
  ·rintro e w' ⟨u,ρ',rfl,h⟩
   obtain⟨h1,h2,h3⟩:=h w' (Below.refl _ _)
   obtain⟨vs,rfl,h4,-⟩:=h3.tup_inv
   have h4:0=vs.size:=h4
   obtain rfl:vs= #[]:=by
    apply Array.eq_empty_of_size_eq_zero
    omega
   exact⟨rfl,ρ',h1,h2⟩
 ·rintro e w' ⟨rfl,ρ',h1,h2⟩
  exact⟨_,ρ',rfl,h1,h2,.tup [] #[] rfl (fun i hi=>by simp at hi)⟩
end Go.Proofs.YtpefhoohfkeflaaGreatDoor.Am
namespace Go.Proofs.YtpefhoohfkeflaaGreatDoor.Am
open Go Go.RowKit
theorem LK {w:Wrl}(hw:WOK w)(l:List UInt8)(hl:l.length≤600)(ho:ee w (aK 32 l)=[]):ag Tryz.prog 17 [.ptr 4 0,.str (bs l)] (dz w) (.tup []) (dz (bU w (aK 32 l))):=by
 by_cases hk:eN ((aK 32 l).getD 0 [])
 ·exact mZ (LI hw l hl hk)
 ·unfold ee at ho
  rw[if_neg hk] at ho
  by_cases hkl:(aK 32 l).getD 0 []=kf
  ·rw[if_pos hkl] at ho
   have hC:=BK hw l hl hkl
   have hs:bU w (aK 32 l)=w:=by unfold bU;rw[hkl];rfl
   have h0:w.props.length=0:=by
    rcases Nat.eq_zero_or_pos w.props.length with h|h
    ·exact h
    ·exfalso
     unfold nG at ho
     obtain⟨n,hn⟩:∃n,w.props.length=n+1:=⟨w.props.length-1,by omega⟩
     rw[hn] at ho
     simp[cR,ua] at ho
   rw[if_pos h0] at hC
   rw[hs]
   exact mZ hC
  ·rw[if_neg hkl] at ho
   simp at ho
theorem LL {w:Wrl}(hw:WOK w)(l:List UInt8)(hl:l.length≤600)(ho:ee w (aK 32 l)≠[]):ag Tryz.prog 17 [.ptr 4 0,.str (bs l)] (dz w) (.tup []) (bN (bU w (aK 32 l)) (ee w (aK 32 l))):=by
 by_cases hk:eN ((aK 32 l).getD 0 [])
 ·exact absurd (if_pos hk) ho
 ·unfold ee at ho⊢
  rw[if_neg hk] at ho⊢
  by_cases hkl:(aK 32 l).getD 0 []=kf
  ·rw[if_pos hkl] at ho⊢
   have hC:=BK hw l hl hkl
   have hs:bU w (aK 32 l)=w:=by unfold bU;rw[hkl];rfl
   have h0:w.props.length≠0:=fun h=>ho (by unfold nG;rw[h];rfl)
   rw[if_neg h0] at hC
   rw[hs]
   exact mZ hC
  ·rw[if_neg hkl]
   have hs:bU w (aK 32 l)=w:=by
    unfold eN at hk
    simp only[not_or] at hk
    unfold bU
    rw[if_neg hk.1,if_neg hk.2.1,if_neg hk.2.2.1,if_neg hk.2.2.2.1,if_neg hk.2.2.2.2.1,if_neg hk.2.2.2.2.2]
   rw[hs]
   obtain⟨fn,c,h1,h2,h3,h4⟩:=Fw l hl hk hkl
   exact xj h1 h2 h3 h4 (zU w BJ (by decide) (by decide))
theorem LM {w:Wrl}(hw:WOK w)(o:List UInt8)(hol:o.length≤5000000)(l:List UInt8)(hl:l.length≤600)(ho:ee w (aK 32 l)=[]):ag Tryz.prog 17 [.ptr 4 0,.str (bs l)] (bN w o) (.tup []) (bN (bU w (aK 32 l)) o):=by
 by_cases hk:eN ((aK 32 l).getD 0 [])
 ·exact mZ (LJ hw l hl o hk)
 ·unfold ee at ho
  rw[if_neg hk] at ho
  by_cases hkl:(aK 32 l).getD 0 []=kf
  ·rw[if_pos hkl] at ho
   have hC:=BL hw l hl o hol hkl
   have hs:bU w (aK 32 l)=w:=by unfold bU;rw[hkl];rfl
   have h0:w.props.length=0:=by
    rcases Nat.eq_zero_or_pos w.props.length with h|h
    ·exact h
    ·exfalso
     unfold nG at ho
     obtain⟨n,hn⟩:∃n,w.props.length=n+1:=⟨w.props.length-1,by omega⟩
     rw[hn] at ho
     simp[cR,ua] at ho
   rw[if_pos h0] at hC
   rw[hs]
   exact mZ hC
  ·rw[if_neg hkl] at ho
   simp at ho
theorem LN {w:Wrl}(hw:WOK w)(o:List UInt8)(hol:o.length≤5000000)(l:List UInt8)(hl:l.length≤600)(ho:ee w (aK 32 l)≠[]):ag Tryz.prog 17 [.ptr 4 0,.str (bs l)] (bN w o) (.tup []) (jN (bU w (aK 32 l)) (o++ee w (aK 32 l))):=by
 by_cases hk:eN ((aK 32 l).getD 0 [])
 ·exact absurd (if_pos hk) ho
 ·unfold ee at ho⊢
  rw[if_neg hk] at ho⊢
  by_cases hkl:(aK 32 l).getD 0 []=kf
  ·rw[if_pos hkl] at ho⊢
   have hC:=BL hw l hl o hol hkl
   have hs:bU w (aK 32 l)=w:=by unfold bU;rw[hkl];rfl
   have h0:w.props.length≠0:=fun h=>ho (by unfold nG;rw[h];rfl)
   rw[if_neg h0] at hC
   rw[hs]
   exact mZ hC
  ·rw[if_neg hkl]
   have hs:bU w (aK 32 l)=w:=by
    unfold eN at hk
    simp only[not_or] at hk
    unfold bU
    rw[if_neg hk.1,if_neg hk.2.1,if_neg hk.2.2.1,if_neg hk.2.2.2.1,if_neg hk.2.2.2.2.1,if_neg hk.2.2.2.2.2]
   rw[hs]
   obtain⟨fn,c,h1,h2,h3,h4⟩:=Fw l hl hk hkl
   have hP:=nV w o BJ (by decide) (by show o.length+4≤_;omega)
   rw[bJ] at hP
   exact xj h1 h2 h3 h4 hP
end Go.Proofs.YtpefhoohfkeflaaGreatDoor.Am
namespace Go.Proofs.YtpefhoohfkeflaaGreatDoor.Am
open Go
theorem A9 (c:UInt8)(b:List UInt8):∀a:List UInt8,c∉a→aK c (a++c::b)=a::aK c b
 |[],_=>by simp[aK]
 |x::a,h=>by
  have hx:¬x=c:=fun e=>h (by simp[e])
  rw[gH,aK,if_neg hx,A9 c b a fun hm=>h (by simp[hm])]
  rfl
theorem pJ (c:UInt8):∀a:List UInt8,c∉a→aK c a=[a]
 |[],_=>rfl
 |x::a,h=>by
  have hx:¬x=c:=fun e=>h (by simp[e])
  rw[aK,if_neg hx,pJ c a fun hm=>h (by simp[hm])]
  rfl
theorem sk (c:UInt8):∀(l w:List UInt8),w∈aK c l→c∉w
 |[],w,h=>by simp[aK] at h;simp[h]
 |x::l,w,h=>by
  unfold aK at h
  split at h
  ·rcases aA.1 h with rfl|h
   ·simp
   ·exact sk c l w h
  ·rename_i hx
   have hne:=lp c l
   have ih:=sk c l
   generalize aK c l=k at *
   cases k with
   |nil=>exact absurd rfl hne
   |cons y k=>
    simp only[kl,aA] at h
    rcases h with rfl|h
    ·have:=ih y (by simp)
     simp only[List.singleton_append,aA,not_or]
     exact⟨fun e=>hx e.symm,this⟩
    ·exact ih w (by simp[h])
def cI (ls:List (List UInt8)):List UInt8:=(ls.map fun l=>l++[10]).flatten
theorem kF (l:List UInt8)(ls:List (List UInt8)):cI (l::ls)=l++10::cI ls:=by simp[cI]
theorem jb (ls:List (List UInt8))(l:List UInt8):cI (ls++[l])=cI ls++(l++[10]):=by simp[cI]
theorem sm:∀(ls:List (List UInt8)) (b:List UInt8),(∀l∈ls,(10:UInt8)∉l)→aK 10 (cI ls++b)=ls++aK 10 b
 |[],b,_=>rfl
 |l::ls,b,h=>by
  rw[kF,bJ,gH,A9 10 _ l (h l (by simp)),sm ls b fun x hx=>h x (by simp[hx])]
  rfl
def jc (t:List UInt8):List (List UInt8):=(aK 10 t).dropLast
theorem sV (t:List UInt8):∀l∈jc t,(10:UInt8)∉l:=fun l hl=>sk 10 t l (List.dropLast_subset _ hl)
theorem sK:∀t:List UInt8,∃l,t=cI (jc t)++l∧(10:UInt8)∉l
 |[]=>⟨[],rfl,by simp⟩
 |x::t=>by
  obtain⟨l,h1,h2⟩:=sK t
  have hne:=lp 10 t
  by_cases hx:x=10
  ·refine⟨l,?_,h2⟩
   have:jc (x::t)=[]::jc t:=by
    unfold jc
    rw[aK,if_pos hx,List.dropLast_cons_of_ne_nil hne]
   rw[this,kF,eB,gH,←h1,hx]
  ·unfold jc at h1⊢
   rw[aK,if_neg hx]
   generalize hk:aK 10 t=k at *
   cases k with
   |nil=>exact absurd rfl hne
   |cons y k=>
    cases k with
    |nil=>
     refine⟨x::t,rfl,?_⟩
     have:t=l:=by simpa[cI] using h1
     rw[aA,not_or]
     exact⟨fun e=>hx e.symm,by rw[this];exact h2⟩
    |cons z k=>
     refine⟨l,?_,h2⟩
     have e1:(y::z::k).dropLast=y::(z::k).dropLast:=rfl
     have e2:(kl [x] (y::z::k)).dropLast=(x::y)::(z::k).dropLast:=rfl
     rw[e1,kF] at h1
     rw[e2,kF,gH,gH,←h1]
theorem FG (ls:List (List UInt8))(h:∀l∈ls,(10:UInt8)∉l):jc (cI ls)=ls:=by
 have:=sm ls [] h
 rw[gG] at this
 rw[jc,this]
 simp[aK]
noncomputable def outR (ls:List (List UInt8)):List UInt8:=(bT ls).2++outO (bT ls).1
theorem KT {t:List UInt8}(h:t.length≤600):exT t=outR (jc t):=by
 rw[exT,if_neg (by omega)]
 rfl
theorem Bu (t:List UInt8):(cI (jc t)).length≤t.length:=by
 obtain⟨l,h,-⟩:=sK t
 have:=congrArg List.length h
 rw[aO] at this
 omega
theorem Kl {w:Wrl}(hc:w.com.length=4)(hb:w.bad=3):outO w=linO w 0++linO w 1++linO w 2:=by
 unfold outO
 rw[hc]
 simp only[outOs,hb]
 simp
theorem uL:∀l:List Slt,(∀s∈l,(0≤s.round∧s.round≤30)∧0≤s.author∧s.author<7)→(10:UInt8)∉bR l
 |[],_=>by simp[bR]
 |s::l,h=>by
  have h1:=h s (by simp)
  have h2:=uL l fun x hx=>h x (by simp[hx])
  have d1:(10:UInt8)∉aR s.round:=oA 10 (by decide) 3 _ (by omega)
  have d2:(10:UInt8)∉aR s.author:=oA 10 (by decide) 3 _ (by omega)
  simp only[bR,jx,bi,not_or]
  exact⟨⟨⟨⟨by decide,d1⟩,by decide⟩,d2⟩,h2⟩
noncomputable def linM (w:Wrl) (m:Nat):List UInt8:=cw++aR m++bR (wo w m)
theorem pV {w:Wrl}(hw:WOK w)(m:Nat)(hm:m<4):(10:UInt8)∉linM w m:=by
 have d1:(10:UInt8)∉aR (m:Int):=oA 10 (by decide) 3 _ (by omega)
 simp only[linM,bi,not_or]
 exact⟨⟨by decide,d1⟩,uL _ (Cy hw m)⟩
theorem uK {w:Wrl}(hc:w.com.length=4)(hb:w.bad=3):outO w=cI [linM w 0,linM w 1,linM w 2]:=by
 rw[Kl hc hb]
 simp[cI,linO,linM]
theorem ta (w:Wrl):∀n,∃ls,cR w n=cI ls
 |0=>⟨[],rfl⟩
 |n+1=>by
  obtain⟨ls,h⟩:=ta w n
  refine⟨ls++[aR n++[32]++aR (w.props.getD n p0).v.round++[46]++aR (w.props.getD n p0).v.author++[32]++aR (w.props.getD n p0).v.digest++LF++aR (w.props.getD n p0).members.length],?_⟩
  rw[cR,h,jb]
  rfl
theorem AC (w:Wrl)(ws:List (List UInt8)):∃ls,ee w ws=cI ls:=by
 unfold ee
 split
 ·exact⟨[],rfl⟩
 split
 ·exact ta w _
 ·exact⟨[BJ],rfl⟩
theorem EX (a b:List (List UInt8)):cI (a++b)=cI a++cI b:=by simp[cI]
theorem Dp (ls:List (List UInt8)):∃k,(bT ls).2=cI k:=by
 induction ls using cq with
 |h0=>exact⟨[],rfl⟩
 |h l x ih=>
  obtain⟨k,hk⟩:=ih
  obtain⟨j,hj⟩:=AC (bT l).1 (aK 32 x)
  exact⟨k++j,by rw[fR,nK,hk,hj,EX]⟩
theorem Dj (ls:List (List UInt8)):∃h:List UInt8,(h=[]∨∃g,h=g++[10])∧(bT ls).2=h:=by
 obtain⟨k,hk⟩:=Dp ls
 refine⟨_,?_,rfl⟩
 rw[hk]
 rcases List.eq_nil_or_concat k with rfl|⟨k,l,rfl⟩
 ·exact .inl rfl
 ·rw[List.concat_eq_append,jb,←bJ]
  exact .inr ⟨_,rfl⟩
end Go.Proofs.YtpefhoohfkeflaaGreatDoor.Am
namespace Go.Proofs.YtpefhoohfkeflaaGreatDoor.Am
open Go Go.RowKit
theorem Kc (w:Wrl)(o:List UInt8)(h0:o≠[]):ag Tryz.prog 19 [.ptr 4 5] (bN w o) (.str (bs o)) [(4,.var 43 [.lst (.int .i64) w.com,.lst (.int .i64) w.lead,.int .i64 w.bad,.lst (.lst .vtx) w.views,.lst .ppl w.props,.ptr 4 5,.ref 5]),(5,.gone)]:=by
 have hr:((fm o).map (D.int .u8))=o.map fun c=>D.int .u8 (c.toNat:Int):=by rw[fm,ep];rfl
 refine HE (h:=toH (bN w o)) (b:=(4,0)) (b2:=(5,0)) rfl rfl ?_ h0 _ fun b'=>?_
 ·rw[←hr];rfl
 ·exact congrArg (fun z=>look z b') rfl
theorem Iu:ag Tryz.prog 15 [.lst (.int .i64) [1,1,1,1],.lst (.int .i64) [0,1,2,0,1,2,0,1],.int .i64 3] [] (.tup [bd MW,.bool true]) []:=by
 have h:=Lr [1,1,1,1] [0,1,2,0,1,2,0,1] 3
 rw[if_pos (by decide+kernel)] at h
 exact h
noncomputable def exS (ks:List (List UInt8)) (i:Nat):VSt:=
 if(bT (ks.take i)).2=[] then⟨[(3,.ptr 4 0),(27,.lst .str (ks.map bs)),(28,.int .i64 (ks.map bs).length),(29,.int .i64 (i:Int))],dz (bT (ks.take i)).1,5⟩
 else⟨[(3,.ptr 4 0),(27,.lst .str (ks.map bs)),(28,.int .i64 (ks.map bs).length),(29,.int .i64 (i:Int))],bN (bT (ks.take i)).1 (bT (ks.take i)).2,6⟩
theorem Bm {ks:List (List UInt8)}{i:Nat}{w:Wrl}(h:bT (ks.take i)=(w,[])):exS ks i=⟨[(3,.ptr 4 0),(27,.lst .str (ks.map bs)),(28,.int .i64 (ks.map bs).length),(29,.int .i64 (i:Int))],dz w,5⟩:=by
 unfold exS
 rw[h,if_pos rfl]
theorem xD {ks:List (List UInt8)}{i:Nat}{w:Wrl}{o:List UInt8}(h:bT (ks.take i)=(w,o))(h0:o≠[]):exS ks i=⟨[(3,.ptr 4 0),(27,.lst .str (ks.map bs)),(28,.int .i64 (ks.map bs).length),(29,.int .i64 (i:Int))],bN w o,6⟩:=by
 unfold exS
 rw[h,if_neg h0]
theorem IT {w:Wrl}(hc:w.com.length=4)(hb:w.bad=3):outO w≠[]:=by
 rw[Kl hc hb]
 simp[linO]
attribute [local irreducible] Mk ck Ari fK mQ jM cd cX i7 fC At ag
set_option maxRecDepth 10000
set_option maxHeartbeats 4000000 in
theorem uy (t:List UInt8)(ht:t.length≤2000000):ag Tryz.prog 7 [.str (bs t)] [] (.str (bs (exT t))) []:=by
 have hsz:(bs t).size=t.length:=rfl
 unfold exT
 by_cases h6:600<t.length
 ·rw[if_pos h6]
  refine ab aj Tryz.func7 rfl rfl false 0 4 rfl rfl rfl rfl fun K hK hb1 hb2=>?_;simp only[ae,enc,Nat.reduceAdd]
  clear hb1 hb2
  (repeat' first|refine st ?_|refine sa fun xe hxe=>?_|refine sb (fun hq=>?_) fun hq=>?_|exact aa)
  exact⟨rfl,rfl⟩
 rw[if_neg h6]
 have hC:=pR t 10 (by omega)
 have hle:=iY 10 t
 have hlen:=eI 10 t
 have hmem:=gb 10 t
 generalize aK 10 t=ls at *
 have hml:(ls.map bs).length=ls.length:=az ..
 have hcut:ma (ls.map bs) none (some (.int .i64 (((ls.map bs).length:Int)-1))) 0 (((ls.map bs).length:Int)-1).toNat=ls.dropLast.map bs:=by
  have e:(((ls.map bs).length:Int)-1).toNat=ls.length-1:=by omega
  rw[e,List.dropLast_eq_take,List.map_take]
  rfl
 have hmem:∀x∈ls.dropLast,x.length≤600:=fun x hx=>by have:=hmem x (List.dropLast_subset _ hx);omega
 have hkl:ls.dropLast.length=ls.length-1:=List.length_dropLast
 have hN:=Iu
 generalize hk:ls.dropLast=ks at *
 refine ab aj Tryz.func7 rfl rfl false 0 4 rfl rfl rfl rfl fun K hK hb1 hb2=>?_;simp only[ae,enc,Nat.reduceAdd]
 clear hb1 hb2
 (repeat' first|refine st ?_|refine sa fun xe hxe=>?_|refine sb (fun hq=>?_) fun hq=>?_|refine cr (hC) ?_|refine cr (hN) ?_|exact aa)
 rw[hcut]
 have h0:=Bm (ks:=ks) (i:=0) (w:=MW) rfl
 refine ah hK [] [3,27,28,29] (exS ks) (fun i=>i≤ks.length) (fun i=>ks.length-i) 0 (aX _) (by rw[h0];rfl) ?_
 clear h0
 have hkm:(ks.map bs).length=ks.length:=az ..
 intro i hi
 have hol:=tq (ks.take i)
 rw[bQ,mO hi] at hol
 have hok:=o9 (ks.take i)
 by_cases hlt:i<ks.length
 ·have hx:(ks.map bs)[i]?=some (bs ks[i]):=by rw[bf,am hlt];rfl
  have hs:bT (ks.take (i+1))=nK (bT (ks.take i)) ks[i]:=by rw[ca hlt,fR]
  have hll:=hmem _ (be hlt)
  generalize hr:bT (ks.take i)=r at *
  generalize ks[i]=l at *
  obtain⟨w,o⟩:=r
  dsimp only at *
  by_cases ho:o=[]
  ·subst ho
   have e1:=Bm hr
   by_cases hst:ee w (aK 32 l)=[]
   ·have hE:=LK hok l hll hst
    have e2:=Bm (ks:=ks) (i:=i+1) (w:=bU w (aK 32 l)) (by rw[hs,nK,hst];rfl)
    rw[e1]
    generalize bU w (aK 32 l)=u at *
    clear e1 hs hr hst hC hcut hk
    generalize ks.map bs=O at *
    (repeat' first|((first|with_reducible refine aF ?_ (by assumption)|with_reducible refine aE ?_ (by assumption));conv=>whnf)|refine st ?_|refine sa fun xe hxe=>?_|refine sb (fun hq=>?_) fun hq=>?_|((with_reducible refine aG ?_)<;>conv=>whnf)|refine co (hE) ?_|exact aa)
    exact⟨i+1,by omega,by omega,e2.symm⟩
   ·have hE:=LL hok l hll hst
    have e2:=xD (ks:=ks) (i:=i+1) (w:=bU w (aK 32 l)) (o:=ee w (aK 32 l)) (by rw[hs];rfl) hst
    rw[e1]
    generalize bU w (aK 32 l)=u at *
    clear e1 hs hr hC hcut hk
    generalize ee w (aK 32 l)=so at *
    generalize ks.map bs=O at *
    (repeat' first|((first|with_reducible refine aF ?_ (by assumption)|with_reducible refine aE ?_ (by assumption));conv=>whnf)|refine st ?_|refine sa fun xe hxe=>?_|refine sb (fun hq=>?_) fun hq=>?_|((with_reducible refine aG ?_)<;>conv=>whnf)|refine co (hE) ?_|exact aa)
    exact⟨i+1,by omega,by omega,e2.symm⟩
  ·have e1:=xD hr ho
   by_cases hst:ee w (aK 32 l)=[]
   ·have hE:=LM hok o (by omega) l hll hst
    have e2:=xD (ks:=ks) (i:=i+1) (w:=bU w (aK 32 l)) (o:=o) (by rw[hs,nK,hst,gG]) ho
    rw[e1]
    generalize bU w (aK 32 l)=u at *
    clear e1 hs hr hst hC hcut hk
    generalize ks.map bs=O at *
    (repeat' first|((first|with_reducible refine aF ?_ (by assumption)|with_reducible refine aE ?_ (by assumption));conv=>whnf)|refine st ?_|refine sa fun xe hxe=>?_|refine sb (fun hq=>?_) fun hq=>?_|((with_reducible refine aG ?_)<;>conv=>whnf)|refine co (hE) ?_|exact aa)
    exact⟨i+1,by omega,by omega,e2.symm⟩
   ·have hE:=LN hok o (by omega) l hll hst
    have e2:=xD (ks:=ks) (i:=i+1) (w:=bU w (aK 32 l)) (o:=o++ee w (aK 32 l)) (by rw[hs];rfl) (by simp[ho])
    rw[e1]
    generalize bU w (aK 32 l)=u at *
    clear e1 hs hr hC hcut hk
    generalize o++ee w (aK 32 l)=so at *
    generalize ks.map bs=O at *
    (repeat' first|((first|with_reducible refine aF ?_ (by assumption)|with_reducible refine aE ?_ (by assumption));conv=>whnf)|refine st ?_|refine sa fun xe hxe=>?_|refine sb (fun hq=>?_) fun hq=>?_|((with_reducible refine aG ?_)<;>conv=>whnf)|refine co (hE) ?_|exact aa)
    exact⟨i+1,by omega,by omega,e2.symm⟩
 ·obtain rfl:i=ks.length:=by omega
  have hlb:=wm (ks.take ks.length)
  have htk:ks.take ks.length=ks:=iH
  generalize hr:bT (ks.take ks.length)=r at *
  have hr2:bT ks=r:=by rw[←hr,htk]
  rw[hr2]
  obtain⟨w,o⟩:=r
  dsimp only at *
  have hne:=IT (w:=w) (by rw[hlb.2.2];rfl) hlb.2.1
  by_cases ho:o=[]
  ·subst ho
   rw[Bm hr]
   have hF:=LO hok (by rw[hlb.2.2];rfl) hlb.2.1
   have hT:=Kc w (outO w) hne
   rw[eB]
   generalize outO w=oo at *
   clear hr hr2 hC hcut hk
   generalize ks.map bs=O at *
   (repeat' first|refine st ?_|refine sa fun xe hxe=>?_|refine sb (fun hq=>?_) fun hq=>?_|refine co (hF) ?_|refine co (hT) ?_|exact aa)
   exact⟨rfl,rfl⟩
  ·rw[xD hr ho]
   have hF:=LP hok (by rw[hlb.2.2];rfl) hlb.2.1 o (by omega)
   have hT:=Kc w (o++outO w) (by simp[ho])
   generalize o++outO w=oo at *
   clear hr hr2 hC hcut hk
   generalize ks.map bs=O at *
   (repeat' first|refine st ?_|refine sa fun xe hxe=>?_|refine sb (fun hq=>?_) fun hq=>?_|refine co (hF) ?_|refine co (hT) ?_|exact aa)
   exact⟨rfl,rfl⟩
end Go.Proofs.YtpefhoohfkeflaaGreatDoor.Am
namespace Go.Proofs.YtpefhoohfkeflaaGreatDoor.Am
open Go Go.RowKit
attribute [local irreducible] Mk ck Ari fK mQ jM cd cX i7 fC At ag
set_option maxRecDepth 10000
theorem Pb (s:ByteArray):ag Tryz.prog 3 [.str s] [] (.bool true) []:=by
 obtain⟨t,rfl⟩:∃t,s=bs t:=⟨s.data.toList,by cases s;simp[bs]⟩
 have hsz:(bs t).size=t.length:=rfl
 by_cases hl:1048576<t.length
 ·refine ab aj Tryz.func3 rfl rfl false 0 4 rfl rfl rfl rfl fun K hK hb1 hb2=>?_;simp only[ae,enc,Nat.reduceAdd]
  clear hb1 hb2
  (repeat' first|refine st ?_|refine sa fun xe hxe=>?_|refine sb (fun hq=>?_) fun hq=>?_|exact aa)
  exact⟨rfl,rfl⟩
 have h1:=GH t (by omega)
 have h2:=uy t (by omega)
 generalize exT t=o at *
 refine ab aj Tryz.func3 rfl rfl false 0 4 rfl rfl rfl rfl fun K hK hb1 hb2=>?_;simp only[ae,enc,Nat.reduceAdd]
 clear hb1 hb2
 (repeat' first|refine st ?_|refine sa fun xe hxe=>?_|refine sb (fun hq=>?_) fun hq=>?_|refine cr (h1) ?_|refine cr (h2) ?_|exact aa)
 all_goals first|exact⟨rfl,rfl⟩|exact absurd trivial hq
end Go.Proofs.YtpefhoohfkeflaaGreatDoor.Am
namespace Go.Proofs.YtpefhoohfkeflaaGreatDoor.Am
open Go Go.RowKit Go.ChangeShapes Go.WideShapes Go.ChangeAt
theorem sP {P:Program}{n:String}{zs:List Int}{k:IntKind}{r:List (String×DataW Unit)}{W:World}{g len:Nat}{t e:TypeId}
  (h:laidMet P ((n,.agg (zs.map fun z=>.lit (.int k z)))::r) W) (hg:P.globalNamed n=some g) (ht:(P.globals[g]?).map (·.type)=some t) (hi:P.underlying t=some (.array len e)) (he:P.underlying e=some (.int k)) (hc:P.cellsOf e=1) (hct:P.cellsOf t=len) (hl:zs.length=len):
  g<W.heap.size∧∃T fz,W.heap[g]?=some (.cells (zs.map (Value.int k)).toArray T fz):=by
 obtain⟨ps,⟨g0,t0,cs,f0,p0,q0,hg0,ht0,hv0,hd0,_,e0⟩,_,_⟩:=h
 obtain rfl:=ar (hg.symm.trans hg0)
 obtain rfl:=ar (ht.symm.trans ht0)
 obtain⟨xs,m,_,ex,hcl,hxl,hel⟩:=DataW.trod_array hi hd0
 have e3:xs.map (·.1)=zs.map fun z=>.lit (.int k z):=(DataW.agg.inj (Prod.mk.inj ex).1).symm
 have hcs:cs=(zs.map (Value.int k)).toArray:=by
  apply Array.ext'
  refine mJ fun i=>?_
  by_cases hi2:i<len
  ·have hE:=hel i hi2
   rw[hc,iX,am (by omega)] at hE
   obtain⟨z,e1,e2,_⟩:=DataW.trod_int he hE
   have e4:(xs.map (·.1))[i]?=(zs.map fun z=>(DataW.lit (.int k z):DataW Unit))[i]?:=by rw[e3]
   rw[bf,bf,am (by omega:i<xs.length),am (by omega:i<zs.length),e2] at e4
   have hz:z=zs[i]:=by
    simp only[aJ,aw,DataW.lit.injEq,Lit.int.injEq,true_and] at e4
    exact e4
   have h0:((cs.toList.drop i).take 1)[0]?=some (.int k z):=by rw[e1];rfl
   have h1:cs.toList[i]?=some (.int k z):=by simpa using h0
   rw[h1,hz,bf,am (by omega:i<zs.length)]
   rfl
  ·rw[dP (by omega),dP (by rw[az];omega)]
 unfold World.var? at hv0
 rw[hg] at hv0
 simp only[bc] at hv0
 split at hv0
 ·rename_i c T fz hh
  obtain rfl:=ar hv0
  refine⟨?_,T,fz,by rw[←hcs];exact hh⟩
  rcases ct g W.heap.size with q|q
  ·exact q
  ·rw[Array.getElem?_eq_none q] at hh
   cases hh
 ·cases hv0
set_option maxRecDepth 100000 in
theorem Jy {H:Type}{enc:TypeId×Value→H}{W:World}{sp:Nat→Bool}{hd:Bool}{v:Value}{d:DataW H}{p:List MemPlace}{base:Nat}
  (hv:Value.okWide Tryz.prog W .any base 9 v) (_h:DataW.Trod enc Tryz.prog W 0 sp hd 9 v d p):∃s:ByteArray,Rep (fun k=>k<W.heap.size) W (V.str s).toD v:=by
 obtain⟨s,rfl⟩:=okWide_string Tryz.underlying9 hv
 exact⟨s,.str s⟩
set_option maxRecDepth 100000 in
theorem xi {H:Type}{enc:TypeId×Value→H}{W:World}{sp:Nat→Bool}{hd:Bool}{v:Value}{d:DataW H}{p:List MemPlace}{base:Nat}
  (hv:Value.okWide Tryz.prog W .any base 24 v) (h:DataW.Trod enc Tryz.prog W 0 sp hd 24 v d p):∃c:List Int,(∀x∈c,0≤x∧x≤255)∧Rep (fun k=>k<W.heap.size) W (V.lst (.int .u8) c).toD v:=
 CN Tryz.underlying24 Tryz.underlying5 (by kernel_rfl) hv h
end Go.Proofs.YtpefhoohfkeflaaGreatDoor.Am
namespace Go.Proofs.YtpefhoohfkeflaaGreatDoor.Am
open Go Go.RowKit
attribute [local irreducible] Mk ck Ari fK mQ jM cd cX i7 fC At ag
set_option maxRecDepth 10000
theorem OS (b:List Int)(p:Int)(L:List ByteArray)(h:Gj b 0)(hp:0≤p∧p≤100000000)(hL:1≤L.length∧L.length≤1000)(hm:∀x∈L,x.size≤10):
  ∃s:ByteArray,s.size≤10∧ag Tryz.prog 46 [.ptr 4 0,.lst .str L] [(4,Gi b p)] (.str s) [(4,Gi b (p+1))]:=by
 obtain⟨v,hv,hc⟩:=Me b p L.length h hp (by omega)
 obtain⟨i,rfl⟩:∃i:Nat,v=i:=⟨v.toNat,by omega⟩
 have hi:i<L.length:=by omega
 have hx:L[i]?=some L[i]:=am hi
 refine⟨L[i],hm _ (be hi),?_⟩
 generalize L[i]=s at *
 refine ab aj Tryz.func46 rfl rfl false 1 5 rfl rfl rfl rfl fun K hK hb1 hb2=>?_;simp only[ae,enc,Nat.reduceAdd]
 clear hb1 hb2
 (repeat' first|refine st ?_|refine sa fun xe hxe=>?_|refine sb (fun hq=>?_) fun hq=>?_|refine co (hc) ?_|exact aa)
 exact⟨rfl,rfl⟩
theorem LZ (s:ByteArray)(n:Int)(hs:s.size=5)(hn:116≤n∧n≤121):∃o:ByteArray,o.size≤605∧ag Tryz.prog 23 [.str s,.int .i64 n] [] (.str o) []:=by
 suffices hs:∃r hout,(∃o:ByteArray,o.size≤605∧r= .str o∧hout=[])∧ag Tryz.prog 23 [.str s,.int .i64 n] [] r hout by
  obtain⟨r,hout,⟨v,hv,rfl,rfl⟩,h⟩:=hs
  exact⟨v,hv,h⟩
 refine l9 aj Tryz.func23 rfl rfl true 0 4 rfl rfl rfl rfl (R:=fun r hout=>∃o:ByteArray,o.size≤605∧r= .str o∧hout=[]) (r0:=.str ⟨#[]⟩) (hout0:=[]) (⟨⟨#[]⟩,by decide,rfl,rfl⟩) fun K hK hb1 hb2=>?_;simp only[ae,enc,Nat.reduceAdd]
 clear hb1 hb2
 (repeat' first|refine st ?_|refine sa fun xe hxe=>?_|refine sb (fun hq=>?_) fun hq=>?_|exact aa)
 refine ah hK [] [0,1,5] (fun x:ByteArray×Nat×ByteArray=>⟨[(0,.str x.1),(1,.int .i64 (x.2.1:Int)),(5,.str x.2.2)],[],4⟩) (fun x=>x.2.2.size+x.1.size*x.2.1≤605∧x.2.1≤121∧x.1.size≤1210) (fun x=>x.2.1) (s,n.toNat,⟨#[]⟩) ⟨by dsimp only;rw[hs];show 0+_≤_;omega,by dsimp only;omega,by dsimp only;omega⟩ (by dsimp only;rw[show ((n.toNat:Nat):Int)=n by omega];rfl) ?_
 rintro⟨s,n,o⟩ ⟨h1,h2,h3⟩
 dsimp only at h1 h2 h3⊢
 have ho:o.size≤605:=by omega
 by_cases h0:n=0
 ·subst h0
  (repeat' first|refine st ?_|refine sa fun xe hxe=>?_|refine sb (fun hq=>?_) fun hq=>?_|exact aa)
  exact⟨o,ho,rfl,rfl⟩
 ·have hm:s.size≤605:=by
   have:=Nat.mul_le_mul_left s.size (show 1≤n by omega)
   omega
  have hr:((n:Int)).tmod 2=((n % 2:Nat):Int):=by rw[Int.tmod_eq_emod_of_nonneg (by omega)];omega
  have hd:((n:Int)).tdiv 2=((n/2:Nat):Int):=by rw[jH (by omega)];omega
  have hss:(s++s).size=s.size+s.size:=ByteArray.size_append
  have hos:(o++s).size=o.size+s.size:=ByteArray.size_append
  have e2:(s.size+s.size)*(n/2)=s.size*(2*(n/2)):=by rw[←Nat.two_mul,Nat.mul_comm 2 s.size,Nat.mul_assoc]
  rcases Nat.mod_two_eq_zero_or_one n with hp|hp
  ·rw[hp] at hr
   have e3:2*(n/2)=n:=by omega
   rw[e3] at e2
   (repeat' first|((first|with_reducible refine aF ?_ (by assumption)|with_reducible refine aE ?_ (by assumption));conv=>whnf)|refine st ?_|refine sa fun xe hxe=>?_|refine sb (fun hq=>?_) fun hq=>?_|((with_reducible refine aG ?_)<;>conv=>whnf)|exact aa)
   refine⟨(s++s,n/2,o),⟨?_,by dsimp only;omega,by dsimp only;omega⟩,by dsimp only;omega,by dsimp only;rw[hd]⟩
   dsimp only
   rw[hss,e2]
   exact h1
  ·rw[hp] at hr
   have e3:2*(n/2)+1=n:=by omega
   have e4:s.size*(2*(n/2))+s.size=s.size*n:=by rw[←Nat.mul_succ,Nat.succ_eq_add_one,e3]
   (repeat' first|((first|with_reducible refine aF ?_ (by assumption)|with_reducible refine aE ?_ (by assumption));conv=>whnf)|refine st ?_|refine sa fun xe hxe=>?_|refine sb (fun hq=>?_) fun hq=>?_|((with_reducible refine aG ?_)<;>conv=>whnf)|exact aa)
   refine⟨(s++s,n/2,o++s),⟨?_,by dsimp only;omega,by dsimp only;omega⟩,by dsimp only;omega,by dsimp only;rw[hd]⟩
   dsimp only
   rw[hss,hos,e2]
   omega
set_option maxHeartbeats 8000000 in
theorem No (b:List Int)(p:Int)(h:Gj b 0)(hp:0≤p∧p≤1000000):∃x:ByteArray×Int,(p≤x.2∧x.2≤p+10∧x.1.size≤40)∧ag Tryz.prog 22 [.ptr 4 0] [(4,Gi b p)] (.str x.1) [(4,Gi b x.2)]:=by
 suffices hs:∃r hout,(∃x:ByteArray×Int,(p≤x.2∧x.2≤p+10∧x.1.size≤40)∧r= .str x.1∧hout=[(4,Gi b x.2)])∧ag Tryz.prog 22 [.ptr 4 0] [(4,Gi b p)] r hout by
  obtain⟨r,hout,⟨v,hv,rfl,rfl⟩,h⟩:=hs
  exact⟨v,hv,h⟩
 refine l9 aj Tryz.func22 rfl rfl true 1 5 rfl rfl rfl rfl (R:=fun r hout=>∃x:ByteArray×Int,(p≤x.2∧x.2≤p+10∧x.1.size≤40)∧r= .str x.1∧hout=[(4,Gi b x.2)]) (r0:=.str ⟨#[]⟩) (hout0:=[(4,Gi b p)]) (⟨(⟨#[]⟩,p),⟨by dsimp only;omega,by dsimp only;omega,aX 40⟩,rfl,rfl⟩) fun K hK hb1 hb2=>?_;simp only[ae,enc,Nat.reduceAdd]
 clear hb1 hb2
 (repeat' first|((first|with_reducible refine aF ?_ (by assumption)|with_reducible refine aE ?_ (by assumption));conv=>whnf)|refine st ?_|refine sa fun xe hxe=>?_|refine sb (fun hq=>?_) fun hq=>?_|((with_reducible refine aG ?_)<;>conv=>whnf)|((with_reducible refine fF ?_);(conv=>whnf);(first|refine ou (OS b _ _ h (by omega) (by decide) (by decide)) fun xv hxv=>?_|refine ou (Me b _ _ h (by omega) (by omega)) fun xv hxv=>?_);conv=>whnf)|exact aa)
 all_goals
  refine⟨(_,_),⟨?_,?_,?_⟩,rfl,rfl⟩
  ·dsimp only;omega
  ·dsimp only;omega
  ·dsimp only
   first|omega|(simp only[ByteArray.size_append,JZ,aO,bH,dG,az];omega)

end Go.Proofs.YtpefhoohfkeflaaGreatDoor.Am
