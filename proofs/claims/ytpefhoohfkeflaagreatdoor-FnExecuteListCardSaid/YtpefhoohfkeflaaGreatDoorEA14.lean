/- Scripts: a script is drawn; complete lines; last lines. Scripts: the laws of lines. Scripts: in the end all agree. -/
import Derived.Test.YtpefhoohfkeflaaGreatDoorEA13
set_option linter.unusedSimpArgs false
set_option linter.unusedVariables false
set_option maxHeartbeats 1000000
namespace Go.Proofs.YtpefhoohfkeflaaGreatDoor.Am
open Go Go.RowKit
theorem EY {a l:List UInt8}(h:(10:UInt8)∉l):cI (jc (a++10::l))=a++[10]:=by
 obtain⟨x,h1,h2⟩:=sK a
 have hf:∀y∈jc a++[x],(10:UInt8)∉y:=fun y hy=>by
  rcases bi.1 hy with hy|hy
  ·exact sV a y hy
  ·rw[aY.1 hy];exact h2
 have e:a++10::l=cI (jc a++[x])++l:=by
  rw[jb,←bJ,←h1]
  simp
 have e2:jc (a++10::l)=jc a++[x]:=by
  unfold jc
  rw[e,sm _ l hf,pJ 10 l h,List.dropLast_concat]
  rfl
 rw[e2,jb,←bJ,←h1]
theorem H9 {t:List UInt8}(h:(10:UInt8)∉t):cI (jc t)=[]:=by
 unfold jc
 rw[pJ 10 t h]
 rfl
theorem D8 (o:List UInt8)(j:Nat)(hj:j<o.length):(o.drop j).count 10=(o.drop (j+1)).count 10+(if o[j]=10 then 1 else 0):=by
 rw[nQ hj,List.count_cons]
 simp only[beq_iff_eq]
attribute [local irreducible] Mk ck Ari fK mQ jM cd cX i7 fC At ag
set_option maxRecDepth 10000
theorem J3 (t:List UInt8)(ht:t.length≤2000000):ag Tryz.prog 10 [.str (bs t)] [] (.str (bs (cI (jc t)))) []:=by
 have hsz:(bs t).size=t.length:=rfl
 refine ab aj Tryz.func10 rfl rfl false 0 4 rfl rfl rfl rfl fun K hK hb1 hb2=>?_;simp only[ae,enc,Nat.reduceAdd]
 clear hb1 hb2
 (repeat' first|refine st ?_|refine sa fun xe hxe=>?_|refine sb (fun hq=>?_) fun hq=>?_|exact aa)
 refine ah hK [] [0,3] (fun i:Nat=>⟨[(0,.str (bs t)),(3,.int .i64 (i:Int))],[],4⟩) (fun i=>i≤t.length∧(10:UInt8)∉t.drop i) (fun i=>i) t.length ⟨ax _,by simp⟩ rfl ?_
 rintro i ⟨hi,hn⟩
 cases i with
 |zero=>
  rw[List.drop_zero] at hn
  rw[H9 hn]
  (repeat' first|refine st ?_|refine sa fun xe hxe=>?_|refine sb (fun hq=>?_) fun hq=>?_|exact aa)
  exact⟨rfl,rfl⟩
 |succ j=>
  have hj:j<t.length:=by omega
  have hx:t.getD ((((j+1:Nat):Int)-1).toNat) 0=t[j]:=by
   rw[show (((j+1:Nat):Int)-1).toNat=j by omega,aq,am hj]
   rfl
  by_cases hc:t[j]=10
  ·have hxn:(((t.getD ((((j+1:Nat):Int)-1).toNat) 0).toNat:Nat):Int)=10:=by rw[hx,hc];rfl
   have he:(bs t).extract 0 (j+1)=bs (cI (jc t)):=by
    have e:t=t.take j++10::t.drop (j+1):=by rw[←hc,←nQ hj,List.take_append_drop]
    rw[lk]
    congr 1
    rw[e,EY hn,←e,List.drop_zero,Nat.sub_zero,ca hj,hc]
   (repeat' first|refine st ?_|refine sa fun xe hxe=>?_|refine sb (fun hq=>?_) fun hq=>?_|exact aa)
   exact⟨congrArg V.str he,rfl⟩
  ·have hxn:¬(((t.getD ((((j+1:Nat):Int)-1).toNat) 0).toNat:Nat):Int)=10:=by
    rw[hx]
    intro h
    exact hc (UInt8.toNat_inj.1 (by first|(have h2:(t[j].toNat:Int)=10:=h;show t[j].toNat=10;omega)|(have h2:(o[j].toNat:Int)=10:=h;show o[j].toNat=10;omega)))
   (repeat' first|refine st ?_|refine sa fun xe hxe=>?_|refine sb (fun hq=>?_) fun hq=>?_|exact aa)
   refine⟨j,⟨by omega,?_⟩,by omega,?_⟩
   ·rw[nQ hj,aA,not_or]
    exact⟨fun e=>hc e.symm,hn⟩
   ·rw[show ((j:Nat):Int)=((j+1:Nat):Int)-1 by omega]
theorem FH (h s:List UInt8)(hh:h=[]∨∃g,h=g++[10])(hs:s.count 10=3)(hl:(h++s).length≤200000000):ag Tryz.prog 9 [.str (bs (h++s))] [] (.str (bs s)) []:=by
 have hsz:(bs (h++s)).size=(h++s).length:=rfl
 have hd0:(h++s).drop h.length=s:=by simp
 have hcb:∀k,h.length≤k→((h++s).drop k).count 10≤3:=fun k hk=>by
  have e:(h++s).drop k=s.drop (k-h.length):=by rw[List.drop_append,List.drop_of_length_le hk,eB]
  rw[e,←hs]
  exact(List.drop_sublist _ _).count_le _
 have hol:h.length≤(h++s).length:=by simp
 have hfin:h=[]→h++s=s:=fun e=>by rw[e];rfl
 have hlast:∀j,h.length=j+1→(h++s)[j]?=some 10:=fun j hj=>by
  rcases hh with e|⟨g,e⟩
  ·rw[e] at hj;simp at hj
  ·have:j=g.length:=by rw[e] at hj;simp at hj;omega
   rw[e,this]
   simp
 generalize ho:h++s=o at *
 refine ab aj Tryz.func9 rfl rfl false 0 4 rfl rfl rfl rfl fun K hK hb1 hb2=>?_;simp only[ae,enc,Nat.reduceAdd]
 clear hb1 hb2
 (repeat' first|refine st ?_|refine sa fun xe hxe=>?_|refine sb (fun hq=>?_) fun hq=>?_|exact aa)
 refine ah hK [] [0,3,4] (fun k:Nat=>⟨[(0,.str (bs o)),(3,.int .i64 (((o.drop k).count 10:Nat):Int)),(4,.int .i64 ((k:Int)-1))],[],4⟩) (fun k=>k≤o.length∧h.length≤k) (fun k=>k) o.length ⟨ax _,hol⟩ (by rw[List.drop_length];rfl) ?_
 rintro k ⟨hk,hk2⟩
 have hc3:=hcb k hk2
 cases k with
 |zero=>
  have h0:h=[]:=n9.1 (by omega)
  rw[←hfin h0]
  (repeat' first|refine st ?_|refine sa fun xe hxe=>?_|refine sb (fun hq=>?_) fun hq=>?_|exact aa)
  exact⟨rfl,rfl⟩
 |succ j=>
  have hj:j<o.length:=by omega
  have hx:o.getD ((((j+1:Nat):Int)-1).toNat) 0=o[j]:=by
   rw[show (((j+1:Nat):Int)-1).toNat=j by omega,aq,am hj]
   rfl
  have hcd:=D8 o j hj
  by_cases hlt:h.length<j+1
  ·have hcj:=hcb j (by omega)
   by_cases hc:o[j]=10
   ·have hxn:(((o.getD ((((j+1:Nat):Int)-1).toNat) 0).toNat:Nat):Int)=10:=by rw[hx,hc];rfl
    rw[if_pos hc] at hcd
    have hst:(⟨[(0,.str (bs o)),(3,.int .i64 (((o.drop j).count 10:Nat):Int)),(4,.int .i64 ((j:Int)-1))],[],4⟩:VSt)=⟨[(0,.str (bs o)),(3,.int .i64 (((o.drop (j+1)).count 10:Nat)+1)),(4,.int .i64 (((j+1:Nat):Int)-1-1))],[],4⟩:=by
     rw[show ((j:Int)-1)=((j+1:Nat):Int)-1-1 by omega,hcd]
     rfl
    generalize (o.drop (j+1)).count 10=c at *
    (repeat' first|refine st ?_|refine sa fun xe hxe=>?_|refine sb (fun hq=>?_) fun hq=>?_|exact aa)
    exact⟨j,⟨by omega,by omega⟩,by omega,hst.symm⟩
   ·have hxn:¬(((o.getD ((((j+1:Nat):Int)-1).toNat) 0).toNat:Nat):Int)=10:=by
     rw[hx]
     intro h
     exact hc (UInt8.toNat_inj.1 (by first|(have h2:(t[j].toNat:Int)=10:=h;show t[j].toNat=10;omega)|(have h2:(o[j].toNat:Int)=10:=h;show o[j].toNat=10;omega)))
    rw[if_neg hc,jK] at hcd
    have hst:(⟨[(0,.str (bs o)),(3,.int .i64 (((o.drop j).count 10:Nat):Int)),(4,.int .i64 ((j:Int)-1))],[],4⟩:VSt)=⟨[(0,.str (bs o)),(3,.int .i64 (((o.drop (j+1)).count 10:Nat):Int)),(4,.int .i64 (((j+1:Nat):Int)-1-1))],[],4⟩:=by
     rw[show ((j:Int)-1)=((j+1:Nat):Int)-1-1 by omega,hcd]
    generalize (o.drop (j+1)).count 10=c at *
    (repeat' first|refine st ?_|refine sa fun xe hxe=>?_|refine sb (fun hq=>?_) fun hq=>?_|exact aa)
    exact⟨j,⟨by omega,by omega⟩,by omega,hst.symm⟩
  ·have hhl:h.length=j+1:=by omega
   have hc:o[j]=10:=by have:=hlast j hhl;rw[am hj] at this;exact ar this
   have hxn:(((o.getD ((((j+1:Nat):Int)-1).toNat) 0).toNat:Nat):Int)=10:=by rw[hx,hc];rfl
   have hct:(o.drop (j+1)).count 10=3:=by rw[←hhl,hd0];exact hs
   have he:(bs o).extract (j+1) o.length=bs s:=by rw[lk,←hhl,hd0,br (by rw[←ho];simp)]
   rw[hct]
   (repeat' first|refine st ?_|refine sa fun xe hxe=>?_|refine sb (fun hq=>?_) fun hq=>?_|exact aa)
   rw[show ((((j+1:Nat):Int)-1+1).toNat)=j+1 by omega,hsz]
   exact⟨congrArg V.str he,rfl⟩
set_option maxHeartbeats 8000000 in
theorem J5 (c:List Int)(hc:∀x∈c,0≤x∧x≤255):∃o:ByteArray,o.size≤3000∧ag Tryz.prog 8 [.lst (.int .u8) c] [] (.str o) []:=by
 have h:=OT hc
 suffices hs:∃r hout,(∃o:ByteArray,o.size≤3000∧r= .str o∧hout=[])∧ag Tryz.prog 8 [.lst (.int .u8) c] [] r hout by
  obtain⟨r,hout,⟨v,hv,rfl,rfl⟩,h⟩:=hs
  exact⟨v,hv,h⟩
 refine l9 aj Tryz.func8 rfl rfl true 0 4 rfl rfl rfl rfl (R:=fun r hout=>∃o:ByteArray,o.size≤3000∧r= .str o∧hout=[]) (r0:=.str ⟨#[]⟩) (hout0:=[]) (⟨⟨#[]⟩,aX 3000,rfl,rfl⟩) fun K hK hb1 hb2=>?_;simp only[ae,enc,Nat.reduceAdd]
 clear hb1 hb2
 (repeat' first|refine st ?_|refine sa fun xe hxe=>?_|refine sb (fun hq=>?_) fun hq=>?_|refine cr (L7 _) ?_|exact aa)
 generalize c.take 2000=b at *
 refine ah hK [] [3,4,5] (fun x:Nat×ByteArray×Int=>⟨[(3,.ptr 4 0),(4,.str x.2.1),(5,.int .i64 (x.1:Int))],[(4,Gi b x.2.2)],5⟩) (fun x=>x.1≤23∧x.2.1.size≤41*x.1∧0≤x.2.2∧x.2.2≤11*x.1) (fun x=>24-x.1) (0,⟨#[]⟩,0) ⟨by dsimp only;omega,aX _,by dsimp only;omega,by dsimp only;omega⟩ rfl ?_
 rintro⟨i,o,p⟩ ⟨h1,h2,h3,h4⟩
 dsimp only at h1 h2 h3 h4⊢
 (repeat' first|((first|with_reducible refine aF ?_ (by assumption)|with_reducible refine aE ?_ (by assumption));conv=>whnf)|refine st ?_|refine sa fun xe hxe=>?_|refine sb (fun hq=>?_) fun hq=>?_|((with_reducible refine aG ?_)<;>conv=>whnf)|((with_reducible refine fF ?_);(conv=>whnf);(first|refine ou (Me b _ _ h (by omega) (by omega)) fun xv hxv=>?_|refine ou (No b _ h (by omega)) fun xv hxv=>?_|refine ou (LZ _ _ rfl (by omega)) fun xv hxv=>?_);conv=>whnf)|exact aa)
 ·refine⟨(i+1,o++xv.1++⟨#[10]⟩,xv.2),⟨by dsimp only;omega,?_,by dsimp only;omega,by dsimp only;omega⟩,by dsimp only;omega,rfl⟩
  dsimp only
  rw[ByteArray.size_append,ByteArray.size_append]
  show _+_+1≤_
  omega
 all_goals
  refine⟨_,?_,rfl,rfl⟩
  first|omega|(simp only[ByteArray.size_append];omega)
end Go.Proofs.YtpefhoohfkeflaaGreatDoor.Am
namespace Go.Proofs.YtpefhoohfkeflaaGreatDoor.Am
open Go Go.RowKit
theorem xg:∀ls:List (List UInt8),(∀l∈ls,(10:UInt8)∉l)→(cI ls).count 10=ls.length
 |[],_=>rfl
 |l::ls,h=>by
  rw[kF,List.count_append,List.count_cons,List.count_eq_zero.2 (h l (by simp)),xg ls fun x hx=>h x (by simp[hx])]
  simp
theorem tb (ls:List (List UInt8)):∃h s:List UInt8,outR ls=h++s∧h=(bT ls).2∧s=outO (bT ls).1∧(h=[]∨∃g,h=g++[10])∧s.count 10=3∧24≤s.length∧(∃g,s=g++[10])∧h.length≤6820*ls.length∧s.length≤50000000:=by
 obtain⟨h,h1,h2⟩:=Dj ls
 have hok:=o9 ls
 have hlb:=wm ls
 have h4:(bT ls).1.com.length=4:=by rw[hlb.2.2];rfl
 have hg:=uK h4 hlb.2.1
 refine⟨h,outO (bT ls).1,by rw[outR,h2],h2.symm,rfl,h1,?_,?_,?_,?_,?_⟩
 ·rw[hg,xg]
  ·rfl
  ·intro l hl
   simp only[aA,gE,or_false] at hl
   rcases hl with rfl|rfl|rfl
   ·exact pV hok 0 (by decide)
   ·exact pV hok 1 (by decide)
   ·exact pV hok 2 (by decide)
 ·rw[hg]
  have hd:∀m:Nat,1≤(aR (m:Int)).length:=fun m=>(aP (m:Int)).1
  have h0:=hd 0
  have h1:=hd 1
  have h2:=hd 2
  simp only[cI,linM,bB,eD,List.flatten_cons,List.flatten_nil,aO,bH,dG]
  omega
 ·rw[hg]
  exact⟨linM (bT ls).1 0++10::(linM (bT ls).1 1++10::linM (bT ls).1 2),by simp[cI]⟩
 ·rw[←h2];exact tq ls
 ·have:=jg hok (bT ls).1.com.length
  rw[h4] at this
  unfold outO
  rw[h4]
  omega
theorem BS (t:List UInt8):(jc t).length≤t.length:=by
 have h1:=iY 10 t
 unfold jc
 rw[List.length_dropLast]
 omega
theorem sx {ls:List (List UInt8)}(hf:∀l∈ls,(10:UInt8)∉l)(hl:(cI ls).length≤600):exT (cI ls)=outR ls:=by
 rw[KT hl,FG ls hf]
theorem bq (k:List UInt8):V.bool ((bs k).toList==(bs k).toList)=V.bool true∧([]:VH)=[]:=⟨by simp,rfl⟩
attribute [local irreducible] Mk ck Ari fK mQ jM cd cX i7 fC At ag
set_option maxRecDepth 10000
theorem F6 (ls:List (List UInt8)):(bT (ls++[kf])).1=(bT ls).1:=by
 have e1:bU (bT ls).1 (aK 32 kf)=(bT ls).1:=rfl
 rw[fR,nK,e1]
theorem OO (c:List Int)(hc:∀x∈c,0≤x∧x≤255):ag Tryz.prog 5 [.lst (.int .u8) c] [] (.bool true) []:=by
 by_cases hl:1048576<c.length
 ·refine ab aj Tryz.func5 rfl rfl false 0 4 rfl rfl rfl rfl fun K hK hb1 hb2=>?_;simp only[ae,enc,Nat.reduceAdd]
  clear hb1 hb2
  (repeat' first|refine st ?_|refine sa fun xe hxe=>?_|refine sb (fun hq=>?_) fun hq=>?_|exact aa)
  exact⟨rfl,rfl⟩
 obtain⟨o,ho,hD⟩:=J5 c hc
 obtain⟨t,rfl⟩:∃t,o=bs t:=⟨o.data.toList,rfl⟩
 have hsz:(bs t).size=t.length:=rfl
 have h1:=GH t (by omega)
 have h2:=uy t (by omega)
 by_cases h6:595<t.length
 ·generalize exT t=e at *
  refine ab aj Tryz.func5 rfl rfl false 0 4 rfl rfl rfl rfl fun K hK hb1 hb2=>?_;simp only[ae,enc,Nat.reduceAdd]
  clear hb1 hb2
  (repeat' first|refine st ?_|refine sa fun xe hxe=>?_|refine sb (fun hq=>?_) fun hq=>?_|refine cr (hD) ?_|refine cr (h1) ?_|refine cr (h2) ?_|exact aa)
  all_goals first|exact⟨rfl,rfl⟩|exact absurd trivial hq|exact bq _
 ·have hgl:=Bu t
  have hf:=sV t
  have hll:=BS t
  have h3:=J3 t (by omega)
  have hgs:cI (jc t++[kf])=cI (jc t)++(kf++[10]):=jb _ _
  have hf2:∀l∈jc t++[kf],(10:UInt8)∉l:=fun l hl=>by
   rcases bi.1 hl with hl|hl
   ·exact hf l hl
   ·rw[aY.1 hl];decide
  have hl2:(cI (jc t++[kf])).length≤600:=by rw[hgs,aO];simp;omega
  have h4:=uy (cI (jc t)) (by omega)
  have h5:=uy (cI (jc t++[kf])) (by omega)
  rw[sx hf (by omega)] at h4
  rw[sx hf2 hl2] at h5
  obtain⟨h,s,e1,eh,es,e2,e3,e4,-,e6,e7⟩:=tb (jc t)
  obtain⟨h',s',e1',-,es',e2',e3',-,-,e6',e7'⟩:=tb (jc t++[kf])
  rw[F6,←es] at es'
  subst es'
  rw[aO] at e6'
  rw[e1] at h4
  rw[e1'] at h5
  have hL:=FH h _ e2 e3 (by rw[aO];omega)
  have hL':=FH h' _ e2' e3 (by rw[aO];simp at e6';omega)
  have hb5:bs (cI (jc t++[kf]))=bs (cI (jc t))++⟨#[108,105,115,116,10]⟩:=by rw[hgs];exact(vh _ _).symm
  rw[hb5] at h5
  have hgz:(bs (cI (jc t))).size=(cI (jc t)).length:=rfl
  clear es eh e1 e1'
  generalize exT t=e at *
  generalize cI (jc t)=g at *
  generalize h++_=os at *
  generalize h'++_=os' at *
  refine ab aj Tryz.func5 rfl rfl false 0 4 rfl rfl rfl rfl fun K hK hb1 hb2=>?_;simp only[ae,enc,Nat.reduceAdd]
  clear hb1 hb2
  (repeat' first|((first|with_reducible refine aF ?_ (by assumption)|with_reducible refine aE ?_ (by assumption));conv=>whnf)|refine st ?_|refine sa fun xe hxe=>?_|refine sb (fun hq=>?_) fun hq=>?_|((with_reducible refine aG ?_)<;>conv=>whnf)|refine cr (hD) ?_|refine cr (h1) ?_|refine cr (h2) ?_|refine cr (h3) ?_|refine cr (h5) ?_|refine cr (h4) ?_|refine cr (hL) ?_|refine cr (hL') ?_|exact aa)
  all_goals first|exact⟨rfl,rfl⟩|exact absurd trivial hq|exact bq _|trace_state
end Go.Proofs.YtpefhoohfkeflaaGreatDoor.Am
namespace Go.Proofs.YtpefhoohfkeflaaGreatDoor.Am
open Go Go.RowKit
abbrev IE:List UInt8:=[99,97,108,109,32,49]
theorem Jj (ls:List (List UInt8)):(bT (ls++[IE])).1=aU (bT ls).1 1:=by
 have e1:bU (bT ls).1 (aK 32 IE)=aU (bT ls).1 1:=rfl
 rw[fR,nK,e1]
theorem DP (w:Wrl)(hw:WOK w)(h4:w.com.length=4)(h3:w.bad=3):∃X:List UInt8,outO (aU w 1)=(cw++[48])++X++((cw++[49])++X)++((cw++[50])++X):=by
 have hok:=gM hw 1
 have hs:=vn hw 1
 have hlb:(aU w 1).bad=w.bad∧(aU w 1).com=w.com:=⟨(rb w 1).2.1,(rb w 1).2.2⟩
 have h4':(aU w 1).com.length=4:=by rw[hlb.2];exact h4
 have h3':(aU w 1).bad=3:=by rw[hlb.1];exact h3
 generalize aU w 1=u at *
 have hwo:∀m:Nat,m<3→wo u m=wo u (0:Nat):=fun m hm=>by
  rw[Hk hok (by omega),Hk hok (by omega),Dv hok hs (m:=m) (k:=0) (by omega) (by omega) (by omega) (by omega)]
 rw[uK h4' h3']
 refine⟨bR (wo u (0:Nat))++[10],?_⟩
 have d0:aR ((0:Nat):Int)=[48]:=rfl
 have d1:aR ((1:Nat):Int)=[49]:=rfl
 have d2:aR ((2:Nat):Int)=[50]:=rfl
 simp only[cI,linM,bB,eD,List.flatten_cons,List.flatten_nil,d0,d1,d2,hwo 1 (by decide),hwo 2 (by decide)]
 simp
attribute [local irreducible] Mk ck Ari fK mQ jM cd cX i7 fC At ag
set_option maxRecDepth 10000
set_option maxHeartbeats 4000000 in
theorem ON (c:List Int)(hc:∀x∈c,0≤x∧x≤255):ag Tryz.prog 4 [.lst (.int .u8) c] [] (.bool true) []:=by
 by_cases hl:1048576<c.length
 ·refine ab aj Tryz.func4 rfl rfl false 0 4 rfl rfl rfl rfl fun K hK hb1 hb2=>?_;simp only[ae,enc,Nat.reduceAdd]
  clear hb1 hb2
  (repeat' first|refine st ?_|refine sa fun xe hxe=>?_|refine sb (fun hq=>?_) fun hq=>?_|exact aa)
  exact⟨rfl,rfl⟩
 obtain⟨o,ho,hD⟩:=J5 c hc
 obtain⟨t,rfl⟩:∃t,o=bs t:=⟨o.data.toList,rfl⟩
 have hsz:(bs t).size=t.length:=rfl
 have h1:=GH t (by omega)
 have h2:=uy t (by omega)
 by_cases h6:593<t.length
 ·generalize exT t=e at *
  refine ab aj Tryz.func4 rfl rfl false 0 4 rfl rfl rfl rfl fun K hK hb1 hb2=>?_;simp only[ae,enc,Nat.reduceAdd]
  clear hb1 hb2
  (repeat' first|refine st ?_|refine sa fun xe hxe=>?_|refine sb (fun hq=>?_) fun hq=>?_|refine cr (hD) ?_|refine cr (h1) ?_|refine cr (h2) ?_|exact aa)
  all_goals first|exact⟨rfl,rfl⟩|exact absurd trivial hq|exact bq _
 ·have hgl:=Bu t
  have hf:=sV t
  have hll:=BS t
  have h3:=J3 t (by omega)
  have hgs:cI (jc t++[IE])=cI (jc t)++(IE++[10]):=jb _ _
  have hf2:∀l∈jc t++[IE],(10:UInt8)∉l:=fun l hl=>by
   rcases bi.1 hl with hl|hl
   ·exact hf l hl
   ·rw[aY.1 hl];decide
  have hl2:(cI (jc t++[IE])).length≤600:=by rw[hgs,aO];simp;omega
  have h5:=uy (cI (jc t++[IE])) (by omega)
  rw[sx hf2 hl2] at h5
  obtain⟨h,s,e1,-,es,e2,e3,e4,-,e6,e7⟩:=tb (jc t++[IE])
  have hlb:=wm (jc t)
  obtain⟨X,hX⟩:=DP (bT (jc t)).1 (o9 _) (by rw[hlb.2.2];rfl) hlb.2.1
  rw[Jj,hX] at es
  rw[aO] at e6
  rw[e1] at h5
  have hL:=FH h s e2 e3 (by rw[aO];simp at e6;omega)
  have hb5:bs (cI (jc t++[IE]))=bs (cI (jc t))++⟨#[99,97,108,109,32,49,10]⟩:=by rw[hgs];exact(vh _ _).symm
  rw[hb5] at h5
  have hgz:(bs (cI (jc t))).size=(cI (jc t)).length:=rfl
  have hsl:s.length=3*(7+X.length):=by rw[es];simp;omega
  have hss:(bs s).size=3*(7+X.length):=hsl
  have hdv:(((bs s).size:Nat):Int).tdiv 3=((7+X.length:Nat):Int):=by
   rw[jH (by omega),hss]
   omega
  have q1:(bs s).extract 7 (7+X.length)=bs X:=by rw[lk,es];congr 1;simp
  have q2:(bs s).extract (7+X.length+7) (2*(7+X.length))=bs X:=by
   rw[lk,es]
   congr 1
   have e:(cw++[48]++X++(cw++[49]++X)++(cw++[50]++X))=((cw++[48]++X)++(cw++[49]))++(X++(cw++[50]++X)):=by simp
   have e0:7+X.length+7=((cw++[48]++X)++(cw++[49])).length:=by simp;omega
   rw[e,e0,List.drop_left,←e0,show 2*(7+X.length)-(7+X.length+7)=X.length by omega,List.take_left]
  have q3:(bs s).extract (2*(7+X.length)+7) (bs s).size=bs X:=by
   rw[lk,show (bs s).size-(2*(7+X.length)+7)=X.length by omega,es]
   congr 1
   have e:(cw++[48]++X++(cw++[49]++X)++(cw++[50]++X))=((cw++[48]++X)++(cw++[49]++X)++(cw++[50]))++X:=by simp
   have e0:2*(7+X.length)+7=((cw++[48]++X)++(cw++[49]++X)++(cw++[50])).length:=by simp;omega
   rw[e,e0,List.drop_left,iH]
  have p1:(bs s).extract (Int.toNat 7) ((((bs s).size:Nat):Int).tdiv 3).toNat=bs X:=by rw[hdv];exact q1
  have p2:(bs s).extract ((((bs s).size:Nat):Int).tdiv 3+7).toNat (2*(((bs s).size:Nat):Int).tdiv 3).toNat=bs X:=by
   rw[hdv,show (((7+X.length:Nat):Int)+7).toNat=7+X.length+7 by omega,show (2*((7+X.length:Nat):Int)).toNat=2*(7+X.length) by omega]
   exact q2
  have p3:(bs s).extract (2*(((bs s).size:Nat):Int).tdiv 3+7).toNat (bs s).size=bs X:=by
   rw[hdv,show (2*((7+X.length:Nat):Int)+7).toNat=2*(7+X.length)+7 by omega]
   exact q3
  clear es e1 hX
  generalize exT t=e at *
  generalize cI (jc t)=g at *
  generalize h++s=os at *
  refine ab aj Tryz.func4 rfl rfl false 0 4 rfl rfl rfl rfl fun K hK hb1 hb2=>?_;simp only[ae,enc,Nat.reduceAdd]
  clear hb1 hb2
  (repeat' first|((first|with_reducible refine aF ?_ (by assumption)|with_reducible refine aE ?_ (by assumption));conv=>whnf)|refine st ?_|refine sa fun xe hxe=>?_|refine sb (fun hq=>?_) fun hq=>?_|((with_reducible refine aG ?_)<;>conv=>whnf)|refine cr (hD) ?_|refine cr (h1) ?_|refine cr (h2) ?_|refine cr (h3) ?_|refine cr (h5) ?_|refine cr (hL) ?_|exact aa)
  all_goals first|exact bq _|(rw[p1,p3];exact bq _)|exact absurd (by rw[p1,p2]) hq

end Go.Proofs.YtpefhoohfkeflaaGreatDoor.Am
