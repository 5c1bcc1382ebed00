/- The plain machine with types: slices, addresses, literals. The plain machine with types: cuts, conversions, builtins. The plain machine with types: calls: names, views. The plain machine with types: calls. The plain machine with types: calls: what comes back. The plain machine with types: a call. The plain machine with types: a call, put together. The plain machine with types: what an operation looks at. The plain machine with types: one operation. The plain machine with types: one operation, put together. The plain machine with types: one operation is sound. -/
import Derived.Test.YtpefhoohfkeflabGreatDoorEB3
set_option linter.unusedSimpArgs false
set_option linter.unusedVariables false
set_option maxHeartbeats 1000000
namespace Go.Proofs.YtpefhoohfkeflabGreatDoor.Am
open Go Go.RowKit
def zN:List V→(List Int→Prop)→Prop
 |[],K=>K []
 | .int .i64 n::l,K=>zN l fun r=>K (n::r)
 |_::_,_=>False
theorem uv:∀{l:List V} {K:List Int→Prop},zN l K→∃ns:List Int,ak l=ns.map (D.int .i64)∧K ns
 |[],K,h=>⟨[],rfl,h⟩
 |v::l,K,h=>by
  cases v<;>try exact h.elim
  rename_i k n
  cases k<;>try exact h.elim
  obtain⟨ns,h1,h2⟩:=uv (l:=l) h
  exact⟨n::ns,by simp[ak,V.toD,h1],h2⟩
def V.pure0:V→Bool
 | .int .. | .bool _| .tt| .ff| .str _| .lst .. | .box .. | .nilp| .nils| .nilf| .nili=>true
 |_=>false
theorem mL (l:List V)(h:l.all V.pure0=true):(ak l).all D.pure0=true:=by
 rw[cY,List.all_map]
 rw[aM] at h⊢
 intro x hx
 have:=h x hx
 cases x<;>first|rfl|cases this
theorem sx {t:Ty}(h:t.sz=1)(hp:t.pure=true)(xs:List t.den):(xs.map (ai t)).all D.pure0=true:=by
 rw[aM]
 intro y hy
 obtain⟨z,_,rfl⟩:=aB.1 hy
 have h1:=kl hp z
 rw[h] at h1
 have h2:=h1.1
 have h3:=h1.2
 match hc:(ai t z).cells,h2 with
 |[c],_=>
  rw[hc] at h3
  simp only[List.all_cons,List.all_nil,Bool.and_true] at h3
  by_cases hag:∃cs,ai t z= .agg cs
  ·obtain⟨cs,he⟩:=hag
   cases t<;>simp[Ty.sz] at h<;>first|(cases he;done)|(cases z<;>simp[ai,mZ,qC] at he;done)
  ·have:=dh fun cs hcs=>hag ⟨cs,hcs⟩
   rw[this] at hc
   simp only[List.cons.injEq,and_true] at hc
   rw[hc];exact h3
def pC (h:VH)(v:V)(K:(t:Ty)→List t.den→Prop):Prop:=
 match v with
 | .lst t xs=>K t xs
 | .nils=>K (.int .i64) []
 | .ref b=>eP h b fun x=>(match x with
  | .row _ t xs=>K t xs
  | .froz t xs=>K t xs
  |_=>False)
 | .fref k i=>eP h k fun x=>(match x with
  | .frow _ t xss=>fF xss i fun xs=>K t xs
  | .frowx _ t xss=>fF xss i fun ox=>iW ox False fun xs=>K t xs
  |_=>False)
 | .hro k o=>iW o (K (.int .i64) []) fun i=>eP h k fun x=>(match x with
  | .frow _ t xss=>fF xss i fun xs=>K t xs
  | .frowx _ t xss=>fF xss i fun ox=>iW ox False fun xs=>K t xs
  |_=>False)
 | .vref b o n=>eP h b fun x=>(match x with
  | .var _ cs=>Chk (cs.all V.pure0) (GQ cs o n fun r=>zN r fun ns=>K (.int .i64) ns)
  | .vari _ pre m t xs post=>Chk (pre.all V.pure0 && post.all V.pure0 && Nat.beq o pre.length && Nat.beq n m && t.sz==1 && t.pure) (ci (xs.length=m) (K t xs))
  |_=>False)
 |_=>False
theorem mT {h:VH}{v:V}{K:(t:Ty)→List t.den→Prop}(hk:pC h v K):∃t,∃xs:List (Ty.den t),elems (toH h) v.toD=some (xs.map (ai t))∧K t xs:=by
 unfold pC at hk
 split at hk
 ·exact⟨_,_,rfl,hk⟩
 ·exact⟨_,_,rfl,hk⟩
 ·rename_i b
  obtain⟨x,h1,h3⟩:=bi hk
  split at h3
  ·rename_i E t xs
   have hl:=av (i:=0) h1 (d:=.row E (xs.map (ai t))) rfl
   exact⟨_,_,by simp[elems,V.toD,hl],h3⟩
  ·rename_i t xs
   have hl:=av (i:=0) h1 (d:=.froz (xs.map (ai t))) rfl
   exact⟨_,_,by simp[elems,V.toD,hl],h3⟩
  ·exact h3.elim
 ·rename_i k i
  obtain⟨x,h1,h3⟩:=bi hk
  split at h3
  ·rename_i E t xss
   obtain⟨xs,h4,h5⟩:=h3
   have hl:=av (i:=i) h1 (d:=.row E (xs.map (ai t))) (by simp only[VB.blks,bf,h4,aI])
   exact⟨_,_,by simp[elems,V.toD,hl],h5⟩
  ·rename_i E t xss
   obtain⟨ox,h4,h5⟩:=h3
   cases ox with
   |none=>exact(h5.1 rfl).elim
   |some xs=>
    have hl:=av (i:=i) h1 (d:=.row E (xs.map (ai t))) (by simp only[VB.blks,bf,h4,aI,rowX])
    exact⟨_,_,by simp[elems,V.toD,hl],h5.2 xs rfl⟩
  ·exact h3.elim
 ·rename_i k o
  cases o with
  |none=>exact⟨.int .i64,[],rfl,hk.1 rfl⟩
  |some i=>
   obtain⟨x,h1,h3⟩:=bi (hk.2 i rfl)
   split at h3
   ·rename_i E t xss
    obtain⟨xs,h4,h5⟩:=h3
    have hl:=av (i:=i) h1 (d:=.row E (xs.map (ai t))) (by simp only[VB.blks,bf,h4,aI])
    exact⟨_,_,by simp[elems,V.toD,mZ,hl],h5⟩
   ·rename_i E t xss
    obtain⟨ox,h4,h5⟩:=h3
    cases ox with
    |none=>exact(h5.1 rfl).elim
    |some xs=>
     have hl:=av (i:=i) h1 (d:=.row E (xs.map (ai t))) (by simp only[VB.blks,bf,h4,aI,rowX])
     exact⟨_,_,by simp[elems,V.toD,mZ,hl],h5.2 xs rfl⟩
   ·exact h3.elim
 ·rename_i b o n
  obtain⟨x,h1,h3⟩:=bi hk
  split at h3
  ·rename_i T cs
   have hl:=av (i:=0) h1 (d:=.var T (ak cs)) rfl
   obtain⟨c1,h4⟩:=h3.ok
   obtain⟨h5,h6⟩:=wn h4
   obtain⟨ns,h7,h8⟩:=uv h6
   refine⟨.int .i64,ns,?_,h8⟩
   simp only[elems,V.toD,hl]
   rw[if_pos ⟨by rw[aL];exact h5,mL _ c1⟩]
   rw[show ns.map (ai (.int .i64))=ns.map (D.int .i64) from rfl,←h7]
   simp only[cY,List.map_take,List.map_drop]
  ·rename_i T pre m t xs post
   have hl:=av (i:=0) h1 (d:=.var T (ak pre++xs.map (ai t)++ak post)) rfl
   obtain⟨c1,h4⟩:=h3.ok
   simp only[az,beq_iff_eq] at c1
   obtain⟨⟨⟨⟨⟨c1,c2⟩,c3⟩,c4⟩,c5⟩,c6⟩:=c1
   obtain⟨h5,h6⟩:=h4
   have hp:o=pre.length:=cq c3
   have hn:n=m:=cq c4
   refine⟨t,xs,?_,h6⟩
   simp only[elems,V.toD,hl]
   have hall:(ak pre++xs.map (ai t)++ak post).all D.pure0=true:=by
    rw[List.all_append,List.all_append,mL _ c1,mL _ c2,sx c5 c6]
    rfl
   rw[if_pos ⟨by rw[aP,aP,aL,aA];omega,hall⟩]
   rw[bH,hp,←aL pre,List.drop_left,hn,←h5]
   rw[show xs.length=(xs.map (ai t)).length by rw[aA],List.take_left]
  ·exact h3.elim
 ·exact hk.elim
theorem tC (t:Ty)(xs:List t.den)(s:Nat)(h:t.sz=s):AF s (xs.map (ai t))=s:=Jx fun e he=>by
 obtain⟨x,_,rfl⟩:=aB.1 he
 rw[(fV t x).1,h]
def LS (ti:TI)(h:VH)(v:V)(K:V→Prop):Prop:=
 match ti.k with
 | .str=>(match v with| .str s=>K (.int .i64 (s.size:Nat))|_=>False)
 | .slice _=>pC h v fun _ xs=>K (.int .i64 (xs.length:Nat))
 |_=>False
theorem IH {P:Program}{T:TypeId}{ti:TI}(ht:ti.ok P T){h:VH}{v:V}{K:V→Prop}(hk:LS ti h v K):∃r,uV P (toH h) T v.toD=some r.toD∧K r:=by
 have hu:=ht.und
 unfold LS at hk
 split at hk
 ·rename_i e
  rw[e] at hu
  split at hk
  ·exact⟨_,by simp only[uV,show P.underlying T=some .string from hu,V.toD],hk⟩
  ·exact hk.elim
 ·rename_i E e
  rw[e] at hu
  obtain⟨t,xs,h1,h2⟩:=mT hk
  exact⟨_,by simp only[uV,show P.underlying T=some (.slice E) from hu,h1,aI,aA,V.toD],h2⟩
 ·exact hk.elim
def qY (Θ:TT)(ti:TI)(h:VH)(n:Nat)(d1 d2:V)(K:V→VH→Prop):Prop:=
 match ti.k with
 | .slice E=>bJ Θ E fun ei=>Chk (ei.z.isSome && decide (0<ei.sz)) (pC h d2 fun t ys=>(match d1 with
  | .ref b=>eP h b fun x=>(match x with
   | .row E' t' xs=>Chk (E'==E && t'.sz==ei.sz && !Nat.beq b n) (match ny t' t ys with
    |some ys'=>ci (le ei.nb (xs.length+ys'.length)) (K (.ref n) [(b,.gone),(n,.row E t' (xs++ys'))])
    |none=>False)
   |_=>False)
  | .nils=>Chk (t.sz==ei.sz) (match ys with
   |[]=>K .nils []
   |y::ys'=>ci (le ei.nb (ys'.length+1)) (K (.ref n) [(n,.row E t (y::ys'))]))
  |_=>False))
 |_=>False
theorem wA {h:VH}{b n:Nat}{x y:VB}{d:Blk}(hn:∀c:Id,n≤c.1→look (toH h) c=none)(hb:look h b=some x)(hs:x.sgl=true)(hbn:b≠n)(hy:y.blks=[d]):cS h [((b,0),.gone),((n,0),d)] [(b,.gone),(n,y)]:=by
 have h1:cS h [((b,0),.gone)] [(b,.gone)]:=ic hb hs rfl
 have h2:cS (puts [(b,VB.gone)] h) [((n,0),d)] [(n,y)]:=pd (fun i hi=>by
  rw[←h1.1,aN _ _ _ (fun z hz e=>by obtain rfl:=aZ.1 hz;simp only[a7] at e;exact hbn e.1)]
  exact hn (n,i) (ax _)) hy
 exact rS h1 h2
theorem r8 {P:Program}{Θ:TT}(hΘ:Θ.ok P){T:TypeId}{ti:TI}(ht:ti.ok P T){h:VH}{n:Nat}(hn:∀c:Id,n≤c.1→look (toH h) c=none){d1 d2:V}{K:V→VH→Prop}(hk:qY Θ ti h n d1 d2 K):∃r u vu,jJ P (toH h) (n,0) T d1.toD d2.toD=some (r.toD,u)∧cS h u vu∧K r vu:=by
 have hu:=ht.und
 unfold qY at hk
 split at hk
 ·rename_i E e
  rw[e] at hu
  obtain⟨ei,l1,h1⟩:=aG hk
  have hei:=hΘ _ _ l1
  obtain⟨c,h2⟩:=h1.ok
  simp only[az,decide_eq_true_eq] at c
  obtain⟨t,ys,h3,h4⟩:=mT h2
  have hel:=hei.elem c.1 c.2
  unfold jJ
  simp only[show P.underlying T=some (.slice E) from hu,hel,h3]
  split at h4
  ·rename_i b
   obtain⟨x,b1,h5⟩:=bi h4
   split at h5
   ·rename_i E' t' xs
    obtain⟨c2,h6⟩:=h5.ok
    simp only[az,beq_iff_eq,fO] at c2
    obtain⟨⟨rfl,c3⟩,c4⟩:=c2
    have hbn:b≠n:=by rintro rfl;simp at c4
    split at h6
    ·rename_i ys' hc
     have hce:=im hc
     have hl:=av (i:=0) b1 (d:=.row E' (xs.map (ai t'))) rfl
     refine⟨.ref n,[((b,0),.gone),((n,0),.row E' ((xs++ys').map (ai t')))],_,?_,wA hn b1 rfl hbn rfl,h6.2⟩
     rw[hce,if_pos (tC _ _ _ c3)]
     simp only[V.toD,hl]
     rw[if_pos ⟨trivial,by simpa using h6.1⟩]
     simp
    ·exact h6.elim
   ·exact h5.elim
  ·obtain⟨c3,h6⟩:=h4.ok
   simp only[beq_iff_eq] at c3
   rw[if_pos (tC _ _ _ c3)]
   split at h6
   ·exact⟨.nils,[],[],rfl,a8,h6⟩
   ·rename_i y ys'
    refine⟨.ref n,[((n,0),.row E ((y::ys').map (ai t)))],_,?_,lz hn rfl,h6.2⟩
    simp only[V.toD,bI]
    rw[if_pos (by simpa using h6.1)]
  ·exact h4.elim
 ·exact hk.elim
def r9 (Θ:TT)(ti ti':TI)(h:VH)(n:Nat)(d1 d2:V)(K:V→VH→Prop):Prop:=
 match ti.k,ti'.k,d1,d2 with
 | .slice E,.int _,.ref b,.int _ m=>bJ Θ E fun ei=>eP h b fun x=>(match x,ei.z with
  | .row E' (.int k2) xs,some (.int k3 z)=>Chk (E'==E && Nat.beq ei.sz 1 && !Nat.beq b n && decide (k3=k2)) (ci (0<m∧m≤1000000) (ci (le ei.nb (xs.length+m.toNat)) (K (.ref n) [(b,.gone),(n,.row E (.int k2) (xs++List.replicate m.toNat z))])))
  |_,_=>False)
 |_,_,_,_=>False
theorem wR {P:Program}{Θ:TT}(hΘ:Θ.ok P){T T':TypeId}{ti ti':TI}(ht:ti.ok P T)(ht':ti'.ok P T'){h:VH}{n:Nat}(hn:∀c:Id,n≤c.1→look (toH h) c=none){d1 d2:V}{K:V→VH→Prop}(hk:r9 Θ ti ti' h n d1 d2 K):∃r u vu,il P (toH h) (n,0) T T' d1.toD d2.toD=some (r.toD,u)∧cS h u vu∧K r vu:=by
 have hu:=ht.und
 have hu':=ht'.und
 unfold r9 at hk
 split at hk
 ·rename_i E kn b k m e e'
  rw[e] at hu
  rw[e'] at hu'
  obtain⟨ei,l1,h1⟩:=aG hk
  have hei:=hΘ _ _ l1
  obtain⟨x,b1,h5⟩:=bi h1
  split at h5
  ·rename_i E' k2 xs k3 z hz
   obtain⟨c2,h6⟩:=h5.ok
   simp only[az,beq_iff_eq,fO,decide_eq_true_eq] at c2
   obtain⟨⟨⟨rfl,c1⟩,c4⟩,rfl⟩:=c2
   have hs1:ei.sz=1:=cq c1
   have hbn:b≠n:=by rintro rfl;simp at c4
   obtain⟨h7,h8,h9⟩:=h6
   have hl:=av (i:=0) b1 (d:=.row E' (xs.map (ai (.int k3)))) rfl
   refine⟨.ref n,[((b,0),.gone),((n,0),.row E' ((xs++List.replicate m.toNat z).map (ai (.int k3))))],_,?_,wA hn b1 rfl hbn rfl,h9⟩
   simp only[il,V.toD,show P.underlying T=some (.slice E') from hu,show P.underlying T'=some (.int _) from hu',hl,hei.elem (by rw[hz];rfl) (by omega),hei.zero _ hz]
   rw[if_pos ⟨trivial,hs1,h7.1,h7.2,by simpa using h8⟩]
   simp[List.map_replicate,ai]
  ·exact h5.elim
 ·exact hk.elim
def Bd:List V→Nat→(List V→Prop)→Prop
 |l,0,K=>K l
 |[],_+1,_=>False
 |_::cs,n+1,K=>Bd cs n K
theorem xk:∀{l:List V} {n:Nat} {K:List V→Prop},Bd l n K→n≤l.length∧K (l.drop n)
 |l,0,K,h=>⟨aX _,by cases l<;>simpa[Bd] using h⟩
 |[],_+1,_,h=>h.elim
 |c::cs,n+1,K,h=>by
  obtain⟨h1,h2⟩:=xk (l:=cs) (n:=n) h
  exact⟨by simpa using h1,by simpa using h2⟩
def Eb (Θ:TT)(ti:TI)(h:VH)(d e:V)(K:V→VH→Prop):Prop:=
 match ti.k,d with
 | .slice E,.vref b o m=>bJ Θ E fun ei=>Chk (ei.sz==1) (pC h e fun t ys=>Chk (t.sz==1 && t.pure) (eP h b fun x=>(match x with
  | .var T' cs=>tD cs o fun pre=>Bd cs (o+m) fun post=>ci (ys.length=m) (K (.int .i64 (ys.length:Nat)) [(b,.vari T' pre m t ys post)])
  |_=>False)))
 |_,_=>False
theorem Ec {P:Program}{Θ:TT}(hΘ:Θ.ok P){T:TypeId}{ti:TI}(ht:ti.ok P T){h:VH}{d e:V}{K:V→VH→Prop}(hk:Eb Θ ti h d e K):∃r u vu,qr P (toH h) T d.toD e.toD=some (r.toD,u)∧cS h u vu∧K r vu:=by
 have hu:=ht.und
 unfold Eb at hk
 split at hk
 ·rename_i E b o m ek
  rw[ek] at hu
  obtain⟨ei,l1,h1⟩:=aG hk
  have hei:=hΘ _ _ l1
  obtain⟨c,h2⟩:=h1.ok
  simp only[beq_iff_eq] at c
  obtain⟨t,ys,h3,h4⟩:=mT h2
  obtain⟨c2,h4⟩:=h4.ok
  simp only[az,beq_iff_eq] at c2
  obtain⟨x,b1,h5⟩:=bi h4
  split at h5
  ·rename_i T' cs
   have hl:=av (i:=0) b1 (d:=.var T' (ak cs)) rfl
   obtain⟨g1,h6⟩:=o8 h5
   obtain⟨g2,h7⟩:=xk h6
   obtain⟨h10,h11⟩:=h7
   refine⟨.int .i64 (ys.length:Nat),[((b,0),.var T' (ak (cs.take o)++ys.map (ai t)++ak (cs.drop (o+m))))],_,?_,ic b1 rfl rfl,h11⟩
   unfold qr
   have hsz:sizeT P E=some 1:=by rw[hei.size,c]
   simp only[show P.underlying T=some (.slice E) from hu,V.toD,hsz,h3,hl]
   have hmin:min (ys.map (ai t)).length m=ys.length:=by rw[aA];omega
   have hall:(ys.map (ai t)).all D.pure0=true:=sx c2.1 c2.2 ys
   rw[hmin,if_pos ⟨by rw[aL];omega,hall⟩,bp (by rw[aA];omega)]
   simp only[ba,aA,h10,cY,List.map_take,List.map_drop]
  ·exact h5.elim
 ·exact hk.elim
def OD (g:Nat×Nat×Nat)(v:V)(K:V→Prop):Prop:=
 match v with
 | .ptr b o=>gJ (o+g.2.1) fun o'=>K (.ptr b o')
 | .eptr b j o=>gJ (o+g.2.1) fun o'=>K (.eptr b j o')
 | .fptr k i o=>gJ (o+g.2.1) fun o'=>K (.fptr k i o')
 | .feptr k i j o=>gJ (o+g.2.1) fun o'=>K (.feptr k i j o')
 | .iptr t e o=>gJ (o+g.2.1) fun o'=>K (.iptr t e o')
 | .hpo k p=>iW p False fun i=>K (.fptr k i g.2.1)
 | .box t e=>(match enc t e with
  | .agg _=>K (.iptr t e g.2.1)
  |_=>False)
 | .obo t p=>iW p False fun e=>(match enc t e with
  | .agg _=>K (.iptr t e g.2.1)
  |_=>False)
 |_=>False
theorem Bm {P:Program}{T:TypeId}{i:Nat}{g:Nat×Nat×Nat}(hg:j2 P T i=some g.2.1){t:Ty}{e:t.den}{K:V→Prop}(hk:match enc t e with| .agg _=>K (.iptr t e g.2.1)|_=>False):∃r,iH P T i (.box (ai t e).cells)=some r.toD∧K r:=by
 split at hk
 ·rename_i cs hc
  refine⟨_,?_,hk⟩
  simp only[V.toD,iH,hg,aI]
  have:=lb t e
  rw[hc] at this
  rw[←this]
  rfl
 ·exact hk.elim
theorem KO {P:Program}{T:TypeId}{i:Nat}{g:Nat×Nat×Nat}(hg:j2 P T i=some g.2.1){v:V}{K:V→Prop}(hk:OD g v K):∃r,iH P T i v.toD=some r.toD∧K r:=by
 unfold OD at hk
 split at hk
 ·exact⟨_,by simp only[V.toD,iH,hg,aI],bU hk⟩
 ·exact⟨_,by simp only[V.toD,iH,hg,aI],bU hk⟩
 ·exact⟨_,by simp only[V.toD,iH,hg,aI],bU hk⟩
 ·exact⟨_,by simp only[V.toD,iH,hg,aI],bU hk⟩
 ·exact⟨_,by simp only[V.toD,iH,hg,aI],bU hk⟩
 ·rename_i k p
  cases p with
  |none=>exact(hk.1 rfl).elim
  |some i=>exact⟨.fptr k i g.2.1,by simp only[V.toD,qC,iH,hg,aI,e8],hk.2 i rfl⟩
 ·exact Bm hg hk
 ·rename_i t p
  cases p with
  |none=>exact(hk.1 rfl).elim
  |some e=>exact Bm hg (hk.2 e rfl)
 ·exact hk.elim
def Da (i s:Nat)(K:Nat→Prop):Prop:=match s with|1=>K i|s=>K (i*s)
theorem rA {i s:Nat}{K:Nat→Prop}(h:Da i s K):K (i*s):=by
 unfold Da at h
 split at h
 ·rw[iT];exact h
 ·exact h
def OL (Θ:TT)(ti:TI)(h:VH)(v:V)(i:Int)(K:V→Prop):Prop:=
 match ti.k with
 | .slice E=>bJ Θ E fun ei=>(match v with
  | .ref b=>eP h b fun x=>(match x with
   | .row E' t xs=>Chk (E'==E) (ci (0≤i∧i<(xs.length:Nat)) (K (.eptr b i.toNat 0)))
   | .lit E' vs=>Chk (E'==E) (ci (0≤i∧i<(vs.length:Nat)) (gJ i.toNat fun j=>K (.eptr b j 0)))
   | .froz t xs=>Chk (t.sz==ei.sz) (mI xs i fun _ e=>K (.iptr t e 0))
   |_=>False)
  | .fref k j=>eP h k fun x=>(match x with
   | .frow E' t xss=>Chk (E'==E) (fF xss j fun xs=>ci (0≤i∧i<(xs.length:Nat)) (K (.feptr k j i.toNat 0)))
   |_=>False)
  | .hro k p=>iW p False fun j=>eP h k fun x=>(match x with
   | .frow E' t xss=>Chk (E'==E) (fF xss j fun xs=>ci (0≤i∧i<(xs.length:Nat)) (K (.feptr k j i.toNat 0)))
   | .frowx E' t xss=>Chk (E'==E) (fF xss j fun ox=>iW ox False fun xs=>ci (0≤i∧i<(xs.length:Nat)) (K (.feptr k j i.toNat 0)))
   |_=>False)
  | .lst t xs=>Chk (t.sz==ei.sz) (mI xs i fun _ e=>K (.iptr t e 0))
  |_=>False)
 | .arr m E=>bJ Θ E fun ei=>ci (0≤i∧i<(m:Nat)) (match v with
  | .ptr b o=>eP h b fun x=>(match x with
   | .vari _ pre _ _ _ _=>(match Nat.beq o pre.length with
    |true=>gJ pre.length fun p=>Da i.toNat ei.sz fun j=>K (.aptr b p j)
    |false=>gJ (o+i.toNat * ei.sz) fun o'=>K (.ptr b o'))
   |_=>gJ (o+i.toNat * ei.sz) fun o'=>K (.ptr b o'))
  | .aptr b p j=>Da i.toNat ei.sz fun j'=>K (.aptr b p (j+j'))
  | .fptr k j o=>eP h k fun x=>(match x with
   | .fvari ..=>Chk (Nat.beq o 0) (Da i.toNat ei.sz fun j'=>K (.faptr k j 0 j'))
   |_=>gJ (o+i.toNat * ei.sz) fun o'=>K (.fptr k j o'))
  | .faptr k j p q=>Da i.toNat ei.sz fun j'=>K (.faptr k j p (q+j'))
  | .eptr b j o=>gJ (o+i.toNat * ei.sz) fun o'=>K (.eptr b j o')
  | .iptr t e o=>gJ (o+i.toNat * ei.sz) fun o'=>K (.iptr t e o')
  |_=>False)
 |_=>False
theorem Fc {α:Type}{xs:List α}{i:Int}{x:α}(h0:0≤i)(h:xs[i.toNat]?=some x):i<(xs.length:Nat):=by
 have:=(aR.1 h).1
 omega
theorem By {P:Program}{T E E':TypeId}{s:Nat}(hu':P.underlying T=some (.slice E))(hs:sizeT P E=some s){h:VH}{k j:Nat}{t:Ty}{xss:List (List t.den)}{xs:List t.den}(b1:look h k=some (.frow E' t xss))(c:E'=E)(hx:xss[j]?=some xs){ik:IntKind}{i:Int}(hi:0≤i∧i<(xs.length:Nat)):
  bN P (toH h) T (.ref (k,j)) (.int ik i)=some (V.feptr k j i.toNat 0).toD:=by
 subst c
 have hl:=av (i:=j) b1 (d:=.row E' (xs.map (ai t))) (by simp only[VB.blks,bf,hx,aI])
 unfold bN
 simp only[hu',hs,elems,hl,aA]
 rw[if_pos hi]
 simp[V.toD]
theorem E4 {P:Program}{T E E':TypeId}{s:Nat}(hu':P.underlying T=some (.slice E))(hs:sizeT P E=some s){h:VH}{k j:Nat}{t:Ty}{xss:List (Option (List t.den))}{xs:List t.den}(b1:look h k=some (.frowx E' t xss))(c:E'=E)(hx:xss[j]?=some (some xs)){ik:IntKind}{i:Int}(hi:0≤i∧i<(xs.length:Nat)):
  bN P (toH h) T (.ref (k,j)) (.int ik i)=some (V.feptr k j i.toNat 0).toD:=by
 subst c
 have hl:=av (i:=j) b1 (d:=.row E' (xs.map (ai t))) (by simp only[VB.blks,bf,hx,aI,rowX])
 unfold bN
 simp only[hu',hs,elems,hl,aA]
 rw[if_pos hi]
 simp[V.toD]
theorem K2 {P:Program}{Θ:TT}(hΘ:Θ.ok P){T:TypeId}{ti:TI}(ht:ti.ok P T){h:VH}{v:V}{k:IntKind}{i:Int}{K:V→Prop}(hk:OL Θ ti h v i K):∃r,bN P (toH h) T v.toD (.int k i)=some r.toD∧K r:=by
 have hu:=ht.und
 unfold OL at hk
 split at hk
 ·rename_i E e
  rw[e] at hu
  have hu':P.underlying T=some (.slice E):=hu
  obtain⟨ei,l1,hk⟩:=aG hk
  have hs:=(hΘ _ _ l1).size
  split at hk
  ·rename_i b
   obtain⟨x,b1,h5⟩:=bi hk
   split at h5
   ·rename_i E' t xs
    have hl:=av (i:=0) b1 (d:=.row E' (xs.map (ai t))) rfl
    obtain⟨c,h6⟩:=h5.ok
    simp only[beq_iff_eq] at c
    subst c
    refine⟨_,?_,h6.2⟩
    unfold bN
    simp only[hu',hs,elems,V.toD,hl,aA]
    rw[if_pos h6.1]
    simp
   ·rename_i E' vs
    have hl:=av (i:=0) b1 (d:=.row E' (ak vs)) rfl
    obtain⟨c,h6⟩:=h5.ok
    simp only[beq_iff_eq] at c
    subst c
    refine⟨_,?_,bU h6.2⟩
    unfold bN
    simp only[hu',hs,elems,V.toD,hl,aL]
    rw[if_pos h6.1]
    simp
   ·rename_i t xs
    have hl:=av (i:=0) b1 (d:=.froz (xs.map (ai t))) rfl
    obtain⟨c,h0,x,hx,h7⟩:=h5.ok
    simp only[beq_iff_eq] at c
    refine⟨_,?_,h7⟩
    unfold bN
    simp only[hu',hs,elems,V.toD,hl,aA]
    rw[if_pos ⟨h0,Fc h0 hx⟩]
    simp only[bf,hx,aI]
    rw[if_pos (by rw[(fV t x).1,c])]
   ·exact h5.elim
  ·rename_i k' j
   obtain⟨x,b1,h5⟩:=bi hk
   split at h5
   ·obtain⟨c,h6⟩:=h5.ok
    simp only[beq_iff_eq] at c
    obtain⟨xs,hx,hi,h7⟩:=h6
    exact⟨_,By hu' hs b1 c hx hi,h7⟩
   ·exact h5.elim
  ·rename_i k' p _
   cases p with
   |none=>exact(hk.1 rfl).elim
   |some j=>
    obtain⟨x,b1,h5⟩:=bi (hk.2 j rfl)
    split at h5
    ·obtain⟨c,h6⟩:=h5.ok
     simp only[beq_iff_eq] at c
     obtain⟨xs,hx,hi,h7⟩:=h6
     exact⟨_,By hu' hs b1 c hx hi,h7⟩
    ·obtain⟨c,h6⟩:=h5.ok
     simp only[beq_iff_eq] at c
     obtain⟨ox,hx,h7⟩:=h6
     cases ox with
     |none=>exact(h7.1 rfl).elim
     |some xs=>
      obtain⟨hi,h7⟩:=h7.2 xs rfl
      exact⟨_,E4 hu' hs b1 c hx hi,h7⟩
    ·exact h5.elim
  ·rename_i t xs _
   obtain⟨c,h0,x,hx,h7⟩:=hk.ok
   simp only[beq_iff_eq] at c
   refine⟨_,?_,h7⟩
   unfold bN
   simp only[hu',hs,elems,V.toD,aA]
   rw[if_pos ⟨h0,Fc h0 hx⟩]
   simp only[bf,hx,aI]
   rw[if_pos (by rw[(fV t x).1,c])]
  ·exact hk.elim
 ·rename_i m E e
  rw[e] at hu
  have hu':P.underlying T=some (.array m E):=hu
  obtain⟨ei,l1,hk⟩:=aG hk
  have hs:=(hΘ _ _ l1).size
  obtain⟨hc,hk⟩:=hk
  unfold bN
  simp only[hu',hs]
  rw[if_pos hc]
  split at hk
  ·obtain⟨x,b1,h5⟩:=bi hk
   split at h5
   ·split at h5
    ·rename_i ho
     have ho':=cq ho
     exact⟨_,by simp only[V.toD,ho'],rA (bU h5)⟩
    ·exact⟨_,by simp only[V.toD],bU h5⟩
   ·exact⟨_,by simp only[V.toD],bU h5⟩
  ·exact⟨_,by simp only[V.toD,lC],rA hk⟩
  ·obtain⟨x,b1,h5⟩:=bi hk
   split at h5
   ·obtain⟨c,h6⟩:=h5.ok
    have ho:=cq c
    exact⟨_,by simp only[V.toD,ho],rA h6⟩
   ·exact⟨_,by simp only[V.toD],bU h5⟩
  ·exact⟨_,by simp only[V.toD,lC],rA hk⟩
  ·exact⟨_,by simp only[V.toD],bU hk⟩
  ·exact⟨_,by simp only[V.toD],bU hk⟩
  ·exact hk.elim
 ·exact hk.elim
def EA (fs:List (Nat×Nat×Nat))(cs:List V):List (Nat×V)→(List V→Prop)→Prop
 |[],K=>K cs
 |(i,v)::l,K=>yg fs i fun f=>Chk (v.whole && sT v.cells f.2.2) (uc cs f.2.1 v.cells fun cs'=>EA fs cs' l K)
theorem xy {fs:List (Nat×Nat×Nat)}:∀{ps:List (Nat×V)} {cs:List V} {K:List V→Prop},EA fs cs ps K→∃cs',jg (fun i=>(fs.map fun f=>(f.2.1,f.2.2))[i]?) (ak cs) (y5 ps)=some (ak cs')∧K cs'
 |[],cs,K,h=>⟨cs,rfl,h⟩
 |(i,v)::l,cs,K,h=>by
  obtain⟨f,h1,h2⟩:=lk h
  obtain⟨c,h3⟩:=h2.ok
  simp only[az] at c
  obtain⟨h4,h5⟩:=jT h3
  obtain⟨cs',h6,h7⟩:=xy h5
  have hl:=jj c.2
  exact⟨cs',zt (off:=f.2.1) (size:=f.2.2) (by rw[bf,h1];rfl) (by rw[gU];exact c.1) (by rw[bu,aL];exact hl) (by rw[aL];omega) (by rw[bu,mo]) h6,h7⟩
def xS:List (Nat×V)→Nat→Bool
 |[],_=>true
 |(i,_)::l,k=>Nat.beq i k && xS l (k+1)
def tU (t:Ty):List (Nat×V)→Option (List t.den)
 |[]=>some []
 |(_,v)::l=>match MZ t (nzL v),tU t l with
  |some x,some xs=>some (x::xs)
  |_,_=>none
where
 nzL (v:V):V:=match v with
  | .agg cs=>.agg (j9 cs)
  |v=>M3 v
theorem vZ (v:V):(tU.nzL v).toD=nzE v.toD:=by
 unfold tU.nzL
 split
 ·simp only[V.toD,nzE,oM]
 ·rename_i hne
  rw[FP]
  cases v
  case hro k o=>cases o<;>rfl
  case hpo k o=>cases o<;>rfl
  case obo t o=>cases o<;>rfl
  case agg cs=>exact absurd rfl (hne _)
  all_goals rfl
theorem Ba {t:Ty}:∀{l:List (Nat×V)} {xs:List t.den},tU t l=some xs→((y5 l).map fun x=>nzE x.2)=xs.map (ai t)
 |[],xs,h=>by simp only[tU,aw] at h;subst h;rfl
 |(i,v)::l,xs,h=>by
  simp only[tU] at h
  split at h
  ·rename_i x xs' h1 h2
   simp only[aw] at h
   subst h
   have:=Ba h2
   simp only[y5,bI,eu] at this⊢
   rw[←vj h1,vZ]
   simp only[List.cons.injEq,true_and]
   exact this
  ·cases h
theorem xU:∀{l:List (Nat×V)} {k:Nat},xS l k=true→(y5 l).map (·.1)=List.range' k l.length
 |[],k,_=>rfl
 |(i,v)::l,k,h=>by
  simp only[xS,az] at h
  have hi:i=k:=cq h.1
  have:=xU h.2
  simp only[y5,bI,eu,bF,List.range'_succ] at this⊢
  rw[hi]
  exact congrArg (k:: ·) this
def pz (len:Nat)(o:Option V)(dflt:Nat)(K:Nat→Prop):Prop:=
 match o with
 |none=>K dflt
 |some (.int _ i)=>ci (0≤i∧i≤(len:Nat)) (K i.toNat)
 |_=>False
theorem mM {len dflt:Nat}{o:Option V}{K:Nat→Prop}(h:pz len o dflt K):∃k,iG len (o.map V.toD) dflt=some k∧(o=none→k=dflt)∧K k:=by
 unfold pz at h
 split at h
 ·exact⟨dflt,rfl,fun _=>rfl,h⟩
 ·exact⟨_,by simp only[aI,V.toD,iG];rw[if_pos h.1],fun e=>(by cases e),h.2⟩
 ·exact h.elim
def lT {α:Type}(xs:List α)(lo hi:Option V)(ll hh:Nat):List α:=
 match lo,hi with
 |none,none=>xs
 |none,_=>xs.take hh
 |_,none=>xs.drop ll
 |_,_=>(xs.take hh).drop ll
theorem HE {α:Type}(xs:List α){lo hi:Option V}{ll hh:Nat}(h1:hi=none→hh=xs.length)(h2:lo=none→ll=0):lT xs lo hi ll hh=(xs.take hh).drop ll:=by
 unfold lT
 split
 ·rw[h1 rfl,h2 rfl];simp
 ·rw[h2 rfl];simp
 ·rw[h1 rfl];simp
 ·rfl
def CO (ei:TI){t:Ty}(xs:List t.den)(lo hi:Option V)(K:List t.den→Prop):Prop:=
 Chk (t.sz==ei.sz) (pz xs.length hi xs.length fun hh=>pz hh lo 0 fun ll=>K (lT xs lo hi ll hh))
def Av (Θ:TT)(ti:TI)(h:VH)(n:Nat)(v:V)(lo hi:Option V)(K:Bool→V→VH→Prop):Prop:=
 match ti.k with
 | .str=>(match v with
  | .str s=>pz s.size hi s.size fun hh=>pz hh lo 0 fun ll=>K false (.str (s.extract ll hh)) []
  |_=>False)
 | .slice E=>bJ Θ E fun ei=>(match v with
  | .lst t xs=>CO ei xs lo hi fun ys=>K false (.lst t ys) []
  | .nils=>CO ei (t:=.int .i64) [] lo hi fun ys=>K false (.lst (.int .i64) ys) []
  | .ref b=>eP h b fun x=>(match x with
   | .row E' t xs=>(match t.pure && !ti.own with
    |true=>Chk t.pure (CO ei xs lo hi fun ys=>K false (.lst t ys) [(b,.froz t xs)])
    |false=>Chk (match lo with|none=>!Nat.beq b n|_=>false) (CO ei xs none hi fun ys=>K true (.ref n) [(b,.gone),(n,.row E' t ys)]))
   | .froz t xs=>CO ei xs lo hi fun ys=>K false (.lst t ys) []
   |_=>False)
  |_=>False)
 | .arr m E=>(match v,lo,hi with
  | .ptr b o,none,none=>bJ Θ E fun _=>eP h b fun x=>(match x with
   | .var _ _=>Chk (decide (m≤maxLen)) (K false (.vref b o m) [])
   | .vari _ _ _ _ _ _=>Chk (decide (m≤maxLen)) (K false (.vref b o m) [])
   |_=>False)
  |_,_,_=>False)
 |_=>False
theorem og {P:Program}{E:TypeId}{ei:TI}(_:ei.ok P E){t:Ty}{xs:List t.den}{lo hi:Option V}{K:List t.den→Prop}(h:CO ei xs lo hi K):
  AF ei.sz (xs.map (ai t))=ei.sz∧∃hh ll ys,iG (xs.map (ai t)).length (hi.map V.toD) (xs.map (ai t)).length=some hh∧iG hh (lo.map V.toD) 0=some ll∧((xs.map (ai t)).take hh).drop ll=ys.map (ai t)∧K ys:=by
 obtain⟨c,h1⟩:=Chk.ok h
 simp only[beq_iff_eq] at c
 obtain⟨hh,b1,b2,h2⟩:=mM h1
 obtain⟨ll,b3,b4,h3⟩:=mM h2
 refine⟨tC _ _ _ c,hh,ll,_,by rw[aA];exact b1,b3,?_,h3⟩
 rw[HE xs b2 b4,←List.map_take,←List.map_drop]
theorem row_all {t:Ty}(ht:t.pure=true)(xs:List t.den):((xs.map (ai t)).all fun e=>e.cells.all D.pure0)=true:=by
 rw[aM]
 intro e he
 obtain⟨x,_,rfl⟩:=aB.1 he
 exact(kl ht x).2
theorem Dp {P:Program}{Θ:TT}(hΘ:Θ.ok P){T:TypeId}{ti:TI}(ht:ti.ok P T){h:VH}{n:Nat}(hn:∀c:Id,n≤c.1→look (toH h) c=none){v:V}{lo hi:Option V}{K:Bool→V→VH→Prop}(hk:Av Θ ti h n v lo hi K):∃q r u vu,fR P (toH h) q (n,0) T v.toD (lo.map V.toD) (hi.map V.toD)=some (r.toD,u)∧cS h u vu∧K q r vu:=by
 have hu:=ht.und
 unfold Av at hk
 split at hk
 ·rename_i e
  rw[e] at hu
  split at hk
  ·rename_i s
   obtain⟨hh,b1,b2,h2⟩:=mM hk
   obtain⟨ll,b3,b4,h3⟩:=mM h2
   refine⟨_,_,[],_,?_,a8,h3⟩
   unfold fR
   simp only[show P.underlying T=some .string from hu,V.toD,b1,b3]
  ·exact hk.elim
 ·rename_i E e
  rw[e] at hu
  have hu':P.underlying T=some (.slice E):=hu
  obtain⟨ei,l1,hk⟩:=aG hk
  have hei:=hΘ _ _ l1
  unfold fR
  simp only[hu',hei.size]
  split at hk
  ·obtain⟨c,hh,ll,ys,b1,b2,b3,h3⟩:=og hei hk
   exact⟨_,_,[],_,by simp only[V.toD,elems,c,if_true,b1,b2,b3],a8,h3⟩
  ·obtain⟨c,hh,ll,ys,b1,b2,b3,h3⟩:=og hei hk
   simp only[ec] at c b1 b3
   exact⟨_,_,[],_,by simp only[V.toD,elems,c,if_true,b1,b2,b3],a8,h3⟩
  ·rename_i b _
   obtain⟨x,x1,h2⟩:=bi hk
   split at h2
   ·rename_i E' t xs
    have hl:=av (i:=0) x1 (d:=.row E' (xs.map (ai t))) rfl
    split at h2
    ·obtain⟨cp,h2⟩:=h2.ok
     obtain⟨c,hh,ll,ys,b1,b2,b3,h3⟩:=og hei h2
     refine⟨_,_,[((b,0),.froz (xs.map (ai t)))],_,?_,ic x1 rfl rfl,h3⟩
     simp only[V.toD,elems,hl,c,if_true,b1,b2,b3,eY,if_false,row_all cp]
    ·obtain⟨c0,h9⟩:=h2.ok
     clear h2
     cases lo with
     |some l=>cases c0
     |none=>
      have hbn:b≠n:=by rintro rfl;simp at c0
      obtain⟨c,hh,ll,ys,b1,b2,b3,h3⟩:=og hei h9
      simp only[Option.map_none,iG,aw] at b2
      subst b2
      refine⟨_,.ref n,[((b,0),.gone),((n,0),.row E' (ys.map (ai t)))],_,?_,wA hn x1 rfl hbn rfl,h3⟩
      rw[List.drop_zero] at b3
      have e0:∀q:Nat,iG q (none:Option D) 0=some 0:=fun _=>rfl
      simp only[V.toD,elems,hl,c,if_true,b1,Option.map_none,e0,b3]
   ·rename_i t xs
    have hl:=av (i:=0) x1 (d:=.froz (xs.map (ai t))) rfl
    obtain⟨c,hh,ll,ys,b1,b2,b3,h3⟩:=og hei h2
    exact⟨false,_,[],_,by simp only[V.toD,elems,hl,c,if_true,b1,b2,b3],a8,h3⟩
   ·exact h2.elim
  ·exact hk.elim
 ·rename_i m E e
  rw[e] at hu
  split at hk
  ·obtain⟨ei,l1,hk⟩:=aG hk
   obtain⟨x,x1,h2⟩:=bi hk
   split at h2
   ·rename_i T' cs
    have hl:=av (i:=0) x1 (d:=.var T' (ak cs)) rfl
    obtain⟨c,h3⟩:=h2.ok
    simp only[decide_eq_true_eq] at c
    refine⟨_,_,[],_,?_,a8,h3⟩
    unfold fR
    simp only[show P.underlying T=some (.array m E) from hu,V.toD,(hΘ _ _ l1).size,Option.map_none,hl,if_pos c]
   ·rename_i T' pre m' t xs post
    have hl:=av (i:=0) x1 (d:=.var T' (ak pre++xs.map (ai t)++ak post)) rfl
    obtain⟨c,h3⟩:=h2.ok
    simp only[decide_eq_true_eq] at c
    refine⟨_,_,[],_,?_,a8,h3⟩
    unfold fR
    simp only[show P.underlying T=some (.array m E) from hu,V.toD,(hΘ _ _ l1).size,Option.map_none,hl,if_pos c]
   ·exact h2.elim
  ·exact hk.elim
 ·exact hk.elim
def va (t:Ty)(xs:List t.den)(K:ByteArray→Prop):Prop:=
 match t,xs with
 | .int .u8,xs=>K ⟨(xs.map fun n:Int=>UInt8.ofNat n.toNat).toArray⟩
 |_,_=>False
theorem zk {t:Ty}{xs:List t.den}{K:ByteArray→Prop}(h:va t xs K):∃bs,(xs.map (ai t)).mapM mN=some bs∧K ⟨bs.toArray⟩:=by
 unfold va at h
 split at h
 ·rename_i xs
  refine⟨_,?_,h⟩
  rw[show xs.map (ai (.int .u8))=xs.map (D.int .u8) from rfl,List.mapM_map]
  exact uz (f:=mN∘D.int .u8) fun x _=>rfl
 ·exact h.elim
def D9 (Θ:TT)(ti si:TI)(h:VH)(v:V)(K:V→Prop):Prop:=
 match ti.k with
 | .int k=>(match v,si.k with
  | .int _ n,.int _=>Ari k n fun z=>K (.int k z)
  |_,_=>False)
 | .str=>(match si.k with
  | .str=>(match v with
   | .str s=>K (.str s)
   |_=>False)
  | .slice E=>bJ Θ E fun ei=>(match ei.k with
   | .int .u8=>Chk (ei.sz==1) (pC h v fun t xs=>va t xs fun s=>K (.str s))
   |_=>False)
  |_=>False)
 |_=>False
theorem Ea {P:Program}{Θ:TT}(hΘ:Θ.ok P){S T:TypeId}{ti si:TI}(ht:ti.ok P T)(hs:si.ok P S){h:VH}{v:V}{K:V→Prop}(hk:D9 Θ ti si h v K):∃r,nx P (toH h) S T v.toD=some r.toD∧K r:=by
 have hu:=ht.und
 have hv:=hs.und
 unfold D9 at hk
 split at hk
 ·rename_i k e
  rw[e] at hu
  split at hk
  ·rename_i k1 n1 k2 e2
   rw[e2] at hv
   refine⟨_,?_,hk.ok⟩
   unfold nx
   simp only[show P.underlying T=some (.int k) from hu,show P.underlying S=some (.int k2) from hv,V.toD]
  ·exact hk.elim
 ·rename_i e
  rw[e] at hu
  split at hk
  ·rename_i e2
   rw[e2] at hv
   split at hk
   ·refine⟨_,?_,hk⟩
    unfold nx
    simp only[show P.underlying T=some .string from hu,show P.underlying S=some .string from hv,V.toD]
   ·exact hk.elim
  ·rename_i E e2
   rw[e2] at hv
   obtain⟨ei,l1,hk⟩:=aG hk
   have hei:=hΘ _ _ l1
   have hek:=hei.und
   split at hk
   ·rename_i e3
    rw[e3] at hek
    obtain⟨c,hk⟩:=hk.ok
    simp only[beq_iff_eq] at c
    obtain⟨t,xs,h1,h2⟩:=mT hk
    obtain⟨bs,h3,h4⟩:=zk h2
    refine⟨_,?_,h4⟩
    unfold nx
    have hsz:sizeT P E=some 1:=by rw[hei.size,c]
    simp only[show P.underlying T=some .string from hu,show P.underlying S=some (.slice E) from hv,show P.underlying E=some (.int .u8) from hek,hsz,h1,h3,V.toD]
   ·exact hk.elim
  ·exact hk.elim
 ·exact hk.elim
def Bh (t:VT)(x:Option Operand)(K:Option V→Prop):Prop:=
 match x with
 |none=>K none
 |some x=>qy t x fun v=>K (some v)
theorem xq {t:VT}{x:Option Operand}{K:Option V→Prop}(h:Bh t x K):∃v,km (fP t) x=some (v.map V.toD)∧K v:=by
 unfold Bh at h
 split at h
 ·exact⟨none,rfl,h⟩
 ·obtain⟨v,h1,h2⟩:=cL h
  exact⟨some v,by simp only[km,h1,aI],h2⟩
def ag (P:Program)(f:FuncId)(vs:List V)(hin:VH)(r:V)(hout:VH):Prop:=Con P f (ak vs) (toH hin) r.toD (toH hout)
def cR (P:Program)(f:FuncId)(vs:List V)(hin:VH)(K:V→VH→Prop):Prop:=∃r hout,ag P f vs hin r hout∧K r hout
def oK (n:Nat):List Nat→Nat→Nat
 |[],i=>n+i
 |o::_,0=>o
 |_::os,i+1=>oK n os i
def gN (os:List Nat)(n k:Nat):Nat:=match k with
 |0=>0
 |1=>1
 |2=>2
 |3=>3
 |k+4=>oK n os k
abbrev gI (g:Nat→Nat):Id→Id:=fun b=>(g b.1,b.2)
def Df (os:List Nat)(n:Nat):Bool:=j8 os && (os.all fun o=>Nat.ble 4 o && Nat.blt o n) && Nat.ble 4 n
theorem eG {n:Nat}:∀{os:List Nat} {i b:Nat},os[i]?=some b→oK n os i=b
 |[],i,b,h=>by simp at h
 |o::os,0,b,h=>by simpa[oK] using h
 |o::os,i+1,b,h=>by simpa[oK] using eG (os:=os) (i:=i) (by simpa using h)
theorem ye {n:Nat}:∀{os:List Nat} {i:Nat},os.length≤i→oK n os i=n+(i-os.length)
 |[],i,_=>by simp[oK]
 |o::os,0,h=>by simp at h
 |o::os,i+1,h=>by
  have:=ye (n:=n) (os:=os) (i:=i) (by simpa using h)
  simp only[oK,this,bF]
  omega
theorem pG (os:List Nat)(n:Nat){k:Nat}(hk:k<4):gN os n k=k:=by
 match k,hk with
 |0,_|1,_|2,_|3,_=>rfl
theorem gY (os:List Nat)(n m:Nat):gN os n (4+m)=oK n os m:=by rw[Nat.add_comm];rfl
theorem B1 {os:List Nat}{n:Nat}(h:Df os n=true):os.Nodup∧(∀o∈os,4≤o∧o<n)∧4≤n:=by
 unfold Df at h
 simp only[az,aM] at h
 obtain⟨⟨h1,h2⟩,h3⟩:=h
 exact⟨i6 h1,fun o ho=>⟨Nat.le_of_ble_eq_true (h2 o ho).1,by have:=(h2 o ho).2;simpa[Nat.blt_eq] using this⟩,Nat.le_of_ble_eq_true h3⟩
theorem rl (os:List Nat)(n k:Nat):(k<4∧gN os n k=k)∨(∃m b,k=4+m∧os[m]?=some b∧gN os n k=b)∨(∃m,k=4+m∧os.length≤m∧gN os n k=n+(m-os.length)):=by
 by_cases hk:k<4
 ·exact .inl ⟨hk,pG os n hk⟩
 ·obtain⟨m,rfl⟩:∃m,k=4+m:=⟨k-4,by omega⟩
  rw[gY]
  by_cases hm:m<os.length
  ·exact .inr (.inl ⟨m,os[m],rfl,am hm,eG (am hm)⟩)
  ·exact .inr (.inr ⟨m,rfl,by omega,ye (by omega)⟩)
theorem EM {os:List Nat}{n:Nat}(h:Df os n=true){a b:Nat}(he:gN os n a=gN os n b):a=b:=by
 obtain⟨h1,h2,h3⟩:=B1 h
 rcases rl os n a with⟨a1,a2⟩|⟨m,x,rfl,a1,a2⟩|⟨m,rfl,a1,a2⟩<;>rcases rl os n b with⟨b1,b2⟩|⟨m',y,rfl,b1,b2⟩|⟨m',rfl,b1,b2⟩<;>rw[a2,b2] at he
 ·exact he
 ·have:=h2 y (br b1);omega
 ·omega
 ·have:=h2 x (br a1);omega
 ·subst he
  have e1:=(aR.1 a1).1
  have:=(List.getElem?_inj e1 h1).1 (a1.trans b1.symm)
  omega
 ·have:=h2 x (br a1);omega
 ·omega
 ·have:=h2 y (br b1);omega
 ·omega
theorem EL {os:List Nat}{n:Nat}(h:Df os n=true){a b:Id}(he:gI (gN os n) a=gI (gN os n) b):a=b:=by
 obtain⟨a1,a2⟩:=a
 obtain⟨b1,b2⟩:=b
 simp only[gI,a7] at he⊢
 exact⟨EM h he.1,he.2⟩
def pZ (b:Nat):List Nat→Nat→(Option Nat→Prop)→Prop
 |[],_,K=>K none
 |o::os,i,K=>bif Nat.beq o b then K (some i) else gJ (i+1) fun i=>pZ b os i K
theorem gg {b:Nat}:∀{os:List Nat} {i:Nat} {K:Option Nat→Prop},pZ b os i K→∃r,(r=none→b∉os)∧(∀j,r=some j→∃m,j=i+m∧os[m]?=some b)∧K r
 |[],i,K,hk=>⟨none,by simp,by simp,hk⟩
 |o::os,i,K,hk=>by
  simp only[pZ] at hk
  cases hb:Nat.beq o b with
  |true=>
   rw[hb] at hk
   obtain rfl:=cq hb
   exact⟨some i,by simp,fun j hj=>⟨0,by simpa using hj.symm,rfl⟩,hk⟩
  |false=>
   rw[hb] at hk
   simp only[cond_false] at hk
   have hk:=bU hk
   obtain⟨r,h1,h2,h3⟩:=gg hk
   refine⟨r,fun hr hm=>?_,fun j hj=>?_,h3⟩
   ·rcases aK.1 hm with rfl|hm
    ·simp at hb
    ·exact h1 hr hm
   ·obtain⟨m,e1,e2⟩:=h2 j hj
    exact⟨m+1,by omega,by simpa using e2⟩
def Ty.fams:Ty→List Nat
 | .hr k| .hp k| .vtxo k| .pplm k| .nod k| .evto k=>[k]
 | .pplo k k'=>[k,k']
 |_=>[]
def GR (a b:List Nat):Bool:=a.all fun x=>b.contains x
theorem wq {a b:List Nat}(h:GR a b=true):∀x∈a,x∈b:=by
 unfold GR at h
 rw[aM] at h
 intro x hx
 simpa using h x hx
def Ot (pss:List (List Int)):Option Nat→Option (List Int)
 |some i=>pss[i]?
 |none=>some []
def Nk (pss:List (List Int))(x:VtxO):Option Vtx:=(Ot pss x.parents).map fun ps=>⟨x.round,x.author,ps,x.digest⟩
def O3 (pss mss:List (List Int))(x:PplO):Option Ppl:=(Nk pss x.v).bind fun v=>(Ot mss x.members).map fun ms=>⟨v,ms⟩
def O1 (pss:List (List Int))(x:EvtO):Option Evt:=(Nk pss x.v).map fun v=>⟨x.kind,x.a,x.b,v⟩
def O2 (pss:List (List Int))(vss:List (List VtxO)):Option Nat→Option (List Vtx)
 |some i=>vss[i]?.bind fun vs=>vs.mapM (Nk pss)
 |none=>some []
def Ov (pss:List (List Int))(xs:List VtxO):List (List Vtx):=(xs.mapM (Nk pss)).toList
def Ou (pss mss:List (List Int))(xs:List PplO):List (List Ppl):=(xs.mapM (O3 pss mss)).toList
def Oo (pss:List (List Int))(xs:List EvtO):List (List Evt):=(xs.mapM (O1 pss)).toList
def Oq (pss:List (List Int))(vss:List (List VtxO))(xs:List (Option Nat)):List (List (List Vtx)):=(xs.mapM (O2 pss vss)).toList
def Eh (h:VH)(b:Nat)(t:Ty)(xs:List t.den)(K:V→List Nat→Prop):Prop:=
 match t,xs with
 | .vtxo k,xs=>(match aV h k with
  |some (.frow _ (.int .i64) pss)=>fF (Ov pss xs) 0 fun ys=>K (.lst .vtx ys) [b,k]
  |_=>False)
 | .pplo k k',xs=>(match aV h k,aV h k' with
  |some (.frow _ (.int .i64) pss),some (.frow _ (.int .i64) mss)=>fF (Ou pss mss xs) 0 fun ys=>K (.lst .ppl ys) [b,k,k']
  |_,_=>False)
 | .evto k,xs=>(match aV h k with
  |some (.frow _ (.int .i64) pss)=>fF (Oo pss xs) 0 fun ys=>K (.lst .evt ys) [b,k]
  |_=>False)
 | .hr k,xs=>(match aV h k with
  |some (.frow _ (.vtxo k') vss)=>(match aV h k' with
   |some (.frow _ (.int .i64) pss)=>fF (Oq pss vss xs) 0 fun ys=>K (.lst (.lst .vtx) ys) [b,k,k']
   |_=>False)
  |_=>False)
 |_,_=>False
mutual
def cB (os fs:List Nat)(h:VH)(v:V)(K:V→List Nat→Prop):Prop:=
 match v with
 | .ref b=>pZ b os 4 fun r=>(match r with
  |some i=>K (.ref i) []
  |none=>(match aV h b with
   |some (.row _ t xs)=>(match t.pure with
    |true=>K (.lst t xs) [b]
    |false=>Chk (os.isEmpty && fs.isEmpty) (Eh h b t xs K))
   |some (.froz t xs)=>K (.lst t xs) [b]
   |_=>False))
 | .ptr b o=>pZ b os 4 fun r=>(match r with
  |some i=>K (.ptr i o) []
  |none=>(match aV h b,o with
   |some (.fvb t x),0=>K (.box t x) [b]
   |_,_=>False))
 | .eptr b j o=>pZ b os 4 fun r=>(match r with|some i=>K (.eptr i j o) []|none=>False)
 | .vref b o m=>pZ b os 4 fun r=>(match r with|some i=>K (.vref i o m) []|none=>False)
 | .aptr b p j=>pZ b os 4 fun r=>(match r with|some i=>K (.aptr i p j) []|none=>False)
 | .fref k i=>Chk (fs.contains k) (K (.fref k i) [])
 | .fptr k i o=>Chk (fs.contains k) (K (.fptr k i o) [])
 | .feptr k i j o=>Chk (fs.contains k) (K (.feptr k i j o) [])
 | .faptr k i p j=>Chk (fs.contains k) (K (.faptr k i p j) [])
 | .hro k o=>(match fs.contains k with
  |true=>K (.hro k o) []
  |false=>iW o False fun i=>(match aV h k with
   |some (.frow _ t xss)=>Chk (t.pure && !os.contains k) (fF xss i fun xs=>K (.lst t xs) [k])
   |some (.frowx _ t xss)=>Chk (t.pure && !os.contains k) (fF xss i fun ox=>iW ox False fun xs=>K (.lst t xs) [k])
   |_=>False))
 | .hpo k o=>Chk (fs.contains k) (K (.hpo k o) [])
 | .agg cs=>mq os fs h cs fun cs ws=>K (.agg cs) ws
 | .clo f cs=>mq os fs h cs fun cs ws=>K (.clo f cs) ws
 | .ifc T v=>cB os fs h v fun v ws=>K (.ifc T v) ws
 | .nils=>K (.lst (.int .i64) []) []
 | .int k n=>K (.int k n) []
 | .bool b=>K (.bool b) []
 | .tt=>K .tt []
 | .ff=>K .ff []
 | .str s=>K (.str s) []
 | .lst t xs=>K (.lst t xs) []
 | .box t x=>K (.box t x) []
 | .nilp=>K .nilp []
 | .nilf=>K .nilf []
 | .nili=>K .nili []
 | .gv g=>K (.gv g) []
 | .obo t o=>K (.obo t o) []
 | .junk=>K .junk []
 |_=>False
def mq (os fs:List Nat)(h:VH)(l:List V)(K:List V→List Nat→Prop):Prop:=
 match l with
 |[]=>K [] []
 |v::l=>cB os fs h v fun v ws=>mq os fs h l fun l ws'=>K (v::l) (ws++ws')
end
def N9 (h:VH)(b:Nat):Prop:=(∃E t,∃xs:List (Ty.den t),t.pure=true∧look h b=some (.row E t xs))∨(∃t,∃xs:List (Ty.den t),look h b=some (.froz t xs))∨∃t,∃x:Ty.den t,look h b=some (.fvb t x)
def Oa (h:VH)(b:Nat):Prop:=(∃E t,∃xs:List (List (Ty.den t)),look h b=some (.frow E t xs))∨(∃E t,∃xs:List (Option (List (Ty.den t))),look h b=some (.frowx E t xs))∨∃E t,∃xs:List (Ty.den t),t.pure=false∧look h b=some (.row E t xs)
def tO (h:VH)(os fs:List Nat)(b:Nat):Prop:=b∉os∧(N9 h b∨(b∉fs∧Oa h b))
def MW (h:VH)(ws:List Nat)(W:List Id):Prop:=∀b∈ws,∀i,Live (toH h) (b,i)→(b,i)∈W
structure HinOK (os fs:List Nat)(h:VH)(hin:HL):Prop where
 low:∀k∈fs,k<4
 sgl:∀m b,os[m]?=some b→Live hin (4+m,0)
 fam:∀k∈fs,∀i,Live (toH h) (k,i)→Live hin (k,i)
theorem nj {os fs:List Nat}{n:Nat}{h:VH}{hin:HL}(H:HinOK os fs h hin){m b:Nat}(hb:os[m]?=some b):VLive (toH h) (gI (gN os n)) hin fs (4+m,0)∧gI (gN os n) (4+m,0)=(b,0):=
 ⟨.inl (H.sgl m b hb),by simp only[gI,gY,eG hb]⟩
theorem qi {os fs:List Nat}{n:Nat}{h:VH}{hin:HL}(H:HinOK os fs h hin){k:Nat}(hk:k∈fs)(i:Nat):VLive (toH h) (gI (gN os n)) hin fs (k,i)∧gI (gN os n) (k,i)=(k,i):=by
 have e:gI (gN os n) (k,i)=(k,i):=by simp only[gI,pG os n (H.low k hk)]
 exact⟨.inr ⟨by rw[e];exact hk,fun hl=>H.fam k hk i (by rw[e] at hl;exact hl)⟩,e⟩
section
variable {os fs:List Nat} {n:Nat} {h:VH} {hin:HL} {W:List Id}
theorem G4 (H:HinOK os fs h hin){m b:Nat}(hb:os[m]?=some b):View (toH h) (gI (gN os n)) hin W fs (.ref (b,0)) (.ref (4+m,0)):=by
 obtain⟨h1,h2⟩:=nj (n:=n) H hb
 have:=View.ref (W:=W) _ h1
 rwa [h2] at this
theorem yQ (H:HinOK os fs h hin){m b:Nat}(hb:os[m]?=some b)(o:Nat):View (toH h) (gI (gN os n)) hin W fs (.ptr (b,0) o) (.ptr (4+m,0) o):=by
 obtain⟨h1,h2⟩:=nj (n:=n) H hb
 have:=View.ptr (W:=W) _ o h1
 rwa [h2] at this
theorem Dw (H:HinOK os fs h hin){m b:Nat}(hb:os[m]?=some b)(j o:Nat):View (toH h) (gI (gN os n)) hin W fs (.eptr (b,0) j o) (.eptr (4+m,0) j o):=by
 obtain⟨h1,h2⟩:=nj (n:=n) H hb
 have:=View.eptr (W:=W) _ j o h1
 rwa [h2] at this
theorem Dx (H:HinOK os fs h hin){m b:Nat}(hb:os[m]?=some b)(o q:Nat):View (toH h) (gI (gN os n)) hin W fs (.vref (b,0) o q) (.vref (4+m,0) o q):=by
 obtain⟨h1,h2⟩:=nj (n:=n) H hb
 have:=View.vref (W:=W) _ o q h1
 rwa [h2] at this
theorem uP (H:HinOK os fs h hin){k:Nat}(hk:k∈fs)(i:Nat):View (toH h) (gI (gN os n)) hin W fs (.ref (k,i)) (.ref (k,i)):=by
 obtain⟨h1,h2⟩:=qi (n:=n) H hk i
 have:=View.ref (W:=W) _ h1
 rwa [h2] at this
theorem qh (H:HinOK os fs h hin){k:Nat}(hk:k∈fs)(i o:Nat):View (toH h) (gI (gN os n)) hin W fs (.ptr (k,i) o) (.ptr (k,i) o):=by
 obtain⟨h1,h2⟩:=qi (n:=n) H hk i
 have:=View.ptr (W:=W) _ o h1
 rwa [h2] at this
theorem AK (H:HinOK os fs h hin){k:Nat}(hk:k∈fs)(i j o:Nat):View (toH h) (gI (gN os n)) hin W fs (.eptr (k,i) j o) (.eptr (k,i) j o):=by
 obtain⟨h1,h2⟩:=qi (n:=n) H hk i
 have:=View.eptr (W:=W) _ j o h1
 rwa [h2] at this
theorem jW (H:HinOK os fs h hin){k:Nat}(hk:k∈fs)(o:Option Nat):View (toH h) (gI (gN os n)) hin W fs (mZ k o) (mZ k o):=by
 cases o with
 |none=>exact .pure 0 _ _ rfl (fun b hb=>by cases hb)
 |some i=>exact uP H hk i
theorem Cs (H:HinOK os fs h hin){k:Nat}(hk:k∈fs)(o:Option Nat):View (toH h) (gI (gN os n)) hin W fs (qC k o) (qC k o):=by
 cases o with
 |none=>exact .pure 0 _ _ rfl (fun b hb=>by cases hb)
 |some i=>exact qh H hk i 0
theorem ni {d d':D}{g:Id→Id}{hh:HL}(hd:leaf d=some d'):View hh g hin W fs d d':=.pure 0 _ _ hd (fun b hb=>by cases hb)
theorem kR {cs:List D}{g:Id→Id}{hh:HL}(hc:∀c∈cs,View hh g hin W fs c c):View hh g hin W fs (.agg cs) (.agg cs):=.agg cs cs rfl fun i hi=>hc _ (bl hi)
theorem pf (H:HinOK os fs h hin){t:Ty}(ht:∀k∈t.fams,k∈fs)(x:t.den):View (toH h) (gI (gN os n)) hin W fs (ai t x) (ai t x):=by
 by_cases hp:t.pure=true
 ·by_cases hag:∃cs,ai t x= .agg cs
  ·obtain⟨cs,he⟩:=hag
   have:=kH hp x
   rw[he] at this⊢
   exact kR fun c hc=>ni (this c hc)
  ·have hc:(ai t x).cells=[ai t x]:=dh fun cs hcs=>hag ⟨cs,hcs⟩
   exact ni (kH hp x _ (by rw[hc];exact aZ.2 rfl))
 ·have lf:∀d:D,leaf d=some d→View (toH h) (gI (gN os n)) hin W fs d d:=fun d hd=>ni hd
  cases t<;>simp only[Ty.pure,not_true_eq_false] at hp
  case hr k=>exact jW H (ht k (by simp[Ty.fams])) x
  case hp k=>exact Cs H (ht k (by simp[Ty.fams])) x
  case vtxo k=>
   refine kR fun c hc=>?_
   simp only[aK,gx,or_false] at hc
   rcases hc with rfl|rfl|rfl|rfl
   ·exact lf _ rfl
   ·exact lf _ rfl
   ·exact jW H (ht k (by simp[Ty.fams])) _
   ·exact lf _ rfl
  case pplm k=>
   refine kR fun c hc=>?_
   simp only[iO,gz,dS,aK,gx,or_false] at hc
   rcases hc with rfl|rfl|rfl|rfl|rfl
   ·exact lf _ rfl
   ·exact lf _ rfl
   ·exact lf _ rfl
   ·exact lf _ rfl
   ·exact jW H (ht k (by simp[Ty.fams])) _
  case pplo k k'=>
   refine kR fun c hc=>?_
   simp only[aK,gx,or_false] at hc
   rcases hc with rfl|rfl|rfl|rfl|rfl
   ·exact lf _ rfl
   ·exact lf _ rfl
   ·exact jW H (ht k (by simp[Ty.fams])) _
   ·exact lf _ rfl
   ·exact jW H (ht k' (by simp[Ty.fams])) _
  case evto k=>
   refine kR fun c hc=>?_
   simp only[aK,gx,or_false] at hc
   rcases hc with rfl|rfl|rfl|rfl|rfl|rfl|rfl
   ·exact lf _ rfl
   ·exact lf _ rfl
   ·exact lf _ rfl
   ·exact lf _ rfl
   ·exact lf _ rfl
   ·exact jW H (ht k (by simp[Ty.fams])) _
   ·exact lf _ rfl
  case nod k=>
   refine kR fun c hc=>?_
   simp only[iO,gz,dS,aK,gx,or_false] at hc
   rcases hc with rfl|rfl|rfl|rfl|rfl|rfl
   ·exact lf _ rfl
   ·exact lf _ rfl
   ·exact lf _ rfl
   ·exact lf _ rfl
   ·exact lf _ rfl
   ·exact jW H (ht k (by simp[Ty.fams])) _
theorem Ct {b:Nat}(hw:(b,0)∈W){t:Ty}{xs:List t.den}{g:Id→Id}(hb:(∃E,t.pure=true∧look h b=some (.row E t xs))∨look h b=some (.froz t xs)):View (toH h) g hin W fs (.ref (b,0)) (.lst (xs.map (ai t))):=by
 refine .pure 1 _ _ ?_ fun c hc=>?_
 ·rcases hb with⟨E,hp,hb⟩|hb
  ·have hl:=av (i:=0) hb (d:=.row E (xs.map (ai t))) rfl
   simp only[purD,hl]
   rw[show (fun x=>leaf x)=leaf from rfl,row_pure hp]
   rfl
  ·have hl:=av (i:=0) hb (d:=.froz (xs.map (ai t))) rfl
   simp only[purD,hl]
 ·unfold idsD at hc
  rcases aK.1 hc with rfl|hc
  ·exact hw
  ·exfalso
   split at hc
   ·rw[d8] at hc
    obtain⟨e,_,hc⟩:=hc
    rw[d8] at hc
    obtain⟨d,_,hc⟩:=hc
    cases hc
   ·cases hc
theorem yR {b i:Nat}(hw:(b,i)∈W){E:TypeId}{t:Ty}{xs:List t.den}{g:Id→Id}(hp:t.pure=true)(hl:look (toH h) (b,i)=some (.row E (xs.map (ai t)))):View (toH h) g hin W fs (.ref (b,i)) (.lst (xs.map (ai t))):=by
 refine .pure 1 _ _ ?_ fun c hc=>?_
 ·simp only[purD,hl]
  rw[show (fun x=>leaf x)=leaf from rfl,row_pure hp]
  rfl
 ·unfold idsD at hc
  rcases aK.1 hc with rfl|hc
  ·exact hw
  ·exfalso
   split at hc
   ·rw[d8] at hc
    obtain⟨e,_,hc⟩:=hc
    rw[d8] at hc
    obtain⟨d,_,hc⟩:=hc
    cases hc
   ·cases hc
theorem oI {α β:Type}{f:α→Option β}{l:List α}{l':List β}(h:l.mapM f=some l'):l.length=l'.length∧∀(i:Nat) x,l[i]?=some x→∃y,l'[i]?=some y∧f x=some y:=by
 induction l generalizing l' with
 |nil=>simp at h;subst h;exact⟨rfl,fun i x hx=>by simp at hx⟩
 |cons a l ih=>
  simp only[iC,qm,Option.pure_def] at h
  obtain⟨y,h1,h⟩:=bw.1 h
  obtain⟨l2,h2,h⟩:=bw.1 h
  obtain rfl:=aq h
  obtain⟨h3,h4⟩:=ih h2
  refine⟨by simp[h3],fun i x hx=>?_⟩
  cases i with
  |zero=>simp at hx;subst hx;exact⟨y,rfl,h1⟩
  |succ i=>simpa using h4 i x (by simpa using hx)
theorem s0 {α β γ δ:Type}{f:α→Option β}{p:γ→α}{q:δ→β}:∀{l:List γ} {l':List δ},l.length=l'.length→(∀(i:Nat) x y,l[i]?=some x→l'[i]?=some y→f (p x)=some (q y))→(l.map p).mapM f=some (l'.map q)
 |[],[],_,_=>rfl
 |[],_::_,h,_=>by cases h
 |_::_,[],h,_=>by cases h
 |x::l,y::l',hl,h=>by simp[iC,h 0 x y rfl rfl,s0 (l:=l) (l':=l') (by simpa using hl) fun i a b ha hb=>h (i+1) a b (by simpa using ha) (by simpa using hb)]
structure DpE (h:VH)(n:Nat)(g:List Nat)(d d':D):Prop where
 pur:purE (purD (toH h) n) d=some d'
 ids:∀c∈d.cells,∀b∈idsD (toH h) n c,b.1∈g∧Live (toH h) b
theorem zw {h:VH}{n:Nat}{g:List Nat}{k i:Nat}{E:TypeId}{ds ds':List D}(hl:look (toH h) (k,i)=some (.row E ds))(hk:k∈g)(hlen:ds.length=ds'.length)(hd:∀(j:Nat) x y,ds[j]?=some x→ds'[j]?=some y→DpE h n g x y):
  purD (toH h) (n+1) (.ref (k,i))=some (.lst ds')∧∀b∈idsD (toH h) (n+1) (.ref (k,i)),b.1∈g∧Live (toH h) b:=by
 constructor
 ·have:=s0 (f:=purE (purD (toH h) n)) (p:=id) (q:=id) hlen fun j x y hx hy=>(hd j x y hx hy).pur
  simp only[List.map_id] at this
  simp only[purD,hl,this,aI]
 ·intro b hb
  simp only[idsD,hl] at hb
  rcases aK.1 hb with rfl|hb
  ·exact⟨hk,Live.of_look hl⟩
  ·obtain⟨e,he,hb⟩:=d8.1 hb
   obtain⟨c,hc,hb⟩:=d8.1 hb
   obtain⟨j,hj⟩:=iR he
   have hj2:j<ds'.length:=by rw[←hlen];exact(aR.1 hj).1
   exact(hd j e _ hj (am hj2)).ids c hc b hb
theorem HP {h:VH}{n:Nat}{g:List Nat}{t:Ty}(ht:t.pure=true)(x:t.den)(hn:n=0):DpE h n g (ai t x) (ai t x):=by
 subst hn
 exact⟨uJ ht x,fun c hc b hb=>by cases hb⟩
theorem Bc {h:VH}{g:List Nat}{k:Nat}{E:TypeId}{pss:List (List Int)}(hk:look h k=some (.frow E (.int .i64) pss))(hg:k∈g){o:Option Nat}{ps:List Int}(hp:Ot pss o=some ps):
  purD (toH h) 1 (mZ k o)=some (ga ps)∧∀b∈idsD (toH h) 1 (mZ k o),b.1∈g∧Live (toH h) b:=by
 cases o with
 |none=>
  obtain rfl:=aq hp
  exact⟨rfl,fun b hb=>by simp[mZ,idsD] at hb⟩
 |some i=>
  have hl:=av (i:=i) hk (d:=.row E (ps.map (ai (.int .i64)))) (by simp only[VB.blks,bf];rw[show pss[i]?=some ps from hp];rfl)
  refine zw hl hg rfl fun j x y hx hy=>?_
  rw[l7] at hx
  rw[hx] at hy
  obtain rfl:=aq hy
  obtain⟨e,_,rfl⟩:=aB.1 (br hx)
  exact HP (t:=.int .i64) rfl e rfl
theorem iI {h:VH}{n:Nat}{g:List Nat}(x:Int):purD (toH h) n (.int .i64 x)=some (.int .i64 x)∧∀b∈idsD (toH h) n (.int .i64 x),b.1∈g∧Live (toH h) b:=by
 cases n<;>exact⟨rfl,fun b hb=>by simp[idsD] at hb⟩
theorem zu {h:VH}{n:Nat}{g:List Nat}:∀{cs cs':List D},cs.length=cs'.length→(∀(i:Nat) c c',cs[i]?=some c→cs'[i]?=some c'→purD (toH h) n c=some c'∧∀b∈idsD (toH h) n c,b.1∈g∧Live (toH h) b)→DpE h n g (.agg cs) (.agg cs'):=by
 intro cs cs' hl hc
 constructor
 ·have:=s0 (f:=purD (toH h) n) (p:=id) (q:=id) hl fun i x y hx hy=>(hc i x y hx hy).1
  simp only[List.map_id] at this
  simp only[purE,this,aI]
 ·intro c hm b hb
  obtain⟨i,hi⟩:=iR (show c∈cs from hm)
  have hi2:i<cs'.length:=by rw[←hl];exact(aR.1 hi).1
  exact(hc i c _ hi (am hi2)).2 b hb
theorem En {h:VH}{g:List Nat}{k:Nat}{E:TypeId}{pss:List (List Int)}(hk:look h k=some (.frow E (.int .i64) pss))(hg:k∈g){x:VtxO}{y:Vtx}(hp:Nk pss x=some y):DpE h 1 g (ai (.vtxo k) x) (ai .vtx y):=by
 obtain⟨ps,h1,rfl⟩:=bj.1 hp
 refine zu rfl fun i c c' hc hc'=>?_
 match i with
 |0=>obtain rfl:=aq hc;obtain rfl:=aq hc';exact iI _
 |1=>obtain rfl:=aq hc;obtain rfl:=aq hc';exact iI _
 |2=>obtain rfl:=aq hc;obtain rfl:=aq hc';exact Bc hk hg h1
 |3=>obtain rfl:=aq hc;obtain rfl:=aq hc';exact iI _
 |i+4=>cases hc
theorem KH {h:VH}{g:List Nat}{k k':Nat}{E E':TypeId}{pss mss:List (List Int)}(hk:look h k=some (.frow E (.int .i64) pss))(hk':look h k'=some (.frow E' (.int .i64) mss))(hg:k∈g)(hg':k'∈g){x:PplO}{y:Ppl}(hp:O3 pss mss x=some y):DpE h 1 g (ai (.pplo k k') x) (ai .ppl y):=by
 obtain⟨v,h1,h2⟩:=bw.1 hp
 obtain⟨ms,h3,rfl⟩:=bj.1 h2
 obtain⟨ps,h4,rfl⟩:=bj.1 h1
 refine zu rfl fun i c c' hc hc'=>?_
 match i with
 |0=>obtain rfl:=aq hc;obtain rfl:=aq hc';exact iI _
 |1=>obtain rfl:=aq hc;obtain rfl:=aq hc';exact iI _
 |2=>obtain rfl:=aq hc;obtain rfl:=aq hc';exact Bc hk hg h4
 |3=>obtain rfl:=aq hc;obtain rfl:=aq hc';exact iI _
 |4=>obtain rfl:=aq hc;obtain rfl:=aq hc';exact Bc hk' hg' h3
 |i+5=>cases hc
theorem KF {h:VH}{g:List Nat}{k:Nat}{E:TypeId}{pss:List (List Int)}(hk:look h k=some (.frow E (.int .i64) pss))(hg:k∈g){x:EvtO}{y:Evt}(hp:O1 pss x=some y):DpE h 1 g (ai (.evto k) x) (ai .evt y):=by
 obtain⟨v,h1,rfl⟩:=bj.1 hp
 obtain⟨ps,h2,rfl⟩:=bj.1 h1
 refine zu rfl fun i c c' hc hc'=>?_
 match i with
 |0=>obtain rfl:=aq hc;obtain rfl:=aq hc';exact iI _
 |1=>obtain rfl:=aq hc;obtain rfl:=aq hc';exact iI _
 |2=>obtain rfl:=aq hc;obtain rfl:=aq hc';exact iI _
 |3=>obtain rfl:=aq hc;obtain rfl:=aq hc';exact iI _
 |4=>obtain rfl:=aq hc;obtain rfl:=aq hc';exact iI _
 |5=>obtain rfl:=aq hc;obtain rfl:=aq hc';exact Bc hk hg h2
 |6=>obtain rfl:=aq hc;obtain rfl:=aq hc';exact iI _
 |i+7=>cases hc
theorem KG {h:VH}{g:List Nat}{k k':Nat}{E E':TypeId}{pss:List (List Int)}{vss:List (List VtxO)}(hk:look h k=some (.frow E (.vtxo k') vss))(hk':look h k'=some (.frow E' (.int .i64) pss))(hg:k∈g)(hg':k'∈g){o:Option Nat}{y:List Vtx}(hp:O2 pss vss o=some y):DpE h 2 g (ai (.hr k) o) (ai (.lst .vtx) y):=by
 cases o with
 |none=>
  obtain rfl:=aq hp
  exact⟨rfl,fun c hc b hb=>by simp[ai,mZ,D.cells] at hc;subst hc;simp[idsD] at hb⟩
 |some i=>
  obtain⟨vs,h1,h2⟩:=bw.1 hp
  have hl:=av (i:=i) hk (d:=.row E (vs.map (ai (.vtxo k')))) (by simp only[VB.blks,bf,h1,aI])
  obtain⟨h3,h4⟩:=oI h2
  obtain⟨q1,q2⟩:=zw (n:=1) (g:=g) (ds':=y.map (ai .vtx)) hl hg (by simp[h3]) fun j x z hx hz=>by
   rw[bf] at hx hz
   obtain⟨a,ha,rfl⟩:=bj.1 hx
   obtain⟨c,hc,rfl⟩:=bj.1 hz
   obtain⟨c2,hc2,hf⟩:=h4 j a ha
   rw[hc] at hc2
   obtain rfl:=aq hc2
   exact En hk' hg' hf
  refine⟨q1,fun c hc b hb=>?_⟩
  simp only[ai,mZ,D.cells,aZ] at hc
  subst hc
  exact q2 b hb
theorem nh {hin:HL}{W:List Id}{g:Id→Id}{fs:List Nat}{h:VH}{b n:Nat}{E:TypeId}{t t':Ty}{xs:List t.den}{ys:List t'.den}{ws:List Nat}(hb:look h b=some (.row E t xs))(hw:b∈ws)(hW:MW h ws W)(hl:xs.length=ys.length)(hd:∀(i:Nat) x y,xs[i]?=some x→ys[i]?=some y→DpE h n ws (ai t x) (ai t' y)):View (toH h) g hin W fs (.ref (b,0)) (.lst (ys.map (ai t'))):=by
 obtain⟨q1,q2⟩:=zw (n:=n) (g:=ws) (ds':=ys.map (ai t')) (av (i:=0) hb (d:=.row E (xs.map (ai t))) rfl) hw (by simp[hl]) fun j x z hx hz=>by
  rw[bf] at hx hz
  obtain⟨a,ha,rfl⟩:=bj.1 hx
  obtain⟨c,hc,rfl⟩:=bj.1 hz
  exact hd j a c ha hc
 exact .pure _ _ _ q1 fun c hc=>hW c.1 (q2 c hc).1 c.2 (q2 c hc).2
theorem o9 {α:Type}{o:Option α}{x:α}(h:o.toList[0]?=some x):o=some x:=by cases o<;>simp at h;rw[h]
theorem Ei {os fs:List Nat}{h:VH}{b:Nat}{E:TypeId}{t:Ty}{xs:List t.den}{K:V→List Nat→Prop}(hos:os=[])(hfs:fs=[])(hp:t.pure=false)(hb:look h b=some (.row E t xs))(hk:Eh h b t xs K):
  ∃v' ws,(∀(g:Id→Id) (hin:HL) (W:List Id) (F:List Nat),MW h ws W→View (toH h) g hin W F (.ref (b,0)) v'.toD)∧(∀b∈ws,tO h os fs b)∧K v' ws:=by
 subst hos hfs
 have r0:tO h [] [] b:=⟨by simp,.inr ⟨by simp,.inr (.inr ⟨E,t,xs,hp,hb⟩)⟩⟩
 have rf:∀k E' t',∀yss:List (List (Ty.den t')),look h k=some (.frow E' t' yss)→tO h [] [] k:=fun k E' t' yss hk=>⟨by simp,.inr ⟨by simp,.inl ⟨E',t',yss,hk⟩⟩⟩
 unfold Eh at hk
 split at hk
 ·rename_i k xs
  split at hk
  ·rename_i E' pss hl
   rw[aS] at hl
   obtain⟨ys,hy,hk⟩:=hk
   have hy:=oI (o9 hy)
   refine⟨_,_,fun g hin W F hW=>nh (n:=1) hb (by simp) hW hy.1 fun i x y hx hz=>?_,fun c hc=>?_,hk⟩
   ·obtain⟨z,z1,z2⟩:=hy.2 i x hx
    rw[hz] at z1
    obtain rfl:=aq z1
    exact En hl (by simp) z2
   ·rcases aK.1 hc with rfl|hc
    ·exact r0
    ·obtain rfl:=aZ.1 hc
     exact rf _ _ _ _ hl
  ·exact hk.elim
 ·rename_i k k' xs
  split at hk
  ·rename_i E' pss E'' mss hl hl'
   rw[aS] at hl hl'
   obtain⟨ys,hy,hk⟩:=hk
   have hy:=oI (o9 hy)
   refine⟨_,_,fun g hin W F hW=>nh (n:=1) hb (by simp) hW hy.1 fun i x y hx hz=>?_,fun c hc=>?_,hk⟩
   ·obtain⟨z,z1,z2⟩:=hy.2 i x hx
    rw[hz] at z1
    obtain rfl:=aq z1
    exact KH hl hl' (by simp) (by simp) z2
   ·rcases aK.1 hc with rfl|hc
    ·exact r0
    ·rcases aK.1 hc with rfl|hc
     ·exact rf _ _ _ _ hl
     ·obtain rfl:=aZ.1 hc
      exact rf _ _ _ _ hl'
  ·exact hk.elim
 ·rename_i k xs
  split at hk
  ·rename_i E' pss hl
   rw[aS] at hl
   obtain⟨ys,hy,hk⟩:=hk
   have hy:=oI (o9 hy)
   refine⟨_,_,fun g hin W F hW=>nh (n:=1) hb (by simp) hW hy.1 fun i x y hx hz=>?_,fun c hc=>?_,hk⟩
   ·obtain⟨z,z1,z2⟩:=hy.2 i x hx
    rw[hz] at z1
    obtain rfl:=aq z1
    exact KF hl (by simp) z2
   ·rcases aK.1 hc with rfl|hc
    ·exact r0
    ·obtain rfl:=aZ.1 hc
     exact rf _ _ _ _ hl
  ·exact hk.elim
 ·rename_i k xs
  split at hk
  ·rename_i E' k' vss hl
   split at hk
   ·rename_i E'' pss hl'
    rw[aS] at hl hl'
    obtain⟨ys,hy,hk⟩:=hk
    have hy:=oI (o9 hy)
    refine⟨_,_,fun g hin W F hW=>nh (n:=2) hb (by simp) hW hy.1 fun i x y hx hz=>?_,fun c hc=>?_,hk⟩
    ·obtain⟨z,z1,z2⟩:=hy.2 i x hx
     rw[hz] at z1
     obtain rfl:=aq z1
     exact KG hl hl' (by simp) (by simp) z2
    ·rcases aK.1 hc with rfl|hc
     ·exact r0
     ·rcases aK.1 hc with rfl|hc
      ·exact rf _ _ _ _ hl
      ·obtain rfl:=aZ.1 hc
       exact rf _ _ _ _ hl'
   ·exact hk.elim
  ·exact hk.elim
 ·exact hk.elim
end
end Go.Proofs.YtpefhoohfkeflabGreatDoor.Am
namespace Go.Proofs.YtpefhoohfkeflabGreatDoor.Am
open Go Go.RowKit
variable {P:Program} {os fs:List Nat} {n:Nat} {h:VH}
def Vw (os fs:List Nat)(n:Nat)(h:VH)(ws:List Nat)(v v':V):Prop:=∀hin,HinOK os fs h hin→∀W:List Id,MW h ws W→View (toH h) (gI (gN os n)) hin W fs v.toD v'.toD
def O0 (os fs:List Nat)(n:Nat)(h:VH)(ws:List Nat)(l l':List V):Prop:=(ak l).length=(ak l').length∧∀hin,HinOK os fs h hin→∀W:List Id,MW h ws W→∀i,i<(ak l).length→View (toH h) (gI (gN os n)) hin W fs ((ak l).getD i .undef) ((ak l').getD i .undef)
theorem ft {v v':V}{ws:List Nat}(hd:leaf v.toD=some v'.toD):Vw os fs n h ws v v':=fun _ _ _ _=>ni hd
mutual
theorem tF:∀{v:V} {K:V→List Nat→Prop},cB os fs h v K→∃v' ws,Vw os fs n h ws v v'∧(∀b∈ws,tO h os fs b)∧K v' ws
 | .ref b,K,hk=>by
  simp only[cB] at hk
  obtain⟨r,r1,r2,hk⟩:=gg hk
  split at hk
  ·obtain⟨m,rfl,hm⟩:=r2 _ rfl
   exact⟨_,_,fun hin H W _=>G4 H hm,by simp,hk⟩
  ·split at hk
   ·rename_i E t xs hb
    rw[aS] at hb
    split at hk
    ·rename_i c
     exact⟨_,_,fun hin H W hW=>Ct (hW b (by simp) 0 (Live.of_look (av (i:=0) hb rfl))) (.inl ⟨E,c,hb⟩),fun b' hb'=>by simp at hb';subst hb';exact⟨r1 rfl,.inl (.inl ⟨E,t,xs,c,hb⟩)⟩,hk⟩
    ·rename_i c
     obtain⟨c2,hk⟩:=hk.ok
     simp only[az,List.isEmpty_iff] at c2
     obtain⟨v',ws,d1,d2,d3⟩:=Ei c2.1 c2.2 c hb hk
     exact⟨v',ws,fun hin H W hW=>d1 _ _ _ _ hW,d2,d3⟩
   ·rename_i t xs hb
    rw[aS] at hb
    exact⟨_,_,fun hin H W hW=>Ct (hW b (by simp) 0 (Live.of_look (av (i:=0) hb rfl))) (.inr hb),fun b' hb'=>by simp at hb';subst hb';exact⟨r1 rfl,.inl (.inr (.inl ⟨t,xs,hb⟩))⟩,hk⟩
   ·exact hk.elim
 | .ptr b o,K,hk=>by
  simp only[cB] at hk
  obtain⟨r,r1,r2,hk⟩:=gg hk
  split at hk
  ·obtain⟨m,rfl,hm⟩:=r2 _ rfl
   exact⟨_,_,fun hin H W _=>yQ H hm o,by simp,hk⟩
  ·split at hk
   ·rename_i t x hb _
    rw[aS] at hb
    have hl:=av (i:=0) hb (d:=.fvar (ai t x).cells) rfl
    refine⟨_,_,fun hin H W hW=>.pure 1 _ _ (by simp only[V.toD,purD,hl]) fun c hc=>?_,fun b' hb'=>by simp at hb';subst hb';exact⟨r1 rfl,.inl (.inr (.inr ⟨t,x,hb⟩))⟩,hk⟩
    simp only[V.toD,idsD,hl,aK,gx,or_false] at hc
    subst hc
    exact hW b (by simp) 0 (Live.of_look hl)
   ·exact hk.elim
 | .eptr b j o,K,hk=>by
  simp only[cB] at hk
  obtain⟨r,r1,r2,hk⟩:=gg hk
  split at hk
  ·obtain⟨m,rfl,hm⟩:=r2 _ rfl
   exact⟨_,_,fun hin H W _=>Dw H hm j o,by simp,hk⟩
  ·exact hk.elim
 | .vref b o q,K,hk=>by
  simp only[cB] at hk
  obtain⟨r,r1,r2,hk⟩:=gg hk
  split at hk
  ·obtain⟨m,rfl,hm⟩:=r2 _ rfl
   exact⟨_,_,fun hin H W _=>Dx H hm o q,by simp,hk⟩
  ·exact hk.elim
 | .aptr b p j,K,hk=>by
  simp only[cB] at hk
  obtain⟨r,r1,r2,hk⟩:=gg hk
  split at hk
  ·obtain⟨m,rfl,hm⟩:=r2 _ rfl
   exact⟨_,_,fun hin H W _=>yQ H hm (p+j),by simp,hk⟩
  ·exact hk.elim
 | .fref k i,K,hk=>by
  simp only[cB] at hk
  obtain⟨c,hk⟩:=hk.ok
  exact⟨_,_,fun hin H W _=>uP H (by simpa using c) i,by simp,hk⟩
 | .fptr k i o,K,hk=>by
  simp only[cB] at hk
  obtain⟨c,hk⟩:=hk.ok
  exact⟨_,_,fun hin H W _=>qh H (by simpa using c) i o,by simp,hk⟩
 | .feptr k i j o,K,hk=>by
  simp only[cB] at hk
  obtain⟨c,hk⟩:=hk.ok
  exact⟨_,_,fun hin H W _=>AK H (by simpa using c) i j o,by simp,hk⟩
 | .faptr k i p j,K,hk=>by
  simp only[cB] at hk
  obtain⟨c,hk⟩:=hk.ok
  exact⟨_,_,fun hin H W _=>qh H (by simpa using c) i (p+j),by simp,hk⟩
 | .hro k o,K,hk=>by
  simp only[cB] at hk
  split at hk
  ·rename_i c
   exact⟨_,_,fun hin H W _=>jW H (by simpa using c) o,by simp,hk⟩
  ·rename_i c
   have c:k∉fs:=by simpa using c
   cases o with
   |none=>exact(hk.1 rfl).elim
   |some i=>
    have hk:=hk.2 i rfl
    split at hk
    ·rename_i E t xss hb
     rw[aS] at hb
     obtain⟨c2,xs,hxs,hk⟩:=hk.ok
     simp only[az,fO,List.contains_eq_mem,decide_eq_false_iff_not] at c2
     have hl:=av (i:=i) hb (d:=.row E (xs.map (ai t))) (by simp only[VB.blks,bf,hxs,aI])
     exact⟨_,_,fun hin H W hW=>yR (hW k (by simp) i (Live.of_look hl)) c2.1 hl,fun b' hb'=>by simp at hb';subst hb';exact⟨c2.2,.inr ⟨c,.inl ⟨E,t,xss,hb⟩⟩⟩,hk⟩
    ·rename_i E t xss hb
     rw[aS] at hb
     obtain⟨c2,ox,hxs,hk⟩:=hk.ok
     simp only[az,fO,List.contains_eq_mem,decide_eq_false_iff_not] at c2
     cases ox with
     |none=>exact(hk.1 rfl).elim
     |some xs=>
      have hk:=hk.2 xs rfl
      have hl:=av (i:=i) hb (d:=.row E (xs.map (ai t))) (by simp only[VB.blks,bf,hxs,aI,rowX])
      exact⟨_,_,fun hin H W hW=>yR (hW k (by simp) i (Live.of_look hl)) c2.1 hl,fun b' hb'=>by simp at hb';subst hb';exact⟨c2.2,.inr ⟨c,.inr (.inl ⟨E,t,xss,hb⟩)⟩⟩,hk⟩
    ·exact hk.elim
 | .hpo k o,K,hk=>by
  simp only[cB] at hk
  obtain⟨c,hk⟩:=hk.ok
  exact⟨_,_,fun hin H W _=>Cs H (by simpa using c) o,by simp,hk⟩
 | .agg cs,K,hk=>by
  simp only[cB] at hk
  obtain⟨cs',ws,h1,h2,h3⟩:=kQ hk
  exact⟨_,ws,fun hin H W hW=>by simp only[V.toD];exact .agg _ _ h1.1 (h1.2 hin H W hW),h2,h3⟩
 | .clo f cs,K,hk=>by
  simp only[cB] at hk
  obtain⟨cs',ws,h1,h2,h3⟩:=kQ hk
  exact⟨_,ws,fun hin H W hW=>by simp only[V.toD];exact .clo f _ _ h1.1 (h1.2 hin H W hW),h2,h3⟩
 | .ifc T v,K,hk=>by
  simp only[cB] at hk
  obtain⟨v',ws,h1,h2,h3⟩:=tF hk
  exact⟨_,ws,fun hin H W hW=>by simp only[V.toD];exact .ifc T _ _ (h1 hin H W hW),h2,h3⟩
 | .nils,K,hk=>⟨_,[],ft (v':=.lst (.int .i64) []) rfl,by simp,by simpa only[cB] using hk⟩
 | .int k m,K,hk=>⟨_,[],ft (v':=.int k m) rfl,by simp,by simpa only[cB] using hk⟩
 | .bool b,K,hk=>⟨_,[],ft (v':=.bool b) rfl,by simp,by simpa only[cB] using hk⟩
 | .tt,K,hk=>⟨_,[],ft (v':=.tt) rfl,by simp,by simpa only[cB] using hk⟩
 | .ff,K,hk=>⟨_,[],ft (v':=.ff) rfl,by simp,by simpa only[cB] using hk⟩
 | .str s,K,hk=>⟨_,[],ft (v':=.str s) rfl,by simp,by simpa only[cB] using hk⟩
 | .lst t xs,K,hk=>⟨_,[],ft (v':=.lst t xs) rfl,by simp,by simpa only[cB] using hk⟩
 | .box t x,K,hk=>⟨_,[],ft (v':=.box t x) rfl,by simp,by simpa only[cB] using hk⟩
 | .nilp,K,hk=>⟨_,[],ft (v':=.nilp) rfl,by simp,by simpa only[cB] using hk⟩
 | .nilf,K,hk=>⟨_,[],ft (v':=.nilf) rfl,by simp,by simpa only[cB] using hk⟩
 | .nili,K,hk=>⟨_,[],ft (v':=.nili) rfl,by simp,by simpa only[cB] using hk⟩
 | .obo t o,K,hk=>⟨_,[],ft (v':=.obo t o) (by cases o<;>rfl),by simp,by simpa only[cB] using hk⟩
 | .junk,K,hk=>⟨_,[],fun _ _ _ _=>.junk,by simp,by simpa only[cB] using hk⟩
 | .gv g,K,hk=>⟨.gv g,[],fun _ _ _ _=>.gv g,by simp,by simpa only[cB] using hk⟩
 | .tup _,K,hk| .gp _,K,hk| .iptr ..,K,hk| .undef,K,hk=>by simp only[cB] at hk
theorem kQ:∀{l:List V} {K:List V→List Nat→Prop},mq os fs h l K→∃l' ws,O0 os fs n h ws l l'∧(∀b∈ws,tO h os fs b)∧K l' ws
 |[],K,hk=>⟨[],[],⟨rfl,fun hin H W _ i hi=>by simp[ak] at hi⟩,by simp,by simpa only[mq] using hk⟩
 |v::l,K,hk=>by
  simp only[mq] at hk
  obtain⟨v',ws,h1,h2,hk⟩:=tF hk
  obtain⟨l',ws',h3,h4,hk⟩:=kQ hk
  refine⟨v'::l',ws++ws',⟨by simp only[ak,bF,h3.1],fun hin H W hW i hi=>?_⟩,fun b hb=>?_,hk⟩
  ·cases i with
   |zero=>simpa[ak] using h1 hin H W fun b hb=>hW b (eq _ hb)
   |succ i=>
    have:=h3.2 hin H W (fun b hb=>hW b (eL _ hb)) i (by simpa[ak] using hi)
    simpa[ak] using this
  ·rcases bh.1 hb with hb|hb
   ·exact h2 b hb
   ·exact h4 b hb
end
def ke (os fs:List Nat)(h:VH):List V→(List V→List Nat→Prop)→Prop
 |[],K=>K [] []
 | .nils::l,K=>ke os fs h l fun l ws=>K (.nils::l) ws
 |v::l,K=>cB os fs h v fun v' ws=>ke os fs h l fun l' ws'=>K (v'::l') (ws++ws')
theorem ng:∀{l:List V} {K:List V→List Nat→Prop},ke os fs h l K→∃l' ws,O0 os fs n h ws l l'∧(∀b∈ws,tO h os fs b)∧K l' ws
 |[],K,hk=>⟨[],[],⟨rfl,fun hin H W _ i hi=>by simp[ak] at hi⟩,by simp,by simpa only[ke] using hk⟩
 |v::l,K,hk=>by
  have key:∃v' ws,Vw os fs n h ws v v'∧(∀b∈ws,tO h os fs b)∧ke os fs h l fun l' ws'=>K (v'::l') (ws++ws'):=by
   by_cases e:v= .nils
   ·subst e
    exact⟨.nils,[],fun hin H W _=>.nils,by simp,by simpa only[ke,dS] using hk⟩
   ·have hk':cB os fs h v fun v' ws=>ke os fs h l fun l' ws'=>K (v'::l') (ws++ws'):=by
     cases v<;>first|exact hk|exact absurd rfl e
    obtain⟨v',ws,h1,h2,hk⟩:=tF (n:=n) hk'
    exact⟨v',ws,h1,h2,hk⟩
  obtain⟨v',ws,h1,h2,hk⟩:=key
  obtain⟨l',ws',h3,h4,hk⟩:=ng hk
  refine⟨v'::l',ws++ws',⟨by simp only[ak,bF,h3.1],fun hin H W hW i hi=>?_⟩,fun b hb=>?_,hk⟩
  ·cases i with
   |zero=>simpa[ak] using h1 hin H W fun b hb=>hW b (eq _ hb)
   |succ i=>
    have:=h3.2 hin H W (fun b hb=>hW b (eL _ hb)) i (by simpa[ak] using hi)
    simpa[ak] using this
  ·rcases bh.1 hb with hb|hb
   ·exact h2 b hb
   ·exact h4 b hb
def AJ (os fs:List Nat)(h:VH)(x:VB)(K:VB→List Nat→Prop):Prop:=
 match x with
 | .var T cs=>ke os fs h cs fun cs ws=>K (.var T cs) ws
 | .vari T pre m t xs post=>Chk (GR t.fams fs) (ke os fs h pre fun pre ws=>ke os fs h post fun post ws'=>K (.vari T pre m t xs post) (ws++ws'))
 | .row E t xs=>Chk (GR t.fams fs) (K (.row E t xs) [])
 | .lit E vs=>mq os fs h vs fun vs ws=>K (.lit E vs) ws
 |_=>False
def Oh (os fs:List Nat)(n:Nat)(h:VH)(ws:List Nat)(x x':VB):Prop:=∃d d',x.blks=[d]∧x'.blks=[d']∧∀hin,HinOK os fs h hin→∀W:List Id,MW h ws W→ViewB (toH h) (gI (gN os n)) hin W fs d d'
theorem fI {A B:List D}{i:Nat}(hi:i<A.length):(A++B).getD i .undef=A.getD i .undef:=by simp[ar,cX hi]
theorem fJ {A B:List D}{i:Nat}(hi:A.length≤i):(A++B).getD i .undef=B.getD (i-A.length) .undef:=by simp[ar,eW hi]
theorem Dv {x:VB}{K:VB→List Nat→Prop}(hk:AJ os fs h x K):∃x' ws,Oh os fs n h ws x x'∧(∀b∈ws,tO h os fs b)∧K x' ws:=by
 unfold AJ at hk
 split at hk
 ·rename_i T cs
  obtain⟨cs',ws,h1,h2,hk⟩:=ng (n:=n) hk
  exact⟨_,ws,⟨_,_,rfl,rfl,fun hin H W hW=>.var T _ _ h1.1 (h1.2 hin H W hW)⟩,h2,hk⟩
 ·rename_i T pre m t xs post
  obtain⟨c,hk⟩:=hk.ok
  obtain⟨pre',ws,h1,h2,hk⟩:=ng (n:=n) hk
  obtain⟨post',ws',h3,h4,hk⟩:=ng (n:=n) hk
  refine⟨_,ws++ws',⟨_,_,rfl,rfl,fun hin H W hW=>.var T _ _ ?_ fun i hi=>?_⟩,fun b hb=>(bh.1 hb).elim (h2 b) (h4 b),hk⟩
  ·simp only[aP,h1.1,h3.1]
  ·have g1:=h1.2 hin H W (fun b hb=>hW b (eq _ hb))
   have g3:=h3.2 hin H W (fun b hb=>hW b (eL _ hb))
   by_cases c1:i<(ak pre).length
   ·rw[bH,bH,fI (A:=ak pre) c1,fI (A:=ak pre') (by rw[←h1.1];exact c1)]
    exact g1 i c1
   ·rw[bH,bH,fJ (A:=ak pre) (by omega),fJ (A:=ak pre') (by rw[←h1.1];omega),←h1.1]
    simp only[aP] at hi
    by_cases c2:i-(ak pre).length<(xs.map (ai t)).length
    ·rw[fI c2,fI c2]
     obtain⟨e,he,hee⟩:=aB.1 (bl c2)
     rw[←hee]
     exact pf H (wq c) e
    ·rw[fJ (by omega),fJ (by omega)]
     exact g3 _ (by omega)
 ·rename_i E t xs
  obtain⟨c,hk⟩:=hk.ok
  refine⟨_,[],⟨_,_,rfl,rfl,fun hin H W hW=>.row E _ _ rfl fun i hi=>?_⟩,by simp,hk⟩
  obtain⟨e,he,hee⟩:=aB.1 (bl hi)
  rw[←hee]
  exact pf H (wq c) e
 ·rename_i E cs
  obtain⟨cs',ws,h1,h2,hk⟩:=kQ (n:=n) hk
  exact⟨_,ws,⟨_,_,rfl,rfl,fun hin H W hW=>.row E _ _ h1.1 (h1.2 hin H W hW)⟩,h2,hk⟩
 ·exact hk.elim
def GG (os fs:List Nat)(h:VH):List Nat→Nat→(VH→List Nat→Prop)→Prop
 |[],_,K=>K [] []
 |b::l,i,K=>eP h b fun x=>AJ os fs h x fun x' ws=>gJ (i+1) fun j=>GG os fs h l j fun r ws'=>K ((i,x')::r) (ws++ws')
theorem yB:∀{l:List Nat} {i:Nat} {K:VH→List Nat→Prop},GG os fs h l i K→∃hs ws,(∀k x,look hs k=some x→∃m,k=i+m∧m<l.length)∧(∀m b,l[m]?=some b→∃x x',look h b=some x∧look hs (i+m)=some x'∧Oh os fs n h ws x x')∧(∀b∈ws,tO h os fs b)∧K hs ws
 |[],i,K,hk=>⟨[],[],(fun k x hx=>by cases hx),by simp,by simp,hk⟩
 |b::l,i,K,hk=>by
  obtain⟨x,hx,hk⟩:=bi hk
  obtain⟨x',ws,h1,h2,hk⟩:=Dv (n:=n) hk
  obtain⟨hs,ws',h3,h4,h5,hk⟩:=yB (bU hk)
  refine⟨(i,x')::hs,ws++ws',fun k y hy=>?_,fun m b' hm=>?_,fun b hb=>(bh.1 hb).elim (h2 b) (h5 b),hk⟩
  ·simp only[look] at hy
   split at hy
   ·rename_i e;exact⟨0,by omega,by simp⟩
   ·obtain⟨m,e1,e2⟩:=h3 k y hy
    exact⟨m+1,by omega,by simpa using e2⟩
  ·cases m with
   |zero=>
    simp only[iQ,aw] at hm
    subst hm
    obtain⟨d,d',e1,e2,e3⟩:=h1
    exact⟨x,x',hx,by simp[look],d,d',e1,e2,fun hin H W hW=>e3 hin H W fun b hb=>hW b (eq _ hb)⟩
   |succ m=>
    obtain⟨y,y',q1,q2,d,d',e1,e2,e3⟩:=h4 m b' (by simpa using hm)
    refine⟨y,y',q1,?_,d,d',e1,e2,fun hin H W hW=>e3 hin H W fun b hb=>hW b (eL _ hb)⟩
    simp only[look]
    rw[if_neg (by omega),show i+(m+1)=i+1+m by omega]
    exact q2
def VB.fams:VB→List Nat
 | .vari _ _ _ t _ _=>t.fams
 | .row _ t _=>t.fams
 | .fvar _ t _=>t.fams
 | .fvari _ _ t _=>t.fams
 | .frow _ t _=>t.fams
 | .frowx _ t _=>t.fams
 |_=>[]
def Ey (fs:List Nat)(h:VH):List Nat→(VH→Prop)→Prop
 |[],K=>K []
 |k::l,K=>eP h k fun x=>Chk (!x.sgl && GR x.fams fs) (Ey fs h l fun r=>K ((k,x)::r))
theorem xx:∀{l:List Nat} {K:VH→Prop},Ey fs h l K→∃hf,(∀k x,look hf k=some x→k∈l∧look h k=some x∧x.sgl=false∧∀j∈x.fams,j∈fs)∧(∀k∈l,∃x,look hf k=some x)∧K hf
 |[],K,hk=>⟨[],(fun k x hx=>by cases hx),by simp,hk⟩
 |k::l,K,hk=>by
  obtain⟨x,hx,hk⟩:=bi hk
  obtain⟨c,hk⟩:=hk.ok
  simp only[az,fO] at c
  obtain⟨hf,h1,h2,hk⟩:=xx hk
  refine⟨(k,x)::hf,fun j y hy=>?_,fun j hj=>?_,hk⟩
  ·simp only[look] at hy
   split at hy
   ·rename_i e
    simp only[aw] at hy
    subst hy e
    exact⟨bm ..,hx,c.1,wq c.2⟩
   ·obtain⟨q1,q2⟩:=h1 j y hy
    exact⟨bB _ q1,q2⟩
  ·simp only[look]
   by_cases e:j=k
   ·exact⟨x,by rw[if_pos e]⟩
   ·rw[if_neg e]
    rcases aK.1 hj with rfl|hj
    ·exact absurd rfl e
    ·exact h2 j hj
theorem G3 {x:VB}{hin:HL}{W:List Id}(H:HinOK os fs h hin)(hs:x.sgl=false)(hf:∀j∈x.fams,j∈fs):∀d∈x.blks,ViewB (toH h) (gI (gN os n)) hin W fs d d:=by
 intro d hd
 have key:∀(t:Ty) (xs:List t.den),(∀k∈t.fams,k∈fs)→∀i,i<(xs.map (ai t)).length→View (toH h) (gI (gN os n)) hin W fs ((xs.map (ai t)).getD i .undef) ((xs.map (ai t)).getD i .undef):=by
  intro t xs ht i hi
  obtain⟨e,he,hee⟩:=aB.1 (bl hi)
  rw[←hee]
  exact pf H ht e
 cases x<;>simp[VB.sgl] at hs
 ·rename_i T t xs
  obtain⟨e,_,rfl⟩:=aB.1 hd
  refine .var T _ _ rfl fun i hi=>?_
  have hv:View (toH h) (gI (gN os n)) hin W fs (ai t e) (ai t e):=pf H hf e
  exact(hv.wf (fV t e)).2 i (by rw[←(fV t e).1];exact hi)
 ·rename_i T m t xss
  obtain⟨xs,_,rfl⟩:=aB.1 hd
  exact .var T _ _ rfl (key t xs hf)
 ·rename_i E t xss
  obtain⟨xs,_,rfl⟩:=aB.1 hd
  exact .row E _ _ rfl (key t xs hf)
 ·rename_i E t xss
  obtain⟨xs,_,rfl⟩:=aB.1 hd
  cases xs with
  |none=>exact .gone
  |some xs=>exact .row E _ _ rfl (key t xs hf)
end Go.Proofs.YtpefhoohfkeflabGreatDoor.Am
namespace Go.Proofs.YtpefhoohfkeflabGreatDoor.Am
open Go Go.RowKit
variable {P:Program} {os fs:List Nat} {n:Nat} {h:VH}
mutual
def li:V→Bool
 | .lst .. | .box .. | .iptr .. | .obo .. | .gp _| .gv _=>false
 | .agg cs=>ia cs
 | .tup cs=>ia cs
 | .clo _ cs=>ia cs
 | .ifc _ v=>li v
 |_=>true
def ia:List V→Bool
 |[]=>true
 |v::l=>li v && ia l
end
theorem gf (k:Nat)(o:Option Nat):noMem (mZ k o)=true:=by cases o<;>rfl
theorem s6 (k:Nat)(o:Option Nat):noMem (qC k o)=true:=by cases o<;>rfl
mutual
theorem pS:∀v:V,li v=true→noMem v.toD=true
 | .agg cs,hv=>by simp only[li] at hv;simp only[V.toD,noMem,eH cs hv]
 | .tup cs,hv=>by simp only[li] at hv;simp only[V.toD,noMem,eH cs hv]
 | .clo f cs,hv=>by simp only[li] at hv;simp only[V.toD,noMem,eH cs hv]
 | .ifc T v,hv=>by simp only[li] at hv;simp only[V.toD,noMem,pS v hv]
 | .hro k o,_=>gf k o
 | .hpo k o,_=>s6 k o
 | .lst ..,hv| .box ..,hv| .iptr ..,hv| .obo ..,hv| .gp _,hv| .gv _,hv=>by simp only[li] at hv;cases hv
 | .int ..,_| .bool _,_| .tt,_| .ff,_| .str _,_| .nilp,_| .nils,_| .nilf,_| .nili,_| .ref _,_| .ptr ..,_| .eptr ..,_| .vref ..,_| .aptr ..,_| .fref ..,_| .fptr ..,_| .feptr ..,_| .faptr ..,_| .undef,_| .junk,_=>by simp only[V.toD,noMem]
theorem eH:∀l:List V,ia l=true→ge (ak l)=true
 |[],_=>rfl
 |v::l,hv=>by
  simp only[ia,az] at hv
  simp only[ak,ge,pS v hv.1,eH l hv.2,Bool.and_self]
end
def Ty.flat:Ty→Bool
 | .int _| .bool| .str| .txn| .slt| .hr _| .hp _| .vtxo _| .pplo _ _| .evto _=>true
 |_=>false
theorem sF {t:Ty}(h:t.flat=true)(x:t.den):(ai t x).cells.all noMem=true:=by
 cases t<;>first|(cases h;done)|rfl|skip
 ·simp only[ai,(oB _ x).2];simp[gf]
 ·simp only[ai,(oA _ x).2];simp[s6]
 ·simp[ai,D.cells,noMem,gf]
 ·simp[ai,D.cells,noMem,gf]
 ·simp[ai,D.cells,noMem,gf]
theorem xD {t:Ty}(h:t.flat=true)(x:t.den):noMem (ai t x)=true:=by
 cases t<;>first|(cases h;done)|rfl|skip
 ·exact gf _ x
 ·exact s6 _ x
 ·simp[ai,noMem,ge,gf]
 ·simp[ai,noMem,ge,gf]
 ·simp[ai,noMem,ge,gf]
def rC:VB→Bool
 | .var _ cs=>ia cs
 | .vari _ pre _ t _ post=>ia pre && ia post && t.flat
 | .row _ t _=>t.flat
 | .lit _ vs=>vs.all fun v=>ia v.cells
 | .froz _ _| .fvb _ _=>false
 | .fvar _ t _=>t.flat
 | .fvari _ _ t _=>t.flat
 | .frow _ t _=>t.flat
 | .frowx _ t _=>t.flat
 | .moved .. | .gone=>true
theorem Aa (l:List D):ge l=true↔∀d∈l,noMem d=true:=by rw[gK,aM]
theorem Ab {x:VB}(h:rC x=true):∀d∈x.blks,noMemB d=true:=by
 intro d hd
 have kc:∀(t:Ty) (xs:List t.den),t.flat=true→∀e∈xs.map (ai t),e.cells.all noMem=true:=by
  intro t xs ht e he
  obtain⟨x,_,rfl⟩:=aB.1 he
  exact sF ht x
 have kd:∀(t:Ty) (xs:List t.den),t.flat=true→∀e∈xs.map (ai t),noMem e=true:=by
  intro t xs ht e he
  obtain⟨x,_,rfl⟩:=aB.1 he
  exact xD ht x
 cases x with
 |var T cs=>
  obtain rfl:=aZ.1 hd
  simp only[noMemB,←gK]
  exact eH cs h
 |vari T pre m t xs post=>
  obtain rfl:=aZ.1 hd
  simp only[rC,az] at h
  simp only[noMemB,List.all_append,←gK,eH _ h.1.1,eH _ h.1.2,d9,Bool.and_true]
  rw[Aa]
  exact kd t xs h.2
 |row E t xs=>
  obtain rfl:=aZ.1 hd
  simp only[noMemB,aM]
  intro e he
  exact aM.1 (kc t xs h e he)
 |lit E vs=>
  obtain rfl:=aZ.1 hd
  simp only[rC,aM] at h
  simp only[noMemB,cY,List.all_map,aM]
  intro v hv
  have:=eH _ (h v hv)
  rw[gK] at this
  simp only[Function.comp,bu]
  exact this
 |froz t xs=>cases h
 |fvb t x=>cases h
 |fvar T t xs=>
  obtain⟨e,_,rfl⟩:=aB.1 hd
  exact sF h e
 |fvari T m t xss=>
  obtain⟨xs,_,rfl⟩:=aB.1 hd
  simp only[noMemB,aM]
  exact kd t xs h
 |frow E t xss=>
  obtain⟨xs,_,rfl⟩:=aB.1 hd
  simp only[noMemB,aM]
  intro e he
  exact aM.1 (kc t xs h e he)
 |frowx E t xss=>
  obtain⟨xs,_,rfl⟩:=aB.1 hd
  cases xs with
  |none=>rfl
  |some xs=>
   simp only[rowX,noMemB,aM]
   intro e he
   exact aM.1 (kc t xs h e he)
 |moved k i=>obtain rfl:=aZ.1 hd;rfl
 |gone=>obtain rfl:=aZ.1 hd;rfl
mutual
def ew (g:Nat→Nat)(v:V)(K:V→Prop):Prop:=
 match v with
 | .ref b=>gJ (g b) fun b=>K (.ref b)
 | .vref b o n=>gJ (g b) fun b=>K (.vref b o n)
 | .ptr b o=>gJ (g b) fun b=>K (.ptr b o)
 | .eptr b i o=>gJ (g b) fun b=>K (.eptr b i o)
 | .aptr b p i=>gJ (g b) fun b=>K (.aptr b p i)
 | .fref k i=>Chk (Nat.beq (g k) k) (K (.fref k i))
 | .fptr k i o=>Chk (Nat.beq (g k) k) (K (.fptr k i o))
 | .feptr k i j o=>Chk (Nat.beq (g k) k) (K (.feptr k i j o))
 | .faptr k i p j=>Chk (Nat.beq (g k) k) (K (.faptr k i p j))
 | .hro k o=>Chk (Nat.beq (g k) k) (K (.hro k o))
 | .hpo k o=>Chk (Nat.beq (g k) k) (K (.hpo k o))
 | .agg cs=>mj g cs fun cs=>K (.agg cs)
 | .tup cs=>mj g cs fun cs=>K (.tup cs)
 | .clo f cs=>mj g cs fun cs=>K (.clo f cs)
 | .ifc T v=>ew g v fun v=>K (.ifc T v)
 | .int k n=>K (.int k n)
 | .bool b=>K (.bool b)
 | .tt=>K .tt
 | .ff=>K .ff
 | .str s=>K (.str s)
 | .lst t xs=>K (.lst t xs)
 | .box t x=>K (.box t x)
 | .nilp=>K .nilp
 | .nils=>K .nils
 | .nilf=>K .nilf
 | .nili=>K .nili
 | .gp g=>K (.gp g)
 | .gv g=>K (.gv g)
 | .iptr t x o=>K (.iptr t x o)
 | .obo t o=>K (.obo t o)
 | .undef=>K .undef
 | .junk=>K .junk
def mj (g:Nat→Nat)(l:List V)(K:List V→Prop):Prop:=
 match l with
 |[]=>K []
 |v::l=>ew g v fun v=>mj g l fun l=>K (v::l)
end
theorem mi {g:Nat→Nat}{k:Nat}(hk:g k=k)(o:Option Nat):renD (gI g) (mZ k o)=mZ k o:=by
 cases o with
 |none=>rfl
 |some i=>simp[mZ,renD,hk]
theorem Gm {g:Nat→Nat}{k:Nat}(hk:g k=k)(o:Option Nat):renD (gI g) (qC k o)=qC k o:=by
 cases o with
 |none=>rfl
 |some i=>simp[qC,renD,hk]
mutual
theorem wc {g:Nat→Nat}:∀{v:V} {K:V→Prop},ew g v K→∃r,renD (gI g) v.toD=r.toD∧K r
 | .ref b,K,h=>⟨.ref (g b),rfl,bU (by simpa only[ew] using h)⟩
 | .vref b o n,K,h=>⟨.vref (g b) o n,rfl,bU (by simpa only[ew] using h)⟩
 | .ptr b o,K,h=>⟨.ptr (g b) o,rfl,bU (by simpa only[ew] using h)⟩
 | .eptr b i o,K,h=>⟨.eptr (g b) i o,rfl,bU (by simpa only[ew] using h)⟩
 | .aptr b p i,K,h=>⟨.aptr (g b) p i,rfl,bU (by simpa only[ew] using h)⟩
 | .fref k i,K,h=>by simp only[ew] at h;obtain⟨c,h⟩:=h.ok;exact⟨.fref k i,by simp[V.toD,renD,cq c],h⟩
 | .fptr k i o,K,h=>by simp only[ew] at h;obtain⟨c,h⟩:=h.ok;exact⟨.fptr k i o,by simp[V.toD,renD,cq c],h⟩
 | .feptr k i j o,K,h=>by simp only[ew] at h;obtain⟨c,h⟩:=h.ok;exact⟨.feptr k i j o,by simp[V.toD,renD,cq c],h⟩
 | .faptr k i p j,K,h=>by simp only[ew] at h;obtain⟨c,h⟩:=h.ok;exact⟨.faptr k i p j,by simp[V.toD,renD,cq c],h⟩
 | .hro k o,K,h=>by simp only[ew] at h;obtain⟨c,h⟩:=h.ok;exact⟨.hro k o,mi (cq c) o,h⟩
 | .hpo k o,K,h=>by simp only[ew] at h;obtain⟨c,h⟩:=h.ok;exact⟨.hpo k o,Gm (cq c) o,h⟩
 | .agg cs,K,h=>by
  simp only[ew] at h
  obtain⟨r,h1,h2⟩:=iv h
  exact⟨.agg r,by simp only[V.toD,renD,h1],h2⟩
 | .tup cs,K,h=>by
  simp only[ew] at h
  obtain⟨r,h1,h2⟩:=iv h
  exact⟨.tup r,by simp only[V.toD,renD,h1],h2⟩
 | .clo f cs,K,h=>by
  simp only[ew] at h
  obtain⟨r,h1,h2⟩:=iv h
  exact⟨.clo f r,by simp only[V.toD,renD,h1],h2⟩
 | .ifc T v,K,h=>by
  simp only[ew] at h
  obtain⟨r,h1,h2⟩:=wc h
  exact⟨.ifc T r,by simp only[V.toD,renD,h1],h2⟩
 | .int k n,K,h=>⟨.int k n,rfl,by simpa only[ew] using h⟩
 | .bool b,K,h=>⟨.bool b,rfl,by simpa only[ew] using h⟩
 | .tt,K,h=>⟨.tt,rfl,by simpa only[ew] using h⟩
 | .ff,K,h=>⟨.ff,rfl,by simpa only[ew] using h⟩
 | .str s,K,h=>⟨.str s,rfl,by simpa only[ew] using h⟩
 | .lst t xs,K,h=>⟨.lst t xs,rfl,by simpa only[ew] using h⟩
 | .box t x,K,h=>⟨.box t x,rfl,by simpa only[ew] using h⟩
 | .nilp,K,h=>⟨.nilp,rfl,by simpa only[ew] using h⟩
 | .nils,K,h=>⟨.nils,rfl,by simpa only[ew] using h⟩
 | .nilf,K,h=>⟨.nilf,rfl,by simpa only[ew] using h⟩
 | .nili,K,h=>⟨.nili,rfl,by simpa only[ew] using h⟩
 | .gp g,K,h=>⟨.gp g,rfl,by simpa only[ew] using h⟩
 | .gv g,K,h=>⟨.gv g,rfl,by simpa only[ew] using h⟩
 | .iptr t x o,K,h=>⟨.iptr t x o,rfl,by simpa only[ew] using h⟩
 | .obo t o,K,h=>⟨.obo t o,by cases o<;>rfl,by simpa only[ew] using h⟩
 | .undef,K,h=>⟨.undef,rfl,by simpa only[ew] using h⟩
 | .junk,K,h=>⟨.junk,rfl,by simpa only[ew] using h⟩
theorem iv {g:Nat→Nat}:∀{l:List V} {K:List V→Prop},mj g l K→∃r,oW (gI g) (ak l)=ak r∧K r
 |[],K,h=>⟨[],rfl,by simpa only[mj] using h⟩
 |v::l,K,h=>by
  simp only[mj] at h
  obtain⟨v',h1,h2⟩:=wc h
  obtain⟨l',h3,h4⟩:=iv h2
  exact⟨v'::l',by simp only[ak,oW,h1,h3],h4⟩
end
def xC (g:Nat→Nat)(l:List Nat):Bool:=l.all fun k=>Nat.beq (g k) k
theorem mW {g:Nat→Nat}{l:List Nat}(h:xC g l=true):∀k∈l,g k=k:=by
 unfold xC at h
 rw[aM] at h
 exact fun k hk=>cq (h k hk)
theorem B8 {g:Nat→Nat}{t:Ty}(ht:∀k∈t.fams,g k=k)(x:t.den):renD (gI g) (ai t x)=ai t x:=by
 cases t<;>try rfl
 case ob t=>cases x<;>rfl
 case hr k=>exact mi (ht k (by simp[Ty.fams])) x
 case hp k=>exact Gm (ht k (by simp[Ty.fams])) x
 case vtxo k=>simp only[ai,renD,oW,mi (ht k (by simp[Ty.fams]))]
 case pplm k=>simp only[ai,iO,gz,dS,renD,oW,mi (ht k (by simp[Ty.fams])),ga]
 case pplo k k'=>simp only[ai,renD,oW,mi (ht k (by simp[Ty.fams])),mi (ht k' (by simp[Ty.fams]))]
 case evto k=>simp only[ai,renD,oW,mi (ht k (by simp[Ty.fams]))]
 case nod k=>simp only[ai,iO,gz,dS,renD,oW,mi (ht k (by simp[Ty.fams])),ga]
def Gi (g:Nat→Nat)(x:VB)(K:VB→Prop):Prop:=
 match x with
 | .var T cs=>mj g cs fun cs=>K (.var T cs)
 | .vari T pre m t xs post=>Chk (xC g t.fams) (mj g pre fun pre=>mj g post fun post=>K (.vari T pre m t xs post))
 | .row E t xs=>Chk (xC g t.fams) (K (.row E t xs))
 | .lit E vs=>mj g vs fun vs=>K (.lit E vs)
 | .froz t xs=>K (.froz t xs)
 | .fvb t x=>K (.fvb t x)
 | .fvar T t xs=>Chk (xC g t.fams) (K (.fvar T t xs))
 | .fvari T m t xss=>Chk (xC g t.fams) (K (.fvari T m t xss))
 | .frow E t xss=>Chk (xC g t.fams) (K (.frow E t xss))
 | .frowx E t xss=>Chk (xC g t.fams) (K (.frowx E t xss))
 | .moved k i=>gJ (g k) fun k=>K (.moved k i)
 | .gone=>K .gone
theorem oX {g:Nat→Nat}{t:Ty}(ht:∀k∈t.fams,g k=k)(xs:List t.den):(xs.map (ai t)).map (renD (gI g))=xs.map (ai t):=by
 rw[eu]
 exact qP fun x _=>B8 ht x
theorem Gj {g:Nat→Nat}{x:VB}{K:VB→Prop}(h:Gi g x K):∃y,y.blks=x.blks.map (renB (gI g))∧K y:=by
 unfold Gi at h
 split at h
 ·obtain⟨r,h1,h2⟩:=iv h
  exact⟨_,by simp only[VB.blks,bI,ec,renB,←ib,h1],h2⟩
 ·rename_i T pre m t xs post
  obtain⟨c,h⟩:=h.ok
  obtain⟨r,h1,h2⟩:=iv h
  obtain⟨r2,h3,h4⟩:=iv h2
  refine⟨_,?_,h4⟩
  rw[ib] at h1 h3
  simp only[VB.blks,bI,ec,renB,cf,h1,h3,oX (mW c)]
 ·rename_i E t xs
  obtain⟨c,h⟩:=h.ok
  exact⟨_,by simp only[VB.blks,bI,ec,renB,oX (mW c)],h⟩
 ·obtain⟨r,h1,h2⟩:=iv h
  exact⟨_,by simp only[VB.blks,bI,ec,renB,←ib,h1],h2⟩
 ·exact⟨_,rfl,h⟩
 ·exact⟨_,rfl,h⟩
 ·rename_i T t xs
  obtain⟨c,h⟩:=h.ok
  refine⟨_,?_,h⟩
  simp only[VB.blks,eu]
  refine qP fun x _=>?_
  simp only[Function.comp,renB]
  rw[←lu,B8 (mW c)]
 ·rename_i T m t xss
  obtain⟨c,h⟩:=h.ok
  refine⟨_,?_,h⟩
  simp only[VB.blks,eu]
  refine qP fun xs _=>?_
  simp only[Function.comp,renB,oX (mW c)]
 ·rename_i E t xss
  obtain⟨c,h⟩:=h.ok
  refine⟨_,?_,h⟩
  simp only[VB.blks,eu]
  refine qP fun xs _=>?_
  simp only[Function.comp,renB,oX (mW c)]
 ·rename_i E t xss
  obtain⟨c,h⟩:=h.ok
  refine⟨_,?_,h⟩
  simp only[VB.blks,eu]
  refine qP fun xs _=>?_
  cases xs with
  |none=>rfl
  |some xs=>simp only[Function.comp,rowX,renB,oX (mW c)]
 ·exact⟨_,rfl,bU h⟩
 ·exact⟨_,rfl,h⟩
def FI (g:Nat→Nat):VH→(VH→Prop)→Prop
 |[],K=>K []
 |(k,x)::l,K=>Gi g x fun y=>gJ (g k) fun b=>FI g l fun u=>K ((b,y)::u)
inductive RenVH (g:Nat→Nat):VH→VH→Prop where
 |nil:RenVH g [] []
 |cons {k:Nat} {x y:VB} {l u:VH} (hy:y.blks=x.blks.map (renB (gI g))) (hl:RenVH g l u):RenVH g ((k,x)::l) ((g k,y)::u)
theorem yf {g:Nat→Nat}:∀{l:VH} {K:VH→Prop},FI g l K→∃u,RenVH g l u∧K u
 |[],K,h=>⟨[],.nil,h⟩
 |(k,x)::l,K,h=>by
  obtain⟨y,h1,h2⟩:=Gj h
  obtain⟨u,h3,h4⟩:=yf (bU h2)
  exact⟨(g k,y)::u,.cons h1 h3,h4⟩
theorem RenVH.look {g:Nat→Nat}(hg:∀a b,g a=g b→a=b){l u:VH}(hr:RenVH g l u):(∀k,(Am.look l k=none→Am.look u (g k)=none)∧∀x,Am.look l k=some x→∃y,Am.look u (g k)=some y∧y.blks=x.blks.map (renB (gI g)))∧∀b,(∀k,Am.look l k≠none→g k≠b)→Am.look u b=none:=by
 induction hr with
 |nil=>exact⟨fun k=>⟨fun _=>rfl,fun x hx=>by cases hx⟩,fun b _=>rfl⟩
 | @cons k0 x0 y0 l u hy hl ih=>
  refine⟨fun k=>?_,fun b hb=>?_⟩
  ·by_cases e:k=k0
   ·subst e
    refine⟨fun hn=>by simp[Am.look] at hn,fun x hx=>⟨y0,by simp[Am.look],?_⟩⟩
    simp[Am.look] at hx
    subst hx
    exact hy
   ·have e':¬g k=g k0:=fun he=>e (hg _ _ he)
    simp only[Am.look,if_neg e,if_neg e']
    exact ih.1 k
  ·have e':¬b=g k0:=fun he=>hb k0 (by simp[Am.look]) he.symm
   simp only[Am.look,if_neg e']
   refine ih.2 b fun k hk=>hb k ?_
   simp only[Am.look]
   split
   ·simp
   ·exact hk
theorem RenVH.keys {g:Nat→Nat}{l u:VH}(hr:RenVH g l u):u.map (·.1)=l.map (fun p=>g p.1):=by
 induction hr with
 |nil=>rfl
 |cons hy hl ih=>simp[ih]
end Go.Proofs.YtpefhoohfkeflabGreatDoor.Am
namespace Go.Proofs.YtpefhoohfkeflabGreatDoor.Am
open Go Go.RowKit
variable {P:Program} {os fs:List Nat} {n:Nat} {h:VH}
theorem pT {α β:Type}{f:α→β}{l:List α}(hf:∀a b,f a=f b→a=b)(h:l.Nodup):(l.map f).Nodup:=mw.2 (List.Pairwise.imp (fun hne e=>hne (hf _ _ e)) h)
theorem oG {κ α:Type}[DecidableEq κ]{us g:List (κ×α)}(hn:(us.map (·.1)).Nodup)(b:κ):look (puts us g) b=match look us b with|some y=>some y|none=>look g b:=by
 cases hl:look us b with
 |some y=>exact j7 us g b y hn (di hl)
 |none=>
  refine aN us g b fun x hx he=>?_
  have:=iq hn (k:=x.1) (a:=x.2) hx
  rw[he,hl] at this
  cases this
theorem pQ {κ α:Type}[DecidableEq κ](us:List (κ×α)){g g':List (κ×α)}(b:κ)(hg:look g b=look g' b):look (puts us g) b=look (puts us g') b:=by
 induction us generalizing g g' with
 |nil=>exact hg
 |cons x us ih=>
  show look (puts us (put x.1 x.2 g)) b=look (puts us (put x.1 x.2 g')) b
  refine ih ?_
  rw[af,af,hg]
theorem uO:∀(s:List Nat) (l:VH),(∀p∈ue s l,p.1.1∉s)∧((ue s l).map (·.1)).Nodup
 |s,[]=>⟨by simp[ue],by simp[ue]⟩
 |s,(k,x)::l=>by
  obtain⟨ih1,ih2⟩:=uO (k::s) l
  have hfam:∀p∈fam k x.blks,p.1.1=k:=by
   intro p hp
   obtain⟨q,_,rfl⟩:=aB.1 hp
   rfl
  have hnd:((fam k x.blks).map (·.1)).Nodup:=by
   have e:∀(l:List Blk) (q:Nat),(((l.zipIdx q).map fun p:Blk×Nat=>(((k,p.2),p.1):Id×Blk)).map (·.1))=(List.range' q l.length).map fun i=>((k,i):Id):=by
    intro l
    induction l with
    |nil=>intro q;rfl
    |cons y l ih=>intro q;simp only[mz,bI,bF,List.range'_succ,ih]
   unfold fam
   rw[e]
   exact pT (fun a b hab=>by simpa using hab) List.nodup_range'
  simp only[ue]
  cases hc:s.contains k with
  |true=>
   simp only[cond_true,dS]
   exact⟨fun p hp hs=>ih1 p hp (bB _ hs),ih2⟩
  |false=>
   have hk:k∉s:=by simpa using hc
   simp only[cond_false,cf]
   refine⟨fun p hp=>?_,List.nodup_append.2 ⟨hnd,ih2,fun a ha b hb he=>?_⟩⟩
   ·rcases bh.1 hp with hp|hp
    ·rw[hfam p hp];exact hk
    ·exact fun hs=>ih1 p hp (bB _ hs)
   ·obtain⟨p,hp,rfl⟩:=aB.1 ha
    obtain⟨q,hq,rfl⟩:=aB.1 hb
    have:=ih1 q hq
    rw[←he,hfam p hp] at this
    exact this (bm ..)
theorem tE (l:VH):((toH l).map (·.1)).Nodup:=(uO [] l).2
theorem BP {l:VH}{p:Id×Blk}(hp:p∈toH l):∃x,look l p.1.1=some x∧p.2∈x.blks:=by
 have h1:=iq (tE l) (k:=p.1) (a:=p.2) hp
 rw[ap] at h1
 obtain⟨x,h2,h3⟩:=bw.1 h1
 exact⟨x,h2,br h3⟩
theorem ux {g:Id→Id}(hg:∀a b,g a=g b→a=b):∀(l:HL),(∀b,look (renH g l) (g b)=(look l b).map (renB g))∧∀c,(∀b,look l b≠none→g b≠c)→look (renH g l) c=none
 |[]=>⟨fun b=>rfl,fun c _=>rfl⟩
 |(b0,x)::l=>by
  obtain⟨h1,h2⟩:=ux hg l
  refine⟨fun b=>?_,fun c hc=>?_⟩
  ·show look ((g b0,renB g x)::renH g l) (g b)=_
   simp only[look]
   by_cases e:b=b0
   ·subst e;simp
   ·rw[if_neg fun he=>e (hg _ _ he),if_neg e]
    exact h1 b
  ·show look ((g b0,renB g x)::renH g l) c=none
   simp only[look]
   rw[if_neg fun he=>hc b0 (by simp[look]) he.symm]
   refine h2 c fun b hb=>hc b ?_
   simp only[look]
   split
   ·simp
   ·exact hb
theorem Dk {g:Id→Id}(hg:∀a b,g a=g b→a=b){l:HL}(hn:(l.map (·.1)).Nodup):((renH g l).map (·.1)).Nodup:=by
 unfold renH
 rw[eu]
 have:(fun x:Id×Blk=>x.1)∘(fun p:Id×Blk=>(g p.1,renB g p.2))=g∘(fun x:Id×Blk=>x.1):=rfl
 rw[this,←eu]
 exact pT hg hn
theorem Cq {g:Nat→Nat}(hg:∀a b,g a=g b→a=b){hout u h0:VH}{H:HL}(hH:∀b,look H b=look (toH h0) b)(hr:RenVH g hout u)(hn:(hout.map (·.1)).Nodup)(hc:∀k x,look hout k=some x→∀j,x.blks.length≤j→look (toH h0) (g k,j)=none):
  (∀b,look (puts (renH (gI g) (toH hout)) H) b=look (toH (puts u h0)) b)∧∀x∈renH (gI g) (toH hout),x.1.1∈u.map (·.1):=by
 have hgI:∀a b:Id,gI g a=gI g b→a=b:=by
  rintro⟨a1,a2⟩ ⟨b1,b2⟩ he
  simp only[gI,a7] at he⊢
  exact⟨hg _ _ he.1,he.2⟩
 have hun:(u.map (·.1)).Nodup:=by
  rw[hr.keys]
  have:(fun p:Nat×VB=>g p.1)=g∘(fun x:Nat×VB=>x.1):=rfl
  rw[this,←eu]
  exact pT hg hn
 obtain⟨q1,q2⟩:=ux hgI (toH hout)
 obtain⟨r1,r2⟩:=hr.look hg
 refine⟨fun b=>?_,fun x hx=>?_⟩
 ·rw[oG (Dk hgI (tE hout)),ap,oG hun,hH]
  by_cases hex:∃k x,look hout k=some x∧g k=b.1
  ·obtain⟨k,x,hk,he⟩:=hex
   obtain⟨y,y1,y2⟩:=(r1 k).2 x hk
   have e1:b=gI g (k,b.2):=by simp[gI,he]
   rw[←he,y1,he]
   have e2:look (renH (gI g) (toH hout)) b=(x.blks[b.2]?).map (renB (gI g)):=by
    rw[e1,q1,ap,hk];rfl
   rw[e2]
   simp only[bc,y2,bf]
   cases hx:x.blks[b.2]? with
   |some d=>rfl
   |none=>
    simp only[Option.map_none]
    have:=hc k x hk b.2 (by simpa using hx)
    rw[he] at this
    exact this
  ·have e1:look u b.1=none:=r2 b.1 fun k hk he=>hex (by
    cases hl:look hout k with
    |none=>exact absurd hl hk
    |some x=>exact⟨k,x,hl,he⟩)
   have e2:look (renH (gI g) (toH hout)) b=none:=q2 b fun c hcl he=>hex (by
    rw[ap] at hcl
    cases hl:look hout c.1 with
    |none=>rw[hl] at hcl;exact absurd rfl hcl
    |some x=>exact⟨c.1,x,hl,by rw[←he]⟩)
   rw[e1,e2]
   exact ap h0 b
 ·obtain⟨p,hp,rfl⟩:=aB.1 hx
  obtain⟨x,h1,_⟩:=BP hp
  obtain⟨y,h2,_⟩:=(r1 p.1.1).2 x h1
  exact aB.2 ⟨_,di h2,rfl⟩
def Og (h:VH):List Nat→(VH→Prop)→Prop
 |[],K=>K []
 |b::l,K=>Og h l fun u=>(match aV h b with
  |some (.row _ t xs)=>Chk t.pure (K ((b,.froz t xs)::u))
  |some (.frow ..)=>False
  |some (.frowx ..)=>False
  |_=>K u)
def y6 (h:VH):List Nat→VH
 |[]=>[]
 |b::l=>match aV h b with
  |some (.row _ t xs)=>(b,.froz t xs)::y6 h l
  |_=>y6 h l
theorem AN:∀{l:List Nat} {K:VH→Prop},Og h l K→K (y6 h l)∧∀b∈l,¬Oa h b
 |[],K,hk=>⟨hk,by simp⟩
 |b::l,K,hk=>by
  obtain⟨this,h2⟩:=AN (l:=l) hk
  simp only[y6]
  have key:K (match aV h b with
   |some (.row _ t xs)=>(b,.froz t xs)::y6 h l
   |_=>y6 h l)∧¬Oa h b:=by
   cases hl:aV h b with
   |none=>
    rw[hl] at this
    rw[aS] at hl
    exact⟨this,fun hf=>by rcases hf with⟨E,t,xs,hf⟩|⟨E,t,xs,hf⟩|⟨E,t,xs,_,hf⟩<;>rw[hl] at hf<;>cases hf⟩
   |some x=>
    rw[hl] at this
    rw[aS] at hl
    have hx:(∀E t xs,x≠ .frow E t xs)→(∀E t xs,x≠ .frowx E t xs)→(∀E t xs,t.pure=false→x≠ .row E t xs)→¬Oa h b:=fun h1 h2 h3 hf=>by
     rcases hf with⟨E,t,xs,hf⟩|⟨E,t,xs,hf⟩|⟨E,t,xs,hp,hf⟩<;>rw[hl] at hf<;>cases hf
     ·exact h1 _ _ _ rfl
     ·exact h2 _ _ _ rfl
     ·exact h3 _ _ _ hp rfl
    cases x<;>first|exact this.elim|exact⟨this.ok.2,hx (fun _ _ _ he=>by cases he) (fun _ _ _ he=>by cases he) (fun _ _ _ hp he=>by cases he;rw[this.ok.1] at hp;cases hp)⟩|exact⟨this,hx (fun _ _ _ he=>by cases he) (fun _ _ _ he=>by cases he) (fun _ _ _ _ he=>by cases he)⟩
  exact⟨key.1,fun c hc=>(aK.1 hc).elim (fun e=>e▸key.2) (h2 c)⟩
theorem oH:∀(ws:List Nat) (g:VH) (b:Nat),look (puts (y6 h ws) g) b=if b∈ws then(match look h b with|some (.row _ t xs)=>some (.froz t xs)|_=>look g b) else look g b
 |[],g,b=>by simp[y6,puts]
 |c::ws,g,b=>by
  simp only[y6]
  rw[aS]
  split
  ·rename_i E t xs hc
   show look (puts (y6 h ws) (put c (.froz t xs) g)) b=_
   rw[oH ws,af]
   by_cases hb:b=c
   ·subst hb
    simp only[if_true,aK,true_or,hc]
    split
    ·rfl
    ·rfl
   ·by_cases hm:b∈ws
    ·simp[hm,hb]
    ·simp[hm,hb]
  ·rename_i hc
   rw[oH ws]
   by_cases hb:b=c
   ·subst hb
    have:(match look h b with|some (VB.row _ t xs)=>some (VB.froz t xs)|_=>look g b)=look g b:=by
     split
     ·rename_i e;exact absurd e (hc _ _ _)
     ·rfl
    simp[this]
   ·simp[hb]
theorem G1 {ws:List Nat}(hw:∀b∈ws,N9 h b):cS h (frz (toH h) (ws.map fun b=>(b,0))) (y6 h ws)∧∀b∈ws.map (fun b=>((b,0):Id)),∀x,look (toH h) b=some x→x.mutable=true→(frzB (toH h) b).isSome=true:=by
 have fz:∀b E t,∀xs:List (Ty.den t),look h b=some (.row E t xs)→t.pure=true→frzB (toH h) (b,0)=some (.froz (xs.map (ai t))):=by
  intro b E t xs hb hp
  have hl:=av (i:=0) hb (d:=.row E (xs.map (ai t))) rfl
  simp[frzB,hl,row_pure hp]
 refine⟨⟨fun b=>?_,fun x hx=>?_⟩,fun b hb x hx hmu=>?_⟩
 ·obtain⟨b1,b2⟩:=b
  rw[dw,ap (puts (y6 h ws) h),oH]
  by_cases hm:b1∈ws
  ·rw[if_pos hm]
   rcases hw b1 hm with⟨E,t,xs,hp,hb⟩|⟨t,xs,hb⟩|⟨t,x,hb⟩
   ·rw[hb]
    simp only[bc,VB.blks]
    cases b2 with
    |zero=>
     rw[if_pos (aB.2 ⟨b1,hm,rfl⟩),fz b1 E t xs hb hp]
     rfl
    |succ j=>
     rw[if_neg (by simp)]
     exact FU hb rfl (j+1) (by simp)
   ·rw[hb]
    have e:frzB (toH h) (b1,b2)=none:=by
     unfold frzB
     rw[ap,hb]
     simp only[bc,VB.blks]
     cases b2<;>simp
    rw[e]
    simp only[ite_self]
    rw[ap,hb]
   ·rw[hb]
    have e:frzB (toH h) (b1,b2)=none:=by
     unfold frzB
     rw[ap,hb]
     simp only[bc,VB.blks]
     cases b2<;>simp
    rw[e]
    simp only[ite_self]
    rw[ap,hb]
  ·rw[if_neg (fun hmem=>by obtain⟨c,hc,he⟩:=aB.1 hmem;simp only[a7] at he;exact hm (he.1▸hc)),if_neg hm,ap]
 ·obtain⟨c,hc,hcx⟩:=List.mem_filterMap.1 hx
  obtain⟨y,hy,rfl⟩:=bj.1 hcx
  obtain⟨b,hb,rfl⟩:=aB.1 hc
  show b∈(y6 h ws).map (·.1)
  rcases hw b hb with⟨E,t,xs,hp,hl⟩|⟨t,xs,hl⟩|⟨t,x,hl⟩
  ·have:look (puts (y6 h ws) []) b=some (.froz t xs):=by rw[oH,if_pos hb,hl]
   rcases ju (b∈(y6 h ws).map (·.1)) with h1|h1
   ·exact h1
   ·rw[aN _ _ _ fun x hx e=>h1 (aB.2 ⟨x,hx,e⟩)] at this
    cases this
  ·exfalso
   have:=av (i:=0) hl (d:=.froz (xs.map (ai t))) rfl
   simp[frzB,this] at hy
  ·exfalso
   have:=av (i:=0) hl (d:=.fvar (ai t x).cells) rfl
   simp[frzB,this] at hy
 ·obtain⟨c,hc,rfl⟩:=aB.1 hb
  rcases hw c hc with⟨E,t,xs,hp,hl⟩|⟨t,xs,hl⟩|⟨t,x',hl⟩
  ·rw[fz c E t xs hl hp];rfl
  ·have:=av (i:=0) hl (d:=.froz (xs.map (ai t))) rfl
   rw[this] at hx;cases hx;cases hmu
  ·have:=av (i:=0) hl (d:=.fvar (ai t x').cells) rfl
   rw[this] at hx;cases hx;cases hmu
end Go.Proofs.YtpefhoohfkeflabGreatDoor.Am
namespace Go.Proofs.YtpefhoohfkeflabGreatDoor.Am
open Go Go.RowKit
variable {P:Program} {os fs:List Nat} {n:Nat} {h:VH}
def bA:VB→Nat
 | .fvar _ _ xs=>xs.length
 | .fvari _ _ _ xss=>xss.length
 | .frow _ _ xss=>xss.length
 | .frowx _ _ xss=>xss.length
 |_=>1
theorem mU (x:VB):x.blks.length=bA x:=by cases x<;>simp[VB.blks,bA]
def keysV:VH→List Nat
 |[]=>[]
 |(k,_)::l=>k::keysV l
theorem fh:∀l:VH,l.map (·.1)=keysV l
 |[]=>rfl
 |(k,x)::l=>by simp[keysV,fh l]
def zr (h:VH)(fs:List Nat):VH→Prop→Prop
 |[],K=>K
 |(k,x)::l,K=>match Nat.blt k 4 with
  |true=>Chk (!x.sgl) (match aV h k with
   |none=>zr h fs l K
   |some y=>Chk (fs.contains k && !y.sgl) (ci (bA y≤bA x) (zr h fs l K)))
  |false=>Chk x.sgl (zr h fs l K)
theorem A7 {K:Prop}:∀{l:VH},zr h fs l K→(∀k x,look l k=some x→(k<4∧∀y,look h k=some y→k∈fs∧bA y≤bA x)∨(4≤k∧x.sgl=true))∧K
 |[],hk=>⟨(fun k x hx=>by cases hx),hk⟩
 |(k0,x0)::l,hk=>by
  simp only[zr] at hk
  have key:((k0<4∧∀y,look h k0=some y→k0∈fs∧bA y≤bA x0)∨(4≤k0∧x0.sgl=true))∧zr h fs l K:=by
   split at hk
   ·rename_i hb
    have hlt:k0<4:=by simpa[Nat.blt_eq] using hb
    obtain⟨c,hk⟩:=hk.ok
    split at hk
    ·rename_i hn
     rw[aS] at hn
     exact⟨.inl ⟨hlt,fun y hy=>by rw[hn] at hy;cases hy⟩,hk⟩
    ·rename_i y hy
     rw[aS] at hy
     obtain⟨c2,hle,hk⟩:=hk.ok
     simp only[az] at c2
     exact⟨.inl ⟨hlt,fun y' hy'=>by rw[hy] at hy';obtain rfl:=aq hy';exact⟨by simpa using c2.1,hle⟩⟩,hk⟩
   ·rename_i hb
    obtain⟨c,hk⟩:=hk.ok
    have hge:4≤k0:=by
     rcases cG k0 4 with hlt|hge
     ·have:Nat.blt k0 4=true:=by simpa[Nat.blt_eq] using hlt
      rw[hb] at this;cases this
     ·exact hge
    exact⟨.inr ⟨hge,c⟩,hk⟩
  obtain⟨k1,k2⟩:=key
  obtain⟨h1,h2⟩:=A7 k2
  refine⟨fun k x hx=>?_,h2⟩
  simp only[look] at hx
  split at hx
  ·rename_i e;cases hx;subst e;exact k1
  ·exact h1 k x hx
def Ia (hout:VH):List Nat→Nat→Bool
 |[],_=>true
 |_::l,i=>(aV hout i).isSome && Ia hout l (i+1)
theorem Bw {hout:VH}:∀{l:List Nat} {i:Nat},Ia hout l i=true→∀m,m<l.length→∃x,look hout (i+m)=some x
 |[],i,_,m,hm=>by simp at hm
 |_::l,i,hb,m,hm=>by
  simp only[Ia,az,aS] at hb
  cases m with
  |zero=>exact mD.1 hb.1
  |succ m=>
   have:=Bw hb.2 m (by simpa using hm)
   rwa [show i+1+m=i+(m+1) by omega] at this
def BT (l:VH):Bool:=l.all fun p=>rC p.2
def n8 (P:Program)(h:VH)(n:Nat)(f:FuncId)(vs:List V)(os fs:List Nat)(K:V→VH→List Nat→Prop):Prop:=
 Chk (Df os n && fs.all (fun k=>Nat.blt k 4)) (mq os fs h vs fun vs' ws=>Ey fs h fs fun hf=>GG os fs h os 4 fun hs ws'=>Hq hf hs fun hin=>cR P f vs' hin fun r hout=>
  Chk (j8 (keysV hout) && fs.all (fun k=>(aV hout k).isSome) && Ia hout os 4) (zr h fs hout (ew (gN os n) r fun r'=>FI (gN os n) hout fun u=>
   match li r && BT hout with
   |true=>K r' u ((ws++ws')++fs++keysV u)
   |false=>Og h (ws++ws') fun u0=>K r' (u0++u) ((ws++ws')++fs++keysV u))))
theorem DV {f:FuncId}{vs:List V}{K:V→VH→List Nat→Prop}(hfr:∀c:Id,n≤c.1→look (toH h) c=none)(hk:n8 P h n f vs os fs K):
  ∃r u vu gl,(∀f':List Nat,(∀k∈gl,k∈f')→∃c:CallOK P f (toH h) n (ak vs) r.toD u f',∀b,Live c.hout b→(c.g b).1∈f')∧cS h u vu∧K r vu gl:=by
 obtain⟨c0,hk⟩:=hk.ok
 simp only[az,aM] at c0
 obtain⟨c1,c2⟩:=c0
 have hlow:∀k∈fs,k<4:=fun k hk=>by simpa[Nat.blt_eq] using c2 k hk
 obtain⟨o1,o2,o3⟩:=B1 c1
 obtain⟨vs',ws,v1,v2,hk⟩:=kQ (n:=n) hk
 obtain⟨hf,f1,f2,hk⟩:=xx hk
 obtain⟨hs,ws',s1,s2,s3,hk⟩:=yB (n:=n) hk
 have hk:=u3 hk
 obtain⟨r,hout,hcon,hk⟩:=hk
 obtain⟨c3,hk⟩:=hk.ok
 simp only[az,aM] at c3
 obtain⟨⟨c3,c4⟩,c5⟩:=c3
 obtain⟨cov,hk⟩:=A7 hk
 obtain⟨r',r1,hk⟩:=wc hk
 obtain⟨u,hr,hk⟩:=yf hk
 have hg:∀a b,gN os n a=gN os n b→a=b:=fun a b=>EM c1
 have hgI:∀a b:Id,gI (gN os n) a=gI (gN os n) b→a=b:=fun a b=>EL c1
 have hin_look:∀k x,look (hf++hs) k=some x→(k∈fs∧look hf k=some x)∨(∃m b,k=4+m∧os[m]?=some b∧look hs k=some x):=by
  intro k x hx
  rw[ip] at hx
  cases hl:look hf k with
  |some y=>
   rw[hl] at hx
   obtain rfl:=aq hx
   exact .inl ⟨(f1 k _ hl).1,rfl⟩
  |none=>
   rw[hl] at hx
   obtain⟨m,rfl,hm⟩:=s1 k x hx
   exact .inr ⟨m,os[m],rfl,am hm,hx⟩
 have hf_none:∀m,look hf (4+m)=none:=by
  intro m
  cases hl:look hf (4+m) with
  |none=>rfl
  |some y=>have:=hlow _ (f1 _ _ hl).1;omega
 have hin_sgl:∀m b,os[m]?=some b→∃x x',look h b=some x∧look (hf++hs) (4+m)=some x'∧Oh os fs n h ws' x x':=by
  intro m b hb
  obtain⟨x,x',q1,q2,q3⟩:=s2 m b hb
  exact⟨x,x',q1,by rw[ip,hf_none];exact q2,q3⟩
 have hin_fam:∀k∈fs,∃x,look (hf++hs) k=some x∧look h k=some x∧x.sgl=false∧∀j∈x.fams,j∈fs:=by
  intro k hk
  obtain⟨x,hx⟩:=f2 k hk
  obtain⟨_,q2,q3,q4⟩:=f1 k x hx
  exact⟨x,by rw[ip,hx],q2,q3,q4⟩
 have H:HinOK os fs h (toH (hf++hs)):=by
  refine⟨hlow,fun m b hb=>?_,fun k hk i hl=>?_⟩
  ·obtain⟨x,x',q1,q2,d,d',e1,e2,e3⟩:=hin_sgl m b hb
   exact Live.of_look (av q2 (by rw[e2];rfl))
  ·obtain⟨x,q1,q2,q3,q4⟩:=hin_fam k hk
   unfold Live at hl⊢
   rw[ap,q2] at hl
   rw[ap,q1]
   exact hl
 have live_in:∀b,Live (toH (hf++hs)) b→(b.1∈fs∧∃x,look h b.1=some x∧look (hf++hs) b.1=some x∧b.2<x.blks.length)∨∃m c,b=(4+m,0)∧os[m]?=some c:=by
  intro b hb
  unfold Live at hb
  rw[ap] at hb
  cases hl:look (hf++hs) b.1 with
  |none=>rw[hl] at hb;cases hb
  |some x=>
   rw[hl] at hb
   simp only[bc] at hb
   rcases hin_look _ _ hl with⟨g1,g2⟩|⟨m,c,e,g1,g2⟩
   ·obtain⟨_,q2,q3,q4⟩:=f1 _ _ g2
    refine .inl ⟨g1,x,q2,rfl,?_⟩
    rcases cG b.2 x.blks.length with hlt|hge
    ·exact hlt
    ·rw[ep hge] at hb;cases hb
   ·obtain⟨y,y',q1,q2,d,d',e1,e2,_⟩:=hin_sgl m c g1
    rw[e,q2] at hl
    obtain rfl:=aq hl
    rw[e2] at hb
    refine .inr ⟨m,c,?_,g1⟩
    obtain⟨b1,b2⟩:=b
    simp only at e hb⊢
    cases b2 with
    |zero=>rw[e]
    |succ j=>simp at hb
 have hcov:∀k x,look hout k=some x→∀j,x.blks.length≤j→look (toH h) (gN os n k,j)=none:=by
  intro k x hx j hj
  rcases rl os n k with⟨a1,a2⟩|⟨m,b,rfl,a1,a2⟩|⟨m,rfl,a1,a2⟩<;>rw[a2]
  ·rcases cov k x hx with⟨_,q⟩|⟨q,_⟩
   ·rw[ap]
    cases hl:look h k with
    |none=>rfl
    |some y=>
     simp only[bc]
     rw[ep]
     have:=(q y hl).2
     rw[←mU,←mU] at this
     omega
   ·omega
  ·rcases cov _ x hx with⟨q,_⟩|⟨_,q⟩
   ·omega
   ·obtain⟨d,hd⟩:=VB.sgl_ok q
    rw[hd] at hj
    simp only[mF] at hj
    obtain⟨y,y',q1,q2,e,e',e1,e2,_⟩:=hin_sgl m b a1
    rw[ap,q1]
    simp only[bc,e1]
    rw[ep]
    simpa using hj
  ·exact hfr _ (by show n≤n+_;omega)
 have hW:∀b∈ws++ws',tO h os fs b:=fun b hb=>(bh.1 hb).elim (v2 b) (s3 b)
 have hkeys:=tE hout
 have hnd:(hout.map (·.1)).Nodup:=by rw[fh];exact i6 c3
 have hukeys:∀b,Live (toH hout) b→(gI (gN os n) b).1∈keysV u:=by
  intro b hb
  unfold Live at hb
  rw[ap] at hb
  cases hl:look hout b.1 with
  |none=>rw[hl] at hb;cases hb
  |some x=>
   obtain⟨y,y1,_⟩:=((hr.look hg).1 b.1).2 x hl
   rw[←fh]
   exact aB.2 ⟨_,di y1,rfl⟩
 have mk:∀(uu:HL) (W:List Id),MW h (ws++ws') W→(∀b∈W,b.1∈ws++ws')→((noMem r.toD=true∧(∀p∈toH hout,noMemB p.2=true)∧uu=renH (gI (gN os n)) (toH hout))∨((∀b∈W,∀x,look (toH h) b=some x→x.mutable=true→(frzB (toH h) b).isSome=true)∧uu=frz (toH h) W++renH (gI (gN os n)) (toH hout)))→
   ∀f':List Nat,(∀k∈(ws++ws')++fs++keysV u,k∈f')→∃c:CallOK P f (toH h) n (ak vs) r'.toD uu f',∀b,Live c.hout b→(c.g b).1∈f':=by
  intro uu W hcW hWs hupd f' hf'
  refine⟨⟨gI (gN os n),W,fs,ak vs',toH (hf++hs),r.toD,toH hout,hcon,v1.1,?_,?_,hkeys,fun b b' _ _ he=>hgI b b' he,?_,?_,?_,⟨?_,?_,?_⟩,r1.symm,hupd⟩,?_⟩
  ·exact v1.2 _ H _ fun b hb=>hcW b (eq _ hb)
  ·intro b x' hx
   have hlv:Live (toH (hf++hs)) b:=Live.of_look hx
   rcases live_in b hlv with⟨g1,x,g2,g3,g4⟩|⟨m,c,rfl,g1⟩
   ·rw[ap,g3] at hx
    refine⟨x',by simp only[gI,pG os n (hlow _ g1)];rw[ap,g2];exact hx,?_⟩
    obtain⟨y,y1,y2,y3,y4⟩:=hin_fam _ g1
    rw[g2] at y2
    obtain rfl:=aq y2
    exact G3 H y3 y4 x' (br hx)
   ·obtain⟨y,y',q1,q2,d,d',e1,e2,e3⟩:=hin_sgl m c g1
    rw[ap,q2] at hx
    simp only[bc,e2,iQ,aw] at hx
    subst hx
    refine⟨d,?_,e3 _ H _ fun b hb=>hcW b (eL _ hb)⟩
    simp only[gI,gY,eG g1]
    exact av q1 (by rw[e1];rfl)
  ·intro b hb
   rcases live_in b hb with⟨g1,x,g2,g3,g4⟩|⟨m,c,rfl,g1⟩
   ·have hl:=c4 _ g1
    rw[aS] at hl
    obtain⟨y,hy⟩:=mD.1 hl
    rcases cov _ _ hy with⟨_,q⟩|⟨q,_⟩
    ·have:=(q x g2).2
     rw[←mU,←mU] at this
     unfold Live
     rw[ap,hy]
     simp only[bc]
     rw[am (by omega)]
     rfl
    ·have:=hlow _ g1;omega
   ·obtain⟨y,hy⟩:=Bw c5 m (aR.1 g1).1
    rcases cov _ _ hy with⟨q,_⟩|⟨_,q⟩
    ·omega
    ·obtain⟨d,hd⟩:=VB.sgl_ok q
     exact Live.of_look (av hy (by rw[hd];rfl))
  ·intro b hb hnb
   have hb':=hb
   unfold Live at hb
   rw[ap] at hb
   cases hl:look hout b.1 with
   |none=>rw[hl] at hb;cases hb
   |some x=>
    rw[hl] at hb
    rcases rl os n b.1 with⟨a1,a2⟩|⟨m,c,e,a1,a2⟩|⟨m,e,a1,a2⟩<;>simp only[gI]<;>rw[a2]
    ·cases hh:look h b.1 with
     |none=>rw[ap,hh];rfl
     |some y=>
      rcases cov _ _ hl with⟨_,q⟩|⟨q,_⟩
      ·obtain⟨g1,_⟩:=q y hh
       obtain⟨z,z1,z2,_⟩:=hin_fam _ g1
       rw[hh] at z2
       obtain rfl:=aq z2
       unfold Live at hnb
       rw[ap,z1] at hnb
       rw[ap,hh]
       simpa using hnb
      ·omega
    ·exfalso
     rcases cov _ _ hl with⟨q,_⟩|⟨_,q⟩
     ·omega
     ·obtain⟨d,hd⟩:=VB.sgl_ok q
      simp only[bc,hd] at hb
      obtain⟨b1,b2⟩:=b
      simp only at e hb hnb
      cases b2 with
      |zero=>exact hnb (by rw[e];exact H.sgl m c a1)
      |succ j=>simp at hb
    ·exact hfr _ (by show n≤n+_;omega)
  ·intro b hb b' hb' he
   obtain⟨q1,q2⟩:=hW _ (hWs b hb)
   obtain⟨c,i⟩:=b
   rcases live_in b' hb' with⟨g1,x,g2,g3,g4⟩|⟨m,c',rfl,g1⟩
   ·simp only[gI,pG os n (hlow _ g1),a7] at he
    obtain⟨y,y1,y2,y3,_⟩:=hin_fam _ g1
    rw[he.1] at y2
    rcases q2 with(⟨E,t,xs,_,hb⟩|⟨t,xs,hb⟩|⟨t,x,hb⟩)|⟨q2,_⟩
    ·rw[y2] at hb;cases hb;cases y3
    ·rw[y2] at hb;cases hb;cases y3
    ·rw[y2] at hb;cases hb;cases y3
    ·exact q2 (he.1▸g1)
   ·simp only[gI,gY,eG g1,a7] at he
    obtain⟨he,_⟩:=he
    subst he
    exact q1 (br g1)
  ·exact fun b hb=>.inl (hf' _ (eL _ (hukeys b hb)))
  ·exact fun b hb=>hf' _ (eq _ (eq _ (hWs b hb)))
  ·exact fun k hk=>hf' _ (eq _ (eL _ hk))
  ·exact fun b hb=>hf' _ (eL _ (hukeys b hb))
 split at hk
 ·rename_i hm
  simp only[az,BT,aM] at hm
  refine⟨r',_,u,_,mk _ (((toH h).map (·.1)).filter fun b=>decide (b.1∈ws++ws')) (fun b hb i hl=>?_) (fun b hb=>by simpa using(eM.1 hb).2) (.inl ⟨pS r hm.1,fun p hp=>?_,rfl⟩),Cq hg (fun _=>rfl) hr hnd hcov,hk⟩
  ·refine eM.2 ⟨?_,by simpa using hb⟩
   obtain⟨d,hd⟩:=mD.1 hl
   exact aB.2 ⟨_,di hd,rfl⟩
  obtain⟨x,x1,x2⟩:=BP hp
  exact Ab (hm.2 _ (di x1)) _ x2
 ·obtain⟨hk,hnf⟩:=AN hk
  have hW1:∀b∈ws++ws',N9 h b:=fun b hb=>(hW b hb).2.elim id fun q=>(hnf b hb q.2).elim
  obtain⟨w1,w2⟩:=G1 hW1
  refine⟨r',_,_,_,mk _ ((ws++ws').map fun b=>(b,0)) (fun b hb i hl=>?_) (fun b hb=>by obtain⟨c,hc,rfl⟩:=aB.1 hb;exact hc) (.inr ⟨w2,rfl⟩),?_,hk⟩
  ·have h0:i=0:=by
    unfold Live at hl
    cases i with
    |zero=>rfl
    |succ j=>
     rcases hW1 b hb with⟨E,t,xs,_,hx⟩|⟨t,xs,hx⟩|⟨t,x,hx⟩<;>rw[FU hx rfl (j+1) (by simp)] at hl<;>cases hl
   subst h0
   exact aB.2 ⟨b,hb,rfl⟩
  have hcov':∀k x,look hout k=some x→∀j,x.blks.length≤j→look (toH (puts (y6 h (ws++ws')) h)) (gN os n k,j)=none:=by
   intro k x hx j hj
   have h1:=hcov k x hx j hj
   rw[←w1.1,dw]
   split
   ·rename_i y hy
    exfalso
    split at hy
    ·obtain⟨⟨z,z1,_⟩,_⟩:=kq hy
     rw[h1] at z1;cases z1
    ·cases hy
   ·exact h1
  obtain⟨q1,q2⟩:=Cq hg w1.1 hr hnd hcov'
  refine⟨fun b=>?_,fun x hx=>?_⟩
  ·rw[bE,bE];exact q1 b
  ·rw[cf]
   rcases bh.1 hx with hx|hx
   ·exact eq _ (w1.2 x hx)
   ·exact eL _ (q2 x hx)
end Go.Proofs.YtpefhoohfkeflabGreatDoor.Am
namespace Go.Proofs.YtpefhoohfkeflabGreatDoor.Am
open Go Go.RowKit
variable {P:Program} {N:Nat} {Θ:TT} {t:VT} {h:VH} {n:Nat}
mutual
theorem vH (g:HL):∀(d:D),∀b∈al (fwd g d),b∈al d∨∃c∈al d,look g c=some (.moved b)
 | .ref c,b,hb=>by
  simp only[fwd] at hb
  split at hb
  ·rename_i c' hc
   simp only[al,aZ] at hb
   subst hb
   exact .inr ⟨c,by simp[al],hc⟩
  ·cases hb
  ·exact .inl hb
 | .ptr c o,b,hb=>by
  simp only[fwd] at hb
  split at hb
  ·rename_i c' hc
   simp only[al,aZ] at hb
   subst hb
   exact .inr ⟨c,by simp[al],hc⟩
  ·split at hb<;>cases hb
  ·exact .inl hb
 | .eptr c i o,b,hb=>by
  simp only[fwd] at hb
  split at hb
  ·rename_i c' hc
   simp only[al,aZ] at hb
   subst hb
   exact .inr ⟨c,by simp[al],hc⟩
  ·exact .inl hb
 | .vref c o q,b,hb=>by
  simp only[fwd] at hb
  split at hb
  ·rename_i c' hc
   simp only[al,aZ] at hb
   subst hb
   exact .inr ⟨c,by simp[al],hc⟩
  ·exact .inl hb
 | .ifc T d,b,hb=>by
  simp only[fwd,al] at hb
  rcases vH g d b hb with h1|⟨c,h1,h2⟩
  ·exact .inl (by simpa only[al] using h1)
  ·exact .inr ⟨c,by simpa only[al] using h1,h2⟩
 | .clo f cs,b,hb=>by
  simp only[fwd,al] at hb
  rcases ov g cs b hb with h1|⟨c,h1,h2⟩
  ·exact .inl (by simpa only[al] using h1)
  ·exact .inr ⟨c,by simpa only[al] using h1,h2⟩
 | .agg cs,b,hb=>by
  simp only[fwd,al] at hb
  rcases ov g cs b hb with h1|⟨c,h1,h2⟩
  ·exact .inl (by simpa only[al] using h1)
  ·exact .inr ⟨c,by simpa only[al] using h1,h2⟩
 | .tup cs,b,hb=>by
  simp only[fwd,al] at hb
  rcases ov g cs b hb with h1|⟨c,h1,h2⟩
  ·exact .inl (by simpa only[al] using h1)
  ·exact .inr ⟨c,by simpa only[al] using h1,h2⟩
 | .int ..,b,hb| .bool _,b,hb| .str _,b,hb| .lst _,b,hb| .box _,b,hb| .nilp,b,hb| .nils,b,hb| .nilf,b,hb| .nili,b,hb| .gp _,b,hb| .gv _,b,hb| .iptr ..,b,hb| .undef,b,hb| .junk,b,hb=>by simp[fwd,al] at hb
theorem ov (g:HL):∀(l:List D),∀b∈bC (lh g l),b∈bC l∨∃c∈bC l,look g c=some (.moved b)
 |[],b,hb=>by simp[lh,bC] at hb
 |d::l,b,hb=>by
  simp only[lh,bC,bh] at hb⊢
  rcases hb with hb|hb
  ·rcases vH g d b hb with h1|⟨c,h1,h2⟩
   ·exact .inl (.inl h1)
   ·exact .inr ⟨c,.inl h1,h2⟩
  ·rcases ov g l b hb with h1|⟨c,h1,h2⟩
   ·exact .inl (.inr h1)
   ·exact .inr ⟨c,.inr h1,h2⟩
end
def FF (h:VH):List Nat→List Nat
 |[]=>[]
 |b::l=>match aV h b with
  |some (.moved k _)=>k::FF h l
  |_=>FF h l
theorem BR:∀{l:List Nat} {b k i:Nat},b∈l→look h b=some (.moved k i)→k∈FF h l
 |c::l,b,k,i,hb,hl=>by
  simp only[FF]
  rcases aK.1 hb with rfl|hb
  ·rw[aS,hl];simp
  ·have:=BR hb hl
   split
   ·exact bB _ this
   ·exact this
theorem FG {c b:Id}(hc:look (toH h) c=some (.moved b)):look h c.1=some (.moved b.1 b.2):=by
 rw[ap] at hc
 obtain⟨x,h1,h2⟩:=bw.1 hc
 rw[h1]
 have hm:=br h2
 cases x<;>simp only[VB.blks,aZ,aB,reduceCtorEq,and_false,exists_false,Blk.moved.injEq] at hm
 case frowx=>
  obtain⟨y,_,e⟩:=hm
  cases y<;>cases e
 rw[hm]
def GA (t:VT)(h:VH)(x:Operand):List Nat:=match x with
 | .tmp k=>(match aV t k with|some v=>gt v++FF h (gt v)|none=>[])
 |_=>[]
def dP (t:VT)(h:VH):List Operand→List Nat
 |[]=>[]
 |x::l=>GA t h x++dP t h l
theorem Ad {v:Value}{d:D}(h:jO v=some d)(g:HL):al d=[]∧al (fwd g d)=[]:=by
 unfold jO at h
 split at h<;>first|(simp only[aw] at h;subst h;exact⟨by simp[al],by simp[fwd,al]⟩)|cases h
theorem GB (x:Operand):∀k∈o4 (fP t) (toH h) x,k∈GA t h x:=by
 intro k hk
 unfold o4 at hk
 cases x with
 |tmp j=>
  simp only[aY,dj] at hk
  simp only[GA,aS]
  cases hl:look t j with
  |none=>rw[hl] at hk;cases hk
  |some v=>
   rw[hl] at hk
   simp only[aI] at hk
   rcases bh.1 hk with hk|hk
   ·obtain⟨b,hb,rfl⟩:=aB.1 hk
    exact eq _ (kv v b hb)
   ·obtain⟨b,hb,rfl⟩:=aB.1 hk
    rcases vH _ _ b hb with h1|⟨c,h1,h2⟩
    ·exact eq _ (kv v b h1)
    ·exact eL _ (BR (kv v c h1) (FG h2))
 |const v=>
  simp only[aY] at hk
  cases hv:jO v with
  |none=>rw[hv] at hk;cases hk
  |some d=>
   rw[hv] at hk
   obtain⟨e1,e2⟩:=Ad hv (toH h)
   simp[e1,e2,mY] at hk
 |global g=>
  simp only[aY] at hk
  by_cases hg:(look Gl g).isSome=true
  ·rw[if_pos hg] at hk
   simp[al,fwd,mY] at hk
  ·rw[if_neg hg] at hk
   simp at hk
 |_=>simp[aY] at hk
theorem tu:∀(l:List Operand),∀k∈uM (fP t) (toH h) l,k∈dP t h l
 |[],k,hk=>by cases hk
 |x::l,k,hk=>by
  simp only[uM,gw,bh] at hk
  simp only[dP,bh]
  rcases hk with hk|hk
  ·exact .inl (GB x k hk)
  ·exact .inr (tu l k hk)
def qT (t:VT)(h:VH)(op:Op):List Nat:=match md op with|true=>dP t h op.operands.toList|false=>[]
theorem Ci (op:Op):∀k∈Au (fP t) (toH h) op,k∈qT t h op:=by
 intro k hk
 unfold Au at hk
 unfold qT
 cases hl:md op with
 |false=>rw[hl] at hk;cases hk
 |true=>rw[hl] at hk;exact tu _ k hk
def StepOK (P:Program)(N:Nat)(o:Oper)(t:VT)(h:VH)(r:V)(vu:VH)(gl:List Nat):Prop:=∃u,cS h u vu∧∀f:List Nat,(∀k∈gl,k∈f)→OpS P N o (fP t) (toH h) r.toD u f
theorem EG (g:HL):∃n:Nat,look g (n,0)=none:=by
 have key:∀(l:HL),∃m,∀p∈l,p.1.1<m:=by
  intro l
  induction l with
  |nil=>exact⟨0,by simp⟩
  |cons p l ih=>
   obtain⟨m,hm⟩:=ih
   refine⟨max m (p.1.1+1),fun q hq=>?_⟩
   rcases aK.1 hq with rfl|hq
   ·omega
   ·have:=hm q hq;omega
 obtain⟨m,hm⟩:=key g
 refine⟨m,?_⟩
 cases hl:look g (m,0) with
 |none=>rfl
 |some x=>have:=hm _ (di hl);simp only at this;omega
theorem FV {t:List (Nat×D)}{h:HL}{m:Bool}{o:Oper}{d:D}{u:HL}{f:List Nat}(hd:∀n,dM P m o.op t h n=some (d,u))(hf:∀k∈Au t h o.op,k∈f):OpS P N o t h d u f:=by
 intro t' h' ht ha w0 S A ρ a w s
 obtain⟨n,hn⟩:=EG h'
 refine s.op (m:=m) (n:=n) ?_ hn
 rw[←JS (t:=t') (h:=h) (fs:=f) ?_ ha,←JT ht]
 ·exact hd n
 ·have:Au t' h o.op=Au t h o.op:=by
   unfold Au
   cases hl:md o.op with
   |false=>rfl
   |true=>
    simp only[cond_true,uM]
    have hx:∀x∈o.op.operands.toList,o4 t' h x=o4 t h x:=fun x hx=>by unfold o4;rw[ht x (lD.1 hx)]
    generalize o.op.operands.toList=l at hx
    induction l with
    |nil=>rfl
    |cons x l ih=>rw[gw,gw,hx x (bm ..),ih fun y hy=>hx y (bB _ hy)]
  rw[this]
  exact hf
theorem Kh {m:Bool}{o:Oper}{r:V}{u:HL}{vu:VH}(hd:∀n,dM P m o.op (fP t) (toH h) n=some (r.toD,u))(hu:cS h u vu):StepOK P N o t h r vu (qT t h o.op):=
 ⟨u,hu,fun f hf=>FV hd fun k hk=>hf k (Ci _ k hk)⟩
theorem Ki {m:Bool}{o:Oper}{r:V}{u:HL}{vu:VH}(hn:∀c:Id,n≤c.1→look (toH h) c=none)(hd:dM P m o.op (fP t) (toH h) n=some (r.toD,u))(hu:cS h u vu):StepOK P N o t h r vu (n::qT t h o.op):=
 ⟨u,hu,fun f hf=>IQ (hn (n,0) (ax _)) hd (fun k hk=>hf k (bB _ (Ci _ k hk))) (hf n (bm ..))⟩
theorem yG {o:Oper}{r:V}{u1:HL}{v1 v2:VH}{g1 g2:List Nat}(hp:∀f:List Nat,(∀k∈g1,k∈f)→fG P N h u1 v1 f)(hs:StepOK P N o t (puts v1 h) r v2 g2):StepOK P N o t h r (v1++v2) (g1++g2):=by
 obtain⟨u,h1,h2⟩:=hs
 have p0:=hp g1 fun k hk=>hk
 refine⟨u1++u,rS p0.1 h1,fun f hf=>(hp f fun k hk=>hf k (eq _ hk)).2 _ _ _ _ (pW (fun b=>(p0.1.1 b).symm) (h2 f fun k hk=>hf k (eL _ hk)))⟩
theorem fM {o:Oper}{r:V}{vu:VH}{g g':List Nat}(hs:StepOK P N o t h r vu g)(hg:∀k∈g,k∈g'):StepOK P N o t h r vu g':=by
 obtain⟨u,h1,h2⟩:=hs
 exact⟨u,h1,fun f hf=>h2 f fun k hk=>hf k (hg k hk)⟩
theorem qg {o:Oper}{f:FuncId}{vs:List V}{os fs:List Nat}{K:V→VH→List Nat→Prop}(hn:∀c:Id,n≤c.1→look (toH h) c=none)(hc:qw P (fP t) (toH h) o f (ak vs))(hk:n8 P h n f vs os fs K):
  ∃r vu gl,StepOK P N o t h r vu (dP t h o.op.operands.toList++gl)∧K r vu gl:=by
 obtain⟨r,u,vu,gl,h1,h2,h3⟩:=DV hn hk
 refine⟨r,vu,gl,⟨u,h2,fun f' hf'=>?_⟩,h3⟩
 obtain⟨c,hc'⟩:=h1 f' fun k hk=>hf' k (eL _ hk)
 exact FW hn hc c (fun k hk=>hf' k (eq _ (tu _ k hk))) hc'
end Go.Proofs.YtpefhoohfkeflabGreatDoor.Am
namespace Go.Proofs.YtpefhoohfkeflabGreatDoor.Am
open Go Go.RowKit
variable {P:Program} {N:Nat} {Θ:TT} {t:VT} {h:VH} {n:Nat}
mutual
def No (own:Bool)(h:VH):V→List Nat
 | .ref b=>(match aV h b with
  |some (.row _ t _)=>bif own|| !t.pure then[b] else[]
  |some (.lit ..)=>[b]
  |_=>[])
 | .ptr b _=>(match aV h b with
  |some (.fvb ..)=>[]
  |_=>[b])
 | .agg cs=>oz own h cs
 | .tup cs=>oz own h cs
 | .clo _ cs=>oz own h cs
 | .ifc _ v=>No own h v
 |v=>EX v
def oz (own:Bool)(h:VH):List V→List Nat
 |[]=>[]
 |v::l=>No own h v++oz own h l
end
def OK (own:Bool)(h:VH):VB→List Nat
 | .var _ cs=>oz own h cs
 | .vari _ pre _ t _ post=>oz own h pre++t.fams++oz own h post
 | .lit _ vs=>oz own h vs
 |x=>x.fams
def Kq (l:List Nat)(b:Nat):List Nat:=match l.contains b with|true=>l|false=>l++[b]
def gr:List Nat→List Nat→List Nat
 |l,[]=>l
 |l,b::bs=>gr (Kq l b) bs
def rp (own:Bool)(h:VH):Nat→Nat→List Nat→(List Nat→Prop)→Prop
 |0,_,l,K=>K l
 |k+1,i,l,K=>match l[i]? with
  |none=>K l
  |some b=>gc (gr l (match aV h b with|some x=>OK own h x|none=>[])) fun l=>rp own h k (i+1) l K
theorem sL {own:Bool}:∀{k i:Nat} {l:List Nat} {K:List Nat→Prop},rp own h k i l K→∃l,K l
 |0,_,l,_,hk=>⟨l,hk⟩
 |k+1,i,l,K,hk=>by
  simp only[rp] at hk
  split at hk
  ·exact⟨_,hk⟩
  ·have hk:=ct hk
   exact sL hk
def E1 (own:Bool)(h:VH)(vs:List V)(K:List Nat→List Nat→Prop):Prop:=
 gc (gr [] (oz own h vs)) fun l=>rp own h 60 0 l fun l=>gc (l.filter fun b=>Nat.ble 4 b) fun os=>gc (l.filter fun b=>Nat.blt b 4) fun fs=>K os fs
theorem rq {own:Bool}{vs:List V}{K:List Nat→List Nat→Prop}(hk:E1 own h vs K):∃os fs,K os fs:=by
 have hk:=ct hk
 obtain⟨l,hk⟩:=sL hk
 have hk:=ct hk
 have hk:=ct hk
 exact⟨_,_,hk⟩
def ca (P:Program)(h:VH)(n:Nat)(f:FuncId)(vs:List V)(K:V→VH→List Nat→Prop):Prop:=∃os fs,n8 P h n f vs os fs K
theorem fy {f:FuncId}{vs:List V}{K:V→VH→List Nat→Prop}(hk:E1 false h vs fun os fs=>n8 P h n f vs os fs K):ca P h n f vs K:=rq hk
theorem Kv {f:FuncId}{vs:List V}{K:V→VH→List Nat→Prop}(hk:E1 true h vs fun os fs=>n8 P h n f vs os fs K):ca P h n f vs K:=rq hk
def NN (h:VH)(k:Nat):Bool:=match aV h k with
 |some (.frow _ t _)=>t.pure
 |some (.frowx _ t _)=>t.pure
 |_=>false
theorem kX {f:FuncId}{vs:List V}{K:V→VH→List Nat→Prop}(hk:E1 false h vs fun os fs=>gc (fs.filter fun k=>!NN h k) fun fs=>n8 P h n f vs os fs K):ca P h n f vs K:=by
 obtain⟨os,fs,hk⟩:=rq hk
 exact⟨_,_,ct hk⟩
theorem Ok {f:FuncId}{vs:List V}{K:V→VH→List Nat→Prop}(hk:n8 P h n f vs [] [] K):ca P h n f vs K:=⟨_,_,hk⟩
theorem Ol (ex:List Nat){f:FuncId}{vs:List V}{K:V→VH→List Nat→Prop}(hk:E1 true h vs fun os fs=>gc (gr ex fs) fun fs=>n8 P h n f vs os fs K):ca P h n f vs K:=by
 obtain⟨os,fs,hk⟩:=rq hk
 exact⟨_,_,ct hk⟩
def pA (Θ:TT)(b:Builtin)(vs:List V)(Ts:List TypeId)(h:VH)(K:V→VH→Prop):Prop:=
 match b,vs,Ts with
 | .len,[v],[T]=>bJ Θ T fun ti=>LS ti h v fun r=>K r []
 | .copy,[d,e],[T,_]=>bJ Θ T fun ti=>Eb Θ ti h d e K
 | .min,[.int k x,.int k' y],_=>Chk (decide (k=k')) (K (.int k (if y<x then y else x)) [])
 | .max,[.int k x,.int k' y],_=>Chk (decide (k=k')) (K (.int k (if x<y then y else x)) [])
 |_,_,_=>False
theorem u9 (hΘ:Θ.ok P){b:Builtin}{vs:List V}{Ts:List TypeId}{m:Bool}{K:V→VH→Prop}(hk:pA Θ b vs Ts h K):∃r u vu,(∀n,eA P m b (ak vs) Ts (toH h) n=some (r.toD,u))∧cS h u vu∧K r vu:=by
 unfold pA at hk
 split at hk
 ·obtain⟨ti,l1,hk⟩:=aG hk
  obtain⟨r,h1,h2⟩:=IH (hΘ _ _ l1) hk
  exact⟨r,[],[],fun n=>by simp only[eA,ak,h1,aI],a8,h2⟩
 ·obtain⟨ti,l1,hk⟩:=aG hk
  obtain⟨r,u,vu,h1,h2,h3⟩:=Ec hΘ (hΘ _ _ l1) hk
  exact⟨r,u,vu,fun n=>by simp only[eA,ak,h1],h2,h3⟩
 ·obtain⟨c,hk⟩:=hk.ok
  simp only[decide_eq_true_eq] at c
  exact⟨_,[],[],fun n=>by simp only[eA,ak,V.toD,if_pos c],a8,hk⟩
 ·obtain⟨c,hk⟩:=hk.ok
  simp only[decide_eq_true_eq] at c
  exact⟨_,[],[],fun n=>by simp only[eA,ak,V.toD,if_pos c],a8,hk⟩
 ·exact hk.elim
def EB (h:VH)(τ:Ty):List V→(VH→VH→List Nat→Prop)→Prop
 |[],K=>K h [] []
 |v::l,K=>Bq h τ.shs v.cells fun h1 vu g=>EB h1 τ l fun h2 vu2 g2=>K h2 (vu++vu2) (g++g2)
theorem xA {τ:Ty}:∀{l:List V} {h:VH} {K:VH→VH→List Nat→Prop},EB h τ l K→∃u vu g,(∀f:List Nat,(∀k∈g,k∈f)→fG P N h u vu f)∧K (puts vu h) vu g
 |[],h,K,hk=>⟨[],[],[],fun f _=>gh,hk⟩
 |v::l,h,K,hk=>by
  obtain⟨u1,v1,g1,p1,hk⟩:=sE (P:=P) (N:=N) hk
  obtain⟨u2,v2,g2,p2,hk⟩:=xA hk
  refine⟨u1++u2,v1++v2,g1++g2,fun f hf=>lq (p1 f fun k hk=>hf k (eq _ hk)) (p2 f fun k hk=>hf k (eL _ hk)),?_⟩
  rw[bE]
  exact hk
def Eg (t:Ty):List V→Option (List t.den)
 |[]=>some []
 |v::l=>match MZ t (tU.nzL v),Eg t l with
  |some x,some xs=>some (x::xs)
  |_,_=>none
theorem A9 {t:Ty}:∀{l:List V} {xs:List t.den},Eg t l=some xs→(ak l).map nzE=xs.map (ai t)
 |[],xs,h=>by simp only[Eg,aw] at h;subst h;rfl
 |v::l,xs,h=>by
  simp only[Eg] at h
  split at h
  ·rename_i x xs' h1 h2
   simp only[aw] at h
   subst h
   simp only[ak,bI,A9 h2]
   rw[←vj h1,vZ]
  ·cases h
def AH (h:VH)(b:Nat)(τ:Ty)(K:VH→VH→List Nat→Prop):Prop:=
 match aV h b with
 |some (.lit _ vs)=>EB h τ vs fun h1 vu g=>(match aV h1 b with
  |some (.lit E vs')=>nz h1 vs' fun vs2=>(match Eg τ vs2 with
   |some xs=>Dj b (VB.row E τ xs) h1 fun h2=>K h2 (vu++[(b,.row E τ xs)]) (g++b::fY vs')
   |none=>False)
  |_=>False)
 |_=>K h [] []
theorem Ds {b:Nat}{τ:Ty}{K:VH→VH→List Nat→Prop}(hk:AH h b τ K):∃u vu g,(∀f:List Nat,(∀k∈g,k∈f)→fG P N h u vu f)∧K (puts vu h) vu g:=by
 unfold AH at hk
 split at hk
 ·obtain⟨u1,v1,g1,p1,hk⟩:=xA (P:=P) (N:=N) hk
  split at hk
  ·rename_i E vs' hb
   rw[aS] at hb
   obtain⟨vs2,f1,hk⟩:=jh hk
   split at hk
   ·rename_i xs hx
    have hk:=rH hk
    have hlast:dG (toH (puts v1 h)) (.row E (ak vs'))= .row E (xs.map (ai τ)):=by
     simp only[dG]
     rw[←A9 hx,←f1,fm,eu]
     rfl
    refine⟨u1++[((b,0),dG (toH (puts v1 h)) (.row E (ak vs')))],v1++[(b,.row E τ xs)],g1++b::fY vs',fun f hf=>lq (p1 f fun k hk=>hf k (eq _ hk)) (yo (y:=.row E τ xs) hb rfl (by rw[hlast];rfl) ⟨hf b (by simp),fun c hc=>hf c.1 ?_⟩),?_⟩
    ·refine eL _ (bB _ (ed vs' c ?_))
     rw[gD]
     exact hc
    ·rw[bE];exact hk
   ·exact hk.elim
  ·exact hk.elim
 ·exact⟨[],[],[],fun f _=>gh,hk⟩
def Fv (h:VH)(d:V)(o:Option Ty)(K:Ty→Prop):Prop:=
 match d with
 | .ref b=>eP h b fun x=>(match x with
  | .row _ t _=>K t
  |_=>False)
 |_=>(match o with|some t=>K t|none=>False)
theorem Fw {d:V}{o:Option Ty}{K:Ty→Prop}(hk:Fv h d o K):∃t,K t:=by
 unfold Fv at hk
 split at hk
 ·obtain⟨x,_,hk⟩:=bi hk
  split at hk
  ·exact⟨_,hk⟩
  ·exact hk.elim
 ·split at hk
  ·exact⟨_,hk⟩
  ·exact hk.elim
def OP (h:VH)(e:V):Option Nat:=match e with
 | .ref b=>(match aV h b with|some (.lit ..)=>some b|_=>none)
 |_=>none
def rU (s:Nat)(v:V):Bool:=v.whole && sT v.cells s && v.cells.all V.one
def M2:List (Nat×V)→List V
 |[]=>[]
 |(_,v)::l=>tU.nzL v::M2 l
theorem FO:∀l:List (Nat×V),((y5 l).map fun x=>nzE x.2)=ak (M2 l)
 |[]=>rfl
 |(k,v)::l=>by
  have:=FO l
  simp only[y5,bI,eu] at this⊢
  simp only[M2,ak,vZ]
  rw[←this]
def BM:List (Nat×V)→Nat→Bool
 |[],0=>true
 |_::l,n+1=>BM l n
 |_,_=>false
theorem x8:∀{l:List (Nat×V)} {n:Nat},BM l n=true→l.length=n
 |[],0,_=>rfl
 |_::l,n+1,h=>by simp[x8 (l:=l) (n:=n) h]
 |[],_+1,h=>by cases h
 |_::_,0,h=>by cases h
def u7 (ei:TI)(E:TypeId)(vs:List (Nat×V))(n:Nat)(K:V→VH→Prop):Prop:=
 match ei.ty with
 |some τ=>(match tU τ vs with
  |some xs=>Chk (τ.sz==ei.sz) (K (.ref n) [(n,.row E τ xs)])
  |none=>Chk (vs.all fun p=>rU ei.sz p.2) (K (.ref n) [(n,.lit E (M2 vs))]))
 |none=>Chk (vs.all fun p=>rU ei.sz p.2) (K (.ref n) [(n,.lit E (M2 vs))])
theorem Ev (t:Ty)(x:t.den):M4 t.sz (ai t x)=true:=by
 have h1:=fV t x
 have hw:(ai t x).whole=true:=by
  cases t<;>first|rfl|(cases x<;>rfl)
 simp only[M4,hw,h1.1,h1.2,beq_self_eq_true,Bool.and_self]
theorem zj {T E:TypeId}{ei:TI}{len:Nat}{vs:List (Nat×V)}{K:V→VH→Prop}(hu:P.underlying T=some (.slice E))(he:elemT P E=some (ei.sz,ei.nb))(hkeys:xS vs 0=true)(hlen:BM vs len=true)(hb:len*ei.sz≤16777216)
  (hn:∀c:Id,n≤c.1→look (toH h) c=none) (hk:u7 ei E vs n K):∃r u vu,ey P (n,0) T len ((y5 vs).map fun x=>(x.1,nzE x.2))=some (V.toD r,u)∧cS h u vu∧K r vu:=by
 have hmap1:((y5 vs).map fun x=>(x.1,nzE x.2)).map (·.1)=List.range' 0 len:=by
  rw[eu]
  have:=xU hkeys
  rw[x8 hlen] at this
  exact this
 have hmap2:((y5 vs).map fun x=>(x.1,nzE x.2)).map (·.2)=(y5 vs).map fun x=>nzE x.2:=by
  rw[eu];rfl
 have lit:(vs.all fun p=>rU ei.sz p.2)=true→ey P (n,0) T len ((y5 vs).map fun x=>(x.1,nzE x.2))=some ((V.ref n).toD,[((n,0),.row E (ak (M2 vs)))]):=by
  intro hw
  unfold ey
  simp only[hu,he]
  rw[if_pos,hmap2,FO]
  ·rfl
  ·refine⟨hmap1,hb,?_⟩
   rw[hmap2,aM]
   intro e hx
   obtain⟨p,hp,rfl⟩:=aB.1 hx
   obtain⟨q,hq,rfl⟩:=aB.1 hp
   rw[aM] at hw
   have:=hw q hq
   simp only[rU,az] at this
   obtain⟨⟨w1,w2⟩,w3⟩:=this
   simp only[M4,az,beq_iff_eq]
   refine⟨by rw[uD,gU];exact w1,?_,FQ w3⟩
   rw[qH,aL,yi,jj w2]
 unfold u7 at hk
 split at hk
 ·rename_i τ hτ
  split at hk
  ·rename_i xs hx
   obtain⟨c,hk⟩:=hk.ok
   simp only[beq_iff_eq] at c
   have hd:=Ba hx
   refine⟨.ref n,[((n,0),.row E (xs.map (ai τ)))],_,?_,lz hn rfl,hk⟩
   unfold ey
   simp only[hu,he]
   rw[if_pos,hmap2,hd]
   ·rfl
   ·refine⟨hmap1,hb,?_⟩
    rw[hmap2,hd,aM]
    intro e hx
    obtain⟨x,_,rfl⟩:=aB.1 hx
    rw[←c]
    exact Ev τ x
  ·obtain⟨c,hk⟩:=hk.ok
   exact⟨_,_,_,lit c,lz hn rfl,hk⟩
 ·obtain⟨c,hk⟩:=hk.ok
  exact⟨_,_,_,lit c,lz hn rfl,hk⟩
def GJ (k:TK):Bool:=match k with| .ifc| .func=>false|_=>true
theorem yE {T:TypeId}{k:TK}(h:k.ok P T)(hs:GJ k=true):CC P T=true:=by
 unfold CC
 cases k with
 |struct fs=>
  have:=h.2
  unfold lp at this
  cases hu:P.underlying T with
  |none=>rw[hu] at this;simp at this
  |some d=>
   rw[hu] at this
   cases d<;>first|rfl|(simp at this)
 |ifc=>cases hs
 |func=>cases hs
 |int k=>rw[show P.underlying T=some (.int k) from h]
 |bool=>rw[show P.underlying T=some .bool from h]
 |str=>rw[show P.underlying T=some .string from h]
 |slice E=>rw[show P.underlying T=some (.slice E) from h]
 |ptr E=>rw[show P.underlying T=some (.pointer E) from h]
 |arr m E=>rw[show P.underlying T=some (.array m E) from h]
def AU (T:TypeId)(ti:TI)(ok:Bool)(v:V)(K:V→Prop):Prop:=
 Chk (GJ ti.k) (match v with
  | .ifc T' e=>(match Nat.beq T' T with
   |true=>(match ok with|true=>K (.tup [e,.tt])|false=>K e)
   |false=>Chk ok (match ti.z with|some z=>K (.tup [z,.ff])|none=>False))
  | .nili=>Chk ok (match ti.z with|some z=>K (.tup [z,.ff])|none=>False)
  |_=>False)
theorem zb {T:TypeId}{ti:TI}(ht:ti.ok P T){ok:Bool}{v:V}{K:V→Prop}(hk:AU T ti ok v K):∃r,nX P T ok v.toD=some (V.toD r)∧K r:=by
 obtain⟨c,hk⟩:=Chk.ok hk
 have hi:=yE ht.und c
 unfold nX
 rw[if_pos hi]
 split at hk
 ·rename_i T' e
  simp only[V.toD]
  split at hk
  ·rename_i hb
   rw[if_pos (cq hb)]
   cases ok with
   |true=>exact⟨_,by simp[V.toD,ak],hk⟩
   |false=>exact⟨_,by simp,hk⟩
  ·rename_i hb
   obtain⟨c2,hk⟩:=hk.ok
   rw[if_neg (by rintro rfl;simp at hb)]
   split at hk
   ·rename_i z hz
    refine⟨_,?_,hk⟩
    rw[if_pos c2,ht.zero z hz]
    simp[V.toD,ak]
   ·exact hk.elim
 ·obtain⟨c2,hk⟩:=hk.ok
  split at hk
  ·rename_i z hz
   refine⟨_,?_,hk⟩
   simp only[V.toD]
   rw[if_pos c2,ht.zero z hz]
   simp[V.toD,ak]
  ·exact hk.elim
 ·exact hk.elim
theorem DH {q:Bool}(hq:q=false){T:TypeId}{H:HL}{m m':Id}{d:D}{lo hi:Option D}:fR P H q m T d lo hi=fR P H q m' T d lo hi:=by
 subst hq
 unfold fR
 simp only[eY,if_false]
end Go.Proofs.YtpefhoohfkeflabGreatDoor.Am
namespace Go.Proofs.YtpefhoohfkeflabGreatDoor.Am
open Go Go.RowKit
variable {P:Program} {N:Nat} {Θ:TT} {t:VT} {h:VH} {n:Nat}
def O8 (τ:Ty)(z:V)(K:τ.den→Prop):Prop:=xh τ (tU.nzL z) K
theorem LY {τ:Ty}{z:V}{K:τ.den→Prop}(h:O8 τ z K):∃x,nzE z.toD=ai τ x∧K x:=by
 obtain⟨x,h1,h2⟩:=mS h
 exact⟨x,by rw[←vZ];exact h1,h2⟩
def DU (P:Program)(h:VH)(n:Nat)(f:FuncId)(vs:List V)(Au:List Nat)(K:V→VH→List Nat→Prop):Prop:=ca P h n f vs fun r vu gl=>K r vu (Au++gl)
def wJ (P:Program)(T:TypeId)(m:String)(K:FuncId→Bool→Prop):Prop:=∃f b,kC P T m=some (f,b)∧K f b
theorem NI {P:Program}{T:TypeId}{m:String}{K:FuncId→Bool→Prop}{f:FuncId}{b:Bool}(h:kC P T m=some (f,b))(k:K f b):wJ P T m K:=⟨f,b,h,k⟩
def Gg (Θ:TT)(h:VH)(T:TypeId)(b:Bool)(v:V)(K:V→Prop):Prop:=
 match b with
 |true=>K v
 |false=>bJ Θ T fun ti=>(match ti.k with
  | .ptr E=>bJ Θ E fun ei=>ya ei h v K
  |_=>False)
theorem Gh {P:Program}{Θ:TT}{h:VH}(hΘ:Θ.ok P){T:TypeId}{b:Bool}{v:V}{K:V→Prop}(hk:Gg Θ h T b v K):∃r,mh P (toH h) T b v.toD=some (V.toD r)∧K r:=by
 unfold Gg at hk
 split at hk
 ·exact⟨v,by simp[mh],hk⟩
 ·obtain⟨ti,l1,hk⟩:=aG hk
  have hu:=(hΘ _ _ l1).und
  split at hk
  ·rename_i E e
   rw[e] at hu
   have hu:P.underlying T=some (.pointer E):=hu
   obtain⟨ei,l2,hk⟩:=aG hk
   obtain⟨r,h1,h2⟩:=sY (hΘ _ _ l2) hk
   exact⟨r,by simp only[mh,eY,if_false,hu,h1],h2⟩
  ·exact hk.elim
def Mc (v:V)(K:V→Prop):Prop:=
 match v with
 | .ptr b o=>K (.ptr b o)
 | .eptr b i o=>K (.eptr b i o)
 | .aptr b p i=>K (.aptr b p i)
 | .iptr t x o=>K (.iptr t x o)
 | .box t x=>K (.box t x)
 | .fptr k i o=>K (.fptr k i o)
 | .feptr k i j o=>K (.feptr k i j o)
 | .faptr k i p j=>K (.faptr k i p j)
 | .hpo k o=>iW o False fun i=>K (.fptr k i 0)
 | .obo t o=>iW o False fun x=>K (.box t x)
 |_=>False
theorem I5 {v:V}{K:V→Prop}(hk:Mc v K):∃r:V,eU v.toD=true∧r.toD=v.toD∧K r:=by
 unfold Mc at hk
 split at hk<;>try exact⟨_,rfl,rfl,hk⟩
 ·rename_i k o
  cases o with
  |none=>exact(hk.1 rfl).elim
  |some i=>exact⟨.fptr k i 0,rfl,rfl,hk.2 i rfl⟩
 ·rename_i t o
  cases o with
  |none=>exact(hk.1 rfl).elim
  |some x=>exact⟨.box t x,rfl,rfl,hk.2 x rfl⟩
 ·exact hk.elim
def z6 (n:Nat):VH→Bool
 |[]=>true
 |(x,_)::u=>Nat.blt x n && z6 n u
theorem vX:∀{u:VH},z6 n u=true→∀k∈u.map (·.1),k<n
 |[],_,k,hk=>by cases hk
 |(a,b)::u,h,k,hk=>by
  simp only[z6,az] at h
  rcases aK.1 hk with rfl|hk
  ·simpa[Nat.blt_eq] using h.1
  ·exact vX h.2 k hk
theorem up {u:HL}{vu:VH}(hn:∀c:Id,n≤c.1→look (toH h) c=none)(hu:cS h u vu)(hl:z6 n vu=true):∀c:Id,n≤c.1→look (toH (puts vu h)) c=none:=by
 intro c hc
 rw[←hu.1,aN _ _ _ fun x hx e=>?_]
 ·exact hn c hc
 ·have:=vX hl _ (hu.2 x hx)
  rw[e] at this
  omega
def GM (P:Program)(Θ:TT)(op:Op)(t:VT)(h:VH)(n:Nat)(K:V→VH→List Nat→Prop):Prop:=
 match op with
 | .move x=>qy t x fun v=>K v [] []
 | .assign x=>qy t x fun v=>K v [] []
 | .load T x=>zy t h x fun v=>bJ Θ T fun ti=>ya ti h v fun r=>K r [] (dP t h [x])
 | .store T x y=>zy t h x fun d=>zy t h y fun v=>bJ Θ T fun ti=>MK h d fun tg=>(match tg with
  |none=>wm ti h d v fun r u=>K r u (dP t h [x,y])
  |some p=>Bq h (p.1.shs.drop p.2) v.cells fun h1 vu g=>zy t h1 x fun d=>zy t h1 y fun v=>Cn ti h1 d v fun r u=>K r (vu++u) (g++dP t h1 [x,y]))
 | .fieldAddr T x f=>qy t x fun v=>bJ Θ T fun ti=>(match ti.k with
  | .struct fs=>yg fs f fun g=>Chk (decide (0<g.2.2)) (OD g v fun r=>K r [] [])
  |_=>False)
 | .indexAddr T x i=>zy t h x fun v=>qy t i fun ix=>bJ Θ T fun ti=>(match ix with
  | .int _ j=>OL Θ ti h v j fun r=>K r [] (dP t h [x,i])
  |_=>False)
 | .binOp op T x y _=>zy t h x fun d=>zy t h y fun e=>bJ Θ T fun ti=>(match ti.k with
  | .ifc=>Fe op (dY x||dY y) d e fun r=>K r [] (dP t h [x,y])
  | .struct _=>Mk (GZ P T) (MH op d e fun r=>K r [] (dP t h [x,y]))
  | .ptr E=>(match d,e with
   | .hpo k o,.hpo k' o'=>L4 P T op h k k' o o' fun r=>K r [] (dP t h [x,y])
   |d,e=>px op (.ptr E) d e fun r=>K r [] (dP t h [x,y]))
  |_=>px op ti.k d e fun r=>K r [] (dP t h [x,y]))
 | .unOp op _ x=>qy t x fun d=>OZ op d fun r=>K r [] []
 | .call ⟨.builtin b,args,Ts⟩=>(match b with
  | .append=>xp t h args.toList fun vs=>(match vs,Ts.toList with
   |[d,e],[T,T']=>(match Nat.beq T T' with
    |false=>bJ Θ T fun ti=>bJ Θ T' fun ti'=>r9 Θ ti ti' h n d e fun r u=>K r u (n::dP t h args.toList)
    |true=>bJ Θ T fun ti=>(match OP h e with
    |none=>qY Θ ti h n d e fun r u=>K r u (n::dP t h args.toList)
    |some b=>(match ti.k with
     | .slice E=>bJ Θ E fun ei=>Fv h d ei.ty fun τ=>AH h b τ fun h1 vu g=>Chk (z6 n vu) (xp t h1 args.toList fun vs=>(match vs with
      |[d,e]=>qY Θ ti h1 n d e fun r u=>K r (vu++u) (g++n::dP t h1 args.toList)
      |_=>False))
     |_=>False)))
   |_,_=>False)
  |b=>xp t h args.toList fun vs=>pA Θ b vs Ts.toList h fun r u=>K r u (dP t h args.toList))
 | .call ⟨.value (.func f),args,_⟩=>xp t h args.toList fun vs=>DU P h n f vs (dP t h (.func f::args.toList)) K
 | .call ⟨.value (.tmp k),args,_⟩=>zy t h (.tmp k) fun c=>(match c with
  | .clo f cs=>xp t h args.toList fun vs=>DU P h n f (vs++cs) (dP t h (.tmp k::args.toList)) K
  |_=>False)
 | .call ⟨.invoke x m,args,_⟩=>zy t h x fun c=>(match c with
  | .ifc T v=>wJ P T m fun f b=>Gg Θ h T b v fun r=>xp t h args.toList fun vs=>DU P h n f (r::vs) (dP t h (x::args.toList)) K
  |_=>False)
 | .pick c x y=>qy t c fun b=>(match b with
  | .tt=>qy t x fun v=>K v [] []
  | .ff=>qy t y fun v=>K v [] []
  | .bool b=>jx b (qy t x fun v=>K v [] []) (qy t y fun v=>K v [] [])
  |_=>False)
 | .alloc T=>bJ Θ T fun ti=>(match ti.z with
  |some z=>K (.ptr n 0) [(n,.var T z.cells)] [n]
  |none=>False)
 | .box T x=>qy t x fun v=>Chk v.whole (K (.ptr n 0) [(n,.var T v.cells)] [n])
 | .build T ps=>KL t ps.toList fun vs=>bJ Θ T fun ti=>(match ti.k,ti.z with
  | .struct fs,some (.agg zs)=>EA fs zs vs fun cs=>K (.agg cs) [] []
  | .arr _ E,some (.agg zs)=>bJ Θ E fun _=>Chk vs.isEmpty (K (.agg zs) [] [])
  |_,_=>False)
 | .buildSlice T len ps=>Ew t h ps.toList fun vs=>bJ Θ T fun ti=>(match ti.k with
  | .slice E=>bJ Θ E fun ei=>Chk (ei.z.isSome && decide (0<ei.sz) && xS vs 0 && BM vs len && decide (len*ei.sz≤16777216)) (u7 ei E vs n fun r u=>K r u (n::dP t h (ps.toList.map (·.2))))
  |_=>False)
 | .nilCheck x=>qy t x fun v=>Mc v fun r=>K r [] []
 | .convert S T x=>zy t h x fun v=>bJ Θ T fun ti=>bJ Θ S fun si=>D9 Θ ti si h v fun r=>K r [] (dP t h [x])
 | .makeInterface T x=>qy t x fun v=>bJ Θ T fun ti=>Chk (GJ ti.k) (K (.ifc T v) [] [])
 | .makeFunc (.func f) first captured=>Chk (Nat.beq first.size 0) (KK t captured.toList fun vs=>K (.clo f vs) [] [])
 | .typeAssert x _ T ok=>qy t x fun v=>bJ Θ T fun ti=>AU T ti ok v fun r=>K r [] []
 | .makeSlice T l c=>qy t l fun a=>qy t c fun b=>bJ Θ T fun ti=>(match ti.k,a,b with
  | .slice E,.int _ a,.int _ b=>bJ Θ E fun ei=>(match ei.z,ei.ty with
   |some z,some τ=>Chk (decide (0<ei.sz) && τ.sz==ei.sz && z.cells.all V.pure0) (O8 τ z fun x=>ci (0≤a∧a=b) (ci (le ei.nb a.toNat) (K (.ref n) [(n,.row E τ (List.replicate a.toNat x))] [n])))
   |_,_=>False)
  |_,_,_=>False)
 | .slice T x lo hi none=>zy t h x fun v=>Bh t lo fun l=>Bh t hi fun r=>bJ Θ T fun ti=>Av Θ ti h n v l r fun q r u=>(match q with
  |true=>K r u (n::qT t h op)
  |false=>K r u (qT t h op))
 | .field T x f=>qy t x fun v=>bJ Θ T fun ti=>(match ti.k,v with
  | .struct fs,.agg cs=>yg fs f fun g=>bJ Θ g.1 fun gi=>iy gi cs g.2.1 fun r=>K r [] []
  |_,_=>False)
 | .index T x i=>qy t x fun v=>qy t i fun i=>bJ Θ T fun ti=>(match ti.k,v,i with
  | .str,.str s,.int _ i=>ci (0≤i∧i<(s.size:Nat)) (K (.int .u8 ((s.data.toList.getD i.toNat 0).toNat:Nat)) [] [])
  | .arr m E,.agg cs,.int _ i=>bJ Θ E fun ei=>ci (0≤i∧i<(m:Nat)) (iy ei cs (i.toNat * ei.sz) fun r=>K r [] [])
  |_,_,_=>False)
 | .extract x i=>qy t x fun v=>(match v with
  | .tup cs=>yg cs i fun r=>K r [] []
  |_=>False)
 |_=>False
def y7 (P:Program)(N:Nat)(o:Oper)(t:VT)(h:VH)(K:V→VH→List Nat→Prop):Prop:=∃r vu gl,StepOK P N o t h r vu gl∧K r vu gl
theorem o6 {m:Bool}{o:Oper}{r:V}{u:HL}{vu:VH}{gl:List Nat}{K:V→VH→List Nat→Prop}(hd:∀n,dM P m o.op (fP t) (toH h) n=some (r.toD,u))(hu:cS h u vu)(hg:∀k∈qT t h o.op,k∈gl)(hk:K r vu gl):y7 P N o t h K:=⟨r,vu,gl,fM (Kh hd hu) hg,hk⟩
theorem MG {m:Bool}{o:Oper}{r:V}{u:HL}{vu:VH}{gl:List Nat}{K:V→VH→List Nat→Prop}(hn:∀c:Id,n≤c.1→look (toH h) c=none)(hd:dM P m o.op (fP t) (toH h) n=some (r.toD,u))(hu:cS h u vu)(hg:∀k∈n::qT t h o.op,k∈gl)(hk:K r vu gl):y7 P N o t h K:=⟨r,vu,gl,fM (Ki hn hd hu) hg,hk⟩
theorem fD {op:Op}{l:List Operand}(hl:md op=true)(ho:op.operands.toList=l):∀k∈qT t h op,k∈dP t h l:=by
 intro k hk
 unfold qT at hk
 rw[hl] at hk
 rw[ho] at hk
 exact hk
theorem dx {op:Op}(hl:md op=false)(gl:List Nat):∀k∈qT t h op,k∈gl:=by
 intro k hk
 unfold qT at hk
 rw[hl] at hk
 cases hk
end Go.Proofs.YtpefhoohfkeflabGreatDoor.Am
namespace Go.Proofs.YtpefhoohfkeflabGreatDoor.Am
open Go Go.RowKit
variable {P:Program} {N:Nat} {Θ:TT} {t:VT} {h:VH} {n:Nat}
set_option maxHeartbeats 1600000 in
theorem GN (hΘ:Θ.ok P){o:Oper}(hn:∀c:Id,n≤c.1→look (toH h) c=none){K:V→VH→List Nat→Prop}(hk:GM P Θ o.op t h n K):y7 P N o t h K:=by
 obtain⟨dst,op,ty,pos,after,guard⟩:=o
 simp only at hk
 unfold GM at hk
 split at hk
 ·obtain⟨v,h1,h2⟩:=cL hk
  exact o6 (m:=false) (fun n=>by simp only[dM,h1,aI]) a8 (dx rfl _) h2
 ·obtain⟨v,h1,h2⟩:=cL hk
  exact o6 (m:=false) (fun n=>by simp only[dM,h1,aI]) a8 (dx rfl _) h2
 ·obtain⟨v,h1,h2⟩:=fW hk
  obtain⟨ti,l1,h2⟩:=aG h2
  obtain⟨r,h3,h4⟩:=sY (hΘ _ _ l1) h2
  exact o6 (m:=false) (fun n=>by simp only[dM,h1,bc,h3,aI]) a8 (fD rfl (by simp[Op.operands])) h4
 ·rename_i T x y
  obtain⟨d,h1,h2⟩:=fW hk
  obtain⟨v,h3,h2⟩:=fW h2
  obtain⟨ti,l1,h2⟩:=aG h2
  obtain⟨tg,h2⟩:=Jz h2
  split at h2
  ·obtain⟨u,vu,h5,h6,h7⟩:=AB (hΘ _ _ l1) h2
   exact o6 (m:=false) (fun n=>by
    simp only[dM,h1,h3,bc,Bool.not_false,nzM,if_true,h5,aI];rfl) h6 (fD rfl (by simp[Op.operands])) h7
  ·obtain⟨u1,v1,g1,p1,h2⟩:=sE (P:=P) (N:=N) h2
   obtain⟨d,h1,h2⟩:=fW h2
   obtain⟨v,h3,h2⟩:=fW h2
   obtain⟨u,vu,h5,h6,h7⟩:=AC (hΘ _ _ l1) h2
   refine⟨.undef,_,_,yG p1 (fM (Kh (m:=true) (fun n=>?_) h6) (fD rfl (by simp[Op.operands]))),h7⟩
   simp only[dM,h1,h3,bc,Bool.not_true,nzM,eY,if_false,h5,aI];rfl
 ·rename_i T x f
  obtain⟨v,h1,h2⟩:=cL hk
  obtain⟨ti,l1,h2⟩:=aG h2
  have hu:=(hΘ _ _ l1).und
  split at h2
  ·rename_i fs e
   rw[e] at hu
   obtain⟨g,g1,h2⟩:=lk h2
   obtain⟨c,h2⟩:=h2.ok
   simp only[decide_eq_true_eq] at c
   obtain⟨r,h3,h4⟩:=KO (P:=P) (T:=T) (i:=f) ((hu.1 f g.1 g.2.1 g.2.2 g1).2 c) h2
   exact o6 (m:=false) (fun n=>by simp only[dM,h1,bc,h3,aI]) a8 (dx rfl _) h4
  ·exact h2.elim
 ·obtain⟨v,h1,h2⟩:=fW hk
  obtain⟨i,h3,h4⟩:=cL h2
  obtain⟨ti,l1,h4⟩:=aG h4
  split at h4
  ·rename_i k j _
   obtain⟨r,h5,h6⟩:=K2 hΘ (hΘ _ _ l1) (k:=k) h4
   exact o6 (m:=false) (fun n=>by
    have h3':aY (fP t) _=some (.int k j):=h3
    simp only[dM,h1,h3',bc,h5,aI]) a8 (fD rfl (by simp[Op.operands])) h6
  ·exact h4.elim
 ·rename_i op T x y yT
  obtain⟨d,h1,h2⟩:=fW hk
  obtain⟨e,h3,h4⟩:=fW h2
  obtain⟨ti,l1,h4⟩:=aG h4
  have hu:=(hΘ _ _ l1).und
  have fin:∀{tk:TK},tk.ok P T→px op tk d e (fun r=>K r [] (dP t h [x,y]))→∃r:V,(∀n,dM P false (.binOp op T x y yT) (fP t) (toH h) n=some (r.toD,[]))∧K r [] (dP t h [x,y]):=fun hu h4=>by
   obtain⟨r,h5,h6⟩:=Hu (P:=P) hu h4
   refine⟨r,fun n=>?_,h6⟩
   simp only[dM,h1,h3,bc]
   unfold dy at h5
   split at h5
   ·rename_i r' hr
    rw[hr]
    simp only[aw] at h5
    rw[h5]
   ·rename_i hr
    rw[hr]
    split at h5
    ·rename_i r' hr'
     simp only[aw] at h5
     simp only[hr',h5]
    ·rename_i hr'
     simp only[hr',h5]
  split at h4
  ·rename_i hi
   rw[hi] at hu
   obtain⟨r,h5,h6,h7,h8,h9⟩:=Im (P:=P) hu h4
   refine o6 (m:=false) (u:=[]) (fun n=>?_) a8 (fD rfl (by simp[Op.operands])) h9
   simp only[dM,h1,h3,bc,h5,h6,h7,h8]
  ·obtain⟨hm,h4⟩:=h4
   obtain⟨r,h5,h6,h7,h8,h9,h10⟩:=Jt (P:=P) hm h4
   refine o6 (m:=false) (u:=[]) (fun n=>?_) a8 (fD rfl (by simp[Op.operands])) h10
   simp only[dM,h1,h3,bc,h5,h6,h7,h8,h9]
  ·rename_i E hi
   rw[hi] at hu
   split at h4
   ·obtain⟨r,h5,h6,h7,h8,h9,h10,h11⟩:=IU h4
    refine o6 (m:=false) (u:=[]) (fun n=>?_) a8 (fD rfl (by simp[Op.operands])) h11
    simp only[dM,h1,h3,bc,h5,h6,h7,h8,h9,h10,aI]
   ·obtain⟨r,h5,h6⟩:=fin hu h4
    exact o6 (m:=false) (u:=[]) h5 a8 (fD rfl (by simp[Op.operands])) h6
  ·obtain⟨r,h5,h6⟩:=fin hu h4
   exact o6 (m:=false) (u:=[]) h5 a8 (fD rfl (by simp[Op.operands])) h6
 ·obtain⟨d,h1,h2⟩:=cL hk
  obtain⟨r,h5,h6⟩:=MM h2
  exact o6 (m:=false) (fun n=>by simp only[dM,h1,bc,h5,aI]) a8 (dx rfl _) h6
 ·rename_i b args Ts
  split at hk
  ·obtain⟨vs,h1,h2⟩:=lc hk
   split at h2
   ·rename_i d e T T' eT
    split at h2
    ·rename_i c
     have hne:T≠T':=by rintro rfl;simp at c
     obtain⟨ti,l1,h3⟩:=aG h2
     obtain⟨ti',l1',h3⟩:=aG h3
     obtain⟨r,u,vu,h5,h6,h7⟩:=wR hΘ (hΘ _ _ l1) (hΘ _ _ l1') hn h3
     refine MG (m:=false) hn ?_ h6 (fun k hk=>?_) h7
     ·simp only[dM,h1,bc,eT,ak,eA,hne,if_false,h5]
     ·rcases aK.1 hk with rfl|hk
      ·exact bm ..
      ·refine bB _ (fD (l:=args.toList) rfl (by simp[Op.operands,Call.operands]) k hk)
    ·rename_i c
     obtain rfl:=cq c
     obtain⟨ti,l1,h3⟩:=aG h2
     split at h3
     ·obtain⟨r,u,vu,h5,h6,h7⟩:=r8 hΘ (hΘ _ _ l1) hn h3
      refine MG (m:=false) hn ?_ h6 (fun k hk=>?_) h7
      ·simp only[dM,h1,bc,eT,ak,eA,if_true,h5]
      ·rcases aK.1 hk with rfl|hk
       ·exact bm ..
       ·refine bB _ (fD (l:=args.toList) rfl (by simp[Op.operands,Call.operands]) k hk)
     ·split at h3
      ·obtain⟨ei,l2,h3⟩:=aG h3
       obtain⟨τ,h3⟩:=Fw h3
       obtain⟨u1,v1,g1,p1,h3⟩:=Ds (P:=P) (N:=N) h3
       obtain⟨cl,h3⟩:=h3.ok
       obtain⟨vs,h1,h3⟩:=lc h3
       split at h3
       ·rename_i d e
        have p0:=(p1 g1 fun k hk=>hk).1
        have hn':=up hn p0 cl
        obtain⟨r,u,vu,h5,h6,h7⟩:=r8 hΘ (hΘ _ _ l1) hn' h3
        refine⟨r,_,_,yG p1 (fM (Ki (m:=false) hn' ?_ h6) (fun k hk=>?_)),h7⟩
        ·simp only[dM,h1,bc,eT,ak,eA,if_true,h5]
        ·rcases aK.1 hk with rfl|hk
         ·exact bm ..
         ·refine bB _ (fD (l:=args.toList) rfl (by simp[Op.operands,Call.operands]) k hk)
       ·exact h3.elim
      ·exact h3.elim
   ·exact h2.elim
  ·obtain⟨vs,h1,h2⟩:=lc hk
   obtain⟨r,u,vu,h5,h6,h7⟩:=u9 (m:=false) hΘ h2
   exact o6 (m:=false) (fun n=>by simp only[dM,h1,bc,h5]) h6 (fD rfl (by simp[Op.operands,Call.operands])) h7
 ·rename_i f args Ts
  obtain⟨vs,h1,h2⟩:=lc hk
  obtain⟨os,fs,h2⟩:=h2
  obtain⟨r,vu,gl,h3,h4⟩:=qg (N:=N) (o:=⟨dst,.call ⟨.value (.func f),args,Ts⟩,ty,pos,after,guard⟩) hn ⟨args,Ts,.inl ⟨rfl,h1⟩⟩ h2
  refine⟨r,vu,_,fM h3 (fun k hk=>?_),h4⟩
  simpa[Op.operands,Call.operands] using hk
 ·rename_i k args Ts
  obtain⟨c,h1,h2⟩:=fW hk
  split at h2
  ·rename_i f cs
   obtain⟨vs,h3,h2⟩:=lc h2
   obtain⟨os,fs,h2⟩:=h2
   obtain⟨r,vu,gl,h3,h4⟩:=qg (N:=N) (o:=⟨dst,.call ⟨.value (.tmp k),args,Ts⟩,ty,pos,after,guard⟩) hn ⟨args,Ts,.inr (.inl ⟨k,ak cs,ak vs,rfl,h1,h3,by simp[cY]⟩)⟩ h2
   refine⟨r,vu,_,fM h3 (fun k hk=>?_),h4⟩
   simpa[Op.operands,Call.operands] using hk
  ·exact h2.elim
 ·rename_i x m args Ts
  obtain⟨c,h1,h2⟩:=fW hk
  split at h2
  ·rename_i T v
   obtain⟨f,b,hm,h2⟩:=h2
   obtain⟨r0,hr,h2⟩:=Gh hΘ h2
   obtain⟨vs,h3,h2⟩:=lc h2
   obtain⟨os,fs,h2⟩:=h2
   obtain⟨r,vu,gl,h4,h5⟩:=qg (N:=N) (o:=⟨dst,.call ⟨.invoke x m,args,Ts⟩,ty,pos,after,guard⟩) hn ⟨args,Ts,.inr (.inr ⟨x,m,T,v.toD,r0.toD,b,ak vs,rfl,h1,hm,hr,h3,rfl⟩)⟩ h2
   refine⟨r,vu,_,fM h4 (fun k hk=>?_),h5⟩
   simpa[Op.operands,Call.operands] using hk
  ·exact h2.elim
 ·obtain⟨b,h1,h2⟩:=cL hk
  split at h2
  ·obtain⟨r,h3,h4⟩:=cL h2
   have h1':aY (fP t) _=some (.bool true):=h1
   exact o6 (m:=false) (fun n=>by simp only[dM,h1',h3,aI]) a8 (dx rfl _) h4
  ·obtain⟨r,h3,h4⟩:=cL h2
   have h1':aY (fP t) _=some (.bool false):=h1
   exact o6 (m:=false) (fun n=>by simp only[dM,h1',h3,aI]) a8 (dx rfl _) h4
  ·rename_i b
   cases b with
   |true=>
    obtain⟨r,h3,h4⟩:=cL (h2.1 rfl)
    have h1':aY (fP t) _=some (.bool true):=h1
    exact o6 (m:=false) (fun n=>by simp only[dM,h1',h3,aI]) a8 (dx rfl _) h4
   |false=>
    obtain⟨r,h3,h4⟩:=cL (h2.2 rfl)
    have h1':aY (fP t) _=some (.bool false):=h1
    exact o6 (m:=false) (fun n=>by simp only[dM,h1',h3,aI]) a8 (dx rfl _) h4
  ·exact h2.elim
 ·obtain⟨ti,l1,h2⟩:=aG hk
  split at h2
  ·rename_i z hz
   refine MG (m:=false) (u:=[((n,0),.var _ (ak z.cells))]) hn ?_ (lz hn rfl) (fun k hk=>?_) h2
   ·simp only[dM,(hΘ _ _ l1).zero z hz,aI,bu];rfl
   ·rcases aK.1 hk with rfl|hk
    ·exact bm ..
    ·exact dx rfl _ k hk
  ·exact h2.elim
 ·obtain⟨v,h1,h2⟩:=cL hk
  obtain⟨c,h3⟩:=h2.ok
  refine MG (m:=false) (u:=[((n,0),.var _ (ak v.cells))]) hn ?_ (lz hn rfl) (fun k hk=>?_) h3
  ·simp only[dM,h1,bc,gU,c,if_true,bu];rfl
  ·rcases aK.1 hk with rfl|hk
   ·exact bm ..
   ·exact dx rfl _ k hk
 ·rename_i T ps
  obtain⟨vs,h1,h2⟩:=Bj hk
  obtain⟨ti,l1,h2⟩:=aG h2
  have hu:=(hΘ _ _ l1).und
  have hz:=(hΘ _ _ l1).zero
  split at h2
  ·rename_i fs zs e ez
   rw[e] at hu
   obtain⟨cs,h3,h4⟩:=xy h2
   have hz':=hz _ ez
   simp only[V.toD] at hz'
   exact o6 (m:=false) (fun n=>by simp only[dM,h1,bc,rY,hu.2,hz',h3,aI];rfl) a8 (dx rfl _) h4
  ·rename_i M E zs e ez
   rw[e] at hu
   obtain⟨ei,l2,h2⟩:=aG h2
   obtain⟨c,h4⟩:=h2.ok
   have hz':=hz _ ez
   simp only[V.toD] at hz'
   have hv:vs=[]:=List.isEmpty_iff.1 c
   subst hv
   have hpl:lp P T=some []:=by
    have hs:=(hΘ _ _ l2).size
    unfold sizeT at hs
    obtain⟨i,hi,_⟩:=bj.1 hs
    unfold lp
    rw[show P.underlying T=some (.array M E) from hu]
    simp only[hi,aI]
   exact o6 (m:=false) (fun n=>by simp only[dM,h1,bc,rY,hpl,hz',y5,jg,aI];rfl) a8 (dx rfl _) h4
  ·exact h2.elim
 ·rename_i T len ps
  obtain⟨vs,h1,h2⟩:=xo hk
  obtain⟨ti,l1,h2⟩:=aG h2
  have hu:=(hΘ _ _ l1).und
  split at h2
  ·rename_i E e
   rw[e] at hu
   obtain⟨ei,l2,h2⟩:=aG h2
   have hei:=hΘ _ _ l2
   obtain⟨c,h2⟩:=h2.ok
   simp only[az,decide_eq_true_eq] at c
   obtain⟨⟨⟨⟨c1,c2⟩,c3⟩,c4⟩,c5⟩:=c
   obtain⟨r,u,vu,h5,h6,h7⟩:=zj (show P.underlying T=some (.slice E) from hu) (hei.elem c1 c2) c3 c4 c5 hn h2
   refine MG (m:=false) hn (by simp only[dM,h1,bc,h5]) h6 (fun k hk=>?_) h7
   rcases aK.1 hk with rfl|hk
   ·exact bm ..
   ·exact bB _ (fD rfl (by simp[Op.operands]) k hk)
  ·exact h2.elim
 ·obtain⟨v,h1,h2⟩:=cL hk
  obtain⟨r,h3,h4,h5⟩:=I5 h2
  exact o6 (m:=false) (fun n=>by simp only[dM,h1,bc,h3,if_true,h4]) a8 (dx rfl _) h5
 ·obtain⟨v,h1,h2⟩:=fW hk
  obtain⟨ti,l1,h2⟩:=aG h2
  obtain⟨si,l2,h2⟩:=aG h2
  obtain⟨r,h3,h4⟩:=Ea hΘ (hΘ _ _ l1) (hΘ _ _ l2) h2
  exact o6 (m:=false) (fun n=>by simp only[dM,h1,bc,h3,aI]) a8 (fD rfl (by simp[Op.operands])) h4
 ·obtain⟨v,h1,h2⟩:=cL hk
  obtain⟨ti,l1,h2⟩:=aG h2
  obtain⟨c,h2⟩:=h2.ok
  exact o6 (m:=false) (fun n=>by simp only[dM,h1,bc,yE (hΘ _ _ l1).und c,if_true];rfl) a8 (dx rfl _) h2
 ·rename_i f first captured
  obtain⟨c,h2⟩:=hk.ok
  obtain⟨vs,h1,h2⟩:=Bi h2
  exact o6 (m:=false) (fun n=>by simp only[dM,cq c,if_true,h1,aI];rfl) a8 (dx rfl _) h2
 ·obtain⟨v,h1,h2⟩:=cL hk
  obtain⟨ti,l1,h2⟩:=aG h2
  obtain⟨r,h3,h4⟩:=zb (hΘ _ _ l1) h2
  exact o6 (m:=false) (fun n=>by simp only[dM,h1,bc,h3,aI]) a8 (dx rfl _) h4
 ·obtain⟨a,h1,h2⟩:=cL hk
  obtain⟨b,h3,h4⟩:=cL h2
  obtain⟨ti,l1,h4⟩:=aG h4
  have hu:=(hΘ _ _ l1).und
  split at h4
  ·rename_i E k1 a k2 b e _
   rw[e] at hu
   obtain⟨ei,l2,h4⟩:=aG h4
   have hei:=hΘ _ _ l2
   split at h4
   ·rename_i z τ hz hτ
    obtain⟨c,h4⟩:=h4.ok
    simp only[az,beq_iff_eq,decide_eq_true_eq] at c
    obtain⟨⟨c1,c2⟩,c3⟩:=c
    obtain⟨x,hx,h5⟩:=LY h4
    obtain⟨h6,h7,h8⟩:=h5
    refine MG (m:=false) (u:=[((n,0),.row E ((List.replicate a.toNat x).map (ai τ)))]) hn ?_ (lz hn rfl) (fun k hk=>?_) h8
    ·have h1':aY (fP t) _=some (.int k1 a):=h1
     have h3':aY (fP t) _=some (.int k2 b):=h3
     simp only[dM,h1',h3',bc,AP,show P.underlying _=some (.slice E) from hu,hei.elem (by rw[hz];rfl) c1,hei.zero z hz]
     rw[if_pos]
     ·simp only[nzM,eY,if_false,hx,List.map_replicate];rfl
     ·refine⟨h6.1,h6.2,h7,?_⟩
      simp only[Of,az,beq_iff_eq]
      refine⟨?_,by rw[bu];exact mL _ c3⟩
      have h9:=congrArg (fun d:D=>d.cells.length) hx
      simp only[gL,aA,(fV τ x).1] at h9
      omega
    ·rcases aK.1 hk with rfl|hk
     ·exact bm ..
     ·exact dx rfl _ k hk
   ·exact h4.elim
  ·exact h4.elim
 ·rename_i T x lo hi
  obtain⟨v,h1,h2⟩:=fW hk
  obtain⟨lo',h3,h4⟩:=xq h2
  obtain⟨hi',h5,h6⟩:=xq h4
  obtain⟨ti,l1,h6⟩:=aG h6
  obtain⟨q,r,u,vu,h7,h8,h9⟩:=Dp hΘ (hΘ _ _ l1) hn h6
  cases q with
  |true=>
   exact MG (m:=true) hn (by simp only[dM,h1,h3,h5,bc,h7]) h8 (fun k hk=>hk) h9
  |false=>
   exact o6 (m:=false) (fun n'=>by
    simp only[dM,h1,h3,h5,bc]
    rw[DH rfl (m':=(n,0))]
    exact h7) h8 (fun k hk=>hk) h9
 ·rename_i T x f
  obtain⟨v,h1,h2⟩:=cL hk
  obtain⟨ti,l1,h2⟩:=aG h2
  have hu:=(hΘ _ _ l1).und
  split at h2
  ·rename_i fs cs e _
   rw[e] at hu
   obtain⟨g,g1,h2⟩:=lk h2
   obtain⟨gi,l2,h2⟩:=aG h2
   obtain⟨r,h3,h4⟩:=cW (hΘ _ _ l2) h2
   exact o6 (m:=false) (fun n=>by
    have h1':aY (fP t) _=some (.agg (ak cs)):=h1
    simp only[dM,h1',bc,AQ,(hu.1 f g.1 g.2.1 g.2.2 g1).1,h3,aI]) a8 (dx rfl _) h4
  ·exact h2.elim
 ·obtain⟨v,h1,h2⟩:=cL hk
  obtain⟨i,h3,h4⟩:=cL h2
  obtain⟨ti,l1,h4⟩:=aG h4
  have hu:=(hΘ _ _ l1).und
  split at h4
  ·rename_i s k i e _
   rw[e] at hu
   refine o6 (m:=false) (u:=[]) (fun n=>?_) a8 (dx rfl _) h4.2
   have h1':aY (fP t) _=some (.str s):=h1
   have h3':aY (fP t) _=some (.int k i):=h3
   simp only[dM,h1',h3',bc,rZ,show P.underlying _=some .string from hu]
   rw[if_pos h4.1]
   rfl
  ·rename_i m E cs k i e _
   rw[e] at hu
   obtain⟨ei,l2,h4⟩:=aG h4
   obtain⟨r,h5,h6⟩:=cW (hΘ _ _ l2) h4.2
   refine o6 (m:=false) (u:=[]) (fun n=>?_) a8 (dx rfl _) h6
   have h1':aY (fP t) _=some (.agg (ak cs)):=h1
   have h3':aY (fP t) _=some (.int k i):=h3
   simp only[dM,h1',h3',bc,rZ,show P.underlying _=some (.array m E) from hu,(hΘ _ _ l2).size]
   rw[if_pos h4.1,h5]
   rfl
  ·exact h4.elim
 ·obtain⟨v,h1,h2⟩:=cL hk
  split at h2
  ·rename_i cs
   obtain⟨r,h3,h4⟩:=lk h2
   exact o6 (m:=false) (fun n=>by
    have h1':aY (fP t) _=some (.tup (ak cs)):=h1
    simp only[dM,h1',bc,nY,cY,bf,h3,aI]) a8 (dx rfl _) h4
  ·exact h2.elim
 ·exact hk.elim

end Go.Proofs.YtpefhoohfkeflabGreatDoor.Am
