/- The plain machine with types: slices, addresses, literals. The plain machine with types: cuts, conversions, builtins. The plain machine with types: calls: names, views. The plain machine with types: calls. The plain machine with types: calls: what comes back. The plain machine with types: a call. The plain machine with types: a call, put together. The plain machine with types: what an operation looks at. The plain machine with types: one operation. The plain machine with types: one operation, put together. The plain machine with types: one operation is sound. -/
import Derived.Test.YthmfppknagbkeaaGreatDC3
set_option linter.unusedSimpArgs false
set_option linter.unusedVariables false
set_option maxHeartbeats 1000000
namespace Go.Proofs.YthmfppknagbkeaaGreat.Am
open Go Go.RowKit
def vN:List V→(List Int→Prop)→Prop
 |[],K=>K []
 | .int .i64 n::l,K=>vN l fun r=>K (n::r)
 |_::_,_=>False
theorem pW:∀{l:List V} {K:List Int→Prop},vN l K→∃ns:List Int,ag l=ns.map (D.int .i64)∧K ns
 |[],K,h=>⟨[],rfl,h⟩
 |v::l,K,h=>by
  cases v<;>try exact h.elim
  rename_i k n
  cases k<;>try exact h.elim
  obtain⟨ns,h1,h2⟩:=pW (l:=l) h
  exact⟨n::ns,by simp[ag,V.toD,h1],h2⟩
def V.pure0:V→Bool
 | .int .. | .bool _| .tt| .ff| .str _| .lst .. | .box .. | .nilp| .nils| .nilf| .nili=>true
 |_=>false
theorem jd (l:List V)(h:l.all V.pure0=true):(ag l).all D.pure0=true:=by
 rw[bw,List.all_map]
 rw[List.all_eq_true] at h⊢
 intro x hx
 have:=h x hx
 cases x<;>first|rfl|cases this
theorem nZ {t:Ty}(h:t.sz=1)(hp:t.pure=true)(xs:List t.den):(xs.map (ab t)).all D.pure0=true:=by
 rw[List.all_eq_true]
 intro y hy
 obtain⟨z,_,rfl⟩:=List.mem_map.1 hy
 have h1:=gg hp z
 rw[h] at h1
 have h2:=h1.1
 have h3:=h1.2
 match hc:(ab t z).cells,h2 with
 |[c],_=>
  rw[hc] at h3
  simp only[List.all_cons,List.all_nil,Bool.and_true] at h3
  by_cases hag:∃cs,ab t z= .agg cs
  ·obtain⟨cs,he⟩:=hag
   cases t<;>simp[Ty.sz] at h<;>first|(cases he;done)|(cases z<;>simp[ab,jp,mF] at he;done)
  ·have:=bC fun cs hcs=>hag ⟨cs,hcs⟩
   rw[this] at hc
   simp only[List.cons.injEq,and_true] at hc
   rw[hc];exact h3
def lF (h:VH)(v:V)(K:(t:Ty)→List t.den→Prop):Prop:=
 match v with
 | .lst t xs=>K t xs
 | .nils=>K (.int .i64) []
 | .ref b=>cO h b fun x=>(match x with
  | .row _ t xs=>K t xs
  | .froz t xs=>K t xs
  |_=>False)
 | .fref k i=>cO h k fun x=>(match x with
  | .frow _ t xss=>fe xss i fun xs=>K t xs
  | .frowx _ t xss=>fe xss i fun ox=>ja ox False fun xs=>K t xs
  |_=>False)
 | .hro k o=>ja o (K (.int .i64) []) fun i=>cO h k fun x=>(match x with
  | .frow _ t xss=>fe xss i fun xs=>K t xs
  | .frowx _ t xss=>fe xss i fun ox=>ja ox False fun xs=>K t xs
  |_=>False)
 | .vref b o n=>cO h b fun x=>(match x with
  | .var _ cs=>Chk (cs.all V.pure0) (BR cs o n fun r=>vN r fun ns=>K (.int .i64) ns)
  | .vari _ pre m t xs post=>Chk (pre.all V.pure0 && post.all V.pure0 && Nat.beq o pre.length && Nat.beq n m && t.sz==1 && t.pure) (bN (xs.length=m) (K t xs))
  |_=>False)
 |_=>False
theorem jh {h:VH}{v:V}{K:(t:Ty)→List t.den→Prop}(hk:lF h v K):∃t,∃xs:List (Ty.den t),elems (toH h) v.toD=some (xs.map (ab t))∧K t xs:=by
 unfold lF at hk
 split at hk
 ·exact⟨_,_,rfl,hk⟩
 ·exact⟨_,_,rfl,hk⟩
 ·rename_i b
  obtain⟨x,h1,h3⟩:=aH hk
  split at h3
  ·rename_i E t xs
   have hl:=am (i:=0) h1 (d:=.row E (xs.map (ab t))) rfl
   exact⟨_,_,by simp[elems,V.toD,hl],h3⟩
  ·rename_i t xs
   have hl:=am (i:=0) h1 (d:=.froz (xs.map (ab t))) rfl
   exact⟨_,_,by simp[elems,V.toD,hl],h3⟩
  ·exact h3.elim
 ·rename_i k i
  obtain⟨x,h1,h3⟩:=aH hk
  split at h3
  ·rename_i E t xss
   obtain⟨xs,h4,h5⟩:=h3
   have hl:=am (i:=i) h1 (d:=.row E (xs.map (ab t))) (by simp only[VB.blks,List.getElem?_map,h4,Option.map_some])
   exact⟨_,_,by simp[elems,V.toD,hl],h5⟩
  ·rename_i E t xss
   obtain⟨ox,h4,h5⟩:=h3
   cases ox with
   |none=>exact(h5.1 rfl).elim
   |some xs=>
    have hl:=am (i:=i) h1 (d:=.row E (xs.map (ab t))) (by simp only[VB.blks,List.getElem?_map,h4,Option.map_some,rowX])
    exact⟨_,_,by simp[elems,V.toD,hl],h5.2 xs rfl⟩
  ·exact h3.elim
 ·rename_i k o
  cases o with
  |none=>exact⟨.int .i64,[],rfl,hk.1 rfl⟩
  |some i=>
   obtain⟨x,h1,h3⟩:=aH (hk.2 i rfl)
   split at h3
   ·rename_i E t xss
    obtain⟨xs,h4,h5⟩:=h3
    have hl:=am (i:=i) h1 (d:=.row E (xs.map (ab t))) (by simp only[VB.blks,List.getElem?_map,h4,Option.map_some])
    exact⟨_,_,by simp[elems,V.toD,jp,hl],h5⟩
   ·rename_i E t xss
    obtain⟨ox,h4,h5⟩:=h3
    cases ox with
    |none=>exact(h5.1 rfl).elim
    |some xs=>
     have hl:=am (i:=i) h1 (d:=.row E (xs.map (ab t))) (by simp only[VB.blks,List.getElem?_map,h4,Option.map_some,rowX])
     exact⟨_,_,by simp[elems,V.toD,jp,hl],h5.2 xs rfl⟩
   ·exact h3.elim
 ·rename_i b o n
  obtain⟨x,h1,h3⟩:=aH hk
  split at h3
  ·rename_i T cs
   have hl:=am (i:=0) h1 (d:=.var T (ag cs)) rfl
   obtain⟨c1,h4⟩:=h3.ok
   obtain⟨h5,h6⟩:=rV h4
   obtain⟨ns,h7,h8⟩:=pW h6
   refine⟨.int .i64,ns,?_,h8⟩
   simp only[elems,V.toD,hl]
   rw[if_pos ⟨by rw[ar];exact h5,jd _ c1⟩]
   rw[show ns.map (ab (.int .i64))=ns.map (D.int .i64) from rfl,←h7]
   simp only[bw,List.map_take,List.map_drop]
  ·rename_i T pre m t xs post
   have hl:=am (i:=0) h1 (d:=.var T (ag pre++xs.map (ab t)++ag post)) rfl
   obtain⟨c1,h4⟩:=h3.ok
   simp only[Bool.and_eq_true,beq_iff_eq] at c1
   obtain⟨⟨⟨⟨⟨c1,c2⟩,c3⟩,c4⟩,c5⟩,c6⟩:=c1
   obtain⟨h5,h6⟩:=h4
   have hp:o=pre.length:=Nat.eq_of_beq_eq_true c3
   have hn:n=m:=Nat.eq_of_beq_eq_true c4
   refine⟨t,xs,?_,h6⟩
   simp only[elems,V.toD,hl]
   have hall:(ag pre++xs.map (ab t)++ag post).all D.pure0=true:=by
    rw[List.all_append,List.all_append,jd _ c1,jd _ c2,nZ c5 c6]
    rfl
   rw[if_pos ⟨by rw[List.length_append,List.length_append,ar,List.length_map];omega,hall⟩]
   rw[List.append_assoc,hp,←ar pre,List.drop_left,hn,←h5]
   rw[show xs.length=(xs.map (ab t)).length by rw[List.length_map],List.take_left]
  ·exact h3.elim
 ·exact hk.elim
theorem o6 (t:Ty)(xs:List t.den)(s:Nat)(h:t.sz=s):wv s (xs.map (ab t))=s:=DI fun e he=>by
 obtain⟨x,_,rfl⟩:=List.mem_map.1 he
 rw[(dD t x).1,h]
def Fe (ti:TI)(h:VH)(v:V)(K:V→Prop):Prop:=
 match ti.k with
 | .str=>(match v with| .str s=>K (.int .i64 (s.size:Nat))|_=>False)
 | .slice _=>lF h v fun _ xs=>K (.int .i64 (xs.length:Nat))
 |_=>False
theorem C9 {P:Program}{T:TypeId}{ti:TI}(ht:ti.ok P T){h:VH}{v:V}{K:V→Prop}(hk:Fe ti h v K):∃r,qx P (toH h) T v.toD=some r.toD∧K r:=by
 have hu:=ht.und
 unfold Fe at hk
 split at hk
 ·rename_i e
  rw[e] at hu
  split at hk
  ·exact⟨_,by simp only[qx,show P.underlying T=some .string from hu,V.toD],hk⟩
  ·exact hk.elim
 ·rename_i E e
  rw[e] at hu
  obtain⟨t,xs,h1,h2⟩:=jh hk
  exact⟨_,by simp only[qx,show P.underlying T=some (.slice E) from hu,h1,Option.map_some,List.length_map,V.toD],h2⟩
 ·exact hk.elim
def mX (Θ:TT)(ti:TI)(h:VH)(n:Nat)(d1 d2:V)(K:V→VH→Prop):Prop:=
 match ti.k with
 | .slice E=>aS Θ E fun ei=>Chk (ei.z.isSome && decide (0<ei.sz)) (lF h d2 fun t ys=>(match d1 with
  | .ref b=>cO h b fun x=>(match x with
   | .row E' t' xs=>Chk (E'==E && t'.sz==ei.sz && !Nat.beq b n) (match jT t' t ys with
    |some ys'=>bN (lI ei.nb (xs.length+ys'.length)) (K (.ref n) [(b,.gone),(n,.row E t' (xs++ys'))])
    |none=>False)
   |_=>False)
  | .nils=>Chk (t.sz==ei.sz) (match ys with
   |[]=>K .nils []
   |y::ys'=>bN (lI ei.nb (ys'.length+1)) (K (.ref n) [(n,.row E t (y::ys'))]))
  |_=>False))
 |_=>False
theorem sq {h:VH}{b n:Nat}{x y:VB}{d:Blk}(hn:∀c:Id,n≤c.1→look (toH h) c=none)(hb:look h b=some x)(hs:x.sgl=true)(hbn:b≠n)(hy:y.blks=[d]):bt h [((b,0),.gone),((n,0),d)] [(b,.gone),(n,y)]:=by
 have h1:bt h [((b,0),.gone)] [(b,.gone)]:=eB hb hs rfl
 have h2:bt (puts [(b,VB.gone)] h) [((n,0),d)] [(n,y)]:=lp (fun i hi=>by
  rw[←h1.1,av _ _ _ (fun z hz e=>by obtain rfl:=List.mem_singleton.1 hz;simp only[Prod.mk.injEq] at e;exact hbn e.1)]
  exact hn (n,i) (Nat.le_refl _)) hy
 exact nF h1 h2
theorem nO {P:Program}{Θ:TT}(hΘ:Θ.ok P){T:TypeId}{ti:TI}(ht:ti.ok P T){h:VH}{n:Nat}(hn:∀c:Id,n≤c.1→look (toH h) c=none){d1 d2:V}{K:V→VH→Prop}(hk:mX Θ ti h n d1 d2 K):∃r u vu,fH P (toH h) (n,0) T d1.toD d2.toD=some (r.toD,u)∧bt h u vu∧K r vu:=by
 have hu:=ht.und
 unfold mX at hk
 split at hk
 ·rename_i E e
  rw[e] at hu
  obtain⟨ei,l1,h1⟩:=ap hk
  have hei:=hΘ _ _ l1
  obtain⟨c,h2⟩:=h1.ok
  simp only[Bool.and_eq_true,decide_eq_true_eq] at c
  obtain⟨t,ys,h3,h4⟩:=jh h2
  have hel:=hei.elem c.1 c.2
  unfold fH
  simp only[show P.underlying T=some (.slice E) from hu,hel,h3]
  split at h4
  ·rename_i b
   obtain⟨x,b1,h5⟩:=aH h4
   split at h5
   ·rename_i E' t' xs
    obtain⟨c2,h6⟩:=h5.ok
    simp only[Bool.and_eq_true,beq_iff_eq,Bool.not_eq_true'] at c2
    obtain⟨⟨rfl,c3⟩,c4⟩:=c2
    have hbn:b≠n:=by rintro rfl;simp at c4
    split at h6
    ·rename_i ys' hc
     have hce:=eF hc
     have hl:=am (i:=0) b1 (d:=.row E' (xs.map (ab t'))) rfl
     refine⟨.ref n,[((b,0),.gone),((n,0),.row E' ((xs++ys').map (ab t')))],_,?_,sq hn b1 rfl hbn rfl,h6.2⟩
     rw[hce,if_pos (o6 _ _ _ c3)]
     simp only[V.toD,hl]
     rw[if_pos ⟨trivial,by simpa using h6.1⟩]
     simp
    ·exact h6.elim
   ·exact h5.elim
  ·obtain⟨c3,h6⟩:=h4.ok
   simp only[beq_iff_eq] at c3
   rw[if_pos (o6 _ _ _ c3)]
   split at h6
   ·exact⟨.nils,[],[],rfl,aE,h6⟩
   ·rename_i y ys'
    refine⟨.ref n,[((n,0),.row E ((y::ys').map (ab t)))],_,?_,ip hn rfl,h6.2⟩
    simp only[V.toD,List.map_cons]
    rw[if_pos (by simpa using h6.1)]
  ·exact h4.elim
 ·exact hk.elim
def nP (Θ:TT)(ti ti':TI)(h:VH)(n:Nat)(d1 d2:V)(K:V→VH→Prop):Prop:=
 match ti.k,ti'.k,d1,d2 with
 | .slice E,.int _,.ref b,.int _ m=>aS Θ E fun ei=>cO h b fun x=>(match x,ei.z with
  | .row E' (.int k2) xs,some (.int k3 z)=>Chk (E'==E && Nat.beq ei.sz 1 && !Nat.beq b n && decide (k3=k2)) (bN (0<m∧m≤1000000) (bN (lI ei.nb (xs.length+m.toNat)) (K (.ref n) [(b,.gone),(n,.row E (.int k2) (xs++List.replicate m.toNat z))])))
  |_,_=>False)
 |_,_,_,_=>False
theorem sF {P:Program}{Θ:TT}(hΘ:Θ.ok P){T T':TypeId}{ti ti':TI}(ht:ti.ok P T)(ht':ti'.ok P T'){h:VH}{n:Nat}(hn:∀c:Id,n≤c.1→look (toH h) c=none){d1 d2:V}{K:V→VH→Prop}(hk:nP Θ ti ti' h n d1 d2 K):∃r u vu,eE P (toH h) (n,0) T T' d1.toD d2.toD=some (r.toD,u)∧bt h u vu∧K r vu:=by
 have hu:=ht.und
 have hu':=ht'.und
 unfold nP at hk
 split at hk
 ·rename_i E kn b k m e e'
  rw[e] at hu
  rw[e'] at hu'
  obtain⟨ei,l1,h1⟩:=ap hk
  have hei:=hΘ _ _ l1
  obtain⟨x,b1,h5⟩:=aH h1
  split at h5
  ·rename_i E' k2 xs k3 z hz
   obtain⟨c2,h6⟩:=h5.ok
   simp only[Bool.and_eq_true,beq_iff_eq,Bool.not_eq_true',decide_eq_true_eq] at c2
   obtain⟨⟨⟨rfl,c1⟩,c4⟩,rfl⟩:=c2
   have hs1:ei.sz=1:=Nat.eq_of_beq_eq_true c1
   have hbn:b≠n:=by rintro rfl;simp at c4
   obtain⟨h7,h8,h9⟩:=h6
   have hl:=am (i:=0) b1 (d:=.row E' (xs.map (ab (.int k3)))) rfl
   refine⟨.ref n,[((b,0),.gone),((n,0),.row E' ((xs++List.replicate m.toNat z).map (ab (.int k3))))],_,?_,sq hn b1 rfl hbn rfl,h9⟩
   simp only[eE,V.toD,show P.underlying T=some (.slice E') from hu,show P.underlying T'=some (.int _) from hu',hl,hei.elem (by rw[hz];rfl) (by omega),hei.zero _ hz]
   rw[if_pos ⟨trivial,hs1,h7.1,h7.2,by simpa using h8⟩]
   simp[List.map_replicate,ab]
  ·exact h5.elim
 ·exact hk.elim
def wW:List V→Nat→(List V→Prop)→Prop
 |l,0,K=>K l
 |[],_+1,_=>False
 |_::cs,n+1,K=>wW cs n K
theorem sT:∀{l:List V} {n:Nat} {K:List V→Prop},wW l n K→n≤l.length∧K (l.drop n)
 |l,0,K,h=>⟨Nat.zero_le _,by cases l<;>simpa[wW] using h⟩
 |[],_+1,_,h=>h.elim
 |c::cs,n+1,K,h=>by
  obtain⟨h1,h2⟩:=sT (l:=cs) (n:=n) h
  exact⟨by simpa using h1,by simpa using h2⟩
def zM (Θ:TT)(ti:TI)(h:VH)(d e:V)(K:V→VH→Prop):Prop:=
 match ti.k,d with
 | .slice E,.vref b o m=>aS Θ E fun ei=>Chk (ei.sz==1) (lF h e fun t ys=>Chk (t.sz==1 && t.pure) (cO h b fun x=>(match x with
  | .var T' cs=>o7 cs o fun pre=>wW cs (o+m) fun post=>bN (ys.length=m) (K (.int .i64 (ys.length:Nat)) [(b,.vari T' pre m t ys post)])
  |_=>False)))
 |_,_=>False
theorem zN {P:Program}{Θ:TT}(hΘ:Θ.ok P){T:TypeId}{ti:TI}(ht:ti.ok P T){h:VH}{d e:V}{K:V→VH→Prop}(hk:zM Θ ti h d e K):∃r u vu,mq P (toH h) T d.toD e.toD=some (r.toD,u)∧bt h u vu∧K r vu:=by
 have hu:=ht.und
 unfold zM at hk
 split at hk
 ·rename_i E b o m ek
  rw[ek] at hu
  obtain⟨ei,l1,h1⟩:=ap hk
  have hei:=hΘ _ _ l1
  obtain⟨c,h2⟩:=h1.ok
  simp only[beq_iff_eq] at c
  obtain⟨t,ys,h3,h4⟩:=jh h2
  obtain⟨c2,h4⟩:=h4.ok
  simp only[Bool.and_eq_true,beq_iff_eq] at c2
  obtain⟨x,b1,h5⟩:=aH h4
  split at h5
  ·rename_i T' cs
   have hl:=am (i:=0) b1 (d:=.var T' (ag cs)) rfl
   obtain⟨g1,h6⟩:=lm h5
   obtain⟨g2,h7⟩:=sT h6
   obtain⟨h10,h11⟩:=h7
   refine⟨.int .i64 (ys.length:Nat),[((b,0),.var T' (ag (cs.take o)++ys.map (ab t)++ag (cs.drop (o+m))))],_,?_,eB b1 rfl rfl,h11⟩
   unfold mq
   have hsz:sizeT P E=some 1:=by rw[hei.size,c]
   simp only[show P.underlying T=some (.slice E) from hu,V.toD,hsz,h3,hl]
   have hmin:min (ys.map (ab t)).length m=ys.length:=by rw[List.length_map];omega
   have hall:(ys.map (ab t)).all D.pure0=true:=nZ c2.1 c2.2 ys
   rw[hmin,if_pos ⟨by rw[ar];omega,hall⟩,List.take_of_length_le (by rw[List.length_map];omega)]
   simp only[aF,List.length_map,h10,bw,List.map_take,List.map_drop]
  ·exact h5.elim
 ·exact hk.elim
def G5 (g:Nat×Nat×Nat)(v:V)(K:V→Prop):Prop:=
 match v with
 | .ptr b o=>eg (o+g.2.1) fun o'=>K (.ptr b o')
 | .eptr b j o=>eg (o+g.2.1) fun o'=>K (.eptr b j o')
 | .fptr k i o=>eg (o+g.2.1) fun o'=>K (.fptr k i o')
 | .feptr k i j o=>eg (o+g.2.1) fun o'=>K (.feptr k i j o')
 | .iptr t e o=>eg (o+g.2.1) fun o'=>K (.iptr t e o')
 | .hpo k p=>ja p False fun i=>K (.fptr k i g.2.1)
 | .box t e=>(match enc t e with
  | .agg _=>K (.iptr t e g.2.1)
  |_=>False)
 | .obo t p=>ja p False fun e=>(match enc t e with
  | .agg _=>K (.iptr t e g.2.1)
  |_=>False)
 |_=>False
theorem w8 {P:Program}{T:TypeId}{i:Nat}{g:Nat×Nat×Nat}(hg:fU P T i=some g.2.1){t:Ty}{e:t.den}{K:V→Prop}(hk:match enc t e with| .agg _=>K (.iptr t e g.2.1)|_=>False):∃r,eV P T i (.box (ab t e).cells)=some r.toD∧K r:=by
 split at hk
 ·rename_i cs hc
  refine⟨_,?_,hk⟩
  simp only[V.toD,eV,hg,Option.map_some]
  have:=gT t e
  rw[hc] at this
  rw[←this]
  rfl
 ·exact hk.elim
theorem EI {P:Program}{T:TypeId}{i:Nat}{g:Nat×Nat×Nat}(hg:fU P T i=some g.2.1){v:V}{K:V→Prop}(hk:G5 g v K):∃r,eV P T i v.toD=some r.toD∧K r:=by
 unfold G5 at hk
 split at hk
 ·exact⟨_,by simp only[V.toD,eV,hg,Option.map_some],aX hk⟩
 ·exact⟨_,by simp only[V.toD,eV,hg,Option.map_some],aX hk⟩
 ·exact⟨_,by simp only[V.toD,eV,hg,Option.map_some],aX hk⟩
 ·exact⟨_,by simp only[V.toD,eV,hg,Option.map_some],aX hk⟩
 ·exact⟨_,by simp only[V.toD,eV,hg,Option.map_some],aX hk⟩
 ·rename_i k p
  cases p with
  |none=>exact(hk.1 rfl).elim
  |some i=>exact⟨.fptr k i g.2.1,by simp only[V.toD,mF,eV,hg,Option.map_some,Nat.zero_add],hk.2 i rfl⟩
 ·exact w8 hg hk
 ·rename_i t p
  cases p with
  |none=>exact(hk.1 rfl).elim
  |some e=>exact w8 hg (hk.2 e rfl)
 ·exact hk.elim
def yM (i s:Nat)(K:Nat→Prop):Prop:=match s with|1=>K i|s=>K (i*s)
theorem nk {i s:Nat}{K:Nat→Prop}(h:yM i s K):K (i*s):=by
 unfold yM at h
 split at h
 ·rw[Nat.mul_one];exact h
 ·exact h
def Hb (Θ:TT)(ti:TI)(h:VH)(v:V)(i:Int)(K:V→Prop):Prop:=
 match ti.k with
 | .slice E=>aS Θ E fun ei=>(match v with
  | .ref b=>cO h b fun x=>(match x with
   | .row E' t xs=>Chk (E'==E) (bN (0≤i∧i<(xs.length:Nat)) (K (.eptr b i.toNat 0)))
   | .lit E' vs=>Chk (E'==E) (bN (0≤i∧i<(vs.length:Nat)) (eg i.toNat fun j=>K (.eptr b j 0)))
   | .froz t xs=>Chk (t.sz==ei.sz) (pI xs i fun _ e=>K (.iptr t e 0))
   |_=>False)
  | .fref k j=>cO h k fun x=>(match x with
   | .frow E' t xss=>Chk (E'==E) (fe xss j fun xs=>bN (0≤i∧i<(xs.length:Nat)) (K (.feptr k j i.toNat 0)))
   |_=>False)
  | .hro k p=>ja p False fun j=>cO h k fun x=>(match x with
   | .frow E' t xss=>Chk (E'==E) (fe xss j fun xs=>bN (0≤i∧i<(xs.length:Nat)) (K (.feptr k j i.toNat 0)))
   | .frowx E' t xss=>Chk (E'==E) (fe xss j fun ox=>ja ox False fun xs=>bN (0≤i∧i<(xs.length:Nat)) (K (.feptr k j i.toNat 0)))
   |_=>False)
  | .lst t xs=>Chk (t.sz==ei.sz) (pI xs i fun _ e=>K (.iptr t e 0))
  |_=>False)
 | .arr m E=>aS Θ E fun ei=>bN (0≤i∧i<(m:Nat)) (match v with
  | .ptr b o=>cO h b fun x=>(match x with
   | .vari _ pre _ _ _ _=>(match Nat.beq o pre.length with
    |true=>eg pre.length fun p=>yM i.toNat ei.sz fun j=>K (.aptr b p j)
    |false=>eg (o+i.toNat * ei.sz) fun o'=>K (.ptr b o'))
   |_=>eg (o+i.toNat * ei.sz) fun o'=>K (.ptr b o'))
  | .aptr b p j=>yM i.toNat ei.sz fun j'=>K (.aptr b p (j+j'))
  | .fptr k j o=>cO h k fun x=>(match x with
   | .fvari ..=>Chk (Nat.beq o 0) (yM i.toNat ei.sz fun j'=>K (.faptr k j 0 j'))
   |_=>eg (o+i.toNat * ei.sz) fun o'=>K (.fptr k j o'))
  | .faptr k j p q=>yM i.toNat ei.sz fun j'=>K (.faptr k j p (q+j'))
  | .eptr b j o=>eg (o+i.toNat * ei.sz) fun o'=>K (.eptr b j o')
  | .iptr t e o=>eg (o+i.toNat * ei.sz) fun o'=>K (.iptr t e o')
  |_=>False)
 |_=>False
theorem AJ {α:Type}{xs:List α}{i:Int}{x:α}(h0:0≤i)(h:xs[i.toNat]?=some x):i<(xs.length:Nat):=by
 have:=(List.getElem?_eq_some_iff.1 h).1
 omega
theorem xm {P:Program}{T E E':TypeId}{s:Nat}(hu':P.underlying T=some (.slice E))(hs:sizeT P E=some s){h:VH}{k j:Nat}{t:Ty}{xss:List (List t.den)}{xs:List t.den}(b1:look h k=some (.frow E' t xss))(c:E'=E)(hx:xss[j]?=some xs){ik:IntKind}{i:Int}(hi:0≤i∧i<(xs.length:Nat)):
  aT P (toH h) T (.ref (k,j)) (.int ik i)=some (V.feptr k j i.toNat 0).toD:=by
 subst c
 have hl:=am (i:=j) b1 (d:=.row E' (xs.map (ab t))) (by simp only[VB.blks,List.getElem?_map,hx,Option.map_some])
 unfold aT
 simp only[hu',hs,elems,hl,List.length_map]
 rw[if_pos hi]
 simp[V.toD]
theorem AE {P:Program}{T E E':TypeId}{s:Nat}(hu':P.underlying T=some (.slice E))(hs:sizeT P E=some s){h:VH}{k j:Nat}{t:Ty}{xss:List (Option (List t.den))}{xs:List t.den}(b1:look h k=some (.frowx E' t xss))(c:E'=E)(hx:xss[j]?=some (some xs)){ik:IntKind}{i:Int}(hi:0≤i∧i<(xs.length:Nat)):
  aT P (toH h) T (.ref (k,j)) (.int ik i)=some (V.feptr k j i.toNat 0).toD:=by
 subst c
 have hl:=am (i:=j) b1 (d:=.row E' (xs.map (ab t))) (by simp only[VB.blks,List.getElem?_map,hx,Option.map_some,rowX])
 unfold aT
 simp only[hu',hs,elems,hl,List.length_map]
 rw[if_pos hi]
 simp[V.toD]
theorem ET {P:Program}{Θ:TT}(hΘ:Θ.ok P){T:TypeId}{ti:TI}(ht:ti.ok P T){h:VH}{v:V}{k:IntKind}{i:Int}{K:V→Prop}(hk:Hb Θ ti h v i K):∃r,aT P (toH h) T v.toD (.int k i)=some r.toD∧K r:=by
 have hu:=ht.und
 unfold Hb at hk
 split at hk
 ·rename_i E e
  rw[e] at hu
  have hu':P.underlying T=some (.slice E):=hu
  obtain⟨ei,l1,hk⟩:=ap hk
  have hs:=(hΘ _ _ l1).size
  split at hk
  ·rename_i b
   obtain⟨x,b1,h5⟩:=aH hk
   split at h5
   ·rename_i E' t xs
    have hl:=am (i:=0) b1 (d:=.row E' (xs.map (ab t))) rfl
    obtain⟨c,h6⟩:=h5.ok
    simp only[beq_iff_eq] at c
    subst c
    refine⟨_,?_,h6.2⟩
    unfold aT
    simp only[hu',hs,elems,V.toD,hl,List.length_map]
    rw[if_pos h6.1]
    simp
   ·rename_i E' vs
    have hl:=am (i:=0) b1 (d:=.row E' (ag vs)) rfl
    obtain⟨c,h6⟩:=h5.ok
    simp only[beq_iff_eq] at c
    subst c
    refine⟨_,?_,aX h6.2⟩
    unfold aT
    simp only[hu',hs,elems,V.toD,hl,ar]
    rw[if_pos h6.1]
    simp
   ·rename_i t xs
    have hl:=am (i:=0) b1 (d:=.froz (xs.map (ab t))) rfl
    obtain⟨c,h0,x,hx,h7⟩:=h5.ok
    simp only[beq_iff_eq] at c
    refine⟨_,?_,h7⟩
    unfold aT
    simp only[hu',hs,elems,V.toD,hl,List.length_map]
    rw[if_pos ⟨h0,AJ h0 hx⟩]
    simp only[List.getElem?_map,hx,Option.map_some]
    rw[if_pos (by rw[(dD t x).1,c])]
   ·exact h5.elim
  ·rename_i k' j
   obtain⟨x,b1,h5⟩:=aH hk
   split at h5
   ·obtain⟨c,h6⟩:=h5.ok
    simp only[beq_iff_eq] at c
    obtain⟨xs,hx,hi,h7⟩:=h6
    exact⟨_,xm hu' hs b1 c hx hi,h7⟩
   ·exact h5.elim
  ·rename_i k' p _
   cases p with
   |none=>exact(hk.1 rfl).elim
   |some j=>
    obtain⟨x,b1,h5⟩:=aH (hk.2 j rfl)
    split at h5
    ·obtain⟨c,h6⟩:=h5.ok
     simp only[beq_iff_eq] at c
     obtain⟨xs,hx,hi,h7⟩:=h6
     exact⟨_,xm hu' hs b1 c hx hi,h7⟩
    ·obtain⟨c,h6⟩:=h5.ok
     simp only[beq_iff_eq] at c
     obtain⟨ox,hx,h7⟩:=h6
     cases ox with
     |none=>exact(h7.1 rfl).elim
     |some xs=>
      obtain⟨hi,h7⟩:=h7.2 xs rfl
      exact⟨_,AE hu' hs b1 c hx hi,h7⟩
    ·exact h5.elim
  ·rename_i t xs _
   obtain⟨c,h0,x,hx,h7⟩:=hk.ok
   simp only[beq_iff_eq] at c
   refine⟨_,?_,h7⟩
   unfold aT
   simp only[hu',hs,elems,V.toD,List.length_map]
   rw[if_pos ⟨h0,AJ h0 hx⟩]
   simp only[List.getElem?_map,hx,Option.map_some]
   rw[if_pos (by rw[(dD t x).1,c])]
  ·exact hk.elim
 ·rename_i m E e
  rw[e] at hu
  have hu':P.underlying T=some (.array m E):=hu
  obtain⟨ei,l1,hk⟩:=ap hk
  have hs:=(hΘ _ _ l1).size
  obtain⟨hc,hk⟩:=hk
  unfold aT
  simp only[hu',hs]
  rw[if_pos hc]
  split at hk
  ·obtain⟨x,b1,h5⟩:=aH hk
   split at h5
   ·split at h5
    ·rename_i ho
     have ho':=Nat.eq_of_beq_eq_true ho
     exact⟨_,by simp only[V.toD,ho'],nk (aX h5)⟩
    ·exact⟨_,by simp only[V.toD],aX h5⟩
   ·exact⟨_,by simp only[V.toD],aX h5⟩
  ·exact⟨_,by simp only[V.toD,Nat.add_assoc],nk hk⟩
  ·obtain⟨x,b1,h5⟩:=aH hk
   split at h5
   ·obtain⟨c,h6⟩:=h5.ok
    have ho:=Nat.eq_of_beq_eq_true c
    exact⟨_,by simp only[V.toD,ho],nk h6⟩
   ·exact⟨_,by simp only[V.toD],aX h5⟩
  ·exact⟨_,by simp only[V.toD,Nat.add_assoc],nk hk⟩
  ·exact⟨_,by simp only[V.toD],aX hk⟩
  ·exact⟨_,by simp only[V.toD],aX hk⟩
  ·exact hk.elim
 ·exact hk.elim
def Ab (fs:List (Nat×Nat×Nat))(cs:List V):List (Nat×V)→(List V→Prop)→Prop
 |[],K=>K cs
 |(i,v)::l,K=>t7 fs i fun f=>Chk (v.whole && oD v.cells f.2.2) (pB cs f.2.1 v.cells fun cs'=>Ab fs cs' l K)
theorem s5 {fs:List (Nat×Nat×Nat)}:∀{ps:List (Nat×V)} {cs:List V} {K:List V→Prop},Ab fs cs ps K→∃cs',fm (fun i=>(fs.map fun f=>(f.2.1,f.2.2))[i]?) (ag cs) (uQ ps)=some (ag cs')∧K cs'
 |[],cs,K,h=>⟨cs,rfl,h⟩
 |(i,v)::l,cs,K,h=>by
  obtain⟨f,h1,h2⟩:=hX h
  obtain⟨c,h3⟩:=h2.ok
  simp only[Bool.and_eq_true] at c
  obtain⟨h4,h5⟩:=fQ h3
  obtain⟨cs',h6,h7⟩:=s5 h5
  have hl:=fq c.2
  exact⟨cs',vm (off:=f.2.1) (size:=f.2.2) (by rw[List.getElem?_map,h1];rfl) (by rw[er];exact c.1) (by rw[aM,ar];exact hl) (by rw[ar];omega) (by rw[aM,i6]) h6,h7⟩
def tw:List (Nat×V)→Nat→Bool
 |[],_=>true
 |(i,_)::l,k=>Nat.beq i k && tw l (k+1)
def pk (t:Ty):List (Nat×V)→Option (List t.den)
 |[]=>some []
 |(_,v)::l=>match FY t (nzL v),pk t l with
  |some x,some xs=>some (x::xs)
  |_,_=>none
where
 nzL (v:V):V:=match v with
  | .agg cs=>.agg (ga cs)
  |v=>F1 v
theorem rI (v:V):(pk.nzL v).toD=nzE v.toD:=by
 unfold pk.nzL
 split
 ·simp only[V.toD,nzE,kV]
 ·rename_i hne
  rw[Be]
  cases v
  case hro k o=>cases o<;>rfl
  case hpo k o=>cases o<;>rfl
  case obo t o=>cases o<;>rfl
  case agg cs=>exact absurd rfl (hne _)
  all_goals rfl
theorem wU {t:Ty}:∀{l:List (Nat×V)} {xs:List t.den},pk t l=some xs→((uQ l).map fun x=>nzE x.2)=xs.map (ab t)
 |[],xs,h=>by simp only[pk,Option.some.injEq] at h;subst h;rfl
 |(i,v)::l,xs,h=>by
  simp only[pk] at h
  split at h
  ·rename_i x xs' h1 h2
   simp only[Option.some.injEq] at h
   subst h
   have:=wU h2
   simp only[uQ,List.map_cons,List.map_map] at this⊢
   rw[←qO h1,rI]
   simp only[List.cons.injEq,true_and]
   exact this
  ·cases h
theorem tx:∀{l:List (Nat×V)} {k:Nat},tw l k=true→(uQ l).map (·.1)=List.range' k l.length
 |[],k,_=>rfl
 |(i,v)::l,k,h=>by
  simp only[tw,Bool.and_eq_true] at h
  have hi:i=k:=Nat.eq_of_beq_eq_true h.1
  have:=tx h.2
  simp only[uQ,List.map_cons,List.map_map,List.length_cons,List.range'_succ] at this⊢
  rw[hi]
  exact congrArg (k:: ·) this
def lC (len:Nat)(o:Option V)(dflt:Nat)(K:Nat→Prop):Prop:=
 match o with
 |none=>K dflt
 |some (.int _ i)=>bN (0≤i∧i≤(len:Nat)) (K i.toNat)
 |_=>False
theorem je {len dflt:Nat}{o:Option V}{K:Nat→Prop}(h:lC len o dflt K):∃k,eU len (o.map V.toD) dflt=some k∧(o=none→k=dflt)∧K k:=by
 unfold lC at h
 split at h
 ·exact⟨dflt,rfl,fun _=>rfl,h⟩
 ·exact⟨_,by simp only[Option.map_some,V.toD,eU];rw[if_pos h.1],fun e=>(by cases e),h.2⟩
 ·exact h.elim
def lE {α:Type}(xs:List α)(lo hi:Option V)(ll hh:Nat):List α:=
 match lo,hi with
 |none,none=>xs
 |none,_=>xs.take hh
 |_,none=>xs.drop ll
 |_,_=>(xs.take hh).drop ll
theorem Cp {α:Type}(xs:List α){lo hi:Option V}{ll hh:Nat}(h1:hi=none→hh=xs.length)(h2:lo=none→ll=0):lE xs lo hi ll hh=(xs.take hh).drop ll:=by
 unfold lE
 split
 ·rw[h1 rfl,h2 rfl];simp
 ·rw[h2 rfl];simp
 ·rw[h1 rfl];simp
 ·rfl
def yw (ei:TI){t:Ty}(xs:List t.den)(lo hi:Option V)(K:List t.den→Prop):Prop:=
 Chk (t.sz==ei.sz) (lC xs.length hi xs.length fun hh=>lC hh lo 0 fun ll=>K (lE xs lo hi ll hh))
def wn (Θ:TT)(ti:TI)(h:VH)(n:Nat)(v:V)(lo hi:Option V)(K:Bool→V→VH→Prop):Prop:=
 match ti.k with
 | .str=>(match v with
  | .str s=>lC s.size hi s.size fun hh=>lC hh lo 0 fun ll=>K false (.str (s.extract ll hh)) []
  |_=>False)
 | .slice E=>aS Θ E fun ei=>(match v with
  | .lst t xs=>yw ei xs lo hi fun ys=>K false (.lst t ys) []
  | .nils=>yw ei (t:=.int .i64) [] lo hi fun ys=>K false (.lst (.int .i64) ys) []
  | .ref b=>cO h b fun x=>(match x with
   | .row E' t xs=>(match t.pure && !ti.own with
    |true=>Chk t.pure (yw ei xs lo hi fun ys=>K false (.lst t ys) [(b,.froz t xs)])
    |false=>Chk (match lo with|none=>!Nat.beq b n|_=>false) (yw ei xs none hi fun ys=>K true (.ref n) [(b,.gone),(n,.row E' t ys)]))
   | .froz t xs=>yw ei xs lo hi fun ys=>K false (.lst t ys) []
   |_=>False)
  |_=>False)
 | .arr m E=>(match v,lo,hi with
  | .ptr b o,none,none=>aS Θ E fun _=>cO h b fun x=>(match x with
   | .var _ _=>Chk (decide (m≤maxLen)) (K false (.vref b o m) [])
   | .vari _ _ _ _ _ _=>Chk (decide (m≤maxLen)) (K false (.vref b o m) [])
   |_=>False)
  |_,_,_=>False)
 |_=>False
theorem ky {P:Program}{E:TypeId}{ei:TI}(_:ei.ok P E){t:Ty}{xs:List t.den}{lo hi:Option V}{K:List t.den→Prop}(h:yw ei xs lo hi K):
  wv ei.sz (xs.map (ab t))=ei.sz∧∃hh ll ys,eU (xs.map (ab t)).length (hi.map V.toD) (xs.map (ab t)).length=some hh∧eU hh (lo.map V.toD) 0=some ll∧((xs.map (ab t)).take hh).drop ll=ys.map (ab t)∧K ys:=by
 obtain⟨c,h1⟩:=Chk.ok h
 simp only[beq_iff_eq] at c
 obtain⟨hh,b1,b2,h2⟩:=je h1
 obtain⟨ll,b3,b4,h3⟩:=je h2
 refine⟨o6 _ _ _ c,hh,ll,_,by rw[List.length_map];exact b1,b3,?_,h3⟩
 rw[Cp xs b2 b4,←List.map_take,←List.map_drop]
theorem row_all {t:Ty}(ht:t.pure=true)(xs:List t.den):((xs.map (ab t)).all fun e=>e.cells.all D.pure0)=true:=by
 rw[List.all_eq_true]
 intro e he
 obtain⟨x,_,rfl⟩:=List.mem_map.1 he
 exact(gg ht x).2
theorem y5 {P:Program}{Θ:TT}(hΘ:Θ.ok P){T:TypeId}{ti:TI}(ht:ti.ok P T){h:VH}{n:Nat}(hn:∀c:Id,n≤c.1→look (toH h) c=none){v:V}{lo hi:Option V}{K:Bool→V→VH→Prop}(hk:wn Θ ti h n v lo hi K):∃q r u vu,dB P (toH h) q (n,0) T v.toD (lo.map V.toD) (hi.map V.toD)=some (r.toD,u)∧bt h u vu∧K q r vu:=by
 have hu:=ht.und
 unfold wn at hk
 split at hk
 ·rename_i e
  rw[e] at hu
  split at hk
  ·rename_i s
   obtain⟨hh,b1,b2,h2⟩:=je hk
   obtain⟨ll,b3,b4,h3⟩:=je h2
   refine⟨_,_,[],_,?_,aE,h3⟩
   unfold dB
   simp only[show P.underlying T=some .string from hu,V.toD,b1,b3]
  ·exact hk.elim
 ·rename_i E e
  rw[e] at hu
  have hu':P.underlying T=some (.slice E):=hu
  obtain⟨ei,l1,hk⟩:=ap hk
  have hei:=hΘ _ _ l1
  unfold dB
  simp only[hu',hei.size]
  split at hk
  ·obtain⟨c,hh,ll,ys,b1,b2,b3,h3⟩:=ky hei hk
   exact⟨_,_,[],_,by simp only[V.toD,elems,c,if_true,b1,b2,b3],aE,h3⟩
  ·obtain⟨c,hh,ll,ys,b1,b2,b3,h3⟩:=ky hei hk
   simp only[List.map_nil] at c b1 b3
   exact⟨_,_,[],_,by simp only[V.toD,elems,c,if_true,b1,b2,b3],aE,h3⟩
  ·rename_i b _
   obtain⟨x,x1,h2⟩:=aH hk
   split at h2
   ·rename_i E' t xs
    have hl:=am (i:=0) x1 (d:=.row E' (xs.map (ab t))) rfl
    split at h2
    ·obtain⟨cp,h2⟩:=h2.ok
     obtain⟨c,hh,ll,ys,b1,b2,b3,h3⟩:=ky hei h2
     refine⟨_,_,[((b,0),.froz (xs.map (ab t)))],_,?_,eB x1 rfl rfl,h3⟩
     simp only[V.toD,elems,hl,c,if_true,b1,b2,b3,Bool.false_eq_true,if_false,row_all cp]
    ·obtain⟨c0,h9⟩:=h2.ok
     clear h2
     cases lo with
     |some l=>cases c0
     |none=>
      have hbn:b≠n:=by rintro rfl;simp at c0
      obtain⟨c,hh,ll,ys,b1,b2,b3,h3⟩:=ky hei h9
      simp only[Option.map_none,eU,Option.some.injEq] at b2
      subst b2
      refine⟨_,.ref n,[((b,0),.gone),((n,0),.row E' (ys.map (ab t)))],_,?_,sq hn x1 rfl hbn rfl,h3⟩
      rw[List.drop_zero] at b3
      have e0:∀q:Nat,eU q (none:Option D) 0=some 0:=fun _=>rfl
      simp only[V.toD,elems,hl,c,if_true,b1,Option.map_none,e0,b3]
   ·rename_i t xs
    have hl:=am (i:=0) x1 (d:=.froz (xs.map (ab t))) rfl
    obtain⟨c,hh,ll,ys,b1,b2,b3,h3⟩:=ky hei h2
    exact⟨false,_,[],_,by simp only[V.toD,elems,hl,c,if_true,b1,b2,b3],aE,h3⟩
   ·exact h2.elim
  ·exact hk.elim
 ·rename_i m E e
  rw[e] at hu
  split at hk
  ·obtain⟨ei,l1,hk⟩:=ap hk
   obtain⟨x,x1,h2⟩:=aH hk
   split at h2
   ·rename_i T' cs
    have hl:=am (i:=0) x1 (d:=.var T' (ag cs)) rfl
    obtain⟨c,h3⟩:=h2.ok
    simp only[decide_eq_true_eq] at c
    refine⟨_,_,[],_,?_,aE,h3⟩
    unfold dB
    simp only[show P.underlying T=some (.array m E) from hu,V.toD,(hΘ _ _ l1).size,Option.map_none,hl,if_pos c]
   ·rename_i T' pre m' t xs post
    have hl:=am (i:=0) x1 (d:=.var T' (ag pre++xs.map (ab t)++ag post)) rfl
    obtain⟨c,h3⟩:=h2.ok
    simp only[decide_eq_true_eq] at c
    refine⟨_,_,[],_,?_,aE,h3⟩
    unfold dB
    simp only[show P.underlying T=some (.array m E) from hu,V.toD,(hΘ _ _ l1).size,Option.map_none,hl,if_pos c]
   ·exact h2.elim
  ·exact hk.elim
 ·exact hk.elim
def qH (t:Ty)(xs:List t.den)(K:ByteArray→Prop):Prop:=
 match t,xs with
 | .int .u8,xs=>K ⟨(xs.map fun n:Int=>UInt8.ofNat n.toNat).toArray⟩
 |_,_=>False
theorem u5 {t:Ty}{xs:List t.den}{K:ByteArray→Prop}(h:qH t xs K):∃bs,(xs.map (ab t)).mapM jf=some bs∧K ⟨bs.toArray⟩:=by
 unfold qH at h
 split at h
 ·rename_i xs
  refine⟨_,?_,h⟩
  rw[show xs.map (ab (.int .u8))=xs.map (D.int .u8) from rfl,List.mapM_map]
  exact p7 (f:=jf∘D.int .u8) fun x _=>rfl
 ·exact h.elim
def zK (Θ:TT)(ti si:TI)(h:VH)(v:V)(K:V→Prop):Prop:=
 match ti.k with
 | .int k=>(match v,si.k with
  | .int _ n,.int _=>Ari k n fun z=>K (.int k z)
  |_,_=>False)
 | .str=>(match si.k with
  | .str=>(match v with
   | .str s=>K (.str s)
   |_=>False)
  | .slice E=>aS Θ E fun ei=>(match ei.k with
   | .int .u8=>Chk (ei.sz==1) (lF h v fun t xs=>qH t xs fun s=>K (.str s))
   |_=>False)
  |_=>False)
 |_=>False
theorem zL {P:Program}{Θ:TT}(hΘ:Θ.ok P){S T:TypeId}{ti si:TI}(ht:ti.ok P T)(hs:si.ok P S){h:VH}{v:V}{K:V→Prop}(hk:zK Θ ti si h v K):∃r,jS P (toH h) S T v.toD=some r.toD∧K r:=by
 have hu:=ht.und
 have hv:=hs.und
 unfold zK at hk
 split at hk
 ·rename_i k e
  rw[e] at hu
  split at hk
  ·rename_i k1 n1 k2 e2
   rw[e2] at hv
   refine⟨_,?_,hk.ok⟩
   unfold jS
   simp only[show P.underlying T=some (.int k) from hu,show P.underlying S=some (.int k2) from hv,V.toD]
  ·exact hk.elim
 ·rename_i e
  rw[e] at hu
  split at hk
  ·rename_i e2
   rw[e2] at hv
   split at hk
   ·refine⟨_,?_,hk⟩
    unfold jS
    simp only[show P.underlying T=some .string from hu,show P.underlying S=some .string from hv,V.toD]
   ·exact hk.elim
  ·rename_i E e2
   rw[e2] at hv
   obtain⟨ei,l1,hk⟩:=ap hk
   have hei:=hΘ _ _ l1
   have hek:=hei.und
   split at hk
   ·rename_i e3
    rw[e3] at hek
    obtain⟨c,hk⟩:=hk.ok
    simp only[beq_iff_eq] at c
    obtain⟨t,xs,h1,h2⟩:=jh hk
    obtain⟨bs,h3,h4⟩:=u5 h2
    refine⟨_,?_,h4⟩
    unfold jS
    have hsz:sizeT P E=some 1:=by rw[hei.size,c]
    simp only[show P.underlying T=some .string from hu,show P.underlying S=some (.slice E) from hv,show P.underlying E=some (.int .u8) from hek,hsz,h1,h3,V.toD]
   ·exact hk.elim
  ·exact hk.elim
 ·exact hk.elim
def w4 (t:VT)(x:Option Operand)(K:Option V→Prop):Prop:=
 match x with
 |none=>K none
 |some x=>mB t x fun v=>K (some v)
theorem sX {t:VT}{x:Option Operand}{K:Option V→Prop}(h:w4 t x K):∃v,gj (dV t) x=some (v.map V.toD)∧K v:=by
 unfold w4 at h
 split at h
 ·exact⟨none,rfl,h⟩
 ·obtain⟨v,h1,h2⟩:=bm h
  exact⟨some v,by simp only[gj,h1,Option.map_some],h2⟩
def ah (P:Program)(f:FuncId)(vs:List V)(hin:VH)(r:V)(hout:VH):Prop:=Con P f (ag vs) (toH hin) r.toD (toH hout)
def eC (P:Program)(f:FuncId)(vs:List V)(hin:VH)(K:V→VH→Prop):Prop:=∃r hout,ah P f vs hin r hout∧K r hout
def kU (n:Nat):List Nat→Nat→Nat
 |[],i=>n+i
 |o::_,0=>o
 |_::os,i+1=>kU n os i
def gN (os:List Nat)(n k:Nat):Nat:=match k with
 |0=>0
 |1=>1
 |2=>2
 |3=>3
 |k+4=>kU n os k
abbrev gI (g:Nat→Nat):Id→Id:=fun b=>(g b.1,b.2)
def yP (os:List Nat)(n:Nat):Bool:=fZ os && (os.all fun o=>Nat.ble 4 o && Nat.blt o n) && Nat.ble 4 n
theorem cJ {n:Nat}:∀{os:List Nat} {i b:Nat},os[i]?=some b→kU n os i=b
 |[],i,b,h=>by simp at h
 |o::os,0,b,h=>by simpa[kU] using h
 |o::os,i+1,b,h=>by simpa[kU] using cJ (os:=os) (i:=i) (by simpa using h)
theorem t5 {n:Nat}:∀{os:List Nat} {i:Nat},os.length≤i→kU n os i=n+(i-os.length)
 |[],i,_=>by simp[kU]
 |o::os,0,h=>by simp at h
 |o::os,i+1,h=>by
  have:=t5 (n:=n) (os:=os) (i:=i) (by simpa using h)
  simp only[kU,this,List.length_cons]
  omega
theorem lL (os:List Nat)(n:Nat){k:Nat}(hk:k<4):gN os n k=k:=by
 match k,hk with
 |0,_|1,_|2,_|3,_=>rfl
theorem ew (os:List Nat)(n m:Nat):gN os n (4+m)=kU n os m:=by rw[Nat.add_comm];rfl
theorem xH {os:List Nat}{n:Nat}(h:yP os n=true):os.Nodup∧(∀o∈os,4≤o∧o<n)∧4≤n:=by
 unfold yP at h
 simp only[Bool.and_eq_true,List.all_eq_true] at h
 obtain⟨⟨h1,h2⟩,h3⟩:=h
 exact⟨fh h1,fun o ho=>⟨Nat.le_of_ble_eq_true (h2 o ho).1,by have:=(h2 o ho).2;simpa[Nat.blt_eq] using this⟩,Nat.le_of_ble_eq_true h3⟩
theorem m9 (os:List Nat)(n k:Nat):(k<4∧gN os n k=k)∨(∃m b,k=4+m∧os[m]?=some b∧gN os n k=b)∨(∃m,k=4+m∧os.length≤m∧gN os n k=n+(m-os.length)):=by
 by_cases hk:k<4
 ·exact .inl ⟨hk,lL os n hk⟩
 ·obtain⟨m,rfl⟩:∃m,k=4+m:=⟨k-4,by omega⟩
  rw[ew]
  by_cases hm:m<os.length
  ·exact .inr (.inl ⟨m,os[m],rfl,List.getElem?_eq_getElem hm,cJ (List.getElem?_eq_getElem hm)⟩)
  ·exact .inr (.inr ⟨m,rfl,by omega,t5 (by omega)⟩)
theorem Ao {os:List Nat}{n:Nat}(h:yP os n=true){a b:Nat}(he:gN os n a=gN os n b):a=b:=by
 obtain⟨h1,h2,h3⟩:=xH h
 rcases m9 os n a with⟨a1,a2⟩|⟨m,x,rfl,a1,a2⟩|⟨m,rfl,a1,a2⟩<;>rcases m9 os n b with⟨b1,b2⟩|⟨m',y,rfl,b1,b2⟩|⟨m',rfl,b1,b2⟩<;>rw[a2,b2] at he
 ·exact he
 ·have:=h2 y (List.mem_of_getElem? b1);omega
 ·omega
 ·have:=h2 x (List.mem_of_getElem? a1);omega
 ·subst he
  have e1:=(List.getElem?_eq_some_iff.1 a1).1
  have:=(List.getElem?_inj e1 h1).1 (a1.trans b1.symm)
  omega
 ·have:=h2 x (List.mem_of_getElem? a1);omega
 ·omega
 ·have:=h2 y (List.mem_of_getElem? b1);omega
 ·omega
theorem An {os:List Nat}{n:Nat}(h:yP os n=true){a b:Id}(he:gI (gN os n) a=gI (gN os n) b):a=b:=by
 obtain⟨a1,a2⟩:=a
 obtain⟨b1,b2⟩:=b
 simp only[gI,Prod.mk.injEq] at he⊢
 exact⟨Ao h he.1,he.2⟩
def l8 (b:Nat):List Nat→Nat→(Option Nat→Prop)→Prop
 |[],_,K=>K none
 |o::os,i,K=>bif Nat.beq o b then K (some i) else eg (i+1) fun i=>l8 b os i K
theorem dP {b:Nat}:∀{os:List Nat} {i:Nat} {K:Option Nat→Prop},l8 b os i K→∃r,(r=none→b∉os)∧(∀j,r=some j→∃m,j=i+m∧os[m]?=some b)∧K r
 |[],i,K,hk=>⟨none,by simp,by simp,hk⟩
 |o::os,i,K,hk=>by
  simp only[l8] at hk
  cases hb:Nat.beq o b with
  |true=>
   rw[hb] at hk
   obtain rfl:=Nat.eq_of_beq_eq_true hb
   exact⟨some i,by simp,fun j hj=>⟨0,by simpa using hj.symm,rfl⟩,hk⟩
  |false=>
   rw[hb] at hk
   simp only[cond_false] at hk
   have hk:=aX hk
   obtain⟨r,h1,h2,h3⟩:=dP hk
   refine⟨r,fun hr hm=>?_,fun j hj=>?_,h3⟩
   ·rcases List.mem_cons.1 hm with rfl|hm
    ·simp at hb
    ·exact h1 hr hm
   ·obtain⟨m,e1,e2⟩:=h2 j hj
    exact⟨m+1,by omega,by simpa using e2⟩
def Ty.fams:Ty→List Nat
 | .hr k| .hp k| .vtxo k| .pplm k| .nod k| .evto k=>[k]
 | .pplo k k'=>[k,k']
 |_=>[]
def BS (a b:List Nat):Bool:=a.all fun x=>b.contains x
theorem rY {a b:List Nat}(h:BS a b=true):∀x∈a,x∈b:=by
 unfold BS at h
 rw[List.all_eq_true] at h
 intro x hx
 simpa using h x hx
def Gh (pss:List (List Int)):Option Nat→Option (List Int)
 |some i=>pss[i]?
 |none=>some []
def DZ (pss:List (List Int))(x:VtxO):Option Vtx:=(Gh pss x.parents).map fun ps=>⟨x.round,x.author,ps,x.digest⟩
def GT (pss mss:List (List Int))(x:PplO):Option Ppl:=(DZ pss x.v).bind fun v=>(Gh mss x.members).map fun ms=>⟨v,ms⟩
def Hm (pss:List (List Int))(x:EvtO):Option Evt:=(DZ pss x.v).map fun v=>⟨x.kind,x.a,x.b,v⟩
def GR (pss:List (List Int))(vss:List (List VtxO)):Option Nat→Option (List Vtx)
 |some i=>vss[i]?.bind fun vs=>vs.mapM (DZ pss)
 |none=>some []
def G4 (pss:List (List Int))(xs:List VtxO):List (List Vtx):=(xs.mapM (DZ pss)).toList
def yy (pss mss:List (List Int))(xs:List PplO):List (List Ppl):=(xs.mapM (GT pss mss)).toList
def G3 (pss:List (List Int))(xs:List EvtO):List (List Evt):=(xs.mapM (Hm pss)).toList
def yx (pss:List (List Int))(vss:List (List VtxO))(xs:List (Option Nat)):List (List (List Vtx)):=(xs.mapM (GR pss vss)).toList
def zR (h:VH)(b:Nat)(t:Ty)(xs:List t.den)(K:V→List Nat→Prop):Prop:=
 match t,xs with
 | .vtxo k,xs=>(match aA h k with
  |some (.frow _ (.int .i64) pss)=>fe (G4 pss xs) 0 fun ys=>K (.lst .vtx ys) [b,k]
  |_=>False)
 | .pplo k k',xs=>(match aA h k,aA h k' with
  |some (.frow _ (.int .i64) pss),some (.frow _ (.int .i64) mss)=>fe (yy pss mss xs) 0 fun ys=>K (.lst .ppl ys) [b,k,k']
  |_,_=>False)
 | .evto k,xs=>(match aA h k with
  |some (.frow _ (.int .i64) pss)=>fe (G3 pss xs) 0 fun ys=>K (.lst .evt ys) [b,k]
  |_=>False)
 | .hr k,xs=>(match aA h k with
  |some (.frow _ (.vtxo k') vss)=>(match aA h k' with
   |some (.frow _ (.int .i64) pss)=>fe (yx pss vss xs) 0 fun ys=>K (.lst (.lst .vtx) ys) [b,k,k']
   |_=>False)
  |_=>False)
 |_,_=>False
mutual
def bi (os fs:List Nat)(h:VH)(v:V)(K:V→List Nat→Prop):Prop:=
 match v with
 | .ref b=>l8 b os 4 fun r=>(match r with
  |some i=>K (.ref i) []
  |none=>(match aA h b with
   |some (.row _ t xs)=>(match t.pure with
    |true=>K (.lst t xs) [b]
    |false=>Chk (os.isEmpty && fs.isEmpty) (zR h b t xs K))
   |some (.froz t xs)=>K (.lst t xs) [b]
   |_=>False))
 | .ptr b o=>l8 b os 4 fun r=>(match r with
  |some i=>K (.ptr i o) []
  |none=>(match aA h b,o with
   |some (.fvb t x),0=>K (.box t x) [b]
   |_,_=>False))
 | .eptr b j o=>l8 b os 4 fun r=>(match r with|some i=>K (.eptr i j o) []|none=>False)
 | .vref b o m=>l8 b os 4 fun r=>(match r with|some i=>K (.vref i o m) []|none=>False)
 | .aptr b p j=>l8 b os 4 fun r=>(match r with|some i=>K (.aptr i p j) []|none=>False)
 | .fref k i=>Chk (fs.contains k) (K (.fref k i) [])
 | .fptr k i o=>Chk (fs.contains k) (K (.fptr k i o) [])
 | .feptr k i j o=>Chk (fs.contains k) (K (.feptr k i j o) [])
 | .faptr k i p j=>Chk (fs.contains k) (K (.faptr k i p j) [])
 | .hro k o=>(match fs.contains k with
  |true=>K (.hro k o) []
  |false=>ja o False fun i=>(match aA h k with
   |some (.frow _ t xss)=>Chk (t.pure && !os.contains k) (fe xss i fun xs=>K (.lst t xs) [k])
   |some (.frowx _ t xss)=>Chk (t.pure && !os.contains k) (fe xss i fun ox=>ja ox False fun xs=>K (.lst t xs) [k])
   |_=>False))
 | .hpo k o=>Chk (fs.contains k) (K (.hpo k o) [])
 | .agg cs=>iu os fs h cs fun cs ws=>K (.agg cs) ws
 | .clo f cs=>iu os fs h cs fun cs ws=>K (.clo f cs) ws
 | .ifc T v=>bi os fs h v fun v ws=>K (.ifc T v) ws
 | .nils=>K (.lst (.int .i64) []) []
 | .int k n=>K (.int k n) []
 | .bool b=>K (.bool b) []
 | .tt=>K .tt []
 | .ff=>K .ff []
 | .str s=>K (.str s) []
 | .lst t xs=>K (.lst t xs) []
 | .box t x=>K (.box t x) []
 | .nilp=>K .nilp []
 | .nilf=>K .nilf []
 | .nili=>K .nili []
 | .gv g=>K (.gv g) []
 | .obo t o=>K (.obo t o) []
 | .junk=>K .junk []
 |_=>False
def iu (os fs:List Nat)(h:VH)(l:List V)(K:List V→List Nat→Prop):Prop:=
 match l with
 |[]=>K [] []
 |v::l=>bi os fs h v fun v ws=>iu os fs h l fun l ws'=>K (v::l) (ws++ws')
end
def GO (h:VH)(b:Nat):Prop:=(∃E t,∃xs:List (Ty.den t),t.pure=true∧look h b=some (.row E t xs))∨(∃t,∃xs:List (Ty.den t),look h b=some (.froz t xs))∨∃t,∃x:Ty.den t,look h b=some (.fvb t x)
def GP (h:VH)(b:Nat):Prop:=(∃E t,∃xs:List (List (Ty.den t)),look h b=some (.frow E t xs))∨(∃E t,∃xs:List (Option (List (Ty.den t))),look h b=some (.frowx E t xs))∨∃E t,∃xs:List (Ty.den t),t.pure=false∧look h b=some (.row E t xs)
def pg (h:VH)(os fs:List Nat)(b:Nat):Prop:=b∉os∧(GO h b∨(b∉fs∧GP h b))
def FV (h:VH)(ws:List Nat)(W:List Id):Prop:=∀b∈ws,∀i,Live (toH h) (b,i)→(b,i)∈W
structure HinOK (os fs:List Nat)(h:VH)(hin:HL):Prop where
 low:∀k∈fs,k<4
 sgl:∀m b,os[m]?=some b→Live hin (4+m,0)
 fam:∀k∈fs,∀i,Live (toH h) (k,i)→Live hin (k,i)
theorem jI {os fs:List Nat}{n:Nat}{h:VH}{hin:HL}(H:HinOK os fs h hin){m b:Nat}(hb:os[m]?=some b):VLive (toH h) (gI (gN os n)) hin fs (4+m,0)∧gI (gN os n) (4+m,0)=(b,0):=
 ⟨.inl (H.sgl m b hb),by simp only[gI,ew,cJ hb]⟩
theorem mn {os fs:List Nat}{n:Nat}{h:VH}{hin:HL}(H:HinOK os fs h hin){k:Nat}(hk:k∈fs)(i:Nat):VLive (toH h) (gI (gN os n)) hin fs (k,i)∧gI (gN os n) (k,i)=(k,i):=by
 have e:gI (gN os n) (k,i)=(k,i):=by simp only[gI,lL os n (H.low k hk)]
 exact⟨.inr ⟨by rw[e];exact hk,fun hl=>H.fam k hk i (by rw[e] at hl;exact hl)⟩,e⟩
section
variable {os fs:List Nat} {n:Nat} {h:VH} {hin:HL} {W:List Id}
theorem B5 (H:HinOK os fs h hin){m b:Nat}(hb:os[m]?=some b):View (toH h) (gI (gN os n)) hin W fs (.ref (b,0)) (.ref (4+m,0)):=by
 obtain⟨h1,h2⟩:=jI (n:=n) H hb
 have:=View.ref (W:=W) _ h1
 rwa [h2] at this
theorem uL (H:HinOK os fs h hin){m b:Nat}(hb:os[m]?=some b)(o:Nat):View (toH h) (gI (gN os n)) hin W fs (.ptr (b,0) o) (.ptr (4+m,0) o):=by
 obtain⟨h1,h2⟩:=jI (n:=n) H hb
 have:=View.ptr (W:=W) _ o h1
 rwa [h2] at this
theorem zd (H:HinOK os fs h hin){m b:Nat}(hb:os[m]?=some b)(j o:Nat):View (toH h) (gI (gN os n)) hin W fs (.eptr (b,0) j o) (.eptr (4+m,0) j o):=by
 obtain⟨h1,h2⟩:=jI (n:=n) H hb
 have:=View.eptr (W:=W) _ j o h1
 rwa [h2] at this
theorem ze (H:HinOK os fs h hin){m b:Nat}(hb:os[m]?=some b)(o q:Nat):View (toH h) (gI (gN os n)) hin W fs (.vref (b,0) o q) (.vref (4+m,0) o q):=by
 obtain⟨h1,h2⟩:=jI (n:=n) H hb
 have:=View.vref (W:=W) _ o q h1
 rwa [h2] at this
theorem qr (H:HinOK os fs h hin){k:Nat}(hk:k∈fs)(i:Nat):View (toH h) (gI (gN os n)) hin W fs (.ref (k,i)) (.ref (k,i)):=by
 obtain⟨h1,h2⟩:=mn (n:=n) H hk i
 have:=View.ref (W:=W) _ h1
 rwa [h2] at this
theorem ml (H:HinOK os fs h hin){k:Nat}(hk:k∈fs)(i o:Nat):View (toH h) (gI (gN os n)) hin W fs (.ptr (k,i) o) (.ptr (k,i) o):=by
 obtain⟨h1,h2⟩:=mn (n:=n) H hk i
 have:=View.ptr (W:=W) _ o h1
 rwa [h2] at this
theorem wz (H:HinOK os fs h hin){k:Nat}(hk:k∈fs)(i j o:Nat):View (toH h) (gI (gN os n)) hin W fs (.eptr (k,i) j o) (.eptr (k,i) j o):=by
 obtain⟨h1,h2⟩:=mn (n:=n) H hk i
 have:=View.eptr (W:=W) _ j o h1
 rwa [h2] at this
theorem fR (H:HinOK os fs h hin){k:Nat}(hk:k∈fs)(o:Option Nat):View (toH h) (gI (gN os n)) hin W fs (jp k o) (jp k o):=by
 cases o with
 |none=>exact .pure 0 _ _ rfl (fun b hb=>by cases hb)
 |some i=>exact qr H hk i
theorem yd (H:HinOK os fs h hin){k:Nat}(hk:k∈fs)(o:Option Nat):View (toH h) (gI (gN os n)) hin W fs (mF k o) (mF k o):=by
 cases o with
 |none=>exact .pure 0 _ _ rfl (fun b hb=>by cases hb)
 |some i=>exact ml H hk i 0
theorem jH {d d':D}{g:Id→Id}{hh:HL}(hd:leaf d=some d'):View hh g hin W fs d d':=.pure 0 _ _ hd (fun b hb=>by cases hb)
theorem gK {cs:List D}{g:Id→Id}{hh:HL}(hc:∀c∈cs,View hh g hin W fs c c):View hh g hin W fs (.agg cs) (.agg cs):=.agg cs cs rfl fun i hi=>hc _ (aK hi)
theorem lr (H:HinOK os fs h hin){t:Ty}(ht:∀k∈t.fams,k∈fs)(x:t.den):View (toH h) (gI (gN os n)) hin W fs (ab t x) (ab t x):=by
 by_cases hp:t.pure=true
 ·by_cases hag:∃cs,ab t x= .agg cs
  ·obtain⟨cs,he⟩:=hag
   have:=gC hp x
   rw[he] at this⊢
   exact gK fun c hc=>jH (this c hc)
  ·have hc:(ab t x).cells=[ab t x]:=bC fun cs hcs=>hag ⟨cs,hcs⟩
   exact jH (gC hp x _ (by rw[hc];exact List.mem_singleton.2 rfl))
 ·have lf:∀d:D,leaf d=some d→View (toH h) (gI (gN os n)) hin W fs d d:=fun d hd=>jH hd
  cases t<;>simp only[Ty.pure,not_true_eq_false] at hp
  case hr k=>exact fR H (ht k (by simp[Ty.fams])) x
  case hp k=>exact yd H (ht k (by simp[Ty.fams])) x
  case vtxo k=>
   refine gK fun c hc=>?_
   simp only[List.mem_cons,List.not_mem_nil,or_false] at hc
   rcases hc with rfl|rfl|rfl|rfl
   ·exact lf _ rfl
   ·exact lf _ rfl
   ·exact fR H (ht k (by simp[Ty.fams])) _
   ·exact lf _ rfl
  case pplm k=>
   refine gK fun c hc=>?_
   simp only[eZ,List.cons_append,List.nil_append,List.mem_cons,List.not_mem_nil,or_false] at hc
   rcases hc with rfl|rfl|rfl|rfl|rfl
   ·exact lf _ rfl
   ·exact lf _ rfl
   ·exact lf _ rfl
   ·exact lf _ rfl
   ·exact fR H (ht k (by simp[Ty.fams])) _
  case pplo k k'=>
   refine gK fun c hc=>?_
   simp only[List.mem_cons,List.not_mem_nil,or_false] at hc
   rcases hc with rfl|rfl|rfl|rfl|rfl
   ·exact lf _ rfl
   ·exact lf _ rfl
   ·exact fR H (ht k (by simp[Ty.fams])) _
   ·exact lf _ rfl
   ·exact fR H (ht k' (by simp[Ty.fams])) _
  case evto k=>
   refine gK fun c hc=>?_
   simp only[List.mem_cons,List.not_mem_nil,or_false] at hc
   rcases hc with rfl|rfl|rfl|rfl|rfl|rfl|rfl
   ·exact lf _ rfl
   ·exact lf _ rfl
   ·exact lf _ rfl
   ·exact lf _ rfl
   ·exact lf _ rfl
   ·exact fR H (ht k (by simp[Ty.fams])) _
   ·exact lf _ rfl
  case nod k=>
   refine gK fun c hc=>?_
   simp only[eZ,List.cons_append,List.nil_append,List.mem_cons,List.not_mem_nil,or_false] at hc
   rcases hc with rfl|rfl|rfl|rfl|rfl|rfl
   ·exact lf _ rfl
   ·exact lf _ rfl
   ·exact lf _ rfl
   ·exact lf _ rfl
   ·exact lf _ rfl
   ·exact fR H (ht k (by simp[Ty.fams])) _
theorem ye {b:Nat}(hw:(b,0)∈W){t:Ty}{xs:List t.den}{g:Id→Id}(hb:(∃E,t.pure=true∧look h b=some (.row E t xs))∨look h b=some (.froz t xs)):View (toH h) g hin W fs (.ref (b,0)) (.lst (xs.map (ab t))):=by
 refine .pure 1 _ _ ?_ fun c hc=>?_
 ·rcases hb with⟨E,hp,hb⟩|hb
  ·have hl:=am (i:=0) hb (d:=.row E (xs.map (ab t))) rfl
   simp only[purD,hl]
   rw[show (fun x=>leaf x)=leaf from rfl,row_pure hp]
   rfl
  ·have hl:=am (i:=0) hb (d:=.froz (xs.map (ab t))) rfl
   simp only[purD,hl]
 ·unfold idsD at hc
  rcases List.mem_cons.1 hc with rfl|hc
  ·exact hw
  ·exfalso
   split at hc
   ·rw[List.mem_flatMap] at hc
    obtain⟨e,_,hc⟩:=hc
    rw[List.mem_flatMap] at hc
    obtain⟨d,_,hc⟩:=hc
    cases hc
   ·cases hc
theorem uM {b i:Nat}(hw:(b,i)∈W){E:TypeId}{t:Ty}{xs:List t.den}{g:Id→Id}(hp:t.pure=true)(hl:look (toH h) (b,i)=some (.row E (xs.map (ab t)))):View (toH h) g hin W fs (.ref (b,i)) (.lst (xs.map (ab t))):=by
 refine .pure 1 _ _ ?_ fun c hc=>?_
 ·simp only[purD,hl]
  rw[show (fun x=>leaf x)=leaf from rfl,row_pure hp]
  rfl
 ·unfold idsD at hc
  rcases List.mem_cons.1 hc with rfl|hc
  ·exact hw
  ·exfalso
   split at hc
   ·rw[List.mem_flatMap] at hc
    obtain⟨e,_,hc⟩:=hc
    rw[List.mem_flatMap] at hc
    obtain⟨d,_,hc⟩:=hc
    cases hc
   ·cases hc
theorem kR {α β:Type}{f:α→Option β}{l:List α}{l':List β}(h:l.mapM f=some l'):l.length=l'.length∧∀(i:Nat) x,l[i]?=some x→∃y,l'[i]?=some y∧f x=some y:=by
 induction l generalizing l' with
 |nil=>simp at h;subst h;exact⟨rfl,fun i x hx=>by simp at hx⟩
 |cons a l ih=>
  simp only[List.mapM_cons,Option.bind_eq_bind,Option.pure_def] at h
  obtain⟨y,h1,h⟩:=Option.bind_eq_some_iff.1 h
  obtain⟨l2,h2,h⟩:=Option.bind_eq_some_iff.1 h
  obtain rfl:=Option.some.inj h
  obtain⟨h3,h4⟩:=ih h2
  refine⟨by simp[h3],fun i x hx=>?_⟩
  cases i with
  |zero=>simp at hx;subst hx;exact⟨y,rfl,h1⟩
  |succ i=>simpa using h4 i x (by simpa using hx)
theorem oG {α β γ δ:Type}{f:α→Option β}{p:γ→α}{q:δ→β}:∀{l:List γ} {l':List δ},l.length=l'.length→(∀(i:Nat) x y,l[i]?=some x→l'[i]?=some y→f (p x)=some (q y))→(l.map p).mapM f=some (l'.map q)
 |[],[],_,_=>rfl
 |[],_::_,h,_=>by cases h
 |_::_,[],h,_=>by cases h
 |x::l,y::l',hl,h=>by simp[List.mapM_cons,h 0 x y rfl rfl,oG (l:=l) (l':=l') (by simpa using hl) fun i a b ha hb=>h (i+1) a b (by simpa using ha) (by simpa using hb)]
structure DpE (h:VH)(n:Nat)(g:List Nat)(d d':D):Prop where
 pur:purE (purD (toH h) n) d=some d'
 ids:∀c∈d.cells,∀b∈idsD (toH h) n c,b.1∈g∧Live (toH h) b
theorem vo {h:VH}{n:Nat}{g:List Nat}{k i:Nat}{E:TypeId}{ds ds':List D}(hl:look (toH h) (k,i)=some (.row E ds))(hk:k∈g)(hlen:ds.length=ds'.length)(hd:∀(j:Nat) x y,ds[j]?=some x→ds'[j]?=some y→DpE h n g x y):
  purD (toH h) (n+1) (.ref (k,i))=some (.lst ds')∧∀b∈idsD (toH h) (n+1) (.ref (k,i)),b.1∈g∧Live (toH h) b:=by
 constructor
 ·have:=oG (f:=purE (purD (toH h) n)) (p:=id) (q:=id) hlen fun j x y hx hy=>(hd j x y hx hy).pur
  simp only[List.map_id] at this
  simp only[purD,hl,this,Option.map_some]
 ·intro b hb
  simp only[idsD,hl] at hb
  rcases List.mem_cons.1 hb with rfl|hb
  ·exact⟨hk,Live.of_look hl⟩
  ·obtain⟨e,he,hb⟩:=List.mem_flatMap.1 hb
   obtain⟨c,hc,hb⟩:=List.mem_flatMap.1 hb
   obtain⟨j,hj⟩:=List.getElem?_of_mem he
   have hj2:j<ds'.length:=by rw[←hlen];exact(List.getElem?_eq_some_iff.1 hj).1
   exact(hd j e _ hj (List.getElem?_eq_getElem hj2)).ids c hc b hb
theorem Cu {h:VH}{n:Nat}{g:List Nat}{t:Ty}(ht:t.pure=true)(x:t.den)(hn:n=0):DpE h n g (ab t x) (ab t x):=by
 subst hn
 exact⟨qk ht x,fun c hc b hb=>by cases hb⟩
theorem wV {h:VH}{g:List Nat}{k:Nat}{E:TypeId}{pss:List (List Int)}(hk:look h k=some (.frow E (.int .i64) pss))(hg:k∈g){o:Option Nat}{ps:List Int}(hp:Gh pss o=some ps):
  purD (toH h) 1 (jp k o)=some (dI ps)∧∀b∈idsD (toH h) 1 (jp k o),b.1∈g∧Live (toH h) b:=by
 cases o with
 |none=>
  obtain rfl:=Option.some.inj hp
  exact⟨rfl,fun b hb=>by simp[jp,idsD] at hb⟩
 |some i=>
  have hl:=am (i:=i) hk (d:=.row E (ps.map (ab (.int .i64)))) (by simp only[VB.blks,List.getElem?_map];rw[show pss[i]?=some ps from hp];rfl)
  refine vo hl hg rfl fun j x y hx hy=>?_
  rw[iM] at hx
  rw[hx] at hy
  obtain rfl:=Option.some.inj hy
  obtain⟨e,_,rfl⟩:=List.mem_map.1 (List.mem_of_getElem? hx)
  exact Cu (t:=.int .i64) rfl e rfl
theorem eW {h:VH}{n:Nat}{g:List Nat}(x:Int):purD (toH h) n (.int .i64 x)=some (.int .i64 x)∧∀b∈idsD (toH h) n (.int .i64 x),b.1∈g∧Live (toH h) b:=by
 cases n<;>exact⟨rfl,fun b hb=>by simp[idsD] at hb⟩
theorem vn {h:VH}{n:Nat}{g:List Nat}:∀{cs cs':List D},cs.length=cs'.length→(∀(i:Nat) c c',cs[i]?=some c→cs'[i]?=some c'→purD (toH h) n c=some c'∧∀b∈idsD (toH h) n c,b.1∈g∧Live (toH h) b)→DpE h n g (.agg cs) (.agg cs'):=by
 intro cs cs' hl hc
 constructor
 ·have:=oG (f:=purD (toH h) n) (p:=id) (q:=id) hl fun i x y hx hy=>(hc i x y hx hy).1
  simp only[List.map_id] at this
  simp only[purE,this,Option.map_some]
 ·intro c hm b hb
  obtain⟨i,hi⟩:=List.getElem?_of_mem (show c∈cs from hm)
  have hi2:i<cs'.length:=by rw[←hl];exact(List.getElem?_eq_some_iff.1 hi).1
  exact(hc i c _ hi (List.getElem?_eq_getElem hi2)).2 b hb
theorem zT {h:VH}{g:List Nat}{k:Nat}{E:TypeId}{pss:List (List Int)}(hk:look h k=some (.frow E (.int .i64) pss))(hg:k∈g){x:VtxO}{y:Vtx}(hp:DZ pss x=some y):DpE h 1 g (ab (.vtxo k) x) (ab .vtx y):=by
 obtain⟨ps,h1,rfl⟩:=Option.map_eq_some_iff.1 hp
 refine vn rfl fun i c c' hc hc'=>?_
 match i with
 |0=>obtain rfl:=Option.some.inj hc;obtain rfl:=Option.some.inj hc';exact eW _
 |1=>obtain rfl:=Option.some.inj hc;obtain rfl:=Option.some.inj hc';exact eW _
 |2=>obtain rfl:=Option.some.inj hc;obtain rfl:=Option.some.inj hc';exact wV hk hg h1
 |3=>obtain rfl:=Option.some.inj hc;obtain rfl:=Option.some.inj hc';exact eW _
 |i+4=>cases hc
theorem EF {h:VH}{g:List Nat}{k k':Nat}{E E':TypeId}{pss mss:List (List Int)}(hk:look h k=some (.frow E (.int .i64) pss))(hk':look h k'=some (.frow E' (.int .i64) mss))(hg:k∈g)(hg':k'∈g){x:PplO}{y:Ppl}(hp:GT pss mss x=some y):DpE h 1 g (ab (.pplo k k') x) (ab .ppl y):=by
 obtain⟨v,h1,h2⟩:=Option.bind_eq_some_iff.1 hp
 obtain⟨ms,h3,rfl⟩:=Option.map_eq_some_iff.1 h2
 obtain⟨ps,h4,rfl⟩:=Option.map_eq_some_iff.1 h1
 refine vn rfl fun i c c' hc hc'=>?_
 match i with
 |0=>obtain rfl:=Option.some.inj hc;obtain rfl:=Option.some.inj hc';exact eW _
 |1=>obtain rfl:=Option.some.inj hc;obtain rfl:=Option.some.inj hc';exact eW _
 |2=>obtain rfl:=Option.some.inj hc;obtain rfl:=Option.some.inj hc';exact wV hk hg h4
 |3=>obtain rfl:=Option.some.inj hc;obtain rfl:=Option.some.inj hc';exact eW _
 |4=>obtain rfl:=Option.some.inj hc;obtain rfl:=Option.some.inj hc';exact wV hk' hg' h3
 |i+5=>cases hc
theorem ED {h:VH}{g:List Nat}{k:Nat}{E:TypeId}{pss:List (List Int)}(hk:look h k=some (.frow E (.int .i64) pss))(hg:k∈g){x:EvtO}{y:Evt}(hp:Hm pss x=some y):DpE h 1 g (ab (.evto k) x) (ab .evt y):=by
 obtain⟨v,h1,rfl⟩:=Option.map_eq_some_iff.1 hp
 obtain⟨ps,h2,rfl⟩:=Option.map_eq_some_iff.1 h1
 refine vn rfl fun i c c' hc hc'=>?_
 match i with
 |0=>obtain rfl:=Option.some.inj hc;obtain rfl:=Option.some.inj hc';exact eW _
 |1=>obtain rfl:=Option.some.inj hc;obtain rfl:=Option.some.inj hc';exact eW _
 |2=>obtain rfl:=Option.some.inj hc;obtain rfl:=Option.some.inj hc';exact eW _
 |3=>obtain rfl:=Option.some.inj hc;obtain rfl:=Option.some.inj hc';exact eW _
 |4=>obtain rfl:=Option.some.inj hc;obtain rfl:=Option.some.inj hc';exact eW _
 |5=>obtain rfl:=Option.some.inj hc;obtain rfl:=Option.some.inj hc';exact wV hk hg h2
 |6=>obtain rfl:=Option.some.inj hc;obtain rfl:=Option.some.inj hc';exact eW _
 |i+7=>cases hc
theorem EE {h:VH}{g:List Nat}{k k':Nat}{E E':TypeId}{pss:List (List Int)}{vss:List (List VtxO)}(hk:look h k=some (.frow E (.vtxo k') vss))(hk':look h k'=some (.frow E' (.int .i64) pss))(hg:k∈g)(hg':k'∈g){o:Option Nat}{y:List Vtx}(hp:GR pss vss o=some y):DpE h 2 g (ab (.hr k) o) (ab (.lst .vtx) y):=by
 cases o with
 |none=>
  obtain rfl:=Option.some.inj hp
  exact⟨rfl,fun c hc b hb=>by simp[ab,jp,D.cells] at hc;subst hc;simp[idsD] at hb⟩
 |some i=>
  obtain⟨vs,h1,h2⟩:=Option.bind_eq_some_iff.1 hp
  have hl:=am (i:=i) hk (d:=.row E (vs.map (ab (.vtxo k')))) (by simp only[VB.blks,List.getElem?_map,h1,Option.map_some])
  obtain⟨h3,h4⟩:=kR h2
  obtain⟨q1,q2⟩:=vo (n:=1) (g:=g) (ds':=y.map (ab .vtx)) hl hg (by simp[h3]) fun j x z hx hz=>by
   rw[List.getElem?_map] at hx hz
   obtain⟨a,ha,rfl⟩:=Option.map_eq_some_iff.1 hx
   obtain⟨c,hc,rfl⟩:=Option.map_eq_some_iff.1 hz
   obtain⟨c2,hc2,hf⟩:=h4 j a ha
   rw[hc] at hc2
   obtain rfl:=Option.some.inj hc2
   exact zT hk' hg' hf
  refine⟨q1,fun c hc b hb=>?_⟩
  simp only[ab,jp,D.cells,List.mem_singleton] at hc
  subst hc
  exact q2 b hb
theorem jz {hin:HL}{W:List Id}{g:Id→Id}{fs:List Nat}{h:VH}{b n:Nat}{E:TypeId}{t t':Ty}{xs:List t.den}{ys:List t'.den}{ws:List Nat}(hb:look h b=some (.row E t xs))(hw:b∈ws)(hW:FV h ws W)(hl:xs.length=ys.length)(hd:∀(i:Nat) x y,xs[i]?=some x→ys[i]?=some y→DpE h n ws (ab t x) (ab t' y)):View (toH h) g hin W fs (.ref (b,0)) (.lst (ys.map (ab t'))):=by
 obtain⟨q1,q2⟩:=vo (n:=n) (g:=ws) (ds':=ys.map (ab t')) (am (i:=0) hb (d:=.row E (xs.map (ab t))) rfl) hw (by simp[hl]) fun j x z hx hz=>by
  rw[List.getElem?_map] at hx hz
  obtain⟨a,ha,rfl⟩:=Option.map_eq_some_iff.1 hx
  obtain⟨c,hc,rfl⟩:=Option.map_eq_some_iff.1 hz
  exact hd j a c ha hc
 exact .pure _ _ _ q1 fun c hc=>hW c.1 (q2 c hc).1 c.2 (q2 c hc).2
theorem ln {α:Type}{o:Option α}{x:α}(h:o.toList[0]?=some x):o=some x:=by cases o<;>simp at h;rw[h]
theorem zS {os fs:List Nat}{h:VH}{b:Nat}{E:TypeId}{t:Ty}{xs:List t.den}{K:V→List Nat→Prop}(hos:os=[])(hfs:fs=[])(hp:t.pure=false)(hb:look h b=some (.row E t xs))(hk:zR h b t xs K):
  ∃v' ws,(∀(g:Id→Id) (hin:HL) (W:List Id) (F:List Nat),FV h ws W→View (toH h) g hin W F (.ref (b,0)) v'.toD)∧(∀b∈ws,pg h os fs b)∧K v' ws:=by
 subst hos hfs
 have r0:pg h [] [] b:=⟨by simp,.inr ⟨by simp,.inr (.inr ⟨E,t,xs,hp,hb⟩)⟩⟩
 have rf:∀k E' t',∀yss:List (List (Ty.den t')),look h k=some (.frow E' t' yss)→pg h [] [] k:=fun k E' t' yss hk=>⟨by simp,.inr ⟨by simp,.inl ⟨E',t',yss,hk⟩⟩⟩
 unfold zR at hk
 split at hk
 ·rename_i k xs
  split at hk
  ·rename_i E' pss hl
   rw[az] at hl
   obtain⟨ys,hy,hk⟩:=hk
   have hy:=kR (ln hy)
   refine⟨_,_,fun g hin W F hW=>jz (n:=1) hb (by simp) hW hy.1 fun i x y hx hz=>?_,fun c hc=>?_,hk⟩
   ·obtain⟨z,z1,z2⟩:=hy.2 i x hx
    rw[hz] at z1
    obtain rfl:=Option.some.inj z1
    exact zT hl (by simp) z2
   ·rcases List.mem_cons.1 hc with rfl|hc
    ·exact r0
    ·obtain rfl:=List.mem_singleton.1 hc
     exact rf _ _ _ _ hl
  ·exact hk.elim
 ·rename_i k k' xs
  split at hk
  ·rename_i E' pss E'' mss hl hl'
   rw[az] at hl hl'
   obtain⟨ys,hy,hk⟩:=hk
   have hy:=kR (ln hy)
   refine⟨_,_,fun g hin W F hW=>jz (n:=1) hb (by simp) hW hy.1 fun i x y hx hz=>?_,fun c hc=>?_,hk⟩
   ·obtain⟨z,z1,z2⟩:=hy.2 i x hx
    rw[hz] at z1
    obtain rfl:=Option.some.inj z1
    exact EF hl hl' (by simp) (by simp) z2
   ·rcases List.mem_cons.1 hc with rfl|hc
    ·exact r0
    ·rcases List.mem_cons.1 hc with rfl|hc
     ·exact rf _ _ _ _ hl
     ·obtain rfl:=List.mem_singleton.1 hc
      exact rf _ _ _ _ hl'
  ·exact hk.elim
 ·rename_i k xs
  split at hk
  ·rename_i E' pss hl
   rw[az] at hl
   obtain⟨ys,hy,hk⟩:=hk
   have hy:=kR (ln hy)
   refine⟨_,_,fun g hin W F hW=>jz (n:=1) hb (by simp) hW hy.1 fun i x y hx hz=>?_,fun c hc=>?_,hk⟩
   ·obtain⟨z,z1,z2⟩:=hy.2 i x hx
    rw[hz] at z1
    obtain rfl:=Option.some.inj z1
    exact ED hl (by simp) z2
   ·rcases List.mem_cons.1 hc with rfl|hc
    ·exact r0
    ·obtain rfl:=List.mem_singleton.1 hc
     exact rf _ _ _ _ hl
  ·exact hk.elim
 ·rename_i k xs
  split at hk
  ·rename_i E' k' vss hl
   split at hk
   ·rename_i E'' pss hl'
    rw[az] at hl hl'
    obtain⟨ys,hy,hk⟩:=hk
    have hy:=kR (ln hy)
    refine⟨_,_,fun g hin W F hW=>jz (n:=2) hb (by simp) hW hy.1 fun i x y hx hz=>?_,fun c hc=>?_,hk⟩
    ·obtain⟨z,z1,z2⟩:=hy.2 i x hx
     rw[hz] at z1
     obtain rfl:=Option.some.inj z1
     exact EE hl hl' (by simp) (by simp) z2
    ·rcases List.mem_cons.1 hc with rfl|hc
     ·exact r0
     ·rcases List.mem_cons.1 hc with rfl|hc
      ·exact rf _ _ _ _ hl
      ·obtain rfl:=List.mem_singleton.1 hc
       exact rf _ _ _ _ hl'
   ·exact hk.elim
  ·exact hk.elim
 ·exact hk.elim
end
end Go.Proofs.YthmfppknagbkeaaGreat.Am
namespace Go.Proofs.YthmfppknagbkeaaGreat.Am
open Go Go.RowKit
variable {P:Program} {os fs:List Nat} {n:Nat} {h:VH}
def Vw (os fs:List Nat)(n:Nat)(h:VH)(ws:List Nat)(v v':V):Prop:=∀hin,HinOK os fs h hin→∀W:List Id,FV h ws W→View (toH h) (gI (gN os n)) hin W fs v.toD v'.toD
def Hk (os fs:List Nat)(n:Nat)(h:VH)(ws:List Nat)(l l':List V):Prop:=(ag l).length=(ag l').length∧∀hin,HinOK os fs h hin→∀W:List Id,FV h ws W→∀i,i<(ag l).length→View (toH h) (gI (gN os n)) hin W fs ((ag l).getD i .undef) ((ag l').getD i .undef)
theorem dh {v v':V}{ws:List Nat}(hd:leaf v.toD=some v'.toD):Vw os fs n h ws v v':=fun _ _ _ _=>jH hd
mutual
theorem o9:∀{v:V} {K:V→List Nat→Prop},bi os fs h v K→∃v' ws,Vw os fs n h ws v v'∧(∀b∈ws,pg h os fs b)∧K v' ws
 | .ref b,K,hk=>by
  simp only[bi] at hk
  obtain⟨r,r1,r2,hk⟩:=dP hk
  split at hk
  ·obtain⟨m,rfl,hm⟩:=r2 _ rfl
   exact⟨_,_,fun hin H W _=>B5 H hm,by simp,hk⟩
  ·split at hk
   ·rename_i E t xs hb
    rw[az] at hb
    split at hk
    ·rename_i c
     exact⟨_,_,fun hin H W hW=>ye (hW b (by simp) 0 (Live.of_look (am (i:=0) hb rfl))) (.inl ⟨E,c,hb⟩),fun b' hb'=>by simp at hb';subst hb';exact⟨r1 rfl,.inl (.inl ⟨E,t,xs,c,hb⟩)⟩,hk⟩
    ·rename_i c
     obtain⟨c2,hk⟩:=hk.ok
     simp only[Bool.and_eq_true,List.isEmpty_iff] at c2
     obtain⟨v',ws,d1,d2,d3⟩:=zS c2.1 c2.2 c hb hk
     exact⟨v',ws,fun hin H W hW=>d1 _ _ _ _ hW,d2,d3⟩
   ·rename_i t xs hb
    rw[az] at hb
    exact⟨_,_,fun hin H W hW=>ye (hW b (by simp) 0 (Live.of_look (am (i:=0) hb rfl))) (.inr hb),fun b' hb'=>by simp at hb';subst hb';exact⟨r1 rfl,.inl (.inr (.inl ⟨t,xs,hb⟩))⟩,hk⟩
   ·exact hk.elim
 | .ptr b o,K,hk=>by
  simp only[bi] at hk
  obtain⟨r,r1,r2,hk⟩:=dP hk
  split at hk
  ·obtain⟨m,rfl,hm⟩:=r2 _ rfl
   exact⟨_,_,fun hin H W _=>uL H hm o,by simp,hk⟩
  ·split at hk
   ·rename_i t x hb _
    rw[az] at hb
    have hl:=am (i:=0) hb (d:=.fvar (ab t x).cells) rfl
    refine⟨_,_,fun hin H W hW=>.pure 1 _ _ (by simp only[V.toD,purD,hl]) fun c hc=>?_,fun b' hb'=>by simp at hb';subst hb';exact⟨r1 rfl,.inl (.inr (.inr ⟨t,x,hb⟩))⟩,hk⟩
    simp only[V.toD,idsD,hl,List.mem_cons,List.not_mem_nil,or_false] at hc
    subst hc
    exact hW b (by simp) 0 (Live.of_look hl)
   ·exact hk.elim
 | .eptr b j o,K,hk=>by
  simp only[bi] at hk
  obtain⟨r,r1,r2,hk⟩:=dP hk
  split at hk
  ·obtain⟨m,rfl,hm⟩:=r2 _ rfl
   exact⟨_,_,fun hin H W _=>zd H hm j o,by simp,hk⟩
  ·exact hk.elim
 | .vref b o q,K,hk=>by
  simp only[bi] at hk
  obtain⟨r,r1,r2,hk⟩:=dP hk
  split at hk
  ·obtain⟨m,rfl,hm⟩:=r2 _ rfl
   exact⟨_,_,fun hin H W _=>ze H hm o q,by simp,hk⟩
  ·exact hk.elim
 | .aptr b p j,K,hk=>by
  simp only[bi] at hk
  obtain⟨r,r1,r2,hk⟩:=dP hk
  split at hk
  ·obtain⟨m,rfl,hm⟩:=r2 _ rfl
   exact⟨_,_,fun hin H W _=>uL H hm (p+j),by simp,hk⟩
  ·exact hk.elim
 | .fref k i,K,hk=>by
  simp only[bi] at hk
  obtain⟨c,hk⟩:=hk.ok
  exact⟨_,_,fun hin H W _=>qr H (by simpa using c) i,by simp,hk⟩
 | .fptr k i o,K,hk=>by
  simp only[bi] at hk
  obtain⟨c,hk⟩:=hk.ok
  exact⟨_,_,fun hin H W _=>ml H (by simpa using c) i o,by simp,hk⟩
 | .feptr k i j o,K,hk=>by
  simp only[bi] at hk
  obtain⟨c,hk⟩:=hk.ok
  exact⟨_,_,fun hin H W _=>wz H (by simpa using c) i j o,by simp,hk⟩
 | .faptr k i p j,K,hk=>by
  simp only[bi] at hk
  obtain⟨c,hk⟩:=hk.ok
  exact⟨_,_,fun hin H W _=>ml H (by simpa using c) i (p+j),by simp,hk⟩
 | .hro k o,K,hk=>by
  simp only[bi] at hk
  split at hk
  ·rename_i c
   exact⟨_,_,fun hin H W _=>fR H (by simpa using c) o,by simp,hk⟩
  ·rename_i c
   have c:k∉fs:=by simpa using c
   cases o with
   |none=>exact(hk.1 rfl).elim
   |some i=>
    have hk:=hk.2 i rfl
    split at hk
    ·rename_i E t xss hb
     rw[az] at hb
     obtain⟨c2,xs,hxs,hk⟩:=hk.ok
     simp only[Bool.and_eq_true,Bool.not_eq_true',List.contains_eq_mem,decide_eq_false_iff_not] at c2
     have hl:=am (i:=i) hb (d:=.row E (xs.map (ab t))) (by simp only[VB.blks,List.getElem?_map,hxs,Option.map_some])
     exact⟨_,_,fun hin H W hW=>uM (hW k (by simp) i (Live.of_look hl)) c2.1 hl,fun b' hb'=>by simp at hb';subst hb';exact⟨c2.2,.inr ⟨c,.inl ⟨E,t,xss,hb⟩⟩⟩,hk⟩
    ·rename_i E t xss hb
     rw[az] at hb
     obtain⟨c2,ox,hxs,hk⟩:=hk.ok
     simp only[Bool.and_eq_true,Bool.not_eq_true',List.contains_eq_mem,decide_eq_false_iff_not] at c2
     cases ox with
     |none=>exact(hk.1 rfl).elim
     |some xs=>
      have hk:=hk.2 xs rfl
      have hl:=am (i:=i) hb (d:=.row E (xs.map (ab t))) (by simp only[VB.blks,List.getElem?_map,hxs,Option.map_some,rowX])
      exact⟨_,_,fun hin H W hW=>uM (hW k (by simp) i (Live.of_look hl)) c2.1 hl,fun b' hb'=>by simp at hb';subst hb';exact⟨c2.2,.inr ⟨c,.inr (.inl ⟨E,t,xss,hb⟩)⟩⟩,hk⟩
    ·exact hk.elim
 | .hpo k o,K,hk=>by
  simp only[bi] at hk
  obtain⟨c,hk⟩:=hk.ok
  exact⟨_,_,fun hin H W _=>yd H (by simpa using c) o,by simp,hk⟩
 | .agg cs,K,hk=>by
  simp only[bi] at hk
  obtain⟨cs',ws,h1,h2,h3⟩:=fl hk
  exact⟨_,ws,fun hin H W hW=>by simp only[V.toD];exact .agg _ _ h1.1 (h1.2 hin H W hW),h2,h3⟩
 | .clo f cs,K,hk=>by
  simp only[bi] at hk
  obtain⟨cs',ws,h1,h2,h3⟩:=fl hk
  exact⟨_,ws,fun hin H W hW=>by simp only[V.toD];exact .clo f _ _ h1.1 (h1.2 hin H W hW),h2,h3⟩
 | .ifc T v,K,hk=>by
  simp only[bi] at hk
  obtain⟨v',ws,h1,h2,h3⟩:=o9 hk
  exact⟨_,ws,fun hin H W hW=>by simp only[V.toD];exact .ifc T _ _ (h1 hin H W hW),h2,h3⟩
 | .nils,K,hk=>⟨_,[],dh (v':=.lst (.int .i64) []) rfl,by simp,by simpa only[bi] using hk⟩
 | .int k m,K,hk=>⟨_,[],dh (v':=.int k m) rfl,by simp,by simpa only[bi] using hk⟩
 | .bool b,K,hk=>⟨_,[],dh (v':=.bool b) rfl,by simp,by simpa only[bi] using hk⟩
 | .tt,K,hk=>⟨_,[],dh (v':=.tt) rfl,by simp,by simpa only[bi] using hk⟩
 | .ff,K,hk=>⟨_,[],dh (v':=.ff) rfl,by simp,by simpa only[bi] using hk⟩
 | .str s,K,hk=>⟨_,[],dh (v':=.str s) rfl,by simp,by simpa only[bi] using hk⟩
 | .lst t xs,K,hk=>⟨_,[],dh (v':=.lst t xs) rfl,by simp,by simpa only[bi] using hk⟩
 | .box t x,K,hk=>⟨_,[],dh (v':=.box t x) rfl,by simp,by simpa only[bi] using hk⟩
 | .nilp,K,hk=>⟨_,[],dh (v':=.nilp) rfl,by simp,by simpa only[bi] using hk⟩
 | .nilf,K,hk=>⟨_,[],dh (v':=.nilf) rfl,by simp,by simpa only[bi] using hk⟩
 | .nili,K,hk=>⟨_,[],dh (v':=.nili) rfl,by simp,by simpa only[bi] using hk⟩
 | .obo t o,K,hk=>⟨_,[],dh (v':=.obo t o) (by cases o<;>rfl),by simp,by simpa only[bi] using hk⟩
 | .junk,K,hk=>⟨_,[],fun _ _ _ _=>.junk,by simp,by simpa only[bi] using hk⟩
 | .gv g,K,hk=>⟨.gv g,[],fun _ _ _ _=>.gv g,by simp,by simpa only[bi] using hk⟩
 | .tup _,K,hk| .gp _,K,hk| .iptr ..,K,hk| .undef,K,hk=>by simp only[bi] at hk
theorem fl:∀{l:List V} {K:List V→List Nat→Prop},iu os fs h l K→∃l' ws,Hk os fs n h ws l l'∧(∀b∈ws,pg h os fs b)∧K l' ws
 |[],K,hk=>⟨[],[],⟨rfl,fun hin H W _ i hi=>by simp[ag] at hi⟩,by simp,by simpa only[iu] using hk⟩
 |v::l,K,hk=>by
  simp only[iu] at hk
  obtain⟨v',ws,h1,h2,hk⟩:=o9 hk
  obtain⟨l',ws',h3,h4,hk⟩:=fl hk
  refine⟨v'::l',ws++ws',⟨by simp only[ag,List.length_cons,h3.1],fun hin H W hW i hi=>?_⟩,fun b hb=>?_,hk⟩
  ·cases i with
   |zero=>simpa[ag] using h1 hin H W fun b hb=>hW b (List.mem_append_left _ hb)
   |succ i=>
    have:=h3.2 hin H W (fun b hb=>hW b (List.mem_append_right _ hb)) i (by simpa[ag] using hi)
    simpa[ag] using this
  ·rcases List.mem_append.1 hb with hb|hb
   ·exact h2 b hb
   ·exact h4 b hb
end
def ir (os fs:List Nat)(h:VH):List V→(List V→List Nat→Prop)→Prop
 |[],K=>K [] []
 | .nils::l,K=>ir os fs h l fun l ws=>K (.nils::l) ws
 |v::l,K=>bi os fs h v fun v' ws=>ir os fs h l fun l' ws'=>K (v'::l') (ws++ws')
theorem mj:∀{l:List V} {K:List V→List Nat→Prop},ir os fs h l K→∃l' ws,Hk os fs n h ws l l'∧(∀b∈ws,pg h os fs b)∧K l' ws
 |[],K,hk=>⟨[],[],⟨rfl,fun hin H W _ i hi=>by simp[ag] at hi⟩,by simp,by simpa only[ir] using hk⟩
 |v::l,K,hk=>by
  have key:∃v' ws,Vw os fs n h ws v v'∧(∀b∈ws,pg h os fs b)∧ir os fs h l fun l' ws'=>K (v'::l') (ws++ws'):=by
   by_cases e:v= .nils
   ·subst e
    exact⟨.nils,[],fun hin H W _=>.nils,by simp,by simpa only[ir,List.nil_append] using hk⟩
   ·have hk':bi os fs h v fun v' ws=>ir os fs h l fun l' ws'=>K (v'::l') (ws++ws'):=by
     cases v<;>first|exact hk|exact absurd rfl e
    obtain⟨v',ws,h1,h2,hk⟩:=o9 (n:=n) hk'
    exact⟨v',ws,h1,h2,hk⟩
  obtain⟨v',ws,h1,h2,hk⟩:=key
  obtain⟨l',ws',h3,h4,hk⟩:=mj hk
  refine⟨v'::l',ws++ws',⟨by simp only[ag,List.length_cons,h3.1],fun hin H W hW i hi=>?_⟩,fun b hb=>?_,hk⟩
  ·cases i with
   |zero=>simpa[ag] using h1 hin H W fun b hb=>hW b (List.mem_append_left _ hb)
   |succ i=>
    have:=h3.2 hin H W (fun b hb=>hW b (List.mem_append_right _ hb)) i (by simpa[ag] using hi)
    simpa[ag] using this
  ·rcases List.mem_append.1 hb with hb|hb
   ·exact h2 b hb
   ·exact h4 b hb
def wy (os fs:List Nat)(h:VH)(x:VB)(K:VB→List Nat→Prop):Prop:=
 match x with
 | .var T cs=>iu os fs h cs fun cs ws=>K (.var T cs) ws
 | .vari T pre m t xs post=>Chk (BS t.fams fs) (ir os fs h pre fun pre ws=>ir os fs h post fun post ws'=>K (.vari T pre m t xs post) (ws++ws'))
 | .row E t xs=>Chk (BS t.fams fs) (K (.row E t xs) [])
 | .lit E vs=>iu os fs h vs fun vs ws=>K (.lit E vs) ws
 |_=>False
def GZ (os fs:List Nat)(n:Nat)(h:VH)(ws:List Nat)(x x':VB):Prop:=∃d d',x.blks=[d]∧x'.blks=[d']∧∀hin,HinOK os fs h hin→∀W:List Id,FV h ws W→ViewB (toH h) (gI (gN os n)) hin W fs d d'
theorem du {A B:List D}{i:Nat}(hi:i<A.length):(A++B).getD i .undef=A.getD i .undef:=by simp[List.getD_eq_getElem?_getD,List.getElem?_append_left hi]
theorem dw {A B:List D}{i:Nat}(hi:A.length≤i):(A++B).getD i .undef=B.getD (i-A.length) .undef:=by simp[List.getD_eq_getElem?_getD,List.getElem?_append_right hi]
theorem zc {x:VB}{K:VB→List Nat→Prop}(hk:wy os fs h x K):∃x' ws,GZ os fs n h ws x x'∧(∀b∈ws,pg h os fs b)∧K x' ws:=by
 unfold wy at hk
 split at hk
 ·rename_i T cs
  obtain⟨cs',ws,h1,h2,hk⟩:=fl (n:=n) hk
  exact⟨_,ws,⟨_,_,rfl,rfl,fun hin H W hW=>.var T _ _ h1.1 (h1.2 hin H W hW)⟩,h2,hk⟩
 ·rename_i T pre m t xs post
  obtain⟨c,hk⟩:=hk.ok
  obtain⟨pre',ws,h1,h2,hk⟩:=mj (n:=n) hk
  obtain⟨post',ws',h3,h4,hk⟩:=mj (n:=n) hk
  refine⟨_,ws++ws',⟨_,_,rfl,rfl,fun hin H W hW=>.var T _ _ ?_ fun i hi=>?_⟩,fun b hb=>(List.mem_append.1 hb).elim (h2 b) (h4 b),hk⟩
  ·simp only[List.length_append,h1.1,h3.1]
  ·have g1:=h1.2 hin H W (fun b hb=>hW b (List.mem_append_left _ hb))
   have g3:=h3.2 hin H W (fun b hb=>hW b (List.mem_append_right _ hb))
   by_cases c1:i<(ag pre).length
   ·rw[List.append_assoc,List.append_assoc,du (A:=ag pre) c1,du (A:=ag pre') (by rw[←h1.1];exact c1)]
    exact g1 i c1
   ·rw[List.append_assoc,List.append_assoc,dw (A:=ag pre) (by omega),dw (A:=ag pre') (by rw[←h1.1];omega),←h1.1]
    simp only[List.length_append] at hi
    by_cases c2:i-(ag pre).length<(xs.map (ab t)).length
    ·rw[du c2,du c2]
     obtain⟨e,he,hee⟩:=List.mem_map.1 (aK c2)
     rw[←hee]
     exact lr H (rY c) e
    ·rw[dw (by omega),dw (by omega)]
     exact g3 _ (by omega)
 ·rename_i E t xs
  obtain⟨c,hk⟩:=hk.ok
  refine⟨_,[],⟨_,_,rfl,rfl,fun hin H W hW=>.row E _ _ rfl fun i hi=>?_⟩,by simp,hk⟩
  obtain⟨e,he,hee⟩:=List.mem_map.1 (aK hi)
  rw[←hee]
  exact lr H (rY c) e
 ·rename_i E cs
  obtain⟨cs',ws,h1,h2,hk⟩:=fl (n:=n) hk
  exact⟨_,ws,⟨_,_,rfl,rfl,fun hin H W hW=>.row E _ _ h1.1 (h1.2 hin H W hW)⟩,h2,hk⟩
 ·exact hk.elim
def BL (os fs:List Nat)(h:VH):List Nat→Nat→(VH→List Nat→Prop)→Prop
 |[],_,K=>K [] []
 |b::l,i,K=>cO h b fun x=>wy os fs h x fun x' ws=>eg (i+1) fun j=>BL os fs h l j fun r ws'=>K ((i,x')::r) (ws++ws')
theorem uw:∀{l:List Nat} {i:Nat} {K:VH→List Nat→Prop},BL os fs h l i K→∃hs ws,(∀k x,look hs k=some x→∃m,k=i+m∧m<l.length)∧(∀m b,l[m]?=some b→∃x x',look h b=some x∧look hs (i+m)=some x'∧GZ os fs n h ws x x')∧(∀b∈ws,pg h os fs b)∧K hs ws
 |[],i,K,hk=>⟨[],[],(fun k x hx=>by cases hx),by simp,by simp,hk⟩
 |b::l,i,K,hk=>by
  obtain⟨x,hx,hk⟩:=aH hk
  obtain⟨x',ws,h1,h2,hk⟩:=zc (n:=n) hk
  obtain⟨hs,ws',h3,h4,h5,hk⟩:=uw (aX hk)
  refine⟨(i,x')::hs,ws++ws',fun k y hy=>?_,fun m b' hm=>?_,fun b hb=>(List.mem_append.1 hb).elim (h2 b) (h5 b),hk⟩
  ·simp only[look] at hy
   split at hy
   ·rename_i e;exact⟨0,by omega,by simp⟩
   ·obtain⟨m,e1,e2⟩:=h3 k y hy
    exact⟨m+1,by omega,by simpa using e2⟩
  ·cases m with
   |zero=>
    simp only[List.getElem?_cons_zero,Option.some.injEq] at hm
    subst hm
    obtain⟨d,d',e1,e2,e3⟩:=h1
    exact⟨x,x',hx,by simp[look],d,d',e1,e2,fun hin H W hW=>e3 hin H W fun b hb=>hW b (List.mem_append_left _ hb)⟩
   |succ m=>
    obtain⟨y,y',q1,q2,d,d',e1,e2,e3⟩:=h4 m b' (by simpa using hm)
    refine⟨y,y',q1,?_,d,d',e1,e2,fun hin H W hW=>e3 hin H W fun b hb=>hW b (List.mem_append_right _ hb)⟩
    simp only[look]
    rw[if_neg (by omega),show i+(m+1)=i+1+m by omega]
    exact q2
def VB.fams:VB→List Nat
 | .vari _ _ _ t _ _=>t.fams
 | .row _ t _=>t.fams
 | .fvar _ t _=>t.fams
 | .fvari _ _ t _=>t.fams
 | .frow _ t _=>t.fams
 | .frowx _ t _=>t.fams
 |_=>[]
def z9 (fs:List Nat)(h:VH):List Nat→(VH→Prop)→Prop
 |[],K=>K []
 |k::l,K=>cO h k fun x=>Chk (!x.sgl && BS x.fams fs) (z9 fs h l fun r=>K ((k,x)::r))
theorem s4:∀{l:List Nat} {K:VH→Prop},z9 fs h l K→∃hf,(∀k x,look hf k=some x→k∈l∧look h k=some x∧x.sgl=false∧∀j∈x.fams,j∈fs)∧(∀k∈l,∃x,look hf k=some x)∧K hf
 |[],K,hk=>⟨[],(fun k x hx=>by cases hx),by simp,hk⟩
 |k::l,K,hk=>by
  obtain⟨x,hx,hk⟩:=aH hk
  obtain⟨c,hk⟩:=hk.ok
  simp only[Bool.and_eq_true,Bool.not_eq_true'] at c
  obtain⟨hf,h1,h2,hk⟩:=s4 hk
  refine⟨(k,x)::hf,fun j y hy=>?_,fun j hj=>?_,hk⟩
  ·simp only[look] at hy
   split at hy
   ·rename_i e
    simp only[Option.some.injEq] at hy
    subst hy e
    exact⟨List.mem_cons_self ..,hx,c.1,rY c.2⟩
   ·obtain⟨q1,q2⟩:=h1 j y hy
    exact⟨List.mem_cons_of_mem _ q1,q2⟩
  ·simp only[look]
   by_cases e:j=k
   ·exact⟨x,by rw[if_pos e]⟩
   ·rw[if_neg e]
    rcases List.mem_cons.1 hj with rfl|hj
    ·exact absurd rfl e
    ·exact h2 j hj
theorem B4 {x:VB}{hin:HL}{W:List Id}(H:HinOK os fs h hin)(hs:x.sgl=false)(hf:∀j∈x.fams,j∈fs):∀d∈x.blks,ViewB (toH h) (gI (gN os n)) hin W fs d d:=by
 intro d hd
 have key:∀(t:Ty) (xs:List t.den),(∀k∈t.fams,k∈fs)→∀i,i<(xs.map (ab t)).length→View (toH h) (gI (gN os n)) hin W fs ((xs.map (ab t)).getD i .undef) ((xs.map (ab t)).getD i .undef):=by
  intro t xs ht i hi
  obtain⟨e,he,hee⟩:=List.mem_map.1 (aK hi)
  rw[←hee]
  exact lr H ht e
 cases x<;>simp[VB.sgl] at hs
 ·rename_i T t xs
  obtain⟨e,_,rfl⟩:=List.mem_map.1 hd
  refine .var T _ _ rfl fun i hi=>?_
  have hv:View (toH h) (gI (gN os n)) hin W fs (ab t e) (ab t e):=lr H hf e
  exact(hv.wf (dD t e)).2 i (by rw[←(dD t e).1];exact hi)
 ·rename_i T m t xss
  obtain⟨xs,_,rfl⟩:=List.mem_map.1 hd
  exact .var T _ _ rfl (key t xs hf)
 ·rename_i E t xss
  obtain⟨xs,_,rfl⟩:=List.mem_map.1 hd
  exact .row E _ _ rfl (key t xs hf)
 ·rename_i E t xss
  obtain⟨xs,_,rfl⟩:=List.mem_map.1 hd
  cases xs with
  |none=>exact .gone
  |some xs=>exact .row E _ _ rfl (key t xs hf)
end Go.Proofs.YthmfppknagbkeaaGreat.Am
namespace Go.Proofs.YthmfppknagbkeaaGreat.Am
open Go Go.RowKit
variable {P:Program} {os fs:List Nat} {n:Nat} {h:VH}
mutual
def hJ:V→Bool
 | .lst .. | .box .. | .iptr .. | .obo .. | .gp _| .gv _=>false
 | .agg cs=>ey cs
 | .tup cs=>ey cs
 | .clo _ cs=>ey cs
 | .ifc _ v=>hJ v
 |_=>true
def ey:List V→Bool
 |[]=>true
 |v::l=>hJ v && ey l
end
theorem dN (k:Nat)(o:Option Nat):noMem (jp k o)=true:=by cases o<;>rfl
theorem oM (k:Nat)(o:Option Nat):noMem (mF k o)=true:=by cases o<;>rfl
mutual
theorem lW:∀v:V,hJ v=true→noMem v.toD=true
 | .agg cs,hv=>by simp only[hJ] at hv;simp only[V.toD,noMem,cK cs hv]
 | .tup cs,hv=>by simp only[hJ] at hv;simp only[V.toD,noMem,cK cs hv]
 | .clo f cs,hv=>by simp only[hJ] at hv;simp only[V.toD,noMem,cK cs hv]
 | .ifc T v,hv=>by simp only[hJ] at hv;simp only[V.toD,noMem,lW v hv]
 | .hro k o,_=>dN k o
 | .hpo k o,_=>oM k o
 | .lst ..,hv| .box ..,hv| .iptr ..,hv| .obo ..,hv| .gp _,hv| .gv _,hv=>by simp only[hJ] at hv;cases hv
 | .int ..,_| .bool _,_| .tt,_| .ff,_| .str _,_| .nilp,_| .nils,_| .nilf,_| .nili,_| .ref _,_| .ptr ..,_| .eptr ..,_| .vref ..,_| .aptr ..,_| .fref ..,_| .fptr ..,_| .feptr ..,_| .faptr ..,_| .undef,_| .junk,_=>by simp only[V.toD,noMem]
theorem cK:∀l:List V,ey l=true→dM (ag l)=true
 |[],_=>rfl
 |v::l,hv=>by
  simp only[ey,Bool.and_eq_true] at hv
  simp only[ag,dM,lW v hv.1,cK l hv.2,Bool.and_self]
end
def Ty.flat:Ty→Bool
 | .int _| .bool| .str| .txn| .slt| .hr _| .hp _| .vtxo _| .pplo _ _| .evto _=>true
 |_=>false
theorem oh {t:Ty}(h:t.flat=true)(x:t.den):(ab t x).cells.all noMem=true:=by
 cases t<;>first|(cases h;done)|rfl|skip
 ·simp only[ab,(kJ _ x).2];simp[dN]
 ·simp only[ab,(kI _ x).2];simp[oM]
 ·simp[ab,D.cells,noMem,dN]
 ·simp[ab,D.cells,noMem,dN]
 ·simp[ab,D.cells,noMem,dN]
theorem ta {t:Ty}(h:t.flat=true)(x:t.den):noMem (ab t x)=true:=by
 cases t<;>first|(cases h;done)|rfl|skip
 ·exact dN _ x
 ·exact oM _ x
 ·simp[ab,noMem,dM,dN]
 ·simp[ab,noMem,dM,dN]
 ·simp[ab,noMem,dM,dN]
def nq:VB→Bool
 | .var _ cs=>ey cs
 | .vari _ pre _ t _ post=>ey pre && ey post && t.flat
 | .row _ t _=>t.flat
 | .lit _ vs=>vs.all fun v=>ey v.cells
 | .froz _ _| .fvb _ _=>false
 | .fvar _ t _=>t.flat
 | .fvari _ _ t _=>t.flat
 | .frow _ t _=>t.flat
 | .frowx _ t _=>t.flat
 | .moved .. | .gone=>true
theorem v9 (l:List D):dM l=true↔∀d∈l,noMem d=true:=by rw[eh,List.all_eq_true]
theorem wa {x:VB}(h:nq x=true):∀d∈x.blks,noMemB d=true:=by
 intro d hd
 have kc:∀(t:Ty) (xs:List t.den),t.flat=true→∀e∈xs.map (ab t),e.cells.all noMem=true:=by
  intro t xs ht e he
  obtain⟨x,_,rfl⟩:=List.mem_map.1 he
  exact oh ht x
 have kd:∀(t:Ty) (xs:List t.den),t.flat=true→∀e∈xs.map (ab t),noMem e=true:=by
  intro t xs ht e he
  obtain⟨x,_,rfl⟩:=List.mem_map.1 he
  exact ta ht x
 cases x with
 |var T cs=>
  obtain rfl:=List.mem_singleton.1 hd
  simp only[noMemB,←eh]
  exact cK cs h
 |vari T pre m t xs post=>
  obtain rfl:=List.mem_singleton.1 hd
  simp only[nq,Bool.and_eq_true] at h
  simp only[noMemB,List.all_append,←eh,cK _ h.1.1,cK _ h.1.2,Bool.true_and,Bool.and_true]
  rw[v9]
  exact kd t xs h.2
 |row E t xs=>
  obtain rfl:=List.mem_singleton.1 hd
  simp only[noMemB,List.all_eq_true]
  intro e he
  exact List.all_eq_true.1 (kc t xs h e he)
 |lit E vs=>
  obtain rfl:=List.mem_singleton.1 hd
  simp only[nq,List.all_eq_true] at h
  simp only[noMemB,bw,List.all_map,List.all_eq_true]
  intro v hv
  have:=cK _ (h v hv)
  rw[eh] at this
  simp only[Function.comp,aM]
  exact this
 |froz t xs=>cases h
 |fvb t x=>cases h
 |fvar T t xs=>
  obtain⟨e,_,rfl⟩:=List.mem_map.1 hd
  exact oh h e
 |fvari T m t xss=>
  obtain⟨xs,_,rfl⟩:=List.mem_map.1 hd
  simp only[noMemB,List.all_eq_true]
  exact kd t xs h
 |frow E t xss=>
  obtain⟨xs,_,rfl⟩:=List.mem_map.1 hd
  simp only[noMemB,List.all_eq_true]
  intro e he
  exact List.all_eq_true.1 (kc t xs h e he)
 |frowx E t xss=>
  obtain⟨xs,_,rfl⟩:=List.mem_map.1 hd
  cases xs with
  |none=>rfl
  |some xs=>
   simp only[rowX,noMemB,List.all_eq_true]
   intro e he
   exact List.all_eq_true.1 (kc t xs h e he)
 |moved k i=>obtain rfl:=List.mem_singleton.1 hd;rfl
 |gone=>obtain rfl:=List.mem_singleton.1 hd;rfl
mutual
def cy (g:Nat→Nat)(v:V)(K:V→Prop):Prop:=
 match v with
 | .ref b=>eg (g b) fun b=>K (.ref b)
 | .vref b o n=>eg (g b) fun b=>K (.vref b o n)
 | .ptr b o=>eg (g b) fun b=>K (.ptr b o)
 | .eptr b i o=>eg (g b) fun b=>K (.eptr b i o)
 | .aptr b p i=>eg (g b) fun b=>K (.aptr b p i)
 | .fref k i=>Chk (Nat.beq (g k) k) (K (.fref k i))
 | .fptr k i o=>Chk (Nat.beq (g k) k) (K (.fptr k i o))
 | .feptr k i j o=>Chk (Nat.beq (g k) k) (K (.feptr k i j o))
 | .faptr k i p j=>Chk (Nat.beq (g k) k) (K (.faptr k i p j))
 | .hro k o=>Chk (Nat.beq (g k) k) (K (.hro k o))
 | .hpo k o=>Chk (Nat.beq (g k) k) (K (.hpo k o))
 | .agg cs=>iX g cs fun cs=>K (.agg cs)
 | .tup cs=>iX g cs fun cs=>K (.tup cs)
 | .clo f cs=>iX g cs fun cs=>K (.clo f cs)
 | .ifc T v=>cy g v fun v=>K (.ifc T v)
 | .int k n=>K (.int k n)
 | .bool b=>K (.bool b)
 | .tt=>K .tt
 | .ff=>K .ff
 | .str s=>K (.str s)
 | .lst t xs=>K (.lst t xs)
 | .box t x=>K (.box t x)
 | .nilp=>K .nilp
 | .nils=>K .nils
 | .nilf=>K .nilf
 | .nili=>K .nili
 | .gp g=>K (.gp g)
 | .gv g=>K (.gv g)
 | .iptr t x o=>K (.iptr t x o)
 | .obo t o=>K (.obo t o)
 | .undef=>K .undef
 | .junk=>K .junk
def iX (g:Nat→Nat)(l:List V)(K:List V→Prop):Prop:=
 match l with
 |[]=>K []
 |v::l=>cy g v fun v=>iX g l fun l=>K (v::l)
end
theorem iW {g:Nat→Nat}{k:Nat}(hk:g k=k)(o:Option Nat):renD (gI g) (jp k o)=jp k o:=by
 cases o with
 |none=>rfl
 |some i=>simp[jp,renD,hk]
theorem Bz {g:Nat→Nat}{k:Nat}(hk:g k=k)(o:Option Nat):renD (gI g) (mF k o)=mF k o:=by
 cases o with
 |none=>rfl
 |some i=>simp[mF,renD,hk]
mutual
theorem rM {g:Nat→Nat}:∀{v:V} {K:V→Prop},cy g v K→∃r,renD (gI g) v.toD=r.toD∧K r
 | .ref b,K,h=>⟨.ref (g b),rfl,aX (by simpa only[cy] using h)⟩
 | .vref b o n,K,h=>⟨.vref (g b) o n,rfl,aX (by simpa only[cy] using h)⟩
 | .ptr b o,K,h=>⟨.ptr (g b) o,rfl,aX (by simpa only[cy] using h)⟩
 | .eptr b i o,K,h=>⟨.eptr (g b) i o,rfl,aX (by simpa only[cy] using h)⟩
 | .aptr b p i,K,h=>⟨.aptr (g b) p i,rfl,aX (by simpa only[cy] using h)⟩
 | .fref k i,K,h=>by simp only[cy] at h;obtain⟨c,h⟩:=h.ok;exact⟨.fref k i,by simp[V.toD,renD,Nat.eq_of_beq_eq_true c],h⟩
 | .fptr k i o,K,h=>by simp only[cy] at h;obtain⟨c,h⟩:=h.ok;exact⟨.fptr k i o,by simp[V.toD,renD,Nat.eq_of_beq_eq_true c],h⟩
 | .feptr k i j o,K,h=>by simp only[cy] at h;obtain⟨c,h⟩:=h.ok;exact⟨.feptr k i j o,by simp[V.toD,renD,Nat.eq_of_beq_eq_true c],h⟩
 | .faptr k i p j,K,h=>by simp only[cy] at h;obtain⟨c,h⟩:=h.ok;exact⟨.faptr k i p j,by simp[V.toD,renD,Nat.eq_of_beq_eq_true c],h⟩
 | .hro k o,K,h=>by simp only[cy] at h;obtain⟨c,h⟩:=h.ok;exact⟨.hro k o,iW (Nat.eq_of_beq_eq_true c) o,h⟩
 | .hpo k o,K,h=>by simp only[cy] at h;obtain⟨c,h⟩:=h.ok;exact⟨.hpo k o,Bz (Nat.eq_of_beq_eq_true c) o,h⟩
 | .agg cs,K,h=>by
  simp only[cy] at h
  obtain⟨r,h1,h2⟩:=eO h
  exact⟨.agg r,by simp only[V.toD,renD,h1],h2⟩
 | .tup cs,K,h=>by
  simp only[cy] at h
  obtain⟨r,h1,h2⟩:=eO h
  exact⟨.tup r,by simp only[V.toD,renD,h1],h2⟩
 | .clo f cs,K,h=>by
  simp only[cy] at h
  obtain⟨r,h1,h2⟩:=eO h
  exact⟨.clo f r,by simp only[V.toD,renD,h1],h2⟩
 | .ifc T v,K,h=>by
  simp only[cy] at h
  obtain⟨r,h1,h2⟩:=rM h
  exact⟨.ifc T r,by simp only[V.toD,renD,h1],h2⟩
 | .int k n,K,h=>⟨.int k n,rfl,by simpa only[cy] using h⟩
 | .bool b,K,h=>⟨.bool b,rfl,by simpa only[cy] using h⟩
 | .tt,K,h=>⟨.tt,rfl,by simpa only[cy] using h⟩
 | .ff,K,h=>⟨.ff,rfl,by simpa only[cy] using h⟩
 | .str s,K,h=>⟨.str s,rfl,by simpa only[cy] using h⟩
 | .lst t xs,K,h=>⟨.lst t xs,rfl,by simpa only[cy] using h⟩
 | .box t x,K,h=>⟨.box t x,rfl,by simpa only[cy] using h⟩
 | .nilp,K,h=>⟨.nilp,rfl,by simpa only[cy] using h⟩
 | .nils,K,h=>⟨.nils,rfl,by simpa only[cy] using h⟩
 | .nilf,K,h=>⟨.nilf,rfl,by simpa only[cy] using h⟩
 | .nili,K,h=>⟨.nili,rfl,by simpa only[cy] using h⟩
 | .gp g,K,h=>⟨.gp g,rfl,by simpa only[cy] using h⟩
 | .gv g,K,h=>⟨.gv g,rfl,by simpa only[cy] using h⟩
 | .iptr t x o,K,h=>⟨.iptr t x o,rfl,by simpa only[cy] using h⟩
 | .obo t o,K,h=>⟨.obo t o,by cases o<;>rfl,by simpa only[cy] using h⟩
 | .undef,K,h=>⟨.undef,rfl,by simpa only[cy] using h⟩
 | .junk,K,h=>⟨.junk,rfl,by simpa only[cy] using h⟩
theorem eO {g:Nat→Nat}:∀{l:List V} {K:List V→Prop},iX g l K→∃r,le (gI g) (ag l)=ag r∧K r
 |[],K,h=>⟨[],rfl,by simpa only[iX] using h⟩
 |v::l,K,h=>by
  simp only[iX] at h
  obtain⟨v',h1,h2⟩:=rM h
  obtain⟨l',h3,h4⟩:=eO h2
  exact⟨v'::l',by simp only[ag,le,h1,h3],h4⟩
end
def s9 (g:Nat→Nat)(l:List Nat):Bool:=l.all fun k=>Nat.beq (g k) k
theorem jm {g:Nat→Nat}{l:List Nat}(h:s9 g l=true):∀k∈l,g k=k:=by
 unfold s9 at h
 rw[List.all_eq_true] at h
 exact fun k hk=>Nat.eq_of_beq_eq_true (h k hk)
theorem xP {g:Nat→Nat}{t:Ty}(ht:∀k∈t.fams,g k=k)(x:t.den):renD (gI g) (ab t x)=ab t x:=by
 cases t<;>try rfl
 case ob t=>cases x<;>rfl
 case hr k=>exact iW (ht k (by simp[Ty.fams])) x
 case hp k=>exact Bz (ht k (by simp[Ty.fams])) x
 case vtxo k=>simp only[ab,renD,le,iW (ht k (by simp[Ty.fams]))]
 case pplm k=>simp only[ab,eZ,List.cons_append,List.nil_append,renD,le,iW (ht k (by simp[Ty.fams])),dI]
 case pplo k k'=>simp only[ab,renD,le,iW (ht k (by simp[Ty.fams])),iW (ht k' (by simp[Ty.fams]))]
 case evto k=>simp only[ab,renD,le,iW (ht k (by simp[Ty.fams]))]
 case nod k=>simp only[ab,eZ,List.cons_append,List.nil_append,renD,le,iW (ht k (by simp[Ty.fams])),dI]
def Bw (g:Nat→Nat)(x:VB)(K:VB→Prop):Prop:=
 match x with
 | .var T cs=>iX g cs fun cs=>K (.var T cs)
 | .vari T pre m t xs post=>Chk (s9 g t.fams) (iX g pre fun pre=>iX g post fun post=>K (.vari T pre m t xs post))
 | .row E t xs=>Chk (s9 g t.fams) (K (.row E t xs))
 | .lit E vs=>iX g vs fun vs=>K (.lit E vs)
 | .froz t xs=>K (.froz t xs)
 | .fvb t x=>K (.fvb t x)
 | .fvar T t xs=>Chk (s9 g t.fams) (K (.fvar T t xs))
 | .fvari T m t xss=>Chk (s9 g t.fams) (K (.fvari T m t xss))
 | .frow E t xss=>Chk (s9 g t.fams) (K (.frow E t xss))
 | .frowx E t xss=>Chk (s9 g t.fams) (K (.frowx E t xss))
 | .moved k i=>eg (g k) fun k=>K (.moved k i)
 | .gone=>K .gone
theorem lg {g:Nat→Nat}{t:Ty}(ht:∀k∈t.fams,g k=k)(xs:List t.den):(xs.map (ab t)).map (renD (gI g))=xs.map (ab t):=by
 rw[List.map_map]
 exact List.map_congr_left fun x _=>xP ht x
theorem Bx {g:Nat→Nat}{x:VB}{K:VB→Prop}(h:Bw g x K):∃y,y.blks=x.blks.map (renB (gI g))∧K y:=by
 unfold Bw at h
 split at h
 ·obtain⟨r,h1,h2⟩:=eO h
  exact⟨_,by simp only[VB.blks,List.map_cons,List.map_nil,renB,←eA,h1],h2⟩
 ·rename_i T pre m t xs post
  obtain⟨c,h⟩:=h.ok
  obtain⟨r,h1,h2⟩:=eO h
  obtain⟨r2,h3,h4⟩:=eO h2
  refine⟨_,?_,h4⟩
  rw[eA] at h1 h3
  simp only[VB.blks,List.map_cons,List.map_nil,renB,List.map_append,h1,h3,lg (jm c)]
 ·rename_i E t xs
  obtain⟨c,h⟩:=h.ok
  exact⟨_,by simp only[VB.blks,List.map_cons,List.map_nil,renB,lg (jm c)],h⟩
 ·obtain⟨r,h1,h2⟩:=eO h
  exact⟨_,by simp only[VB.blks,List.map_cons,List.map_nil,renB,←eA,h1],h2⟩
 ·exact⟨_,rfl,h⟩
 ·exact⟨_,rfl,h⟩
 ·rename_i T t xs
  obtain⟨c,h⟩:=h.ok
  refine⟨_,?_,h⟩
  simp only[VB.blks,List.map_map]
  refine List.map_congr_left fun x _=>?_
  simp only[Function.comp,renB]
  rw[←ig,xP (jm c)]
 ·rename_i T m t xss
  obtain⟨c,h⟩:=h.ok
  refine⟨_,?_,h⟩
  simp only[VB.blks,List.map_map]
  refine List.map_congr_left fun xs _=>?_
  simp only[Function.comp,renB,lg (jm c)]
 ·rename_i E t xss
  obtain⟨c,h⟩:=h.ok
  refine⟨_,?_,h⟩
  simp only[VB.blks,List.map_map]
  refine List.map_congr_left fun xs _=>?_
  simp only[Function.comp,renB,lg (jm c)]
 ·rename_i E t xss
  obtain⟨c,h⟩:=h.ok
  refine⟨_,?_,h⟩
  simp only[VB.blks,List.map_map]
  refine List.map_congr_left fun xs _=>?_
  cases xs with
  |none=>rfl
  |some xs=>simp only[Function.comp,rowX,renB,lg (jm c)]
 ·exact⟨_,rfl,aX h⟩
 ·exact⟨_,rfl,h⟩
def A7 (g:Nat→Nat):VH→(VH→Prop)→Prop
 |[],K=>K []
 |(k,x)::l,K=>Bw g x fun y=>eg (g k) fun b=>A7 g l fun u=>K ((b,y)::u)
inductive RenVH (g:Nat→Nat):VH→VH→Prop where
 |nil:RenVH g [] []
 |cons {k:Nat} {x y:VB} {l u:VH} (hy:y.blks=x.blks.map (renB (gI g))) (hl:RenVH g l u):RenVH g ((k,x)::l) ((g k,y)::u)
theorem t6 {g:Nat→Nat}:∀{l:VH} {K:VH→Prop},A7 g l K→∃u,RenVH g l u∧K u
 |[],K,h=>⟨[],.nil,h⟩
 |(k,x)::l,K,h=>by
  obtain⟨y,h1,h2⟩:=Bx h
  obtain⟨u,h3,h4⟩:=t6 (aX h2)
  exact⟨(g k,y)::u,.cons h1 h3,h4⟩
theorem RenVH.look {g:Nat→Nat}(hg:∀a b,g a=g b→a=b){l u:VH}(hr:RenVH g l u):(∀k,(Am.look l k=none→Am.look u (g k)=none)∧∀x,Am.look l k=some x→∃y,Am.look u (g k)=some y∧y.blks=x.blks.map (renB (gI g)))∧∀b,(∀k,Am.look l k≠none→g k≠b)→Am.look u b=none:=by
 induction hr with
 |nil=>exact⟨fun k=>⟨fun _=>rfl,fun x hx=>by cases hx⟩,fun b _=>rfl⟩
 | @cons k0 x0 y0 l u hy hl ih=>
  refine⟨fun k=>?_,fun b hb=>?_⟩
  ·by_cases e:k=k0
   ·subst e
    refine⟨fun hn=>by simp[Am.look] at hn,fun x hx=>⟨y0,by simp[Am.look],?_⟩⟩
    simp[Am.look] at hx
    subst hx
    exact hy
   ·have e':¬g k=g k0:=fun he=>e (hg _ _ he)
    simp only[Am.look,if_neg e,if_neg e']
    exact ih.1 k
  ·have e':¬b=g k0:=fun he=>hb k0 (by simp[Am.look]) he.symm
   simp only[Am.look,if_neg e']
   refine ih.2 b fun k hk=>hb k ?_
   simp only[Am.look]
   split
   ·simp
   ·exact hk
theorem RenVH.keys {g:Nat→Nat}{l u:VH}(hr:RenVH g l u):u.map (·.1)=l.map (fun p=>g p.1):=by
 induction hr with
 |nil=>rfl
 |cons hy hl ih=>simp[ih]
end Go.Proofs.YthmfppknagbkeaaGreat.Am
namespace Go.Proofs.YthmfppknagbkeaaGreat.Am
open Go Go.RowKit
variable {P:Program} {os fs:List Nat} {n:Nat} {h:VH}
theorem lX {α β:Type}{f:α→β}{l:List α}(hf:∀a b,f a=f b→a=b)(h:l.Nodup):(l.map f).Nodup:=List.pairwise_map.2 (List.Pairwise.imp (fun hne e=>hne (hf _ _ e)) h)
theorem kP {κ α:Type}[DecidableEq κ]{us g:List (κ×α)}(hn:(us.map (·.1)).Nodup)(b:κ):look (puts us g) b=match look us b with|some y=>some y|none=>look g b:=by
 cases hl:look us b with
 |some y=>exact fY us g b y hn (bE hl)
 |none=>
  refine av us g b fun x hx he=>?_
  have:=eJ hn (k:=x.1) (a:=x.2) hx
  rw[he,hl] at this
  cases this
theorem lU {κ α:Type}[DecidableEq κ](us:List (κ×α)){g g':List (κ×α)}(b:κ)(hg:look g b=look g' b):look (puts us g) b=look (puts us g') b:=by
 induction us generalizing g g' with
 |nil=>exact hg
 |cons x us ih=>
  show look (puts us (put x.1 x.2 g)) b=look (puts us (put x.1 x.2 g')) b
  refine ih ?_
  rw[ai,ai,hg]
theorem qo:∀(s:List Nat) (l:VH),(∀p∈pE s l,p.1.1∉s)∧((pE s l).map (·.1)).Nodup
 |s,[]=>⟨by simp[pE],by simp[pE]⟩
 |s,(k,x)::l=>by
  obtain⟨ih1,ih2⟩:=qo (k::s) l
  have hfam:∀p∈fam k x.blks,p.1.1=k:=by
   intro p hp
   obtain⟨q,_,rfl⟩:=List.mem_map.1 hp
   rfl
  have hnd:((fam k x.blks).map (·.1)).Nodup:=by
   have e:∀(l:List Blk) (q:Nat),(((l.zipIdx q).map fun p:Blk×Nat=>(((k,p.2),p.1):Id×Blk)).map (·.1))=(List.range' q l.length).map fun i=>((k,i):Id):=by
    intro l
    induction l with
    |nil=>intro q;rfl
    |cons y l ih=>intro q;simp only[List.zipIdx_cons,List.map_cons,List.length_cons,List.range'_succ,ih]
   unfold fam
   rw[e]
   exact lX (fun a b hab=>by simpa using hab) List.nodup_range'
  simp only[pE]
  cases hc:s.contains k with
  |true=>
   simp only[cond_true,List.nil_append]
   exact⟨fun p hp hs=>ih1 p hp (List.mem_cons_of_mem _ hs),ih2⟩
  |false=>
   have hk:k∉s:=by simpa using hc
   simp only[cond_false,List.map_append]
   refine⟨fun p hp=>?_,List.nodup_append.2 ⟨hnd,ih2,fun a ha b hb he=>?_⟩⟩
   ·rcases List.mem_append.1 hp with hp|hp
    ·rw[hfam p hp];exact hk
    ·exact fun hs=>ih1 p hp (List.mem_cons_of_mem _ hs)
   ·obtain⟨p,hp,rfl⟩:=List.mem_map.1 ha
    obtain⟨q,hq,rfl⟩:=List.mem_map.1 hb
    have:=ih1 q hq
    rw[←he,hfam p hp] at this
    exact this (List.mem_cons_self ..)
theorem o8 (l:VH):((toH l).map (·.1)).Nodup:=(qo [] l).2
theorem xz {l:VH}{p:Id×Blk}(hp:p∈toH l):∃x,look l p.1.1=some x∧p.2∈x.blks:=by
 have h1:=eJ (o8 l) (k:=p.1) (a:=p.2) hp
 rw[al] at h1
 obtain⟨x,h2,h3⟩:=Option.bind_eq_some_iff.1 h1
 exact⟨x,h2,List.mem_of_getElem? h3⟩
theorem pY {g:Id→Id}(hg:∀a b,g a=g b→a=b):∀(l:HL),(∀b,look (renH g l) (g b)=(look l b).map (renB g))∧∀c,(∀b,look l b≠none→g b≠c)→look (renH g l) c=none
 |[]=>⟨fun b=>rfl,fun c _=>rfl⟩
 |(b0,x)::l=>by
  obtain⟨h1,h2⟩:=pY hg l
  refine⟨fun b=>?_,fun c hc=>?_⟩
  ·show look ((g b0,renB g x)::renH g l) (g b)=_
   simp only[look]
   by_cases e:b=b0
   ·subst e;simp
   ·rw[if_neg fun he=>e (hg _ _ he),if_neg e]
    exact h1 b
  ·show look ((g b0,renB g x)::renH g l) c=none
   simp only[look]
   rw[if_neg fun he=>hc b0 (by simp[look]) he.symm]
   refine h2 c fun b hb=>hc b ?_
   simp only[look]
   split
   ·simp
   ·exact hb
theorem yW {g:Id→Id}(hg:∀a b,g a=g b→a=b){l:HL}(hn:(l.map (·.1)).Nodup):((renH g l).map (·.1)).Nodup:=by
 unfold renH
 rw[List.map_map]
 have:(fun x:Id×Blk=>x.1)∘(fun p:Id×Blk=>(g p.1,renB g p.2))=g∘(fun x:Id×Blk=>x.1):=rfl
 rw[this,←List.map_map]
 exact lX hg hn
theorem yb {g:Nat→Nat}(hg:∀a b,g a=g b→a=b){hout u h0:VH}{H:HL}(hH:∀b,look H b=look (toH h0) b)(hr:RenVH g hout u)(hn:(hout.map (·.1)).Nodup)(hc:∀k x,look hout k=some x→∀j,x.blks.length≤j→look (toH h0) (g k,j)=none):
  (∀b,look (puts (renH (gI g) (toH hout)) H) b=look (toH (puts u h0)) b)∧∀x∈renH (gI g) (toH hout),x.1.1∈u.map (·.1):=by
 have hgI:∀a b:Id,gI g a=gI g b→a=b:=by
  rintro⟨a1,a2⟩ ⟨b1,b2⟩ he
  simp only[gI,Prod.mk.injEq] at he⊢
  exact⟨hg _ _ he.1,he.2⟩
 have hun:(u.map (·.1)).Nodup:=by
  rw[hr.keys]
  have:(fun p:Nat×VB=>g p.1)=g∘(fun x:Nat×VB=>x.1):=rfl
  rw[this,←List.map_map]
  exact lX hg hn
 obtain⟨q1,q2⟩:=pY hgI (toH hout)
 obtain⟨r1,r2⟩:=hr.look hg
 refine⟨fun b=>?_,fun x hx=>?_⟩
 ·rw[kP (yW hgI (o8 hout)),al,kP hun,hH]
  by_cases hex:∃k x,look hout k=some x∧g k=b.1
  ·obtain⟨k,x,hk,he⟩:=hex
   obtain⟨y,y1,y2⟩:=(r1 k).2 x hk
   have e1:b=gI g (k,b.2):=by simp[gI,he]
   rw[←he,y1,he]
   have e2:look (renH (gI g) (toH hout)) b=(x.blks[b.2]?).map (renB (gI g)):=by
    rw[e1,q1,al,hk];rfl
   rw[e2]
   simp only[Option.bind_some,y2,List.getElem?_map]
   cases hx:x.blks[b.2]? with
   |some d=>rfl
   |none=>
    simp only[Option.map_none]
    have:=hc k x hk b.2 (by simpa using hx)
    rw[he] at this
    exact this
  ·have e1:look u b.1=none:=r2 b.1 fun k hk he=>hex (by
    cases hl:look hout k with
    |none=>exact absurd hl hk
    |some x=>exact⟨k,x,hl,he⟩)
   have e2:look (renH (gI g) (toH hout)) b=none:=q2 b fun c hcl he=>hex (by
    rw[al] at hcl
    cases hl:look hout c.1 with
    |none=>rw[hl] at hcl;exact absurd rfl hcl
    |some x=>exact⟨c.1,x,hl,by rw[←he]⟩)
   rw[e1,e2]
   exact al h0 b
 ·obtain⟨p,hp,rfl⟩:=List.mem_map.1 hx
  obtain⟨x,h1,_⟩:=xz hp
  obtain⟨y,h2,_⟩:=(r1 p.1.1).2 x h1
  exact List.mem_map.2 ⟨_,bE h2,rfl⟩
def GY (h:VH):List Nat→(VH→Prop)→Prop
 |[],K=>K []
 |b::l,K=>GY h l fun u=>(match aA h b with
  |some (.row _ t xs)=>Chk t.pure (K ((b,.froz t xs)::u))
  |some (.frow ..)=>False
  |some (.frowx ..)=>False
  |_=>K u)
def uR (h:VH):List Nat→VH
 |[]=>[]
 |b::l=>match aA h b with
  |some (.row _ t xs)=>(b,.froz t xs)::uR h l
  |_=>uR h l
theorem wE:∀{l:List Nat} {K:VH→Prop},GY h l K→K (uR h l)∧∀b∈l,¬GP h b
 |[],K,hk=>⟨hk,by simp⟩
 |b::l,K,hk=>by
  obtain⟨this,h2⟩:=wE (l:=l) hk
  simp only[uR]
  have key:K (match aA h b with
   |some (.row _ t xs)=>(b,.froz t xs)::uR h l
   |_=>uR h l)∧¬GP h b:=by
   cases hl:aA h b with
   |none=>
    rw[hl] at this
    rw[az] at hl
    exact⟨this,fun hf=>by rcases hf with⟨E,t,xs,hf⟩|⟨E,t,xs,hf⟩|⟨E,t,xs,_,hf⟩<;>rw[hl] at hf<;>cases hf⟩
   |some x=>
    rw[hl] at this
    rw[az] at hl
    have hx:(∀E t xs,x≠ .frow E t xs)→(∀E t xs,x≠ .frowx E t xs)→(∀E t xs,t.pure=false→x≠ .row E t xs)→¬GP h b:=fun h1 h2 h3 hf=>by
     rcases hf with⟨E,t,xs,hf⟩|⟨E,t,xs,hf⟩|⟨E,t,xs,hp,hf⟩<;>rw[hl] at hf<;>cases hf
     ·exact h1 _ _ _ rfl
     ·exact h2 _ _ _ rfl
     ·exact h3 _ _ _ hp rfl
    cases x<;>first|exact this.elim|exact⟨this.ok.2,hx (fun _ _ _ he=>by cases he) (fun _ _ _ he=>by cases he) (fun _ _ _ hp he=>by cases he;rw[this.ok.1] at hp;cases hp)⟩|exact⟨this,hx (fun _ _ _ he=>by cases he) (fun _ _ _ he=>by cases he) (fun _ _ _ _ he=>by cases he)⟩
  exact⟨key.1,fun c hc=>(List.mem_cons.1 hc).elim (fun e=>e▸key.2) (h2 c)⟩
theorem kQ:∀(ws:List Nat) (g:VH) (b:Nat),look (puts (uR h ws) g) b=if b∈ws then(match look h b with|some (.row _ t xs)=>some (.froz t xs)|_=>look g b) else look g b
 |[],g,b=>by simp[uR,puts]
 |c::ws,g,b=>by
  simp only[uR]
  rw[az]
  split
  ·rename_i E t xs hc
   show look (puts (uR h ws) (put c (.froz t xs) g)) b=_
   rw[kQ ws,ai]
   by_cases hb:b=c
   ·subst hb
    simp only[if_true,List.mem_cons,true_or,hc]
    split
    ·rfl
    ·rfl
   ·by_cases hm:b∈ws
    ·simp[hm,hb]
    ·simp[hm,hb]
  ·rename_i hc
   rw[kQ ws]
   by_cases hb:b=c
   ·subst hb
    have:(match look h b with|some (VB.row _ t xs)=>some (VB.froz t xs)|_=>look g b)=look g b:=by
     split
     ·rename_i e;exact absurd e (hc _ _ _)
     ·rfl
    simp[this]
   ·simp[hb]
theorem B2 {ws:List Nat}(hw:∀b∈ws,GO h b):bt h (frz (toH h) (ws.map fun b=>(b,0))) (uR h ws)∧∀b∈ws.map (fun b=>((b,0):Id)),∀x,look (toH h) b=some x→x.mutable=true→(frzB (toH h) b).isSome=true:=by
 have fz:∀b E t,∀xs:List (Ty.den t),look h b=some (.row E t xs)→t.pure=true→frzB (toH h) (b,0)=some (.froz (xs.map (ab t))):=by
  intro b E t xs hb hp
  have hl:=am (i:=0) hb (d:=.row E (xs.map (ab t))) rfl
  simp[frzB,hl,row_pure hp]
 refine⟨⟨fun b=>?_,fun x hx=>?_⟩,fun b hb x hx hmu=>?_⟩
 ·obtain⟨b1,b2⟩:=b
  rw[bH,al (puts (uR h ws) h),kQ]
  by_cases hm:b1∈ws
  ·rw[if_pos hm]
   rcases hw b1 hm with⟨E,t,xs,hp,hb⟩|⟨t,xs,hb⟩|⟨t,x,hb⟩
   ·rw[hb]
    simp only[Option.bind_some,VB.blks]
    cases b2 with
    |zero=>
     rw[if_pos (List.mem_map.2 ⟨b1,hm,rfl⟩),fz b1 E t xs hb hp]
     rfl
    |succ j=>
     rw[if_neg (by simp)]
     exact Bj hb rfl (j+1) (by simp)
   ·rw[hb]
    have e:frzB (toH h) (b1,b2)=none:=by
     unfold frzB
     rw[al,hb]
     simp only[Option.bind_some,VB.blks]
     cases b2<;>simp
    rw[e]
    simp only[ite_self]
    rw[al,hb]
   ·rw[hb]
    have e:frzB (toH h) (b1,b2)=none:=by
     unfold frzB
     rw[al,hb]
     simp only[Option.bind_some,VB.blks]
     cases b2<;>simp
    rw[e]
    simp only[ite_self]
    rw[al,hb]
  ·rw[if_neg (fun hmem=>by obtain⟨c,hc,he⟩:=List.mem_map.1 hmem;simp only[Prod.mk.injEq] at he;exact hm (he.1▸hc)),if_neg hm,al]
 ·obtain⟨c,hc,hcx⟩:=List.mem_filterMap.1 hx
  obtain⟨y,hy,rfl⟩:=Option.map_eq_some_iff.1 hcx
  obtain⟨b,hb,rfl⟩:=List.mem_map.1 hc
  show b∈(uR h ws).map (·.1)
  rcases hw b hb with⟨E,t,xs,hp,hl⟩|⟨t,xs,hl⟩|⟨t,x,hl⟩
  ·have:look (puts (uR h ws) []) b=some (.froz t xs):=by rw[kQ,if_pos hb,hl]
   rcases Classical.em (b∈(uR h ws).map (·.1)) with h1|h1
   ·exact h1
   ·rw[av _ _ _ fun x hx e=>h1 (List.mem_map.2 ⟨x,hx,e⟩)] at this
    cases this
  ·exfalso
   have:=am (i:=0) hl (d:=.froz (xs.map (ab t))) rfl
   simp[frzB,this] at hy
  ·exfalso
   have:=am (i:=0) hl (d:=.fvar (ab t x).cells) rfl
   simp[frzB,this] at hy
 ·obtain⟨c,hc,rfl⟩:=List.mem_map.1 hb
  rcases hw c hc with⟨E,t,xs,hp,hl⟩|⟨t,xs,hl⟩|⟨t,x',hl⟩
  ·rw[fz c E t xs hl hp];rfl
  ·have:=am (i:=0) hl (d:=.froz (xs.map (ab t))) rfl
   rw[this] at hx;cases hx;cases hmu
  ·have:=am (i:=0) hl (d:=.fvar (ab t x').cells) rfl
   rw[this] at hx;cases hx;cases hmu
end Go.Proofs.YthmfppknagbkeaaGreat.Am
namespace Go.Proofs.YthmfppknagbkeaaGreat.Am
open Go Go.RowKit
variable {P:Program} {os fs:List Nat} {n:Nat} {h:VH}
def ao:VB→Nat
 | .fvar _ _ xs=>xs.length
 | .fvari _ _ _ xss=>xss.length
 | .frow _ _ xss=>xss.length
 | .frowx _ _ xss=>xss.length
 |_=>1
theorem jj (x:VB):x.blks.length=ao x:=by cases x<;>simp[VB.blks,ao]
def keysV:VH→List Nat
 |[]=>[]
 |(k,_)::l=>k::keysV l
theorem da:∀l:VH,l.map (·.1)=keysV l
 |[]=>rfl
 |(k,x)::l=>by simp[keysV,da l]
def vk (h:VH)(fs:List Nat):VH→Prop→Prop
 |[],K=>K
 |(k,x)::l,K=>match Nat.blt k 4 with
  |true=>Chk (!x.sgl) (match aA h k with
   |none=>vk h fs l K
   |some y=>Chk (fs.contains k && !y.sgl) (bN (ao y≤ao x) (vk h fs l K)))
  |false=>Chk x.sgl (vk h fs l K)
theorem wS {K:Prop}:∀{l:VH},vk h fs l K→(∀k x,look l k=some x→(k<4∧∀y,look h k=some y→k∈fs∧ao y≤ao x)∨(4≤k∧x.sgl=true))∧K
 |[],hk=>⟨(fun k x hx=>by cases hx),hk⟩
 |(k0,x0)::l,hk=>by
  simp only[vk] at hk
  have key:((k0<4∧∀y,look h k0=some y→k0∈fs∧ao y≤ao x0)∨(4≤k0∧x0.sgl=true))∧vk h fs l K:=by
   split at hk
   ·rename_i hb
    have hlt:k0<4:=by simpa[Nat.blt_eq] using hb
    obtain⟨c,hk⟩:=hk.ok
    split at hk
    ·rename_i hn
     rw[az] at hn
     exact⟨.inl ⟨hlt,fun y hy=>by rw[hn] at hy;cases hy⟩,hk⟩
    ·rename_i y hy
     rw[az] at hy
     obtain⟨c2,hle,hk⟩:=hk.ok
     simp only[Bool.and_eq_true] at c2
     exact⟨.inl ⟨hlt,fun y' hy'=>by rw[hy] at hy';obtain rfl:=Option.some.inj hy';exact⟨by simpa using c2.1,hle⟩⟩,hk⟩
   ·rename_i hb
    obtain⟨c,hk⟩:=hk.ok
    have hge:4≤k0:=by
     rcases Nat.lt_or_ge k0 4 with hlt|hge
     ·have:Nat.blt k0 4=true:=by simpa[Nat.blt_eq] using hlt
      rw[hb] at this;cases this
     ·exact hge
    exact⟨.inr ⟨hge,c⟩,hk⟩
  obtain⟨k1,k2⟩:=key
  obtain⟨h1,h2⟩:=wS k2
  refine⟨fun k x hx=>?_,h2⟩
  simp only[look] at hx
  split at hx
  ·rename_i e;cases hx;subst e;exact k1
  ·exact h1 k x hx
def CK (hout:VH):List Nat→Nat→Bool
 |[],_=>true
 |_::l,i=>(aA hout i).isSome && CK hout l (i+1)
theorem xl {hout:VH}:∀{l:List Nat} {i:Nat},CK hout l i=true→∀m,m<l.length→∃x,look hout (i+m)=some x
 |[],i,_,m,hm=>by simp at hm
 |_::l,i,hb,m,hm=>by
  simp only[CK,Bool.and_eq_true,az] at hb
  cases m with
  |zero=>exact Option.isSome_iff_exists.1 hb.1
  |succ m=>
   have:=xl hb.2 m (by simpa using hm)
   rwa [show i+1+m=i+(m+1) by omega] at this
def xD (l:VH):Bool:=l.all fun p=>nq p.2
def mz (P:Program)(h:VH)(n:Nat)(f:FuncId)(vs:List V)(os fs:List Nat)(K:V→VH→List Nat→Prop):Prop:=
 Chk (yP os n && fs.all (fun k=>Nat.blt k 4)) (iu os fs h vs fun vs' ws=>z9 fs h fs fun hf=>BL os fs h os 4 fun hs ws'=>Cj hf hs fun hin=>eC P f vs' hin fun r hout=>
  Chk (fZ (keysV hout) && fs.all (fun k=>(aA hout k).isSome) && CK hout os 4) (vk h fs hout (cy (gN os n) r fun r'=>A7 (gN os n) hout fun u=>
   match hJ r && xD hout with
   |true=>K r' u ((ws++ws')++fs++keysV u)
   |false=>GY h (ws++ws') fun u0=>K r' (u0++u) ((ws++ws')++fs++keysV u))))
theorem zC {f:FuncId}{vs:List V}{K:V→VH→List Nat→Prop}(hfr:∀c:Id,n≤c.1→look (toH h) c=none)(hk:mz P h n f vs os fs K):
  ∃r u vu gl,(∀f':List Nat,(∀k∈gl,k∈f')→∃c:CallOK P f (toH h) n (ag vs) r.toD u f',∀b,Live c.hout b→(c.g b).1∈f')∧bt h u vu∧K r vu gl:=by
 obtain⟨c0,hk⟩:=hk.ok
 simp only[Bool.and_eq_true,List.all_eq_true] at c0
 obtain⟨c1,c2⟩:=c0
 have hlow:∀k∈fs,k<4:=fun k hk=>by simpa[Nat.blt_eq] using c2 k hk
 obtain⟨o1,o2,o3⟩:=xH c1
 obtain⟨vs',ws,v1,v2,hk⟩:=fl (n:=n) hk
 obtain⟨hf,f1,f2,hk⟩:=s4 hk
 obtain⟨hs,ws',s1,s2,s3,hk⟩:=uw (n:=n) hk
 have hk:=qC hk
 obtain⟨r,hout,hcon,hk⟩:=hk
 obtain⟨c3,hk⟩:=hk.ok
 simp only[Bool.and_eq_true,List.all_eq_true] at c3
 obtain⟨⟨c3,c4⟩,c5⟩:=c3
 obtain⟨cov,hk⟩:=wS hk
 obtain⟨r',r1,hk⟩:=rM hk
 obtain⟨u,hr,hk⟩:=t6 hk
 have hg:∀a b,gN os n a=gN os n b→a=b:=fun a b=>Ao c1
 have hgI:∀a b:Id,gI (gN os n) a=gI (gN os n) b→a=b:=fun a b=>An c1
 have hin_look:∀k x,look (hf++hs) k=some x→(k∈fs∧look hf k=some x)∨(∃m b,k=4+m∧os[m]?=some b∧look hs k=some x):=by
  intro k x hx
  rw[eI] at hx
  cases hl:look hf k with
  |some y=>
   rw[hl] at hx
   obtain rfl:=Option.some.inj hx
   exact .inl ⟨(f1 k _ hl).1,rfl⟩
  |none=>
   rw[hl] at hx
   obtain⟨m,rfl,hm⟩:=s1 k x hx
   exact .inr ⟨m,os[m],rfl,List.getElem?_eq_getElem hm,hx⟩
 have hf_none:∀m,look hf (4+m)=none:=by
  intro m
  cases hl:look hf (4+m) with
  |none=>rfl
  |some y=>have:=hlow _ (f1 _ _ hl).1;omega
 have hin_sgl:∀m b,os[m]?=some b→∃x x',look h b=some x∧look (hf++hs) (4+m)=some x'∧GZ os fs n h ws' x x':=by
  intro m b hb
  obtain⟨x,x',q1,q2,q3⟩:=s2 m b hb
  exact⟨x,x',q1,by rw[eI,hf_none];exact q2,q3⟩
 have hin_fam:∀k∈fs,∃x,look (hf++hs) k=some x∧look h k=some x∧x.sgl=false∧∀j∈x.fams,j∈fs:=by
  intro k hk
  obtain⟨x,hx⟩:=f2 k hk
  obtain⟨_,q2,q3,q4⟩:=f1 k x hx
  exact⟨x,by rw[eI,hx],q2,q3,q4⟩
 have H:HinOK os fs h (toH (hf++hs)):=by
  refine⟨hlow,fun m b hb=>?_,fun k hk i hl=>?_⟩
  ·obtain⟨x,x',q1,q2,d,d',e1,e2,e3⟩:=hin_sgl m b hb
   exact Live.of_look (am q2 (by rw[e2];rfl))
  ·obtain⟨x,q1,q2,q3,q4⟩:=hin_fam k hk
   unfold Live at hl⊢
   rw[al,q2] at hl
   rw[al,q1]
   exact hl
 have live_in:∀b,Live (toH (hf++hs)) b→(b.1∈fs∧∃x,look h b.1=some x∧look (hf++hs) b.1=some x∧b.2<x.blks.length)∨∃m c,b=(4+m,0)∧os[m]?=some c:=by
  intro b hb
  unfold Live at hb
  rw[al] at hb
  cases hl:look (hf++hs) b.1 with
  |none=>rw[hl] at hb;cases hb
  |some x=>
   rw[hl] at hb
   simp only[Option.bind_some] at hb
   rcases hin_look _ _ hl with⟨g1,g2⟩|⟨m,c,e,g1,g2⟩
   ·obtain⟨_,q2,q3,q4⟩:=f1 _ _ g2
    refine .inl ⟨g1,x,q2,rfl,?_⟩
    rcases Nat.lt_or_ge b.2 x.blks.length with hlt|hge
    ·exact hlt
    ·rw[List.getElem?_eq_none hge] at hb;cases hb
   ·obtain⟨y,y',q1,q2,d,d',e1,e2,_⟩:=hin_sgl m c g1
    rw[e,q2] at hl
    obtain rfl:=Option.some.inj hl
    rw[e2] at hb
    refine .inr ⟨m,c,?_,g1⟩
    obtain⟨b1,b2⟩:=b
    simp only at e hb⊢
    cases b2 with
    |zero=>rw[e]
    |succ j=>simp at hb
 have hcov:∀k x,look hout k=some x→∀j,x.blks.length≤j→look (toH h) (gN os n k,j)=none:=by
  intro k x hx j hj
  rcases m9 os n k with⟨a1,a2⟩|⟨m,b,rfl,a1,a2⟩|⟨m,rfl,a1,a2⟩<;>rw[a2]
  ·rcases cov k x hx with⟨_,q⟩|⟨q,_⟩
   ·rw[al]
    cases hl:look h k with
    |none=>rfl
    |some y=>
     simp only[Option.bind_some]
     rw[List.getElem?_eq_none]
     have:=(q y hl).2
     rw[←jj,←jj] at this
     omega
   ·omega
  ·rcases cov _ x hx with⟨q,_⟩|⟨_,q⟩
   ·omega
   ·obtain⟨d,hd⟩:=VB.sgl_ok q
    rw[hd] at hj
    simp only[List.length_singleton] at hj
    obtain⟨y,y',q1,q2,e,e',e1,e2,_⟩:=hin_sgl m b a1
    rw[al,q1]
    simp only[Option.bind_some,e1]
    rw[List.getElem?_eq_none]
    simpa using hj
  ·exact hfr _ (by show n≤n+_;omega)
 have hW:∀b∈ws++ws',pg h os fs b:=fun b hb=>(List.mem_append.1 hb).elim (v2 b) (s3 b)
 have hkeys:=o8 hout
 have hnd:(hout.map (·.1)).Nodup:=by rw[da];exact fh c3
 have hukeys:∀b,Live (toH hout) b→(gI (gN os n) b).1∈keysV u:=by
  intro b hb
  unfold Live at hb
  rw[al] at hb
  cases hl:look hout b.1 with
  |none=>rw[hl] at hb;cases hb
  |some x=>
   obtain⟨y,y1,_⟩:=((hr.look hg).1 b.1).2 x hl
   rw[←da]
   exact List.mem_map.2 ⟨_,bE y1,rfl⟩
 have mk:∀(uu:HL) (W:List Id),FV h (ws++ws') W→(∀b∈W,b.1∈ws++ws')→((noMem r.toD=true∧(∀p∈toH hout,noMemB p.2=true)∧uu=renH (gI (gN os n)) (toH hout))∨((∀b∈W,∀x,look (toH h) b=some x→x.mutable=true→(frzB (toH h) b).isSome=true)∧uu=frz (toH h) W++renH (gI (gN os n)) (toH hout)))→
   ∀f':List Nat,(∀k∈(ws++ws')++fs++keysV u,k∈f')→∃c:CallOK P f (toH h) n (ag vs) r'.toD uu f',∀b,Live c.hout b→(c.g b).1∈f':=by
  intro uu W hcW hWs hupd f' hf'
  refine⟨⟨gI (gN os n),W,fs,ag vs',toH (hf++hs),r.toD,toH hout,hcon,v1.1,?_,?_,hkeys,fun b b' _ _ he=>hgI b b' he,?_,?_,?_,⟨?_,?_,?_⟩,r1.symm,hupd⟩,?_⟩
  ·exact v1.2 _ H _ fun b hb=>hcW b (List.mem_append_left _ hb)
  ·intro b x' hx
   have hlv:Live (toH (hf++hs)) b:=Live.of_look hx
   rcases live_in b hlv with⟨g1,x,g2,g3,g4⟩|⟨m,c,rfl,g1⟩
   ·rw[al,g3] at hx
    refine⟨x',by simp only[gI,lL os n (hlow _ g1)];rw[al,g2];exact hx,?_⟩
    obtain⟨y,y1,y2,y3,y4⟩:=hin_fam _ g1
    rw[g2] at y2
    obtain rfl:=Option.some.inj y2
    exact B4 H y3 y4 x' (List.mem_of_getElem? hx)
   ·obtain⟨y,y',q1,q2,d,d',e1,e2,e3⟩:=hin_sgl m c g1
    rw[al,q2] at hx
    simp only[Option.bind_some,e2,List.getElem?_cons_zero,Option.some.injEq] at hx
    subst hx
    refine⟨d,?_,e3 _ H _ fun b hb=>hcW b (List.mem_append_right _ hb)⟩
    simp only[gI,ew,cJ g1]
    exact am q1 (by rw[e1];rfl)
  ·intro b hb
   rcases live_in b hb with⟨g1,x,g2,g3,g4⟩|⟨m,c,rfl,g1⟩
   ·have hl:=c4 _ g1
    rw[az] at hl
    obtain⟨y,hy⟩:=Option.isSome_iff_exists.1 hl
    rcases cov _ _ hy with⟨_,q⟩|⟨q,_⟩
    ·have:=(q x g2).2
     rw[←jj,←jj] at this
     unfold Live
     rw[al,hy]
     simp only[Option.bind_some]
     rw[List.getElem?_eq_getElem (by omega)]
     rfl
    ·have:=hlow _ g1;omega
   ·obtain⟨y,hy⟩:=xl c5 m (List.getElem?_eq_some_iff.1 g1).1
    rcases cov _ _ hy with⟨q,_⟩|⟨_,q⟩
    ·omega
    ·obtain⟨d,hd⟩:=VB.sgl_ok q
     exact Live.of_look (am hy (by rw[hd];rfl))
  ·intro b hb hnb
   have hb':=hb
   unfold Live at hb
   rw[al] at hb
   cases hl:look hout b.1 with
   |none=>rw[hl] at hb;cases hb
   |some x=>
    rw[hl] at hb
    rcases m9 os n b.1 with⟨a1,a2⟩|⟨m,c,e,a1,a2⟩|⟨m,e,a1,a2⟩<;>simp only[gI]<;>rw[a2]
    ·cases hh:look h b.1 with
     |none=>rw[al,hh];rfl
     |some y=>
      rcases cov _ _ hl with⟨_,q⟩|⟨q,_⟩
      ·obtain⟨g1,_⟩:=q y hh
       obtain⟨z,z1,z2,_⟩:=hin_fam _ g1
       rw[hh] at z2
       obtain rfl:=Option.some.inj z2
       unfold Live at hnb
       rw[al,z1] at hnb
       rw[al,hh]
       simpa using hnb
      ·omega
    ·exfalso
     rcases cov _ _ hl with⟨q,_⟩|⟨_,q⟩
     ·omega
     ·obtain⟨d,hd⟩:=VB.sgl_ok q
      simp only[Option.bind_some,hd] at hb
      obtain⟨b1,b2⟩:=b
      simp only at e hb hnb
      cases b2 with
      |zero=>exact hnb (by rw[e];exact H.sgl m c a1)
      |succ j=>simp at hb
    ·exact hfr _ (by show n≤n+_;omega)
  ·intro b hb b' hb' he
   obtain⟨q1,q2⟩:=hW _ (hWs b hb)
   obtain⟨c,i⟩:=b
   rcases live_in b' hb' with⟨g1,x,g2,g3,g4⟩|⟨m,c',rfl,g1⟩
   ·simp only[gI,lL os n (hlow _ g1),Prod.mk.injEq] at he
    obtain⟨y,y1,y2,y3,_⟩:=hin_fam _ g1
    rw[he.1] at y2
    rcases q2 with(⟨E,t,xs,_,hb⟩|⟨t,xs,hb⟩|⟨t,x,hb⟩)|⟨q2,_⟩
    ·rw[y2] at hb;cases hb;cases y3
    ·rw[y2] at hb;cases hb;cases y3
    ·rw[y2] at hb;cases hb;cases y3
    ·exact q2 (he.1▸g1)
   ·simp only[gI,ew,cJ g1,Prod.mk.injEq] at he
    obtain⟨he,_⟩:=he
    subst he
    exact q1 (List.mem_of_getElem? g1)
  ·exact fun b hb=>.inl (hf' _ (List.mem_append_right _ (hukeys b hb)))
  ·exact fun b hb=>hf' _ (List.mem_append_left _ (List.mem_append_left _ (hWs b hb)))
  ·exact fun k hk=>hf' _ (List.mem_append_left _ (List.mem_append_right _ hk))
  ·exact fun b hb=>hf' _ (List.mem_append_right _ (hukeys b hb))
 split at hk
 ·rename_i hm
  simp only[Bool.and_eq_true,xD,List.all_eq_true] at hm
  refine⟨r',_,u,_,mk _ (((toH h).map (·.1)).filter fun b=>decide (b.1∈ws++ws')) (fun b hb i hl=>?_) (fun b hb=>by simpa using(List.mem_filter.1 hb).2) (.inl ⟨lW r hm.1,fun p hp=>?_,rfl⟩),yb hg (fun _=>rfl) hr hnd hcov,hk⟩
  ·refine List.mem_filter.2 ⟨?_,by simpa using hb⟩
   obtain⟨d,hd⟩:=Option.isSome_iff_exists.1 hl
   exact List.mem_map.2 ⟨_,bE hd,rfl⟩
  obtain⟨x,x1,x2⟩:=xz hp
  exact wa (hm.2 _ (bE x1)) _ x2
 ·obtain⟨hk,hnf⟩:=wE hk
  have hW1:∀b∈ws++ws',GO h b:=fun b hb=>(hW b hb).2.elim id fun q=>(hnf b hb q.2).elim
  obtain⟨w1,w2⟩:=B2 hW1
  refine⟨r',_,_,_,mk _ ((ws++ws').map fun b=>(b,0)) (fun b hb i hl=>?_) (fun b hb=>by obtain⟨c,hc,rfl⟩:=List.mem_map.1 hb;exact hc) (.inr ⟨w2,rfl⟩),?_,hk⟩
  ·have h0:i=0:=by
    unfold Live at hl
    cases i with
    |zero=>rfl
    |succ j=>
     rcases hW1 b hb with⟨E,t,xs,_,hx⟩|⟨t,xs,hx⟩|⟨t,x,hx⟩<;>rw[Bj hx rfl (j+1) (by simp)] at hl<;>cases hl
   subst h0
   exact List.mem_map.2 ⟨b,hb,rfl⟩
  have hcov':∀k x,look hout k=some x→∀j,x.blks.length≤j→look (toH (puts (uR h (ws++ws')) h)) (gN os n k,j)=none:=by
   intro k x hx j hj
   have h1:=hcov k x hx j hj
   rw[←w1.1,bH]
   split
   ·rename_i y hy
    exfalso
    split at hy
    ·obtain⟨⟨z,z1,_⟩,_⟩:=gm hy
     rw[h1] at z1;cases z1
    ·cases hy
   ·exact h1
  obtain⟨q1,q2⟩:=yb hg w1.1 hr hnd hcov'
  refine⟨fun b=>?_,fun x hx=>?_⟩
  ·rw[aQ,aQ];exact q1 b
  ·rw[List.map_append]
   rcases List.mem_append.1 hx with hx|hx
   ·exact List.mem_append_left _ (w1.2 x hx)
   ·exact List.mem_append_right _ (q2 x hx)
end Go.Proofs.YthmfppknagbkeaaGreat.Am
namespace Go.Proofs.YthmfppknagbkeaaGreat.Am
open Go Go.RowKit
variable {P:Program} {N:Nat} {Θ:TT} {t:VT} {h:VH} {n:Nat}
mutual
theorem re (g:HL):∀(d:D),∀b∈aj (fwd g d),b∈aj d∨∃c∈aj d,look g c=some (.moved b)
 | .ref c,b,hb=>by
  simp only[fwd] at hb
  split at hb
  ·rename_i c' hc
   simp only[aj,List.mem_singleton] at hb
   subst hb
   exact .inr ⟨c,by simp[aj],hc⟩
  ·cases hb
  ·exact .inl hb
 | .ptr c o,b,hb=>by
  simp only[fwd] at hb
  split at hb
  ·rename_i c' hc
   simp only[aj,List.mem_singleton] at hb
   subst hb
   exact .inr ⟨c,by simp[aj],hc⟩
  ·split at hb<;>cases hb
  ·exact .inl hb
 | .eptr c i o,b,hb=>by
  simp only[fwd] at hb
  split at hb
  ·rename_i c' hc
   simp only[aj,List.mem_singleton] at hb
   subst hb
   exact .inr ⟨c,by simp[aj],hc⟩
  ·exact .inl hb
 | .vref c o q,b,hb=>by
  simp only[fwd] at hb
  split at hb
  ·rename_i c' hc
   simp only[aj,List.mem_singleton] at hb
   subst hb
   exact .inr ⟨c,by simp[aj],hc⟩
  ·exact .inl hb
 | .ifc T d,b,hb=>by
  simp only[fwd,aj] at hb
  rcases re g d b hb with h1|⟨c,h1,h2⟩
  ·exact .inl (by simpa only[aj] using h1)
  ·exact .inr ⟨c,by simpa only[aj] using h1,h2⟩
 | .clo f cs,b,hb=>by
  simp only[fwd,aj] at hb
  rcases kD g cs b hb with h1|⟨c,h1,h2⟩
  ·exact .inl (by simpa only[aj] using h1)
  ·exact .inr ⟨c,by simpa only[aj] using h1,h2⟩
 | .agg cs,b,hb=>by
  simp only[fwd,aj] at hb
  rcases kD g cs b hb with h1|⟨c,h1,h2⟩
  ·exact .inl (by simpa only[aj] using h1)
  ·exact .inr ⟨c,by simpa only[aj] using h1,h2⟩
 | .tup cs,b,hb=>by
  simp only[fwd,aj] at hb
  rcases kD g cs b hb with h1|⟨c,h1,h2⟩
  ·exact .inl (by simpa only[aj] using h1)
  ·exact .inr ⟨c,by simpa only[aj] using h1,h2⟩
 | .int ..,b,hb| .bool _,b,hb| .str _,b,hb| .lst _,b,hb| .box _,b,hb| .nilp,b,hb| .nils,b,hb| .nilf,b,hb| .nili,b,hb| .gp _,b,hb| .gv _,b,hb| .iptr ..,b,hb| .undef,b,hb| .junk,b,hb=>by simp[fwd,aj] at hb
theorem kD (g:HL):∀(l:List D),∀b∈aO (gX g l),b∈aO l∨∃c∈aO l,look g c=some (.moved b)
 |[],b,hb=>by simp[gX,aO] at hb
 |d::l,b,hb=>by
  simp only[gX,aO,List.mem_append] at hb⊢
  rcases hb with hb|hb
  ·rcases re g d b hb with h1|⟨c,h1,h2⟩
   ·exact .inl (.inl h1)
   ·exact .inr ⟨c,.inl h1,h2⟩
  ·rcases kD g l b hb with h1|⟨c,h1,h2⟩
   ·exact .inl (.inr h1)
   ·exact .inr ⟨c,.inr h1,h2⟩
end
def A4 (h:VH):List Nat→List Nat
 |[]=>[]
 |b::l=>match aA h b with
  |some (.moved k _)=>k::A4 h l
  |_=>A4 h l
theorem xB:∀{l:List Nat} {b k i:Nat},b∈l→look h b=some (.moved k i)→k∈A4 h l
 |c::l,b,k,i,hb,hl=>by
  simp only[A4]
  rcases List.mem_cons.1 hb with rfl|hb
  ·rw[az,hl];simp
  ·have:=xB hb hl
   split
   ·exact List.mem_cons_of_mem _ this
   ·exact this
theorem A5 {c b:Id}(hc:look (toH h) c=some (.moved b)):look h c.1=some (.moved b.1 b.2):=by
 rw[al] at hc
 obtain⟨x,h1,h2⟩:=Option.bind_eq_some_iff.1 hc
 rw[h1]
 have hm:=List.mem_of_getElem? h2
 cases x<;>simp only[VB.blks,List.mem_singleton,List.mem_map,reduceCtorEq,and_false,exists_false,Blk.moved.injEq] at hm
 case frowx=>
  obtain⟨y,_,e⟩:=hm
  cases y<;>cases e
 rw[hm]
def BJ (t:VT)(h:VH)(x:Operand):List Nat:=match x with
 | .tmp k=>(match aA t k with|some v=>dZ v++A4 h (dZ v)|none=>[])
 |_=>[]
def bY (t:VT)(h:VH):List Operand→List Nat
 |[]=>[]
 |x::l=>BJ t h x++bY t h l
theorem wc {v:Value}{d:D}(h:fM v=some d)(g:HL):aj d=[]∧aj (fwd g d)=[]:=by
 unfold fM at h
 split at h<;>first|(simp only[Option.some.injEq] at h;subst h;exact⟨by simp[aj],by simp[fwd,aj]⟩)|cases h
theorem BK (x:Operand):∀k∈lh (dV t) (toH h) x,k∈BJ t h x:=by
 intro k hk
 unfold lh at hk
 cases x with
 |tmp j=>
  simp only[aB,bF] at hk
  simp only[BJ,az]
  cases hl:look t j with
  |none=>rw[hl] at hk;cases hk
  |some v=>
   rw[hl] at hk
   simp only[Option.map_some] at hk
   rcases List.mem_append.1 hk with hk|hk
   ·obtain⟨b,hb,rfl⟩:=List.mem_map.1 hk
    exact List.mem_append_left _ (gr v b hb)
   ·obtain⟨b,hb,rfl⟩:=List.mem_map.1 hk
    rcases re _ _ b hb with h1|⟨c,h1,h2⟩
    ·exact List.mem_append_left _ (gr v b h1)
    ·exact List.mem_append_right _ (xB (gr v c h1) (A5 h2))
 |const v=>
  simp only[aB] at hk
  cases hv:fM v with
  |none=>rw[hv] at hk;cases hk
  |some d=>
   rw[hv] at hk
   obtain⟨e1,e2⟩:=wc hv (toH h)
   simp[e1,e2,jo] at hk
 |global g=>
  simp only[aB] at hk
  by_cases hg:(look Gl g).isSome=true
  ·rw[if_pos hg] at hk
   simp[aj,fwd,jo] at hk
  ·rw[if_neg hg] at hk
   simp at hk
 |_=>simp[aB] at hk
theorem oY:∀(l:List Operand),∀k∈qm (dV t) (toH h) l,k∈bY t h l
 |[],k,hk=>by cases hk
 |x::l,k,hk=>by
  simp only[qm,List.flatMap_cons,List.mem_append] at hk
  simp only[bY,List.mem_append]
  rcases hk with hk|hk
  ·exact .inl (BK x k hk)
  ·exact .inr (oY l k hk)
def mT (t:VT)(h:VH)(op:Op):List Nat:=match iR op with|true=>bY t h op.operands.toList|false=>[]
theorem xZ (op:Op):∀k∈wm (dV t) (toH h) op,k∈mT t h op:=by
 intro k hk
 unfold wm at hk
 unfold mT
 cases hl:iR op with
 |false=>rw[hl] at hk;cases hk
 |true=>rw[hl] at hk;exact oY _ k hk
def StepOK (P:Program)(N:Nat)(o:Oper)(t:VT)(h:VH)(r:V)(vu:VH)(gl:List Nat):Prop:=∃u,bt h u vu∧∀f:List Nat,(∀k∈gl,k∈f)→OpS P N o (dV t) (toH h) r.toD u f
theorem Ah (g:HL):∃n:Nat,look g (n,0)=none:=by
 have key:∀(l:HL),∃m,∀p∈l,p.1.1<m:=by
  intro l
  induction l with
  |nil=>exact⟨0,by simp⟩
  |cons p l ih=>
   obtain⟨m,hm⟩:=ih
   refine⟨max m (p.1.1+1),fun q hq=>?_⟩
   rcases List.mem_cons.1 hq with rfl|hq
   ·omega
   ·have:=hm q hq;omega
 obtain⟨m,hm⟩:=key g
 refine⟨m,?_⟩
 cases hl:look g (m,0) with
 |none=>rfl
 |some x=>have:=hm _ (bE hl);simp only at this;omega
theorem Bk {t:List (Nat×D)}{h:HL}{m:Bool}{o:Oper}{d:D}{u:HL}{f:List Nat}(hd:∀n,bW P m o.op t h n=some (d,u))(hf:∀k∈wm t h o.op,k∈f):OpS P N o t h d u f:=by
 intro t' h' ht ha w0 S A ρ a w s
 obtain⟨n,hn⟩:=Ah h'
 refine s.op (m:=m) (n:=n) ?_ hn
 rw[←DU (t:=t') (h:=h) (fs:=f) ?_ ha,←DV ht]
 ·exact hd n
 ·have:wm t' h o.op=wm t h o.op:=by
   unfold wm
   cases hl:iR o.op with
   |false=>rfl
   |true=>
    simp only[cond_true,qm]
    have hx:∀x∈o.op.operands.toList,lh t' h x=lh t h x:=fun x hx=>by unfold lh;rw[ht x (Array.mem_toList_iff.1 hx)]
    generalize o.op.operands.toList=l at hx
    induction l with
    |nil=>rfl
    |cons x l ih=>rw[List.flatMap_cons,List.flatMap_cons,hx x (List.mem_cons_self ..),ih fun y hy=>hx y (List.mem_cons_of_mem _ hy)]
  rw[this]
  exact hf
theorem Ee {m:Bool}{o:Oper}{r:V}{u:HL}{vu:VH}(hd:∀n,bW P m o.op (dV t) (toH h) n=some (r.toD,u))(hu:bt h u vu):StepOK P N o t h r vu (mT t h o.op):=
 ⟨u,hu,fun f hf=>Bk hd fun k hk=>hf k (xZ _ k hk)⟩
theorem Ef {m:Bool}{o:Oper}{r:V}{u:HL}{vu:VH}(hn:∀c:Id,n≤c.1→look (toH h) c=none)(hd:bW P m o.op (dV t) (toH h) n=some (r.toD,u))(hu:bt h u vu):StepOK P N o t h r vu (n::mT t h o.op):=
 ⟨u,hu,fun f hf=>Dh (hn (n,0) (Nat.le_refl _)) hd (fun k hk=>hf k (List.mem_cons_of_mem _ (xZ _ k hk))) (hf n (List.mem_cons_self ..))⟩
theorem uB {o:Oper}{r:V}{u1:HL}{v1 v2:VH}{g1 g2:List Nat}(hp:∀f:List Nat,(∀k∈g1,k∈f)→dr P N h u1 v1 f)(hs:StepOK P N o t (puts v1 h) r v2 g2):StepOK P N o t h r (v1++v2) (g1++g2):=by
 obtain⟨u,h1,h2⟩:=hs
 have p0:=hp g1 fun k hk=>hk
 refine⟨u1++u,nF p0.1 h1,fun f hf=>(hp f fun k hk=>hf k (List.mem_append_left _ hk)).2 _ _ _ _ (lZ (fun b=>(p0.1.1 b).symm) (h2 f fun k hk=>hf k (List.mem_append_right _ hk)))⟩
theorem dA {o:Oper}{r:V}{vu:VH}{g g':List Nat}(hs:StepOK P N o t h r vu g)(hg:∀k∈g,k∈g'):StepOK P N o t h r vu g':=by
 obtain⟨u,h1,h2⟩:=hs
 exact⟨u,h1,fun f hf=>h2 f fun k hk=>hf k (hg k hk)⟩
theorem mg {o:Oper}{f:FuncId}{vs:List V}{os fs:List Nat}{K:V→VH→List Nat→Prop}(hn:∀c:Id,n≤c.1→look (toH h) c=none)(hc:nT P (dV t) (toH h) o f (ag vs))(hk:mz P h n f vs os fs K):
  ∃r vu gl,StepOK P N o t h r vu (bY t h o.op.operands.toList++gl)∧K r vu gl:=by
 obtain⟨r,u,vu,gl,h1,h2,h3⟩:=zC hn hk
 refine⟨r,vu,gl,⟨u,h2,fun f' hf'=>?_⟩,h3⟩
 obtain⟨c,hc'⟩:=h1 f' fun k hk=>hf' k (List.mem_append_right _ hk)
 exact Bl hn hc c (fun k hk=>hf' k (List.mem_append_left _ (oY _ k hk))) hc'
end Go.Proofs.YthmfppknagbkeaaGreat.Am
namespace Go.Proofs.YthmfppknagbkeaaGreat.Am
open Go Go.RowKit
variable {P:Program} {N:Nat} {Θ:TT} {t:VT} {h:VH} {n:Nat}
mutual
def Gn (own:Bool)(h:VH):V→List Nat
 | .ref b=>(match aA h b with
  |some (.row _ t _)=>bif own|| !t.pure then[b] else[]
  |some (.lit ..)=>[b]
  |_=>[])
 | .ptr b _=>(match aA h b with
  |some (.fvb ..)=>[]
  |_=>[b])
 | .agg cs=>kH own h cs
 | .tup cs=>kH own h cs
 | .clo _ cs=>kH own h cs
 | .ifc _ v=>Gn own h v
 |v=>Aw v
def kH (own:Bool)(h:VH):List V→List Nat
 |[]=>[]
 |v::l=>Gn own h v++kH own h l
end
def Ha (own:Bool)(h:VH):VB→List Nat
 | .var _ cs=>kH own h cs
 | .vari _ pre _ t _ post=>kH own h pre++t.fams++kH own h post
 | .lit _ vs=>kH own h vs
 |x=>x.fams
def En (l:List Nat)(b:Nat):List Nat:=match l.contains b with|true=>l|false=>l++[b]
def dY:List Nat→List Nat→List Nat
 |l,[]=>l
 |l,b::bs=>dY (En l b) bs
def nc (own:Bool)(h:VH):Nat→Nat→List Nat→(List Nat→Prop)→Prop
 |0,_,l,K=>K l
 |k+1,i,l,K=>match l[i]? with
  |none=>K l
  |some b=>dK (dY l (match aA h b with|some x=>Ha own h x|none=>[])) fun l=>nc own h k (i+1) l K
theorem oy {own:Bool}:∀{k i:Nat} {l:List Nat} {K:List Nat→Prop},nc own h k i l K→∃l,K l
 |0,_,l,_,hk=>⟨l,hk⟩
 |k+1,i,l,K,hk=>by
  simp only[nc] at hk
  split at hk
  ·exact⟨_,hk⟩
  ·have hk:=bf hk
   exact oy hk
def AC (own:Bool)(h:VH)(vs:List V)(K:List Nat→List Nat→Prop):Prop:=
 dK (dY [] (kH own h vs)) fun l=>nc own h 60 0 l fun l=>dK (l.filter fun b=>Nat.ble 4 b) fun os=>dK (l.filter fun b=>Nat.blt b 4) fun fs=>K os fs
theorem nd {own:Bool}{vs:List V}{K:List Nat→List Nat→Prop}(hk:AC own h vs K):∃os fs,K os fs:=by
 have hk:=bf hk
 obtain⟨l,hk⟩:=oy hk
 have hk:=bf hk
 have hk:=bf hk
 exact⟨_,_,hk⟩
def cj (P:Program)(h:VH)(n:Nat)(f:FuncId)(vs:List V)(K:V→VH→List Nat→Prop):Prop:=∃os fs,mz P h n f vs os fs K
theorem ch {f:FuncId}{vs:List V}{K:V→VH→List Nat→Prop}(hk:AC false h vs fun os fs=>mz P h n f vs os fs K):cj P h n f vs K:=nd hk
theorem u9 {f:FuncId}{vs:List V}{K:V→VH→List Nat→Prop}(hk:AC true h vs fun os fs=>mz P h n f vs os fs K):cj P h n f vs K:=nd hk
def GF (h:VH)(k:Nat):Bool:=match aA h k with
 |some (.frow _ t _)=>t.pure
 |some (.frowx _ t _)=>t.pure
 |_=>false
theorem gQ {f:FuncId}{vs:List V}{K:V→VH→List Nat→Prop}(hk:AC false h vs fun os fs=>dK (fs.filter fun k=>!GF h k) fun fs=>mz P h n f vs os fs K):cj P h n f vs K:=by
 obtain⟨os,fs,hk⟩:=nd hk
 exact⟨_,_,bf hk⟩
theorem iG {f:FuncId}{vs:List V}{K:V→VH→List Nat→Prop}(hk:mz P h n f vs [] [] K):cj P h n f vs K:=⟨_,_,hk⟩
theorem iH (ex:List Nat){f:FuncId}{vs:List V}{K:V→VH→List Nat→Prop}(hk:AC true h vs fun os fs=>dK (dY ex fs) fun fs=>mz P h n f vs os fs K):cj P h n f vs K:=by
 obtain⟨os,fs,hk⟩:=nd hk
 exact⟨_,_,bf hk⟩
def lD (Θ:TT)(b:Builtin)(vs:List V)(Ts:List TypeId)(h:VH)(K:V→VH→Prop):Prop:=
 match b,vs,Ts with
 | .len,[v],[T]=>aS Θ T fun ti=>Fe ti h v fun r=>K r []
 | .copy,[d,e],[T,_]=>aS Θ T fun ti=>zM Θ ti h d e K
 | .min,[.int k x,.int k' y],_=>Chk (decide (k=k')) (K (.int k (if y<x then y else x)) [])
 | .max,[.int k x,.int k' y],_=>Chk (decide (k=k')) (K (.int k (if x<y then y else x)) [])
 |_,_,_=>False
theorem qG (hΘ:Θ.ok P){b:Builtin}{vs:List V}{Ts:List TypeId}{m:Bool}{K:V→VH→Prop}(hk:lD Θ b vs Ts h K):∃r u vu,(∀n,cC P m b (ag vs) Ts (toH h) n=some (r.toD,u))∧bt h u vu∧K r vu:=by
 unfold lD at hk
 split at hk
 ·obtain⟨ti,l1,hk⟩:=ap hk
  obtain⟨r,h1,h2⟩:=C9 (hΘ _ _ l1) hk
  exact⟨r,[],[],fun n=>by simp only[cC,ag,h1,Option.map_some],aE,h2⟩
 ·obtain⟨ti,l1,hk⟩:=ap hk
  obtain⟨r,u,vu,h1,h2,h3⟩:=zN hΘ (hΘ _ _ l1) hk
  exact⟨r,u,vu,fun n=>by simp only[cC,ag,h1],h2,h3⟩
 ·obtain⟨c,hk⟩:=hk.ok
  simp only[decide_eq_true_eq] at c
  exact⟨_,[],[],fun n=>by simp only[cC,ag,V.toD,if_pos c],aE,hk⟩
 ·obtain⟨c,hk⟩:=hk.ok
  simp only[decide_eq_true_eq] at c
  exact⟨_,[],[],fun n=>by simp only[cC,ag,V.toD,if_pos c],aE,hk⟩
 ·exact hk.elim
def Ac (h:VH)(τ:Ty):List V→(VH→VH→List Nat→Prop)→Prop
 |[],K=>K h [] []
 |v::l,K=>xc h τ.shs v.cells fun h1 vu g=>Ac h1 τ l fun h2 vu2 g2=>K h2 (vu++vu2) (g++g2)
theorem s7 {τ:Ty}:∀{l:List V} {h:VH} {K:VH→VH→List Nat→Prop},Ac h τ l K→∃u vu g,(∀f:List Nat,(∀k∈g,k∈f)→dr P N h u vu f)∧K (puts vu h) vu g
 |[],h,K,hk=>⟨[],[],[],fun f _=>dQ,hk⟩
 |v::l,h,K,hk=>by
  obtain⟨u1,v1,g1,p1,hk⟩:=oe (P:=P) (N:=N) hk
  obtain⟨u2,v2,g2,p2,hk⟩:=s7 hk
  refine⟨u1++u2,v1++v2,g1++g2,fun f hf=>ib (p1 f fun k hk=>hf k (List.mem_append_left _ hk)) (p2 f fun k hk=>hf k (List.mem_append_right _ hk)),?_⟩
  rw[aQ]
  exact hk
def zQ (t:Ty):List V→Option (List t.den)
 |[]=>some []
 |v::l=>match FY t (pk.nzL v),zQ t l with
  |some x,some xs=>some (x::xs)
  |_,_=>none
theorem wT {t:Ty}:∀{l:List V} {xs:List t.den},zQ t l=some xs→(ag l).map nzE=xs.map (ab t)
 |[],xs,h=>by simp only[zQ,Option.some.injEq] at h;subst h;rfl
 |v::l,xs,h=>by
  simp only[zQ] at h
  split at h
  ·rename_i x xs' h1 h2
   simp only[Option.some.injEq] at h
   subst h
   simp only[ag,List.map_cons,wT h2]
   rw[←qO h1,rI]
  ·cases h
def wx (h:VH)(b:Nat)(τ:Ty)(K:VH→VH→List Nat→Prop):Prop:=
 match aA h b with
 |some (.lit _ vs)=>Ac h τ vs fun h1 vu g=>(match aA h1 b with
  |some (.lit E vs')=>jU h1 vs' fun vs2=>(match zQ τ vs2 with
   |some xs=>yS b (VB.row E τ xs) h1 fun h2=>K h2 (vu++[(b,.row E τ xs)]) (g++b::dG vs')
   |none=>False)
  |_=>False)
 |_=>K h [] []
theorem y9 {b:Nat}{τ:Ty}{K:VH→VH→List Nat→Prop}(hk:wx h b τ K):∃u vu g,(∀f:List Nat,(∀k∈g,k∈f)→dr P N h u vu f)∧K (puts vu h) vu g:=by
 unfold wx at hk
 split at hk
 ·obtain⟨u1,v1,g1,p1,hk⟩:=s7 (P:=P) (N:=N) hk
  split at hk
  ·rename_i E vs' hb
   rw[az] at hb
   obtain⟨vs2,f1,hk⟩:=fp hk
   split at hk
   ·rename_i xs hx
    have hk:=nx hk
    have hlast:bS (toH (puts v1 h)) (.row E (ag vs'))= .row E (xs.map (ab τ)):=by
     simp only[bS]
     rw[←wT hx,←f1,de,List.map_map]
     rfl
    refine⟨u1++[((b,0),bS (toH (puts v1 h)) (.row E (ag vs')))],v1++[(b,.row E τ xs)],g1++b::dG vs',fun f hf=>ib (p1 f fun k hk=>hf k (List.mem_append_left _ hk)) (ug (y:=.row E τ xs) hb rfl (by rw[hlast];rfl) ⟨hf b (by simp),fun c hc=>hf c.1 ?_⟩),?_⟩
    ·refine List.mem_append_right _ (List.mem_cons_of_mem _ (cg vs' c ?_))
     rw[d9]
     exact hc
    ·rw[aQ];exact hk
   ·exact hk.elim
  ·exact hk.elim
 ·exact⟨[],[],[],fun f _=>dQ,hk⟩
def AW (h:VH)(d:V)(o:Option Ty)(K:Ty→Prop):Prop:=
 match d with
 | .ref b=>cO h b fun x=>(match x with
  | .row _ t _=>K t
  |_=>False)
 |_=>(match o with|some t=>K t|none=>False)
theorem AX {d:V}{o:Option Ty}{K:Ty→Prop}(hk:AW h d o K):∃t,K t:=by
 unfold AW at hk
 split at hk
 ·obtain⟨x,_,hk⟩:=aH hk
  split at hk
  ·exact⟨_,hk⟩
  ·exact hk.elim
 ·split at hk
  ·exact⟨_,hk⟩
  ·exact hk.elim
def Hc (h:VH)(e:V):Option Nat:=match e with
 | .ref b=>(match aA h b with|some (.lit ..)=>some b|_=>none)
 |_=>none
def nH (s:Nat)(v:V):Bool:=v.whole && oD v.cells s && v.cells.all V.one
def F0:List (Nat×V)→List V
 |[]=>[]
 |(_,v)::l=>pk.nzL v::F0 l
theorem Bd:∀l:List (Nat×V),((uQ l).map fun x=>nzE x.2)=ag (F0 l)
 |[]=>rfl
 |(k,v)::l=>by
  have:=Bd l
  simp only[uQ,List.map_cons,List.map_map] at this⊢
  simp only[F0,ag,rI]
  rw[←this]
def xx:List (Nat×V)→Nat→Bool
 |[],0=>true
 |_::l,n+1=>xx l n
 |_,_=>false
theorem tD:∀{l:List (Nat×V)} {n:Nat},xx l n=true→l.length=n
 |[],0,_=>rfl
 |_::l,n+1,h=>by simp[tD (l:=l) (n:=n) h]
 |[],_+1,h=>by cases h
 |_::_,0,h=>by cases h
def qF (ei:TI)(E:TypeId)(vs:List (Nat×V))(n:Nat)(K:V→VH→Prop):Prop:=
 match ei.ty with
 |some τ=>(match pk τ vs with
  |some xs=>Chk (τ.sz==ei.sz) (K (.ref n) [(n,.row E τ xs)])
  |none=>Chk (vs.all fun p=>nH ei.sz p.2) (K (.ref n) [(n,.lit E (F0 vs))]))
 |none=>Chk (vs.all fun p=>nH ei.sz p.2) (K (.ref n) [(n,.lit E (F0 vs))])
theorem zY (t:Ty)(x:t.den):F3 t.sz (ab t x)=true:=by
 have h1:=dD t x
 have hw:(ab t x).whole=true:=by
  cases t<;>first|rfl|(cases x<;>rfl)
 simp only[F3,hw,h1.1,h1.2,beq_self_eq_true,Bool.and_self]
theorem u4 {T E:TypeId}{ei:TI}{len:Nat}{vs:List (Nat×V)}{K:V→VH→Prop}(hu:P.underlying T=some (.slice E))(he:elemT P E=some (ei.sz,ei.nb))(hkeys:tw vs 0=true)(hlen:xx vs len=true)(hb:len*ei.sz≤16777216)
  (hn:∀c:Id,n≤c.1→look (toH h) c=none) (hk:qF ei E vs n K):∃r u vu,cB P (n,0) T len ((uQ vs).map fun x=>(x.1,nzE x.2))=some (V.toD r,u)∧bt h u vu∧K r vu:=by
 have hmap1:((uQ vs).map fun x=>(x.1,nzE x.2)).map (·.1)=List.range' 0 len:=by
  rw[List.map_map]
  have:=tx hkeys
  rw[tD hlen] at this
  exact this
 have hmap2:((uQ vs).map fun x=>(x.1,nzE x.2)).map (·.2)=(uQ vs).map fun x=>nzE x.2:=by
  rw[List.map_map];rfl
 have lit:(vs.all fun p=>nH ei.sz p.2)=true→cB P (n,0) T len ((uQ vs).map fun x=>(x.1,nzE x.2))=some ((V.ref n).toD,[((n,0),.row E (ag (F0 vs)))]):=by
  intro hw
  unfold cB
  simp only[hu,he]
  rw[if_pos,hmap2,Bd]
  ·rfl
  ·refine⟨hmap1,hb,?_⟩
   rw[hmap2,List.all_eq_true]
   intro e hx
   obtain⟨p,hp,rfl⟩:=List.mem_map.1 hx
   obtain⟨q,hq,rfl⟩:=List.mem_map.1 hp
   rw[List.all_eq_true] at hw
   have:=hw q hq
   simp only[nH,Bool.and_eq_true] at this
   obtain⟨⟨w1,w2⟩,w3⟩:=this
   simp only[F3,Bool.and_eq_true,beq_iff_eq]
   refine⟨by rw[qb,er];exact w1,?_,Bf w3⟩
   rw[mH,ar,t8,fq w2]
 unfold qF at hk
 split at hk
 ·rename_i τ hτ
  split at hk
  ·rename_i xs hx
   obtain⟨c,hk⟩:=hk.ok
   simp only[beq_iff_eq] at c
   have hd:=wU hx
   refine⟨.ref n,[((n,0),.row E (xs.map (ab τ)))],_,?_,ip hn rfl,hk⟩
   unfold cB
   simp only[hu,he]
   rw[if_pos,hmap2,hd]
   ·rfl
   ·refine⟨hmap1,hb,?_⟩
    rw[hmap2,hd,List.all_eq_true]
    intro e hx
    obtain⟨x,_,rfl⟩:=List.mem_map.1 hx
    rw[←c]
    exact zY τ x
  ·obtain⟨c,hk⟩:=hk.ok
   exact⟨_,_,_,lit c,ip hn rfl,hk⟩
 ·obtain⟨c,hk⟩:=hk.ok
  exact⟨_,_,_,lit c,ip hn rfl,hk⟩
def BM (k:TK):Bool:=match k with| .ifc| .func=>false|_=>true
theorem uA {T:TypeId}{k:TK}(h:k.ok P T)(hs:BM k=true):yn P T=true:=by
 unfold yn
 cases k with
 |struct fs=>
  have:=h.2
  unfold ia at this
  cases hu:P.underlying T with
  |none=>rw[hu] at this;simp at this
  |some d=>
   rw[hu] at this
   cases d<;>first|rfl|(simp at this)
 |ifc=>cases hs
 |func=>cases hs
 |int k=>rw[show P.underlying T=some (.int k) from h]
 |bool=>rw[show P.underlying T=some .bool from h]
 |str=>rw[show P.underlying T=some .string from h]
 |slice E=>rw[show P.underlying T=some (.slice E) from h]
 |ptr E=>rw[show P.underlying T=some (.pointer E) from h]
 |arr m E=>rw[show P.underlying T=some (.array m E) from h]
def wL (T:TypeId)(ti:TI)(ok:Bool)(v:V)(K:V→Prop):Prop:=
 Chk (BM ti.k) (match v with
  | .ifc T' e=>(match Nat.beq T' T with
   |true=>(match ok with|true=>K (.tup [e,.tt])|false=>K e)
   |false=>Chk ok (match ti.z with|some z=>K (.tup [z,.ff])|none=>False))
  | .nili=>Chk ok (match ti.z with|some z=>K (.tup [z,.ff])|none=>False)
  |_=>False)
theorem uW {T:TypeId}{ti:TI}(ht:ti.ok P T){ok:Bool}{v:V}{K:V→Prop}(hk:wL T ti ok v K):∃r,ko P T ok v.toD=some (V.toD r)∧K r:=by
 obtain⟨c,hk⟩:=Chk.ok hk
 have hi:=uA ht.und c
 unfold ko
 rw[if_pos hi]
 split at hk
 ·rename_i T' e
  simp only[V.toD]
  split at hk
  ·rename_i hb
   rw[if_pos (Nat.eq_of_beq_eq_true hb)]
   cases ok with
   |true=>exact⟨_,by simp[V.toD,ag],hk⟩
   |false=>exact⟨_,by simp,hk⟩
  ·rename_i hb
   obtain⟨c2,hk⟩:=hk.ok
   rw[if_neg (by rintro rfl;simp at hb)]
   split at hk
   ·rename_i z hz
    refine⟨_,?_,hk⟩
    rw[if_pos c2,ht.zero z hz]
    simp[V.toD,ag]
   ·exact hk.elim
 ·obtain⟨c2,hk⟩:=hk.ok
  split at hk
  ·rename_i z hz
   refine⟨_,?_,hk⟩
   simp only[V.toD]
   rw[if_pos c2,ht.zero z hz]
   simp[V.toD,ag]
  ·exact hk.elim
 ·exact hk.elim
theorem zm {q:Bool}(hq:q=false){T:TypeId}{H:HL}{m m':Id}{d:D}{lo hi:Option D}:dB P H q m T d lo hi=dB P H q m' T d lo hi:=by
 subst hq
 unfold dB
 simp only[Bool.false_eq_true,if_false]
end Go.Proofs.YthmfppknagbkeaaGreat.Am
namespace Go.Proofs.YthmfppknagbkeaaGreat.Am
open Go Go.RowKit
variable {P:Program} {N:Nat} {Θ:TT} {t:VT} {h:VH} {n:Nat}
def Hq (τ:Ty)(z:V)(K:τ.den→Prop):Prop:=sR τ (pk.nzL z) K
theorem Fk {τ:Ty}{z:V}{K:τ.den→Prop}(h:Hq τ z K):∃x,nzE z.toD=ab τ x∧K x:=by
 obtain⟨x,h1,h2⟩:=jg h
 exact⟨x,by rw[←rI];exact h1,h2⟩
def zA (P:Program)(h:VH)(n:Nat)(f:FuncId)(vs:List V)(wm:List Nat)(K:V→VH→List Nat→Prop):Prop:=cj P h n f vs fun r vu gl=>K r vu (wm++gl)
def DT (P:Program)(T:TypeId)(m:String)(K:FuncId→Bool→Prop):Prop:=∃f b,tK P T m=some (f,b)∧K f b
theorem Gz {P:Program}{T:TypeId}{m:String}{K:FuncId→Bool→Prop}{f:FuncId}{b:Bool}(h:tK P T m=some (f,b))(k:K f b):DT P T m K:=⟨f,b,h,k⟩
def Bu (Θ:TT)(h:VH)(T:TypeId)(b:Bool)(v:V)(K:V→Prop):Prop:=
 match b with
 |true=>K v
 |false=>aS Θ T fun ti=>(match ti.k with
  | .ptr E=>aS Θ E fun ei=>tE ei h v K
  |_=>False)
theorem Bv {P:Program}{Θ:TT}{h:VH}(hΘ:Θ.ok P){T:TypeId}{b:Bool}{v:V}{K:V→Prop}(hk:Bu Θ h T b v K):∃r,iV P (toH h) T b v.toD=some (V.toD r)∧K r:=by
 unfold Bu at hk
 split at hk
 ·exact⟨v,by simp[iV],hk⟩
 ·obtain⟨ti,l1,hk⟩:=ap hk
  have hu:=(hΘ _ _ l1).und
  split at hk
  ·rename_i E e
   rw[e] at hu
   have hu:P.underlying T=some (.pointer E):=hu
   obtain⟨ei,l2,hk⟩:=ap hk
   obtain⟨r,h1,h2⟩:=oE (hΘ _ _ l2) hk
   exact⟨r,by simp only[iV,Bool.false_eq_true,if_false,hu,h1],h2⟩
  ·exact hk.elim
def Fw (v:V)(K:V→Prop):Prop:=
 match v with
 | .ptr b o=>K (.ptr b o)
 | .eptr b i o=>K (.eptr b i o)
 | .aptr b p i=>K (.aptr b p i)
 | .iptr t x o=>K (.iptr t x o)
 | .box t x=>K (.box t x)
 | .fptr k i o=>K (.fptr k i o)
 | .feptr k i j o=>K (.feptr k i j o)
 | .faptr k i p j=>K (.faptr k i p j)
 | .hpo k o=>ja o False fun i=>K (.fptr k i 0)
 | .obo t o=>ja o False fun x=>K (.box t x)
 |_=>False
theorem Dr {v:V}{K:V→Prop}(hk:Fw v K):∃r:V,cU v.toD=true∧r.toD=v.toD∧K r:=by
 unfold Fw at hk
 split at hk<;>try exact⟨_,rfl,rfl,hk⟩
 ·rename_i k o
  cases o with
  |none=>exact(hk.1 rfl).elim
  |some i=>exact⟨.fptr k i 0,rfl,rfl,hk.2 i rfl⟩
 ·rename_i t o
  cases o with
  |none=>exact(hk.1 rfl).elim
  |some x=>exact⟨.box t x,rfl,rfl,hk.2 x rfl⟩
 ·exact hk.elim
def vY (n:Nat):VH→Bool
 |[]=>true
 |(x,_)::u=>Nat.blt x n && vY n u
theorem rA:∀{u:VH},vY n u=true→∀k∈u.map (·.1),k<n
 |[],_,k,hk=>by cases hk
 |(a,b)::u,h,k,hk=>by
  simp only[vY,Bool.and_eq_true] at h
  rcases List.mem_cons.1 hk with rfl|hk
  ·simpa[Nat.blt_eq] using h.1
  ·exact rA h.2 k hk
theorem pS {u:HL}{vu:VH}(hn:∀c:Id,n≤c.1→look (toH h) c=none)(hu:bt h u vu)(hl:vY n vu=true):∀c:Id,n≤c.1→look (toH (puts vu h)) c=none:=by
 intro c hc
 rw[←hu.1,av _ _ _ fun x hx e=>?_]
 ·exact hn c hc
 ·have:=rA hl _ (hu.2 x hx)
  rw[e] at this
  omega
def BP (P:Program)(Θ:TT)(op:Op)(t:VT)(h:VH)(n:Nat)(K:V→VH→List Nat→Prop):Prop:=
 match op with
 | .move x=>mB t x fun v=>K v [] []
 | .assign x=>mB t x fun v=>K v [] []
 | .load T x=>vq t h x fun v=>aS Θ T fun ti=>tE ti h v fun r=>K r [] (bY t h [x])
 | .store T x y=>vq t h x fun d=>vq t h y fun v=>aS Θ T fun ti=>FM h d fun tg=>(match tg with
  |none=>rT ti h d v fun r u=>K r u (bY t h [x,y])
  |some p=>xc h (p.1.shs.drop p.2) v.cells fun h1 vu g=>vq t h1 x fun d=>vq t h1 y fun v=>x7 ti h1 d v fun r u=>K r (vu++u) (g++bY t h1 [x,y]))
 | .fieldAddr T x f=>mB t x fun v=>aS Θ T fun ti=>(match ti.k with
  | .struct fs=>t7 fs f fun g=>Chk (decide (0<g.2.2)) (G5 g v fun r=>K r [] [])
  |_=>False)
 | .indexAddr T x i=>vq t h x fun v=>mB t i fun ix=>aS Θ T fun ti=>(match ix with
  | .int _ j=>Hb Θ ti h v j fun r=>K r [] (bY t h [x,i])
  |_=>False)
 | .binOp op T x y _=>vq t h x fun d=>vq t h y fun e=>aS Θ T fun ti=>(match ti.k with
  | .ifc=>AL op (b8 x||b8 y) d e fun r=>K r [] (bY t h [x,y])
  | .struct _=>Mk (B0 P T) (FK op d e fun r=>K r [] (bY t h [x,y]))
  | .ptr E=>(match d,e with
   | .hpo k o,.hpo k' o'=>Fs P T op h k k' o o' fun r=>K r [] (bY t h [x,y])
   |d,e=>lB op (.ptr E) d e fun r=>K r [] (bY t h [x,y]))
  |_=>lB op ti.k d e fun r=>K r [] (bY t h [x,y]))
 | .unOp op _ x=>mB t x fun d=>Hj op d fun r=>K r [] []
 | .call ⟨.builtin b,args,Ts⟩=>(match b with
  | .append=>sW t h args.toList fun vs=>(match vs,Ts.toList with
   |[d,e],[T,T']=>(match Nat.beq T T' with
    |false=>aS Θ T fun ti=>aS Θ T' fun ti'=>nP Θ ti ti' h n d e fun r u=>K r u (n::bY t h args.toList)
    |true=>aS Θ T fun ti=>(match Hc h e with
    |none=>mX Θ ti h n d e fun r u=>K r u (n::bY t h args.toList)
    |some b=>(match ti.k with
     | .slice E=>aS Θ E fun ei=>AW h d ei.ty fun τ=>wx h b τ fun h1 vu g=>Chk (vY n vu) (sW t h1 args.toList fun vs=>(match vs with
      |[d,e]=>mX Θ ti h1 n d e fun r u=>K r (vu++u) (g++n::bY t h1 args.toList)
      |_=>False))
     |_=>False)))
   |_,_=>False)
  |b=>sW t h args.toList fun vs=>lD Θ b vs Ts.toList h fun r u=>K r u (bY t h args.toList))
 | .call ⟨.value (.func f),args,_⟩=>sW t h args.toList fun vs=>zA P h n f vs (bY t h (.func f::args.toList)) K
 | .call ⟨.value (.tmp k),args,_⟩=>vq t h (.tmp k) fun c=>(match c with
  | .clo f cs=>sW t h args.toList fun vs=>zA P h n f (vs++cs) (bY t h (.tmp k::args.toList)) K
  |_=>False)
 | .call ⟨.invoke x m,args,_⟩=>vq t h x fun c=>(match c with
  | .ifc T v=>DT P T m fun f b=>Bu Θ h T b v fun r=>sW t h args.toList fun vs=>zA P h n f (r::vs) (bY t h (x::args.toList)) K
  |_=>False)
 | .pick c x y=>mB t c fun b=>(match b with
  | .tt=>mB t x fun v=>K v [] []
  | .ff=>mB t y fun v=>K v [] []
  | .bool b=>km b (mB t x fun v=>K v [] []) (mB t y fun v=>K v [] [])
  |_=>False)
 | .alloc T=>aS Θ T fun ti=>(match ti.z with
  |some z=>K (.ptr n 0) [(n,.var T z.cells)] [n]
  |none=>False)
 | .box T x=>mB t x fun v=>Chk v.whole (K (.ptr n 0) [(n,.var T v.cells)] [n])
 | .build T ps=>EH t ps.toList fun vs=>aS Θ T fun ti=>(match ti.k,ti.z with
  | .struct fs,some (.agg zs)=>Ab fs zs vs fun cs=>K (.agg cs) [] []
  | .arr _ E,some (.agg zs)=>aS Θ E fun _=>Chk vs.isEmpty (K (.agg zs) [] [])
  |_,_=>False)
 | .buildSlice T len ps=>z5 t h ps.toList fun vs=>aS Θ T fun ti=>(match ti.k with
  | .slice E=>aS Θ E fun ei=>Chk (ei.z.isSome && decide (0<ei.sz) && tw vs 0 && xx vs len && decide (len*ei.sz≤16777216)) (qF ei E vs n fun r u=>K r u (n::bY t h (ps.toList.map (·.2))))
  |_=>False)
 | .nilCheck x=>mB t x fun v=>Fw v fun r=>K r [] []
 | .convert S T x=>vq t h x fun v=>aS Θ T fun ti=>aS Θ S fun si=>zK Θ ti si h v fun r=>K r [] (bY t h [x])
 | .makeInterface T x=>mB t x fun v=>aS Θ T fun ti=>Chk (BM ti.k) (K (.ifc T v) [] [])
 | .makeFunc (.func f) first captured=>Chk (Nat.beq first.size 0) (EG t captured.toList fun vs=>K (.clo f vs) [] [])
 | .typeAssert x _ T ok=>mB t x fun v=>aS Θ T fun ti=>wL T ti ok v fun r=>K r [] []
 | .makeSlice T l c=>mB t l fun a=>mB t c fun b=>aS Θ T fun ti=>(match ti.k,a,b with
  | .slice E,.int _ a,.int _ b=>aS Θ E fun ei=>(match ei.z,ei.ty with
   |some z,some τ=>Chk (decide (0<ei.sz) && τ.sz==ei.sz && z.cells.all V.pure0) (Hq τ z fun x=>bN (0≤a∧a=b) (bN (lI ei.nb a.toNat) (K (.ref n) [(n,.row E τ (List.replicate a.toNat x))] [n])))
   |_,_=>False)
  |_,_,_=>False)
 | .slice T x lo hi none=>vq t h x fun v=>w4 t lo fun l=>w4 t hi fun r=>aS Θ T fun ti=>wn Θ ti h n v l r fun q r u=>(match q with
  |true=>K r u (n::mT t h op)
  |false=>K r u (mT t h op))
 | .field T x f=>mB t x fun v=>aS Θ T fun ti=>(match ti.k,v with
  | .struct fs,.agg cs=>t7 fs f fun g=>aS Θ g.1 fun gi=>eP gi cs g.2.1 fun r=>K r [] []
  |_,_=>False)
 | .index T x i=>mB t x fun v=>mB t i fun i=>aS Θ T fun ti=>(match ti.k,v,i with
  | .str,.str s,.int _ i=>bN (0≤i∧i<(s.size:Nat)) (K (.int .u8 ((s.data.toList.getD i.toNat 0).toNat:Nat)) [] [])
  | .arr m E,.agg cs,.int _ i=>aS Θ E fun ei=>bN (0≤i∧i<(m:Nat)) (eP ei cs (i.toNat * ei.sz) fun r=>K r [] [])
  |_,_,_=>False)
 | .extract x i=>mB t x fun v=>(match v with
  | .tup cs=>t7 cs i fun r=>K r [] []
  |_=>False)
 |_=>False
def uS (P:Program)(N:Nat)(o:Oper)(t:VT)(h:VH)(K:V→VH→List Nat→Prop):Prop:=∃r vu gl,StepOK P N o t h r vu gl∧K r vu gl
theorem lj {m:Bool}{o:Oper}{r:V}{u:HL}{vu:VH}{gl:List Nat}{K:V→VH→List Nat→Prop}(hd:∀n,bW P m o.op (dV t) (toH h) n=some (r.toD,u))(hu:bt h u vu)(hg:∀k∈mT t h o.op,k∈gl)(hk:K r vu gl):uS P N o t h K:=⟨r,vu,gl,dA (Ee hd hu) hg,hk⟩
theorem FJ {m:Bool}{o:Oper}{r:V}{u:HL}{vu:VH}{gl:List Nat}{K:V→VH→List Nat→Prop}(hn:∀c:Id,n≤c.1→look (toH h) c=none)(hd:bW P m o.op (dV t) (toH h) n=some (r.toD,u))(hu:bt h u vu)(hg:∀k∈n::mT t h o.op,k∈gl)(hk:K r vu gl):uS P N o t h K:=⟨r,vu,gl,dA (Ef hn hd hu) hg,hk⟩
theorem dq {op:Op}{l:List Operand}(hl:iR op=true)(ho:op.operands.toList=l):∀k∈mT t h op,k∈bY t h l:=by
 intro k hk
 unfold mT at hk
 rw[hl] at hk
 rw[ho] at hk
 exact hk
theorem bJ {op:Op}(hl:iR op=false)(gl:List Nat):∀k∈mT t h op,k∈gl:=by
 intro k hk
 unfold mT at hk
 rw[hl] at hk
 cases hk
end Go.Proofs.YthmfppknagbkeaaGreat.Am
namespace Go.Proofs.YthmfppknagbkeaaGreat.Am
open Go Go.RowKit
variable {P:Program} {N:Nat} {Θ:TT} {t:VT} {h:VH} {n:Nat}
set_option maxHeartbeats 1600000 in
theorem BQ (hΘ:Θ.ok P){o:Oper}(hn:∀c:Id,n≤c.1→look (toH h) c=none){K:V→VH→List Nat→Prop}(hk:BP P Θ o.op t h n K):uS P N o t h K:=by
 obtain⟨dst,op,ty,pos,after,guard⟩:=o
 simp only at hk
 unfold BP at hk
 split at hk
 ·obtain⟨v,h1,h2⟩:=bm hk
  exact lj (m:=false) (fun n=>by simp only[bW,h1,Option.map_some]) aE (bJ rfl _) h2
 ·obtain⟨v,h1,h2⟩:=bm hk
  exact lj (m:=false) (fun n=>by simp only[bW,h1,Option.map_some]) aE (bJ rfl _) h2
 ·obtain⟨v,h1,h2⟩:=dE hk
  obtain⟨ti,l1,h2⟩:=ap h2
  obtain⟨r,h3,h4⟩:=oE (hΘ _ _ l1) h2
  exact lj (m:=false) (fun n=>by simp only[bW,h1,Option.bind_some,h3,Option.map_some]) aE (dq rfl (by simp[Op.operands])) h4
 ·rename_i T x y
  obtain⟨d,h1,h2⟩:=dE hk
  obtain⟨v,h3,h2⟩:=dE h2
  obtain⟨ti,l1,h2⟩:=ap h2
  obtain⟨tg,h2⟩:=DK h2
  split at h2
  ·obtain⟨u,vu,h5,h6,h7⟩:=wr (hΘ _ _ l1) h2
   exact lj (m:=false) (fun n=>by
    simp only[bW,h1,h3,Option.bind_some,Bool.not_false,nzM,if_true,h5,Option.map_some];rfl) h6 (dq rfl (by simp[Op.operands])) h7
  ·obtain⟨u1,v1,g1,p1,h2⟩:=oe (P:=P) (N:=N) h2
   obtain⟨d,h1,h2⟩:=dE h2
   obtain⟨v,h3,h2⟩:=dE h2
   obtain⟨u,vu,h5,h6,h7⟩:=wt (hΘ _ _ l1) h2
   refine⟨.undef,_,_,uB p1 (dA (Ee (m:=true) (fun n=>?_) h6) (dq rfl (by simp[Op.operands]))),h7⟩
   simp only[bW,h1,h3,Option.bind_some,Bool.not_true,nzM,Bool.false_eq_true,if_false,h5,Option.map_some];rfl
 ·rename_i T x f
  obtain⟨v,h1,h2⟩:=bm hk
  obtain⟨ti,l1,h2⟩:=ap h2
  have hu:=(hΘ _ _ l1).und
  split at h2
  ·rename_i fs e
   rw[e] at hu
   obtain⟨g,g1,h2⟩:=hX h2
   obtain⟨c,h2⟩:=h2.ok
   simp only[decide_eq_true_eq] at c
   obtain⟨r,h3,h4⟩:=EI (P:=P) (T:=T) (i:=f) ((hu.1 f g.1 g.2.1 g.2.2 g1).2 c) h2
   exact lj (m:=false) (fun n=>by simp only[bW,h1,Option.bind_some,h3,Option.map_some]) aE (bJ rfl _) h4
  ·exact h2.elim
 ·obtain⟨v,h1,h2⟩:=dE hk
  obtain⟨i,h3,h4⟩:=bm h2
  obtain⟨ti,l1,h4⟩:=ap h4
  split at h4
  ·rename_i k j _
   obtain⟨r,h5,h6⟩:=ET hΘ (hΘ _ _ l1) (k:=k) h4
   exact lj (m:=false) (fun n=>by
    have h3':aB (dV t) _=some (.int k j):=h3
    simp only[bW,h1,h3',Option.bind_some,h5,Option.map_some]) aE (dq rfl (by simp[Op.operands])) h6
  ·exact h4.elim
 ·rename_i op T x y yT
  obtain⟨d,h1,h2⟩:=dE hk
  obtain⟨e,h3,h4⟩:=dE h2
  obtain⟨ti,l1,h4⟩:=ap h4
  have hu:=(hΘ _ _ l1).und
  have fin:∀{tk:TK},tk.ok P T→lB op tk d e (fun r=>K r [] (bY t h [x,y]))→∃r:V,(∀n,bW P false (.binOp op T x y yT) (dV t) (toH h) n=some (r.toD,[]))∧K r [] (bY t h [x,y]):=fun hu h4=>by
   obtain⟨r,h5,h6⟩:=Cm (P:=P) hu h4
   refine⟨r,fun n=>?_,h6⟩
   simp only[bW,h1,h3,Option.bind_some]
   unfold bL at h5
   split at h5
   ·rename_i r' hr
    rw[hr]
    simp only[Option.some.injEq] at h5
    rw[h5]
   ·rename_i hr
    rw[hr]
    split at h5
    ·rename_i r' hr'
     simp only[Option.some.injEq] at h5
     simp only[hr',h5]
    ·rename_i hr'
     simp only[hr',h5]
  split at h4
  ·rename_i hi
   rw[hi] at hu
   obtain⟨r,h5,h6,h7,h8,h9⟩:=CS (P:=P) hu h4
   refine lj (m:=false) (u:=[]) (fun n=>?_) aE (dq rfl (by simp[Op.operands])) h9
   simp only[bW,h1,h3,Option.bind_some,h5,h6,h7,h8]
  ·obtain⟨hm,h4⟩:=h4
   obtain⟨r,h5,h6,h7,h8,h9,h10⟩:=DE (P:=P) hm h4
   refine lj (m:=false) (u:=[]) (fun n=>?_) aE (dq rfl (by simp[Op.operands])) h10
   simp only[bW,h1,h3,Option.bind_some,h5,h6,h7,h8,h9]
  ·rename_i E hi
   rw[hi] at hu
   split at h4
   ·obtain⟨r,h5,h6,h7,h8,h9,h10,h11⟩:=Dk h4
    refine lj (m:=false) (u:=[]) (fun n=>?_) aE (dq rfl (by simp[Op.operands])) h11
    simp only[bW,h1,h3,Option.bind_some,h5,h6,h7,h8,h9,h10,Option.map_some]
   ·obtain⟨r,h5,h6⟩:=fin hu h4
    exact lj (m:=false) (u:=[]) h5 aE (dq rfl (by simp[Op.operands])) h6
  ·obtain⟨r,h5,h6⟩:=fin hu h4
   exact lj (m:=false) (u:=[]) h5 aE (dq rfl (by simp[Op.operands])) h6
 ·obtain⟨d,h1,h2⟩:=bm hk
  obtain⟨r,h5,h6⟩:=FO h2
  exact lj (m:=false) (fun n=>by simp only[bW,h1,Option.bind_some,h5,Option.map_some]) aE (bJ rfl _) h6
 ·rename_i b args Ts
  split at hk
  ·obtain⟨vs,h1,h2⟩:=gU hk
   split at h2
   ·rename_i d e T T' eT
    split at h2
    ·rename_i c
     have hne:T≠T':=by rintro rfl;simp at c
     obtain⟨ti,l1,h3⟩:=ap h2
     obtain⟨ti',l1',h3⟩:=ap h3
     obtain⟨r,u,vu,h5,h6,h7⟩:=sF hΘ (hΘ _ _ l1) (hΘ _ _ l1') hn h3
     refine FJ (m:=false) hn ?_ h6 (fun k hk=>?_) h7
     ·simp only[bW,h1,Option.bind_some,eT,ag,cC,hne,if_false,h5]
     ·rcases List.mem_cons.1 hk with rfl|hk
      ·exact List.mem_cons_self ..
      ·refine List.mem_cons_of_mem _ (dq (l:=args.toList) rfl (by simp[Op.operands,Call.operands]) k hk)
    ·rename_i c
     obtain rfl:=Nat.eq_of_beq_eq_true c
     obtain⟨ti,l1,h3⟩:=ap h2
     split at h3
     ·obtain⟨r,u,vu,h5,h6,h7⟩:=nO hΘ (hΘ _ _ l1) hn h3
      refine FJ (m:=false) hn ?_ h6 (fun k hk=>?_) h7
      ·simp only[bW,h1,Option.bind_some,eT,ag,cC,if_true,h5]
      ·rcases List.mem_cons.1 hk with rfl|hk
       ·exact List.mem_cons_self ..
       ·refine List.mem_cons_of_mem _ (dq (l:=args.toList) rfl (by simp[Op.operands,Call.operands]) k hk)
     ·split at h3
      ·obtain⟨ei,l2,h3⟩:=ap h3
       obtain⟨τ,h3⟩:=AX h3
       obtain⟨u1,v1,g1,p1,h3⟩:=y9 (P:=P) (N:=N) h3
       obtain⟨cl,h3⟩:=h3.ok
       obtain⟨vs,h1,h3⟩:=gU h3
       split at h3
       ·rename_i d e
        have p0:=(p1 g1 fun k hk=>hk).1
        have hn':=pS hn p0 cl
        obtain⟨r,u,vu,h5,h6,h7⟩:=nO hΘ (hΘ _ _ l1) hn' h3
        refine⟨r,_,_,uB p1 (dA (Ef (m:=false) hn' ?_ h6) (fun k hk=>?_)),h7⟩
        ·simp only[bW,h1,Option.bind_some,eT,ag,cC,if_true,h5]
        ·rcases List.mem_cons.1 hk with rfl|hk
         ·exact List.mem_cons_self ..
         ·refine List.mem_cons_of_mem _ (dq (l:=args.toList) rfl (by simp[Op.operands,Call.operands]) k hk)
       ·exact h3.elim
      ·exact h3.elim
   ·exact h2.elim
  ·obtain⟨vs,h1,h2⟩:=gU hk
   obtain⟨r,u,vu,h5,h6,h7⟩:=qG (m:=false) hΘ h2
   exact lj (m:=false) (fun n=>by simp only[bW,h1,Option.bind_some,h5]) h6 (dq rfl (by simp[Op.operands,Call.operands])) h7
 ·rename_i f args Ts
  obtain⟨vs,h1,h2⟩:=gU hk
  obtain⟨os,fs,h2⟩:=h2
  obtain⟨r,vu,gl,h3,h4⟩:=mg (N:=N) (o:=⟨dst,.call ⟨.value (.func f),args,Ts⟩,ty,pos,after,guard⟩) hn ⟨args,Ts,.inl ⟨rfl,h1⟩⟩ h2
  refine⟨r,vu,_,dA h3 (fun k hk=>?_),h4⟩
  simpa[Op.operands,Call.operands] using hk
 ·rename_i k args Ts
  obtain⟨c,h1,h2⟩:=dE hk
  split at h2
  ·rename_i f cs
   obtain⟨vs,h3,h2⟩:=gU h2
   obtain⟨os,fs,h2⟩:=h2
   obtain⟨r,vu,gl,h3,h4⟩:=mg (N:=N) (o:=⟨dst,.call ⟨.value (.tmp k),args,Ts⟩,ty,pos,after,guard⟩) hn ⟨args,Ts,.inr (.inl ⟨k,ag cs,ag vs,rfl,h1,h3,by simp[bw]⟩)⟩ h2
   refine⟨r,vu,_,dA h3 (fun k hk=>?_),h4⟩
   simpa[Op.operands,Call.operands] using hk
  ·exact h2.elim
 ·rename_i x m args Ts
  obtain⟨c,h1,h2⟩:=dE hk
  split at h2
  ·rename_i T v
   obtain⟨f,b,hm,h2⟩:=h2
   obtain⟨r0,hr,h2⟩:=Bv hΘ h2
   obtain⟨vs,h3,h2⟩:=gU h2
   obtain⟨os,fs,h2⟩:=h2
   obtain⟨r,vu,gl,h4,h5⟩:=mg (N:=N) (o:=⟨dst,.call ⟨.invoke x m,args,Ts⟩,ty,pos,after,guard⟩) hn ⟨args,Ts,.inr (.inr ⟨x,m,T,v.toD,r0.toD,b,ag vs,rfl,h1,hm,hr,h3,rfl⟩)⟩ h2
   refine⟨r,vu,_,dA h4 (fun k hk=>?_),h5⟩
   simpa[Op.operands,Call.operands] using hk
  ·exact h2.elim
 ·obtain⟨b,h1,h2⟩:=bm hk
  split at h2
  ·obtain⟨r,h3,h4⟩:=bm h2
   have h1':aB (dV t) _=some (.bool true):=h1
   exact lj (m:=false) (fun n=>by simp only[bW,h1',h3,Option.map_some]) aE (bJ rfl _) h4
  ·obtain⟨r,h3,h4⟩:=bm h2
   have h1':aB (dV t) _=some (.bool false):=h1
   exact lj (m:=false) (fun n=>by simp only[bW,h1',h3,Option.map_some]) aE (bJ rfl _) h4
  ·rename_i b
   cases b with
   |true=>
    obtain⟨r,h3,h4⟩:=bm (h2.1 rfl)
    have h1':aB (dV t) _=some (.bool true):=h1
    exact lj (m:=false) (fun n=>by simp only[bW,h1',h3,Option.map_some]) aE (bJ rfl _) h4
   |false=>
    obtain⟨r,h3,h4⟩:=bm (h2.2 rfl)
    have h1':aB (dV t) _=some (.bool false):=h1
    exact lj (m:=false) (fun n=>by simp only[bW,h1',h3,Option.map_some]) aE (bJ rfl _) h4
  ·exact h2.elim
 ·obtain⟨ti,l1,h2⟩:=ap hk
  split at h2
  ·rename_i z hz
   refine FJ (m:=false) (u:=[((n,0),.var _ (ag z.cells))]) hn ?_ (ip hn rfl) (fun k hk=>?_) h2
   ·simp only[bW,(hΘ _ _ l1).zero z hz,Option.map_some,aM];rfl
   ·rcases List.mem_cons.1 hk with rfl|hk
    ·exact List.mem_cons_self ..
    ·exact bJ rfl _ k hk
  ·exact h2.elim
 ·obtain⟨v,h1,h2⟩:=bm hk
  obtain⟨c,h3⟩:=h2.ok
  refine FJ (m:=false) (u:=[((n,0),.var _ (ag v.cells))]) hn ?_ (ip hn rfl) (fun k hk=>?_) h3
  ·simp only[bW,h1,Option.bind_some,er,c,if_true,aM];rfl
  ·rcases List.mem_cons.1 hk with rfl|hk
   ·exact List.mem_cons_self ..
   ·exact bJ rfl _ k hk
 ·rename_i T ps
  obtain⟨vs,h1,h2⟩:=w6 hk
  obtain⟨ti,l1,h2⟩:=ap h2
  have hu:=(hΘ _ _ l1).und
  have hz:=(hΘ _ _ l1).zero
  split at h2
  ·rename_i fs zs e ez
   rw[e] at hu
   obtain⟨cs,h3,h4⟩:=s5 h2
   have hz':=hz _ ez
   simp only[V.toD] at hz'
   exact lj (m:=false) (fun n=>by simp only[bW,h1,Option.bind_some,nJ,hu.2,hz',h3,Option.map_some];rfl) aE (bJ rfl _) h4
  ·rename_i M E zs e ez
   rw[e] at hu
   obtain⟨ei,l2,h2⟩:=ap h2
   obtain⟨c,h4⟩:=h2.ok
   have hz':=hz _ ez
   simp only[V.toD] at hz'
   have hv:vs=[]:=List.isEmpty_iff.1 c
   subst hv
   have hpl:ia P T=some []:=by
    have hs:=(hΘ _ _ l2).size
    unfold sizeT at hs
    obtain⟨i,hi,_⟩:=Option.map_eq_some_iff.1 hs
    unfold ia
    rw[show P.underlying T=some (.array M E) from hu]
    simp only[hi,Option.map_some]
   exact lj (m:=false) (fun n=>by simp only[bW,h1,Option.bind_some,nJ,hpl,hz',uQ,fm,Option.map_some];rfl) aE (bJ rfl _) h4
  ·exact h2.elim
 ·rename_i T len ps
  obtain⟨vs,h1,h2⟩:=sV hk
  obtain⟨ti,l1,h2⟩:=ap h2
  have hu:=(hΘ _ _ l1).und
  split at h2
  ·rename_i E e
   rw[e] at hu
   obtain⟨ei,l2,h2⟩:=ap h2
   have hei:=hΘ _ _ l2
   obtain⟨c,h2⟩:=h2.ok
   simp only[Bool.and_eq_true,decide_eq_true_eq] at c
   obtain⟨⟨⟨⟨c1,c2⟩,c3⟩,c4⟩,c5⟩:=c
   obtain⟨r,u,vu,h5,h6,h7⟩:=u4 (show P.underlying T=some (.slice E) from hu) (hei.elem c1 c2) c3 c4 c5 hn h2
   refine FJ (m:=false) hn (by simp only[bW,h1,Option.bind_some,h5]) h6 (fun k hk=>?_) h7
   rcases List.mem_cons.1 hk with rfl|hk
   ·exact List.mem_cons_self ..
   ·exact List.mem_cons_of_mem _ (dq rfl (by simp[Op.operands]) k hk)
  ·exact h2.elim
 ·obtain⟨v,h1,h2⟩:=bm hk
  obtain⟨r,h3,h4,h5⟩:=Dr h2
  exact lj (m:=false) (fun n=>by simp only[bW,h1,Option.bind_some,h3,if_true,h4]) aE (bJ rfl _) h5
 ·obtain⟨v,h1,h2⟩:=dE hk
  obtain⟨ti,l1,h2⟩:=ap h2
  obtain⟨si,l2,h2⟩:=ap h2
  obtain⟨r,h3,h4⟩:=zL hΘ (hΘ _ _ l1) (hΘ _ _ l2) h2
  exact lj (m:=false) (fun n=>by simp only[bW,h1,Option.bind_some,h3,Option.map_some]) aE (dq rfl (by simp[Op.operands])) h4
 ·obtain⟨v,h1,h2⟩:=bm hk
  obtain⟨ti,l1,h2⟩:=ap h2
  obtain⟨c,h2⟩:=h2.ok
  exact lj (m:=false) (fun n=>by simp only[bW,h1,Option.bind_some,uA (hΘ _ _ l1).und c,if_true];rfl) aE (bJ rfl _) h2
 ·rename_i f first captured
  obtain⟨c,h2⟩:=hk.ok
  obtain⟨vs,h1,h2⟩:=w5 h2
  exact lj (m:=false) (fun n=>by simp only[bW,Nat.eq_of_beq_eq_true c,if_true,h1,Option.map_some];rfl) aE (bJ rfl _) h2
 ·obtain⟨v,h1,h2⟩:=bm hk
  obtain⟨ti,l1,h2⟩:=ap h2
  obtain⟨r,h3,h4⟩:=uW (hΘ _ _ l1) h2
  exact lj (m:=false) (fun n=>by simp only[bW,h1,Option.bind_some,h3,Option.map_some]) aE (bJ rfl _) h4
 ·obtain⟨a,h1,h2⟩:=bm hk
  obtain⟨b,h3,h4⟩:=bm h2
  obtain⟨ti,l1,h4⟩:=ap h4
  have hu:=(hΘ _ _ l1).und
  split at h4
  ·rename_i E k1 a k2 b e _
   rw[e] at hu
   obtain⟨ei,l2,h4⟩:=ap h4
   have hei:=hΘ _ _ l2
   split at h4
   ·rename_i z τ hz hτ
    obtain⟨c,h4⟩:=h4.ok
    simp only[Bool.and_eq_true,beq_iff_eq,decide_eq_true_eq] at c
    obtain⟨⟨c1,c2⟩,c3⟩:=c
    obtain⟨x,hx,h5⟩:=Fk h4
    obtain⟨h6,h7,h8⟩:=h5
    refine FJ (m:=false) (u:=[((n,0),.row E ((List.replicate a.toNat x).map (ab τ)))]) hn ?_ (ip hn rfl) (fun k hk=>?_) h8
    ·have h1':aB (dV t) _=some (.int k1 a):=h1
     have h3':aB (dV t) _=some (.int k2 b):=h3
     simp only[bW,h1',h3',Option.bind_some,wG,show P.underlying _=some (.slice E) from hu,hei.elem (by rw[hz];rfl) c1,hei.zero z hz]
     rw[if_pos]
     ·simp only[nzM,Bool.false_eq_true,if_false,hx,List.map_replicate];rfl
     ·refine⟨h6.1,h6.2,h7,?_⟩
      simp only[GX,Bool.and_eq_true,beq_iff_eq]
      refine⟨?_,by rw[aM];exact jd _ c3⟩
      have h9:=congrArg (fun d:D=>d.cells.length) hx
      simp only[en,List.length_map,(dD τ x).1] at h9
      omega
    ·rcases List.mem_cons.1 hk with rfl|hk
     ·exact List.mem_cons_self ..
     ·exact bJ rfl _ k hk
   ·exact h4.elim
  ·exact h4.elim
 ·rename_i T x lo hi
  obtain⟨v,h1,h2⟩:=dE hk
  obtain⟨lo',h3,h4⟩:=sX h2
  obtain⟨hi',h5,h6⟩:=sX h4
  obtain⟨ti,l1,h6⟩:=ap h6
  obtain⟨q,r,u,vu,h7,h8,h9⟩:=y5 hΘ (hΘ _ _ l1) hn h6
  cases q with
  |true=>
   exact FJ (m:=true) hn (by simp only[bW,h1,h3,h5,Option.bind_some,h7]) h8 (fun k hk=>hk) h9
  |false=>
   exact lj (m:=false) (fun n'=>by
    simp only[bW,h1,h3,h5,Option.bind_some]
    rw[zm rfl (m':=(n,0))]
    exact h7) h8 (fun k hk=>hk) h9
 ·rename_i T x f
  obtain⟨v,h1,h2⟩:=bm hk
  obtain⟨ti,l1,h2⟩:=ap h2
  have hu:=(hΘ _ _ l1).und
  split at h2
  ·rename_i fs cs e _
   rw[e] at hu
   obtain⟨g,g1,h2⟩:=hX h2
   obtain⟨gi,l2,h2⟩:=ap h2
   obtain⟨r,h3,h4⟩:=bu (hΘ _ _ l2) h2
   exact lj (m:=false) (fun n=>by
    have h1':aB (dV t) _=some (.agg (ag cs)):=h1
    simp only[bW,h1',Option.bind_some,wH,(hu.1 f g.1 g.2.1 g.2.2 g1).1,h3,Option.map_some]) aE (bJ rfl _) h4
  ·exact h2.elim
 ·obtain⟨v,h1,h2⟩:=bm hk
  obtain⟨i,h3,h4⟩:=bm h2
  obtain⟨ti,l1,h4⟩:=ap h4
  have hu:=(hΘ _ _ l1).und
  split at h4
  ·rename_i s k i e _
   rw[e] at hu
   refine lj (m:=false) (u:=[]) (fun n=>?_) aE (bJ rfl _) h4.2
   have h1':aB (dV t) _=some (.str s):=h1
   have h3':aB (dV t) _=some (.int k i):=h3
   simp only[bW,h1',h3',Option.bind_some,nK,show P.underlying _=some .string from hu]
   rw[if_pos h4.1]
   rfl
  ·rename_i m E cs k i e _
   rw[e] at hu
   obtain⟨ei,l2,h4⟩:=ap h4
   obtain⟨r,h5,h6⟩:=bu (hΘ _ _ l2) h4.2
   refine lj (m:=false) (u:=[]) (fun n=>?_) aE (bJ rfl _) h6
   have h1':aB (dV t) _=some (.agg (ag cs)):=h1
   have h3':aB (dV t) _=some (.int k i):=h3
   simp only[bW,h1',h3',Option.bind_some,nK,show P.underlying _=some (.array m E) from hu,(hΘ _ _ l2).size]
   rw[if_pos h4.1,h5]
   rfl
  ·exact h4.elim
 ·obtain⟨v,h1,h2⟩:=bm hk
  split at h2
  ·rename_i cs
   obtain⟨r,h3,h4⟩:=hX h2
   exact lj (m:=false) (fun n=>by
    have h1':aB (dV t) _=some (.tup (ag cs)):=h1
    simp only[bW,h1',Option.bind_some,kq,bw,List.getElem?_map,h3,Option.map_some]) aE (bJ rfl _) h4
  ·exact h2.elim
 ·exact hk.elim

end Go.Proofs.YthmfppknagbkeaaGreat.Am
