/- The plain machine with types: slices, addresses, literals. The plain machine with types: cuts, conversions, builtins. The plain machine with types: calls: names, views. The plain machine with types: calls. The plain machine with types: calls: what comes back. The plain machine with types: a call. The plain machine with types: a call, put together. The plain machine with types: what an operation looks at. The plain machine with types: one operation. The plain machine with types: one operation, put together. The plain machine with types: one operation is sound. -/
import Derived.Test.YthmfppknagbkeaaGreatDoorOR3
set_option linter.unusedSimpArgs false
set_option linter.unusedVariables false
set_option maxHeartbeats 1000000
namespace Go.Proofs.YthmfppknagbkeaaGreatDoor.Am
open Go Go.RowKit
def sN:List V→(List Int→Prop)→Prop
 |[],K=>K []
 | .int .i64 n::l,K=>sN l fun r=>K (n::r)
 |_::_,_=>False
theorem nF:∀{l:List V} {K:List Int→Prop},sN l K→∃ns:List Int,ae l=ns.map (D.int .i64)∧K ns
 |[],K,h=>⟨[],rfl,h⟩
 |v::l,K,h=>by
  cases v<;>try exact h.elim
  rename_i k n
  cases k<;>try exact h.elim
  obtain⟨ns,h1,h2⟩:=nF (l:=l) h
  exact⟨n::ns,by simp[ae,V.toD,h1],h2⟩
def V.pure0:V→Bool
 | .int .. | .bool _| .tt| .ff| .str _| .lst .. | .box .. | .nilp| .nils| .nilf| .nili=>true
 |_=>false
theorem gD (l:List V)(h:l.all V.pure0=true):(ae l).all D.pure0=true:=by
 rw[bk,List.all_map]
 rw[List.all_eq_true] at h⊢
 intro x hx
 have:=h x hx
 cases x<;>first|rfl|cases this
theorem lQ {t:Ty}(h:t.sz=1)(hp:t.pure=true)(xs:List t.den):(xs.map (aa t)).all D.pure0=true:=by
 rw[List.all_eq_true]
 intro y hy
 obtain⟨z,_,rfl⟩:=List.mem_map.1 hy
 have h1:=e9 hp z
 rw[h] at h1
 have h2:=h1.1
 have h3:=h1.2
 match hc:(aa t z).cells,h2 with
 |[c],_=>
  rw[hc] at h3
  simp only[List.all_cons,List.all_nil,Bool.and_true] at h3
  by_cases hag:∃cs,aa t z= .agg cs
  ·obtain⟨cs,he⟩:=hag
   cases t<;>simp[Ty.sz] at h<;>first|(cases he;done)|(cases z<;>simp[aa,gY,kD] at he;done)
  ·have:=bq fun cs hcs=>hag ⟨cs,hcs⟩
   rw[this] at hc
   simp only[List.cons.injEq,and_true] at hc
   rw[hc];exact h3
def jW (h:VH)(v:V)(K:(t:Ty)→List t.den→Prop):Prop:=
 match v with
 | .lst t xs=>K t xs
 | .nils=>K (.int .i64) []
 | .ref b=>cf h b fun x=>(match x with
  | .row _ t xs=>K t xs
  | .froz t xs=>K t xs
  |_=>False)
 | .fref k i=>cf h k fun x=>(match x with
  | .frow _ t xss=>di xss i fun xs=>K t xs
  | .frowx _ t xss=>di xss i fun ox=>eY ox False fun xs=>K t xs
  |_=>False)
 | .hro k o=>eY o (K (.int .i64) []) fun i=>cf h k fun x=>(match x with
  | .frow _ t xss=>di xss i fun xs=>K t xs
  | .frowx _ t xss=>di xss i fun ox=>eY ox False fun xs=>K t xs
  |_=>False)
 | .vref b o n=>cf h b fun x=>(match x with
  | .var _ cs=>Chk (cs.all V.pure0) (zl cs o n fun r=>sN r fun ns=>K (.int .i64) ns)
  | .vari _ pre m t xs post=>Chk (pre.all V.pure0 && post.all V.pure0 && Nat.beq o pre.length && Nat.beq n m && t.sz==1 && t.pure) (ba (xs.length=m) (K t xs))
  |_=>False)
 |_=>False
theorem gP {h:VH}{v:V}{K:(t:Ty)→List t.den→Prop}(hk:jW h v K):∃t,∃xs:List (Ty.den t),elems (toH h) v.toD=some (xs.map (aa t))∧K t xs:=by
 unfold jW at hk
 split at hk
 ·exact⟨_,_,rfl,hk⟩
 ·exact⟨_,_,rfl,hk⟩
 ·rename_i b
  obtain⟨x,h1,h3⟩:=aB hk
  split at h3
  ·rename_i E t xs
   have hl:=am (i:=0) h1 (d:=.row E (xs.map (aa t))) rfl
   exact⟨_,_,by simp[elems,V.toD,hl],h3⟩
  ·rename_i t xs
   have hl:=am (i:=0) h1 (d:=.froz (xs.map (aa t))) rfl
   exact⟨_,_,by simp[elems,V.toD,hl],h3⟩
  ·exact h3.elim
 ·rename_i k i
  obtain⟨x,h1,h3⟩:=aB hk
  split at h3
  ·rename_i E t xss
   obtain⟨xs,h4,h5⟩:=h3
   have hl:=am (i:=i) h1 (d:=.row E (xs.map (aa t))) (by simp only[VB.blks,List.getElem?_map,h4,Option.map_some])
   exact⟨_,_,by simp[elems,V.toD,hl],h5⟩
  ·rename_i E t xss
   obtain⟨ox,h4,h5⟩:=h3
   cases ox with
   |none=>exact(h5.1 rfl).elim
   |some xs=>
    have hl:=am (i:=i) h1 (d:=.row E (xs.map (aa t))) (by simp only[VB.blks,List.getElem?_map,h4,Option.map_some,rowX])
    exact⟨_,_,by simp[elems,V.toD,hl],h5.2 xs rfl⟩
  ·exact h3.elim
 ·rename_i k o
  cases o with
  |none=>exact⟨.int .i64,[],rfl,hk.1 rfl⟩
  |some i=>
   obtain⟨x,h1,h3⟩:=aB (hk.2 i rfl)
   split at h3
   ·rename_i E t xss
    obtain⟨xs,h4,h5⟩:=h3
    have hl:=am (i:=i) h1 (d:=.row E (xs.map (aa t))) (by simp only[VB.blks,List.getElem?_map,h4,Option.map_some])
    exact⟨_,_,by simp[elems,V.toD,gY,hl],h5⟩
   ·rename_i E t xss
    obtain⟨ox,h4,h5⟩:=h3
    cases ox with
    |none=>exact(h5.1 rfl).elim
    |some xs=>
     have hl:=am (i:=i) h1 (d:=.row E (xs.map (aa t))) (by simp only[VB.blks,List.getElem?_map,h4,Option.map_some,rowX])
     exact⟨_,_,by simp[elems,V.toD,gY,hl],h5.2 xs rfl⟩
   ·exact h3.elim
 ·rename_i b o n
  obtain⟨x,h1,h3⟩:=aB hk
  split at h3
  ·rename_i T cs
   have hl:=am (i:=0) h1 (d:=.var T (ae cs)) rfl
   obtain⟨c1,h4⟩:=h3.ok
   obtain⟨h5,h6⟩:=px h4
   obtain⟨ns,h7,h8⟩:=nF h6
   refine⟨.int .i64,ns,?_,h8⟩
   simp only[elems,V.toD,hl]
   rw[if_pos ⟨by rw[ap];exact h5,gD _ c1⟩]
   rw[show ns.map (aa (.int .i64))=ns.map (D.int .i64) from rfl,←h7]
   simp only[bk,List.map_take,List.map_drop]
  ·rename_i T pre m t xs post
   have hl:=am (i:=0) h1 (d:=.var T (ae pre++xs.map (aa t)++ae post)) rfl
   obtain⟨c1,h4⟩:=h3.ok
   simp only[Bool.and_eq_true,beq_iff_eq] at c1
   obtain⟨⟨⟨⟨⟨c1,c2⟩,c3⟩,c4⟩,c5⟩,c6⟩:=c1
   obtain⟨h5,h6⟩:=h4
   have hp:o=pre.length:=Nat.eq_of_beq_eq_true c3
   have hn:n=m:=Nat.eq_of_beq_eq_true c4
   refine⟨t,xs,?_,h6⟩
   simp only[elems,V.toD,hl]
   have hall:(ae pre++xs.map (aa t)++ae post).all D.pure0=true:=by
    rw[List.all_append,List.all_append,gD _ c1,gD _ c2,lQ c5 c6]
    rfl
   rw[if_pos ⟨by rw[List.length_append,List.length_append,ap,List.length_map];omega,hall⟩]
   rw[List.append_assoc,hp,←ap pre,List.drop_left,hn,←h5]
   rw[show xs.length=(xs.map (aa t)).length by rw[List.length_map],List.take_left]
  ·exact h3.elim
 ·exact hk.elim
theorem mL (t:Ty)(xs:List t.den)(s:Nat)(h:t.sz=s):tz s (xs.map (aa t))=s:=Bu fun e he=>by
 obtain⟨x,_,rfl⟩:=List.mem_map.1 he
 rw[(cK t x).1,h]
def Dd (ti:TI)(h:VH)(v:V)(K:V→Prop):Prop:=
 match ti.k with
 | .str=>(match v with| .str s=>K (.int .i64 (s.size:Nat))|_=>False)
 | .slice _=>jW h v fun _ xs=>K (.int .i64 (xs.length:Nat))
 |_=>False
theorem AF {P:Program}{T:TypeId}{ti:TI}(ht:ti.ok P T){h:VH}{v:V}{K:V→Prop}(hk:Dd ti h v K):∃r,oa P (toH h) T v.toD=some r.toD∧K r:=by
 have hu:=ht.und
 unfold Dd at hk
 split at hk
 ·rename_i e
  rw[e] at hu
  split at hk
  ·exact⟨_,by simp only[oa,show P.underlying T=some .string from hu,V.toD],hk⟩
  ·exact hk.elim
 ·rename_i E e
  rw[e] at hu
  obtain⟨t,xs,h1,h2⟩:=gP hk
  exact⟨_,by simp only[oa,show P.underlying T=some (.slice E) from hu,h1,Option.map_some,List.length_map,V.toD],h2⟩
 ·exact hk.elim
def kT (Θ:TT)(ti:TI)(h:VH)(n:Nat)(d1 d2:V)(K:V→VH→Prop):Prop:=
 match ti.k with
 | .slice E=>aK Θ E fun ei=>Chk (ei.z.isSome && decide (0<ei.sz)) (jW h d2 fun t ys=>(match d1 with
  | .ref b=>cf h b fun x=>(match x with
   | .row E' t' xs=>Chk (E'==E && t'.sz==ei.sz && !Nat.beq b n) (match iA t' t ys with
    |some ys'=>ba (fH ei.nb (xs.length+ys'.length)) (K (.ref n) [(b,.gone),(n,.row E t' (xs++ys'))])
    |none=>False)
   |_=>False)
  | .nils=>Chk (t.sz==ei.sz) (match ys with
   |[]=>K .nils []
   |y::ys'=>ba (fH ei.nb (ys'.length+1)) (K (.ref n) [(n,.row E t (y::ys'))]))
  |_=>False))
 |_=>False
theorem pM {h:VH}{b n:Nat}{x y:VB}{d:Blk}(hn:∀c:Id,n≤c.1→look (toH h) c=none)(hb:look h b=some x)(hs:x.sgl=true)(hbn:b≠n)(hy:y.blks=[d]):bi h [((b,0),.gone),((n,0),d)] [(b,.gone),(n,y)]:=by
 have h1:bi h [((b,0),.gone)] [(b,.gone)]:=dH hb hs rfl
 have h2:bi (puts [(b,VB.gone)] h) [((n,0),d)] [(n,y)]:=jK (fun i hi=>by
  rw[←h1.1,ar _ _ _ (fun z hz e=>by obtain rfl:=List.mem_singleton.1 hz;simp only[Prod.mk.injEq] at e;exact hbn e.1)]
  exact hn (n,i) (Nat.le_refl _)) hy
 exact lz h1 h2
theorem lH {P:Program}{Θ:TT}(hΘ:Θ.ok P){T:TypeId}{ti:TI}(ht:ti.ok P T){h:VH}{n:Nat}(hn:∀c:Id,n≤c.1→look (toH h) c=none){d1 d2:V}{K:V→VH→Prop}(hk:kT Θ ti h n d1 d2 K):∃r u vu,eE P (toH h) (n,0) T d1.toD d2.toD=some (r.toD,u)∧bi h u vu∧K r vu:=by
 have hu:=ht.und
 unfold kT at hk
 split at hk
 ·rename_i E e
  rw[e] at hu
  obtain⟨ei,l1,h1⟩:=ao hk
  have hei:=hΘ _ _ l1
  obtain⟨c,h2⟩:=h1.ok
  simp only[Bool.and_eq_true,decide_eq_true_eq] at c
  obtain⟨t,ys,h3,h4⟩:=gP h2
  have hel:=hei.elem c.1 c.2
  unfold eE
  simp only[show P.underlying T=some (.slice E) from hu,hel,h3]
  split at h4
  ·rename_i b
   obtain⟨x,b1,h5⟩:=aB h4
   split at h5
   ·rename_i E' t' xs
    obtain⟨c2,h6⟩:=h5.ok
    simp only[Bool.and_eq_true,beq_iff_eq,Bool.not_eq_true'] at c2
    obtain⟨⟨rfl,c3⟩,c4⟩:=c2
    have hbn:b≠n:=by rintro rfl;simp at c4
    split at h6
    ·rename_i ys' hc
     have hce:=dJ hc
     have hl:=am (i:=0) b1 (d:=.row E' (xs.map (aa t'))) rfl
     refine⟨.ref n,[((b,0),.gone),((n,0),.row E' ((xs++ys').map (aa t')))],_,?_,pM hn b1 rfl hbn rfl,h6.2⟩
     rw[hce,if_pos (mL _ _ _ c3)]
     simp only[V.toD,hl]
     rw[if_pos ⟨trivial,by simpa using h6.1⟩]
     simp
    ·exact h6.elim
   ·exact h5.elim
  ·obtain⟨c3,h6⟩:=h4.ok
   simp only[beq_iff_eq] at c3
   rw[if_pos (mL _ _ _ c3)]
   split at h6
   ·exact⟨.nils,[],[],rfl,az,h6⟩
   ·rename_i y ys'
    refine⟨.ref n,[((n,0),.row E ((y::ys').map (aa t)))],_,?_,fV hn rfl,h6.2⟩
    simp only[V.toD,List.map_cons]
    rw[if_pos (by simpa using h6.1)]
  ·exact h4.elim
 ·exact hk.elim
def lI (Θ:TT)(ti ti':TI)(h:VH)(n:Nat)(d1 d2:V)(K:V→VH→Prop):Prop:=
 match ti.k,ti'.k,d1,d2 with
 | .slice E,.int _,.ref b,.int _ m=>aK Θ E fun ei=>cf h b fun x=>(match x,ei.z with
  | .row E' (.int k2) xs,some (.int k3 z)=>Chk (E'==E && Nat.beq ei.sz 1 && !Nat.beq b n && decide (k3=k2)) (ba (0<m∧m≤1000000) (ba (fH ei.nb (xs.length+m.toNat)) (K (.ref n) [(b,.gone),(n,.row E (.int k2) (xs++List.replicate m.toNat z))])))
  |_,_=>False)
 |_,_,_,_=>False
theorem pY {P:Program}{Θ:TT}(hΘ:Θ.ok P){T T':TypeId}{ti ti':TI}(ht:ti.ok P T)(ht':ti'.ok P T'){h:VH}{n:Nat}(hn:∀c:Id,n≤c.1→look (toH h) c=none){d1 d2:V}{K:V→VH→Prop}(hk:lI Θ ti ti' h n d1 d2 K):∃r u vu,dI P (toH h) (n,0) T T' d1.toD d2.toD=some (r.toD,u)∧bi h u vu∧K r vu:=by
 have hu:=ht.und
 have hu':=ht'.und
 unfold lI at hk
 split at hk
 ·rename_i E kn b k m e e'
  rw[e] at hu
  rw[e'] at hu'
  obtain⟨ei,l1,h1⟩:=ao hk
  have hei:=hΘ _ _ l1
  obtain⟨x,b1,h5⟩:=aB h1
  split at h5
  ·rename_i E' k2 xs k3 z hz
   obtain⟨c2,h6⟩:=h5.ok
   simp only[Bool.and_eq_true,beq_iff_eq,Bool.not_eq_true',decide_eq_true_eq] at c2
   obtain⟨⟨⟨rfl,c1⟩,c4⟩,rfl⟩:=c2
   have hs1:ei.sz=1:=Nat.eq_of_beq_eq_true c1
   have hbn:b≠n:=by rintro rfl;simp at c4
   obtain⟨h7,h8,h9⟩:=h6
   have hl:=am (i:=0) b1 (d:=.row E' (xs.map (aa (.int k3)))) rfl
   refine⟨.ref n,[((b,0),.gone),((n,0),.row E' ((xs++List.replicate m.toNat z).map (aa (.int k3))))],_,?_,pM hn b1 rfl hbn rfl,h9⟩
   simp only[dI,V.toD,show P.underlying T=some (.slice E') from hu,show P.underlying T'=some (.int _) from hu',hl,hei.elem (by rw[hz];rfl) (by omega),hei.zero _ hz]
   rw[if_pos ⟨trivial,hs1,h7.1,h7.2,by simpa using h8⟩]
   simp[List.map_replicate,aa]
  ·exact h5.elim
 ·exact hk.elim
def t9:List V→Nat→(List V→Prop)→Prop
 |l,0,K=>K l
 |[],_+1,_=>False
 |_::cs,n+1,K=>t9 cs n K
theorem qj:∀{l:List V} {n:Nat} {K:List V→Prop},t9 l n K→n≤l.length∧K (l.drop n)
 |l,0,K,h=>⟨Nat.zero_le _,by cases l<;>simpa[t9] using h⟩
 |[],_+1,_,h=>h.elim
 |c::cs,n+1,K,h=>by
  obtain⟨h1,h2⟩:=qj (l:=cs) (n:=n) h
  exact⟨by simpa using h1,by simpa using h2⟩
def w8 (Θ:TT)(ti:TI)(h:VH)(d e:V)(K:V→VH→Prop):Prop:=
 match ti.k,d with
 | .slice E,.vref b o m=>aK Θ E fun ei=>Chk (ei.sz==1) (jW h e fun t ys=>Chk (t.sz==1 && t.pure) (cf h b fun x=>(match x with
  | .var T' cs=>mO cs o fun pre=>t9 cs (o+m) fun post=>ba (ys.length=m) (K (.int .i64 (ys.length:Nat)) [(b,.vari T' pre m t ys post)])
  |_=>False)))
 |_,_=>False
theorem w9 {P:Program}{Θ:TT}(hΘ:Θ.ok P){T:TypeId}{ti:TI}(ht:ti.ok P T){h:VH}{d e:V}{K:V→VH→Prop}(hk:w8 Θ ti h d e K):∃r u vu,ku P (toH h) T d.toD e.toD=some (r.toD,u)∧bi h u vu∧K r vu:=by
 have hu:=ht.und
 unfold w8 at hk
 split at hk
 ·rename_i E b o m ek
  rw[ek] at hu
  obtain⟨ei,l1,h1⟩:=ao hk
  have hei:=hΘ _ _ l1
  obtain⟨c,h2⟩:=h1.ok
  simp only[beq_iff_eq] at c
  obtain⟨t,ys,h3,h4⟩:=gP h2
  obtain⟨c2,h4⟩:=h4.ok
  simp only[Bool.and_eq_true,beq_iff_eq] at c2
  obtain⟨x,b1,h5⟩:=aB h4
  split at h5
  ·rename_i T' cs
   have hl:=am (i:=0) b1 (d:=.var T' (ae cs)) rfl
   obtain⟨g1,h6⟩:=jH h5
   obtain⟨g2,h7⟩:=qj h6
   obtain⟨h10,h11⟩:=h7
   refine⟨.int .i64 (ys.length:Nat),[((b,0),.var T' (ae (cs.take o)++ys.map (aa t)++ae (cs.drop (o+m))))],_,?_,dH b1 rfl rfl,h11⟩
   unfold ku
   have hsz:sizeT P E=some 1:=by rw[hei.size,c]
   simp only[show P.underlying T=some (.slice E) from hu,V.toD,hsz,h3,hl]
   have hmin:min (ys.map (aa t)).length m=ys.length:=by rw[List.length_map];omega
   have hall:(ys.map (aa t)).all D.pure0=true:=lQ c2.1 c2.2 ys
   rw[hmin,if_pos ⟨by rw[ap];omega,hall⟩,List.take_of_length_le (by rw[List.length_map];omega)]
   simp only[aA,List.length_map,h10,bk,List.map_take,List.map_drop]
  ·exact h5.elim
 ·exact hk.elim
def Fx (g:Nat×Nat×Nat)(v:V)(K:V→Prop):Prop:=
 match v with
 | .ptr b o=>dt (o+g.2.1) fun o'=>K (.ptr b o')
 | .eptr b j o=>dt (o+g.2.1) fun o'=>K (.eptr b j o')
 | .fptr k i o=>dt (o+g.2.1) fun o'=>K (.fptr k i o')
 | .feptr k i j o=>dt (o+g.2.1) fun o'=>K (.feptr k i j o')
 | .iptr t e o=>dt (o+g.2.1) fun o'=>K (.iptr t e o')
 | .hpo k p=>eY p False fun i=>K (.fptr k i g.2.1)
 | .box t e=>(match enc t e with
  | .agg _=>K (.iptr t e g.2.1)
  |_=>False)
 | .obo t p=>eY p False fun e=>(match enc t e with
  | .agg _=>K (.iptr t e g.2.1)
  |_=>False)
 |_=>False
theorem ue {P:Program}{T:TypeId}{i:Nat}{g:Nat×Nat×Nat}(hg:eP P T i=some g.2.1){t:Ty}{e:t.den}{K:V→Prop}(hk:match enc t e with| .agg _=>K (.iptr t e g.2.1)|_=>False):∃r,dV P T i (.box (aa t e).cells)=some r.toD∧K r:=by
 split at hk
 ·rename_i cs hc
  refine⟨_,?_,hk⟩
  simp only[V.toD,dV,hg,Option.map_some]
  have:=fE t e
  rw[hc] at this
  rw[←this]
  rfl
 ·exact hk.elim
theorem CB {P:Program}{T:TypeId}{i:Nat}{g:Nat×Nat×Nat}(hg:eP P T i=some g.2.1){v:V}{K:V→Prop}(hk:Fx g v K):∃r,dV P T i v.toD=some r.toD∧K r:=by
 unfold Fx at hk
 split at hk
 ·exact⟨_,by simp only[V.toD,dV,hg,Option.map_some],aP hk⟩
 ·exact⟨_,by simp only[V.toD,dV,hg,Option.map_some],aP hk⟩
 ·exact⟨_,by simp only[V.toD,dV,hg,Option.map_some],aP hk⟩
 ·exact⟨_,by simp only[V.toD,dV,hg,Option.map_some],aP hk⟩
 ·exact⟨_,by simp only[V.toD,dV,hg,Option.map_some],aP hk⟩
 ·rename_i k p
  cases p with
  |none=>exact(hk.1 rfl).elim
  |some i=>exact⟨.fptr k i g.2.1,by simp only[V.toD,kD,dV,hg,Option.map_some,Nat.zero_add],hk.2 i rfl⟩
 ·exact ue hg hk
 ·rename_i t p
  cases p with
  |none=>exact(hk.1 rfl).elim
  |some e=>exact ue hg (hk.2 e rfl)
 ·exact hk.elim
def vW (i s:Nat)(K:Nat→Prop):Prop:=match s with|1=>K i|s=>K (i*s)
theorem lh {i s:Nat}{K:Nat→Prop}(h:vW i s K):K (i*s):=by
 unfold vW at h
 split at h
 ·rw[Nat.mul_one];exact h
 ·exact h
def FE (Θ:TT)(ti:TI)(h:VH)(v:V)(i:Int)(K:V→Prop):Prop:=
 match ti.k with
 | .slice E=>aK Θ E fun ei=>(match v with
  | .ref b=>cf h b fun x=>(match x with
   | .row E' t xs=>Chk (E'==E) (ba (0≤i∧i<(xs.length:Nat)) (K (.eptr b i.toNat 0)))
   | .lit E' vs=>Chk (E'==E) (ba (0≤i∧i<(vs.length:Nat)) (dt i.toNat fun j=>K (.eptr b j 0)))
   | .froz t xs=>Chk (t.sz==ei.sz) (jQ xs i fun _ e=>K (.iptr t e 0))
   |_=>False)
  | .fref k j=>cf h k fun x=>(match x with
   | .frow E' t xss=>Chk (E'==E) (di xss j fun xs=>ba (0≤i∧i<(xs.length:Nat)) (K (.feptr k j i.toNat 0)))
   |_=>False)
  | .hro k p=>eY p False fun j=>cf h k fun x=>(match x with
   | .frow E' t xss=>Chk (E'==E) (di xss j fun xs=>ba (0≤i∧i<(xs.length:Nat)) (K (.feptr k j i.toNat 0)))
   | .frowx E' t xss=>Chk (E'==E) (di xss j fun ox=>eY ox False fun xs=>ba (0≤i∧i<(xs.length:Nat)) (K (.feptr k j i.toNat 0)))
   |_=>False)
  | .lst t xs=>Chk (t.sz==ei.sz) (jQ xs i fun _ e=>K (.iptr t e 0))
  |_=>False)
 | .arr m E=>aK Θ E fun ei=>ba (0≤i∧i<(m:Nat)) (match v with
  | .ptr b o=>cf h b fun x=>(match x with
   | .vari _ pre _ _ _ _=>(match Nat.beq o pre.length with
    |true=>dt pre.length fun p=>vW i.toNat ei.sz fun j=>K (.aptr b p j)
    |false=>dt (o+i.toNat * ei.sz) fun o'=>K (.ptr b o'))
   |_=>dt (o+i.toNat * ei.sz) fun o'=>K (.ptr b o'))
  | .aptr b p j=>vW i.toNat ei.sz fun j'=>K (.aptr b p (j+j'))
  | .fptr k j o=>cf h k fun x=>(match x with
   | .fvari ..=>Chk (Nat.beq o 0) (vW i.toNat ei.sz fun j'=>K (.faptr k j 0 j'))
   |_=>dt (o+i.toNat * ei.sz) fun o'=>K (.fptr k j o'))
  | .faptr k j p q=>vW i.toNat ei.sz fun j'=>K (.faptr k j p (q+j'))
  | .eptr b j o=>dt (o+i.toNat * ei.sz) fun o'=>K (.eptr b j o')
  | .iptr t e o=>dt (o+i.toNat * ei.sz) fun o'=>K (.iptr t e o')
  |_=>False)
 |_=>False
theorem x5 {α:Type}{xs:List α}{i:Int}{x:α}(h0:0≤i)(h:xs[i.toNat]?=some x):i<(xs.length:Nat):=by
 have:=(List.getElem?_eq_some_iff.1 h).1
 omega
theorem uo {P:Program}{T E E':TypeId}{s:Nat}(hu':P.underlying T=some (.slice E))(hs:sizeT P E=some s){h:VH}{k j:Nat}{t:Ty}{xss:List (List t.den)}{xs:List t.den}(b1:look h k=some (.frow E' t xss))(c:E'=E)(hx:xss[j]?=some xs){ik:IntKind}{i:Int}(hi:0≤i∧i<(xs.length:Nat)):
  aL P (toH h) T (.ref (k,j)) (.int ik i)=some (V.feptr k j i.toNat 0).toD:=by
 subst c
 have hl:=am (i:=j) b1 (d:=.row E' (xs.map (aa t))) (by simp only[VB.blks,List.getElem?_map,hx,Option.map_some])
 unfold aL
 simp only[hu',hs,elems,hl,List.length_map]
 rw[if_pos hi]
 simp[V.toD]
theorem xX {P:Program}{T E E':TypeId}{s:Nat}(hu':P.underlying T=some (.slice E))(hs:sizeT P E=some s){h:VH}{k j:Nat}{t:Ty}{xss:List (Option (List t.den))}{xs:List t.den}(b1:look h k=some (.frowx E' t xss))(c:E'=E)(hx:xss[j]?=some (some xs)){ik:IntKind}{i:Int}(hi:0≤i∧i<(xs.length:Nat)):
  aL P (toH h) T (.ref (k,j)) (.int ik i)=some (V.feptr k j i.toNat 0).toD:=by
 subst c
 have hl:=am (i:=j) b1 (d:=.row E' (xs.map (aa t))) (by simp only[VB.blks,List.getElem?_map,hx,Option.map_some,rowX])
 unfold aL
 simp only[hu',hs,elems,hl,List.length_map]
 rw[if_pos hi]
 simp[V.toD]
theorem CN {P:Program}{Θ:TT}(hΘ:Θ.ok P){T:TypeId}{ti:TI}(ht:ti.ok P T){h:VH}{v:V}{k:IntKind}{i:Int}{K:V→Prop}(hk:FE Θ ti h v i K):∃r,aL P (toH h) T v.toD (.int k i)=some r.toD∧K r:=by
 have hu:=ht.und
 unfold FE at hk
 split at hk
 ·rename_i E e
  rw[e] at hu
  have hu':P.underlying T=some (.slice E):=hu
  obtain⟨ei,l1,hk⟩:=ao hk
  have hs:=(hΘ _ _ l1).size
  split at hk
  ·rename_i b
   obtain⟨x,b1,h5⟩:=aB hk
   split at h5
   ·rename_i E' t xs
    have hl:=am (i:=0) b1 (d:=.row E' (xs.map (aa t))) rfl
    obtain⟨c,h6⟩:=h5.ok
    simp only[beq_iff_eq] at c
    subst c
    refine⟨_,?_,h6.2⟩
    unfold aL
    simp only[hu',hs,elems,V.toD,hl,List.length_map]
    rw[if_pos h6.1]
    simp
   ·rename_i E' vs
    have hl:=am (i:=0) b1 (d:=.row E' (ae vs)) rfl
    obtain⟨c,h6⟩:=h5.ok
    simp only[beq_iff_eq] at c
    subst c
    refine⟨_,?_,aP h6.2⟩
    unfold aL
    simp only[hu',hs,elems,V.toD,hl,ap]
    rw[if_pos h6.1]
    simp
   ·rename_i t xs
    have hl:=am (i:=0) b1 (d:=.froz (xs.map (aa t))) rfl
    obtain⟨c,h0,x,hx,h7⟩:=h5.ok
    simp only[beq_iff_eq] at c
    refine⟨_,?_,h7⟩
    unfold aL
    simp only[hu',hs,elems,V.toD,hl,List.length_map]
    rw[if_pos ⟨h0,x5 h0 hx⟩]
    simp only[List.getElem?_map,hx,Option.map_some]
    rw[if_pos (by rw[(cK t x).1,c])]
   ·exact h5.elim
  ·rename_i k' j
   obtain⟨x,b1,h5⟩:=aB hk
   split at h5
   ·obtain⟨c,h6⟩:=h5.ok
    simp only[beq_iff_eq] at c
    obtain⟨xs,hx,hi,h7⟩:=h6
    exact⟨_,uo hu' hs b1 c hx hi,h7⟩
   ·exact h5.elim
  ·rename_i k' p _
   cases p with
   |none=>exact(hk.1 rfl).elim
   |some j=>
    obtain⟨x,b1,h5⟩:=aB (hk.2 j rfl)
    split at h5
    ·obtain⟨c,h6⟩:=h5.ok
     simp only[beq_iff_eq] at c
     obtain⟨xs,hx,hi,h7⟩:=h6
     exact⟨_,uo hu' hs b1 c hx hi,h7⟩
    ·obtain⟨c,h6⟩:=h5.ok
     simp only[beq_iff_eq] at c
     obtain⟨ox,hx,h7⟩:=h6
     cases ox with
     |none=>exact(h7.1 rfl).elim
     |some xs=>
      obtain⟨hi,h7⟩:=h7.2 xs rfl
      exact⟨_,xX hu' hs b1 c hx hi,h7⟩
    ·exact h5.elim
  ·rename_i t xs _
   obtain⟨c,h0,x,hx,h7⟩:=hk.ok
   simp only[beq_iff_eq] at c
   refine⟨_,?_,h7⟩
   unfold aL
   simp only[hu',hs,elems,V.toD,List.length_map]
   rw[if_pos ⟨h0,x5 h0 hx⟩]
   simp only[List.getElem?_map,hx,Option.map_some]
   rw[if_pos (by rw[(cK t x).1,c])]
  ·exact hk.elim
 ·rename_i m E e
  rw[e] at hu
  have hu':P.underlying T=some (.array m E):=hu
  obtain⟨ei,l1,hk⟩:=ao hk
  have hs:=(hΘ _ _ l1).size
  obtain⟨hc,hk⟩:=hk
  unfold aL
  simp only[hu',hs]
  rw[if_pos hc]
  split at hk
  ·obtain⟨x,b1,h5⟩:=aB hk
   split at h5
   ·split at h5
    ·rename_i ho
     have ho':=Nat.eq_of_beq_eq_true ho
     exact⟨_,by simp only[V.toD,ho'],lh (aP h5)⟩
    ·exact⟨_,by simp only[V.toD],aP h5⟩
   ·exact⟨_,by simp only[V.toD],aP h5⟩
  ·exact⟨_,by simp only[V.toD,Nat.add_assoc],lh hk⟩
  ·obtain⟨x,b1,h5⟩:=aB hk
   split at h5
   ·obtain⟨c,h6⟩:=h5.ok
    have ho:=Nat.eq_of_beq_eq_true c
    exact⟨_,by simp only[V.toD,ho],lh h6⟩
   ·exact⟨_,by simp only[V.toD],aP h5⟩
  ·exact⟨_,by simp only[V.toD,Nat.add_assoc],lh hk⟩
  ·exact⟨_,by simp only[V.toD],aP hk⟩
  ·exact⟨_,by simp only[V.toD],aP hk⟩
  ·exact hk.elim
 ·exact hk.elim
def xv (fs:List (Nat×Nat×Nat))(cs:List V):List (Nat×V)→(List V→Prop)→Prop
 |[],K=>K cs
 |(i,v)::l,K=>rk fs i fun f=>Chk (v.whole && mg v.cells f.2.2) (ni cs f.2.1 v.cells fun cs'=>xv fs cs' l K)
theorem qw {fs:List (Nat×Nat×Nat)}:∀{ps:List (Nat×V)} {cs:List V} {K:List V→Prop},xv fs cs ps K→∃cs',ee (fun i=>(fs.map fun f=>(f.2.1,f.2.2))[i]?) (ae cs) (rX ps)=some (ae cs')∧K cs'
 |[],cs,K,h=>⟨cs,rfl,h⟩
 |(i,v)::l,cs,K,h=>by
  obtain⟨f,h1,h2⟩:=fL h
  obtain⟨c,h3⟩:=h2.ok
  simp only[Bool.and_eq_true] at c
  obtain⟨h4,h5⟩:=eL h3
  obtain⟨cs',h6,h7⟩:=qw h5
  have hl:=eh c.2
  exact⟨cs',sx (off:=f.2.1) (size:=f.2.2) (by rw[List.getElem?_map,h1];rfl) (by rw[dB];exact c.1) (by rw[aF,ap];exact hl) (by rw[ap];omega) (by rw[aF,gz]) h6,h7⟩
def qP:List (Nat×V)→Nat→Bool
 |[],_=>true
 |(i,_)::l,k=>Nat.beq i k && qP l (k+1)
def m7 (t:Ty):List (Nat×V)→Option (List t.den)
 |[]=>some []
 |(_,v)::l=>match D2 t (nzL v),m7 t l with
  |some x,some xs=>some (x::xs)
  |_,_=>none
where
 nzL (v:V):V:=match v with
  | .agg cs=>.agg (eW cs)
  |v=>D5 v
theorem pd (v:V):(m7.nzL v).toD=nzE v.toD:=by
 unfold m7.nzL
 split
 ·simp only[V.toD,nzE,jm]
 ·rename_i hne
  rw[yz]
  cases v
  case hro k o=>cases o<;>rfl
  case hpo k o=>cases o<;>rfl
  case obo t o=>cases o<;>rfl
  case agg cs=>exact absurd rfl (hne _)
  all_goals rfl
theorem t6 {t:Ty}:∀{l:List (Nat×V)} {xs:List t.den},m7 t l=some xs→((rX l).map fun x=>nzE x.2)=xs.map (aa t)
 |[],xs,h=>by simp only[m7,Option.some.injEq] at h;subst h;rfl
 |(i,v)::l,xs,h=>by
  simp only[m7] at h
  split at h
  ·rename_i x xs' h1 h2
   simp only[Option.some.injEq] at h
   subst h
   have:=t6 h2
   simp only[rX,List.map_cons,List.map_map] at this⊢
   rw[←oz h1,pd]
   simp only[List.cons.injEq,true_and]
   exact this
  ·cases h
theorem qQ:∀{l:List (Nat×V)} {k:Nat},qP l k=true→(rX l).map (·.1)=List.range' k l.length
 |[],k,_=>rfl
 |(i,v)::l,k,h=>by
  simp only[qP,Bool.and_eq_true] at h
  have hi:i=k:=Nat.eq_of_beq_eq_true h.1
  have:=qQ h.2
  simp only[rX,List.map_cons,List.map_map,List.length_cons,List.range'_succ] at this⊢
  rw[hi]
  exact congrArg (k:: ·) this
def jU (len:Nat)(o:Option V)(dflt:Nat)(K:Nat→Prop):Prop:=
 match o with
 |none=>K dflt
 |some (.int _ i)=>ba (0≤i∧i≤(len:Nat)) (K i.toNat)
 |_=>False
theorem gE {len dflt:Nat}{o:Option V}{K:Nat→Prop}(h:jU len o dflt K):∃k,dU len (o.map V.toD) dflt=some k∧(o=none→k=dflt)∧K k:=by
 unfold jU at h
 split at h
 ·exact⟨dflt,rfl,fun _=>rfl,h⟩
 ·exact⟨_,by simp only[Option.map_some,V.toD,dU];rw[if_pos h.1],fun e=>(by cases e),h.2⟩
 ·exact h.elim
def sw {α:Type}(xs:List α)(lo hi:Option V)(ll hh:Nat):List α:=
 match lo,hi with
 |none,none=>xs
 |none,_=>xs.take hh
 |_,none=>xs.drop ll
 |_,_=>(xs.take hh).drop ll
theorem zV {α:Type}(xs:List α){lo hi:Option V}{ll hh:Nat}(h1:hi=none→hh=xs.length)(h2:lo=none→ll=0):sw xs lo hi ll hh=(xs.take hh).drop ll:=by
 unfold sw
 split
 ·rw[h1 rfl,h2 rfl];simp
 ·rw[h2 rfl];simp
 ·rw[h1 rfl];simp
 ·rfl
def vz (ei:TI){t:Ty}(xs:List t.den)(lo hi:Option V)(K:List t.den→Prop):Prop:=
 Chk (t.sz==ei.sz) (jU xs.length hi xs.length fun hh=>jU hh lo 0 fun ll=>K (sw xs lo hi ll hh))
def tq (Θ:TT)(ti:TI)(h:VH)(n:Nat)(v:V)(lo hi:Option V)(K:Bool→V→VH→Prop):Prop:=
 match ti.k with
 | .str=>(match v with
  | .str s=>jU s.size hi s.size fun hh=>jU hh lo 0 fun ll=>K false (.str (s.extract ll hh)) []
  |_=>False)
 | .slice E=>aK Θ E fun ei=>(match v with
  | .lst t xs=>vz ei xs lo hi fun ys=>K false (.lst t ys) []
  | .nils=>vz ei (t:=.int .i64) [] lo hi fun ys=>K false (.lst (.int .i64) ys) []
  | .ref b=>cf h b fun x=>(match x with
   | .row E' t xs=>(match t.pure && !ti.own with
    |true=>Chk t.pure (vz ei xs lo hi fun ys=>K false (.lst t ys) [(b,.froz t xs)])
    |false=>Chk (match lo with|none=>!Nat.beq b n|_=>false) (vz ei xs none hi fun ys=>K true (.ref n) [(b,.gone),(n,.row E' t ys)]))
   | .froz t xs=>vz ei xs lo hi fun ys=>K false (.lst t ys) []
   |_=>False)
  |_=>False)
 | .arr m E=>(match v,lo,hi with
  | .ptr b o,none,none=>aK Θ E fun _=>cf h b fun x=>(match x with
   | .var _ _=>Chk (decide (m≤maxLen)) (K false (.vref b o m) [])
   | .vari _ _ _ _ _ _=>Chk (decide (m≤maxLen)) (K false (.vref b o m) [])
   |_=>False)
  |_,_,_=>False)
 |_=>False
theorem iX {P:Program}{E:TypeId}{ei:TI}(_:ei.ok P E){t:Ty}{xs:List t.den}{lo hi:Option V}{K:List t.den→Prop}(h:vz ei xs lo hi K):
  tz ei.sz (xs.map (aa t))=ei.sz∧∃hh ll ys,dU (xs.map (aa t)).length (hi.map V.toD) (xs.map (aa t)).length=some hh∧dU hh (lo.map V.toD) 0=some ll∧((xs.map (aa t)).take hh).drop ll=ys.map (aa t)∧K ys:=by
 obtain⟨c,h1⟩:=Chk.ok h
 simp only[beq_iff_eq] at c
 obtain⟨hh,b1,b2,h2⟩:=gE h1
 obtain⟨ll,b3,b4,h3⟩:=gE h2
 refine⟨mL _ _ _ c,hh,ll,_,by rw[List.length_map];exact b1,b3,?_,h3⟩
 rw[zV xs b2 b4,←List.map_take,←List.map_drop]
theorem row_all {t:Ty}(ht:t.pure=true)(xs:List t.den):((xs.map (aa t)).all fun e=>e.cells.all D.pure0)=true:=by
 rw[List.all_eq_true]
 intro e he
 obtain⟨x,_,rfl⟩:=List.mem_map.1 he
 exact(e9 ht x).2
theorem wj {P:Program}{Θ:TT}(hΘ:Θ.ok P){T:TypeId}{ti:TI}(ht:ti.ok P T){h:VH}{n:Nat}(hn:∀c:Id,n≤c.1→look (toH h) c=none){v:V}{lo hi:Option V}{K:Bool→V→VH→Prop}(hk:tq Θ ti h n v lo hi K):∃q r u vu,cJ P (toH h) q (n,0) T v.toD (lo.map V.toD) (hi.map V.toD)=some (r.toD,u)∧bi h u vu∧K q r vu:=by
 have hu:=ht.und
 unfold tq at hk
 split at hk
 ·rename_i e
  rw[e] at hu
  split at hk
  ·rename_i s
   obtain⟨hh,b1,b2,h2⟩:=gE hk
   obtain⟨ll,b3,b4,h3⟩:=gE h2
   refine⟨_,_,[],_,?_,az,h3⟩
   unfold cJ
   simp only[show P.underlying T=some .string from hu,V.toD,b1,b3]
  ·exact hk.elim
 ·rename_i E e
  rw[e] at hu
  have hu':P.underlying T=some (.slice E):=hu
  obtain⟨ei,l1,hk⟩:=ao hk
  have hei:=hΘ _ _ l1
  unfold cJ
  simp only[hu',hei.size]
  split at hk
  ·obtain⟨c,hh,ll,ys,b1,b2,b3,h3⟩:=iX hei hk
   exact⟨_,_,[],_,by simp only[V.toD,elems,c,if_true,b1,b2,b3],az,h3⟩
  ·obtain⟨c,hh,ll,ys,b1,b2,b3,h3⟩:=iX hei hk
   simp only[List.map_nil] at c b1 b3
   exact⟨_,_,[],_,by simp only[V.toD,elems,c,if_true,b1,b2,b3],az,h3⟩
  ·rename_i b _
   obtain⟨x,x1,h2⟩:=aB hk
   split at h2
   ·rename_i E' t xs
    have hl:=am (i:=0) x1 (d:=.row E' (xs.map (aa t))) rfl
    split at h2
    ·obtain⟨cp,h2⟩:=h2.ok
     obtain⟨c,hh,ll,ys,b1,b2,b3,h3⟩:=iX hei h2
     refine⟨_,_,[((b,0),.froz (xs.map (aa t)))],_,?_,dH x1 rfl rfl,h3⟩
     simp only[V.toD,elems,hl,c,if_true,b1,b2,b3,Bool.false_eq_true,if_false,row_all cp]
    ·obtain⟨c0,h9⟩:=h2.ok
     clear h2
     cases lo with
     |some l=>cases c0
     |none=>
      have hbn:b≠n:=by rintro rfl;simp at c0
      obtain⟨c,hh,ll,ys,b1,b2,b3,h3⟩:=iX hei h9
      simp only[Option.map_none,dU,Option.some.injEq] at b2
      subst b2
      refine⟨_,.ref n,[((b,0),.gone),((n,0),.row E' (ys.map (aa t)))],_,?_,pM hn x1 rfl hbn rfl,h3⟩
      rw[List.drop_zero] at b3
      have e0:∀q:Nat,dU q (none:Option D) 0=some 0:=fun _=>rfl
      simp only[V.toD,elems,hl,c,if_true,b1,Option.map_none,e0,b3]
   ·rename_i t xs
    have hl:=am (i:=0) x1 (d:=.froz (xs.map (aa t))) rfl
    obtain⟨c,hh,ll,ys,b1,b2,b3,h3⟩:=iX hei h2
    exact⟨false,_,[],_,by simp only[V.toD,elems,hl,c,if_true,b1,b2,b3],az,h3⟩
   ·exact h2.elim
  ·exact hk.elim
 ·rename_i m E e
  rw[e] at hu
  split at hk
  ·obtain⟨ei,l1,hk⟩:=ao hk
   obtain⟨x,x1,h2⟩:=aB hk
   split at h2
   ·rename_i T' cs
    have hl:=am (i:=0) x1 (d:=.var T' (ae cs)) rfl
    obtain⟨c,h3⟩:=h2.ok
    simp only[decide_eq_true_eq] at c
    refine⟨_,_,[],_,?_,az,h3⟩
    unfold cJ
    simp only[show P.underlying T=some (.array m E) from hu,V.toD,(hΘ _ _ l1).size,Option.map_none,hl,if_pos c]
   ·rename_i T' pre m' t xs post
    have hl:=am (i:=0) x1 (d:=.var T' (ae pre++xs.map (aa t)++ae post)) rfl
    obtain⟨c,h3⟩:=h2.ok
    simp only[decide_eq_true_eq] at c
    refine⟨_,_,[],_,?_,az,h3⟩
    unfold cJ
    simp only[show P.underlying T=some (.array m E) from hu,V.toD,(hΘ _ _ l1).size,Option.map_none,hl,if_pos c]
   ·exact h2.elim
  ·exact hk.elim
 ·exact hk.elim
def ou (t:Ty)(xs:List t.den)(K:ByteArray→Prop):Prop:=
 match t,xs with
 | .int .u8,xs=>K ⟨(xs.map fun n:Int=>UInt8.ofNat n.toNat).toArray⟩
 |_,_=>False
theorem sj {t:Ty}{xs:List t.den}{K:ByteArray→Prop}(h:ou t xs K):∃bs,(xs.map (aa t)).mapM gG=some bs∧K ⟨bs.toArray⟩:=by
 unfold ou at h
 split at h
 ·rename_i xs
  refine⟨_,?_,h⟩
  rw[show xs.map (aa (.int .u8))=xs.map (D.int .u8) from rfl,List.mapM_map]
  exact nK (f:=gG∘D.int .u8) fun x _=>rfl
 ·exact h.elim
def w6 (Θ:TT)(ti si:TI)(h:VH)(v:V)(K:V→Prop):Prop:=
 match ti.k with
 | .int k=>(match v,si.k with
  | .int _ n,.int _=>Ari k n fun z=>K (.int k z)
  |_,_=>False)
 | .str=>(match si.k with
  | .str=>(match v with
   | .str s=>K (.str s)
   |_=>False)
  | .slice E=>aK Θ E fun ei=>(match ei.k with
   | .int .u8=>Chk (ei.sz==1) (jW h v fun t xs=>ou t xs fun s=>K (.str s))
   |_=>False)
  |_=>False)
 |_=>False
theorem w7 {P:Program}{Θ:TT}(hΘ:Θ.ok P){S T:TypeId}{ti si:TI}(ht:ti.ok P T)(hs:si.ok P S){h:VH}{v:V}{K:V→Prop}(hk:w6 Θ ti si h v K):∃r,iz P (toH h) S T v.toD=some r.toD∧K r:=by
 have hu:=ht.und
 have hv:=hs.und
 unfold w6 at hk
 split at hk
 ·rename_i k e
  rw[e] at hu
  split at hk
  ·rename_i k1 n1 k2 e2
   rw[e2] at hv
   refine⟨_,?_,hk.ok⟩
   unfold iz
   simp only[show P.underlying T=some (.int k) from hu,show P.underlying S=some (.int k2) from hv,V.toD]
  ·exact hk.elim
 ·rename_i e
  rw[e] at hu
  split at hk
  ·rename_i e2
   rw[e2] at hv
   split at hk
   ·refine⟨_,?_,hk⟩
    unfold iz
    simp only[show P.underlying T=some .string from hu,show P.underlying S=some .string from hv,V.toD]
   ·exact hk.elim
  ·rename_i E e2
   rw[e2] at hv
   obtain⟨ei,l1,hk⟩:=ao hk
   have hei:=hΘ _ _ l1
   have hek:=hei.und
   split at hk
   ·rename_i e3
    rw[e3] at hek
    obtain⟨c,hk⟩:=hk.ok
    simp only[beq_iff_eq] at c
    obtain⟨t,xs,h1,h2⟩:=gP hk
    obtain⟨bs,h3,h4⟩:=sj h2
    refine⟨_,?_,h4⟩
    unfold iz
    have hsz:sizeT P E=some 1:=by rw[hei.size,c]
    simp only[show P.underlying T=some .string from hu,show P.underlying S=some (.slice E) from hv,show P.underlying E=some (.int .u8) from hek,hsz,h1,h3,V.toD]
   ·exact hk.elim
  ·exact hk.elim
 ·exact hk.elim
def ub (t:VT)(x:Option Operand)(K:Option V→Prop):Prop:=
 match x with
 |none=>K none
 |some x=>kz t x fun v=>K (some v)
theorem qq {t:VT}{x:Option Operand}{K:Option V→Prop}(h:ub t x K):∃v,fa (dA t) x=some (v.map V.toD)∧K v:=by
 unfold ub at h
 split at h
 ·exact⟨none,rfl,h⟩
 ·obtain⟨v,h1,h2⟩:=bc h
  exact⟨some v,by simp only[fa,h1,Option.map_some],h2⟩
def aj (P:Program)(f:FuncId)(vs:List V)(hin:VH)(r:V)(hout:VH):Prop:=Con P f (ae vs) (toH hin) r.toD (toH hout)
def bV (P:Program)(f:FuncId)(vs:List V)(hin:VH)(K:V→VH→Prop):Prop:=∃r hout,aj P f vs hin r hout∧K r hout
def jl (n:Nat):List Nat→Nat→Nat
 |[],i=>n+i
 |o::_,0=>o
 |_::os,i+1=>jl n os i
def gN (os:List Nat)(n k:Nat):Nat:=match k with
 |0=>0
 |1=>1
 |2=>2
 |3=>3
 |k+4=>jl n os k
abbrev gI (g:Nat→Nat):Id→Id:=fun b=>(g b.1,b.2)
def v8 (os:List Nat)(n:Nat):Bool:=gt os && (os.all fun o=>Nat.ble 4 o && Nat.blt o n) && Nat.ble 4 n
theorem cb {n:Nat}:∀{os:List Nat} {i b:Nat},os[i]?=some b→jl n os i=b
 |[],i,b,h=>by simp at h
 |o::os,0,b,h=>by simpa[jl] using h
 |o::os,i+1,b,h=>by simpa[jl] using cb (os:=os) (i:=i) (by simpa using h)
theorem rg {n:Nat}:∀{os:List Nat} {i:Nat},os.length≤i→jl n os i=n+(i-os.length)
 |[],i,_=>by simp[jl]
 |o::os,0,h=>by simp at h
 |o::os,i+1,h=>by
  have:=rg (n:=n) (os:=os) (i:=i) (by simpa using h)
  simp only[jl,this,List.length_cons]
  omega
theorem jY (os:List Nat)(n:Nat){k:Nat}(hk:k<4):gN os n k=k:=by
 match k,hk with
 |0,_|1,_|2,_|3,_=>rfl
theorem dD (os:List Nat)(n m:Nat):gN os n (4+m)=jl n os m:=by rw[Nat.add_comm];rfl
theorem uJ {os:List Nat}{n:Nat}(h:v8 os n=true):os.Nodup∧(∀o∈os,4≤o∧o<n)∧4≤n:=by
 unfold v8 at h
 simp only[Bool.and_eq_true,List.all_eq_true] at h
 obtain⟨⟨h1,h2⟩,h3⟩:=h
 exact⟨fo h1,fun o ho=>⟨Nat.le_of_ble_eq_true (h2 o ho).1,by have:=(h2 o ho).2;simpa[Nat.blt_eq] using this⟩,Nat.le_of_ble_eq_true h3⟩
theorem k5 (os:List Nat)(n k:Nat):(k<4∧gN os n k=k)∨(∃m b,k=4+m∧os[m]?=some b∧gN os n k=b)∨(∃m,k=4+m∧os.length≤m∧gN os n k=n+(m-os.length)):=by
 by_cases hk:k<4
 ·exact .inl ⟨hk,jY os n hk⟩
 ·obtain⟨m,rfl⟩:∃m,k=4+m:=⟨k-4,by omega⟩
  rw[dD]
  by_cases hm:m<os.length
  ·exact .inr (.inl ⟨m,os[m],rfl,List.getElem?_eq_getElem hm,cb (List.getElem?_eq_getElem hm)⟩)
  ·exact .inr (.inr ⟨m,rfl,by omega,rg (by omega)⟩)
theorem xE {os:List Nat}{n:Nat}(h:v8 os n=true){a b:Nat}(he:gN os n a=gN os n b):a=b:=by
 obtain⟨h1,h2,h3⟩:=uJ h
 rcases k5 os n a with⟨a1,a2⟩|⟨m,x,rfl,a1,a2⟩|⟨m,rfl,a1,a2⟩<;>rcases k5 os n b with⟨b1,b2⟩|⟨m',y,rfl,b1,b2⟩|⟨m',rfl,b1,b2⟩<;>rw[a2,b2] at he
 ·exact he
 ·have:=h2 y (List.mem_of_getElem? b1);omega
 ·omega
 ·have:=h2 x (List.mem_of_getElem? a1);omega
 ·subst he
  have e1:=(List.getElem?_eq_some_iff.1 a1).1
  have:=(List.getElem?_inj e1 h1).1 (a1.trans b1.symm)
  omega
 ·have:=h2 x (List.mem_of_getElem? a1);omega
 ·omega
 ·have:=h2 y (List.mem_of_getElem? b1);omega
 ·omega
theorem xD {os:List Nat}{n:Nat}(h:v8 os n=true){a b:Id}(he:gI (gN os n) a=gI (gN os n) b):a=b:=by
 obtain⟨a1,a2⟩:=a
 obtain⟨b1,b2⟩:=b
 simp only[gI,Prod.mk.injEq] at he⊢
 exact⟨xE h he.1,he.2⟩
def kb (b:Nat):List Nat→Nat→(Option Nat→Prop)→Prop
 |[],_,K=>K none
 |o::os,i,K=>bif Nat.beq o b then K (some i) else dt (i+1) fun i=>kb b os i K
theorem cX {b:Nat}:∀{os:List Nat} {i:Nat} {K:Option Nat→Prop},kb b os i K→∃r,(r=none→b∉os)∧(∀j,r=some j→∃m,j=i+m∧os[m]?=some b)∧K r
 |[],i,K,hk=>⟨none,by simp,by simp,hk⟩
 |o::os,i,K,hk=>by
  simp only[kb] at hk
  cases hb:Nat.beq o b with
  |true=>
   rw[hb] at hk
   obtain rfl:=Nat.eq_of_beq_eq_true hb
   exact⟨some i,by simp,fun j hj=>⟨0,by simpa using hj.symm,rfl⟩,hk⟩
  |false=>
   rw[hb] at hk
   simp only[cond_false] at hk
   have hk:=aP hk
   obtain⟨r,h1,h2,h3⟩:=cX hk
   refine⟨r,fun hr hm=>?_,fun j hj=>?_,h3⟩
   ·rcases List.mem_cons.1 hm with rfl|hm
    ·simp at hb
    ·exact h1 hr hm
   ·obtain⟨m,e1,e2⟩:=h2 j hj
    exact⟨m+1,by omega,by simpa using e2⟩
def Ty.fams:Ty→List Nat
 | .hr k| .hp k| .vtxo k| .pplm k| .nod k| .evto k=>[k]
 | .pplo k k'=>[k,k']
 |_=>[]
def zm (a b:List Nat):Bool:=a.all fun x=>b.contains x
theorem py {a b:List Nat}(h:zm a b=true):∀x∈a,x∈b:=by
 unfold zm at h
 rw[List.all_eq_true] at h
 intro x hx
 simpa using h x hx
def Et (pss:List (List Int)):Option Nat→Option (List Int)
 |some i=>pss[i]?
 |none=>some []
def BS (pss:List (List Int))(x:VtxO):Option Vtx:=(Et pss x.parents).map fun ps=>⟨x.round,x.author,ps,x.digest⟩
def Fb (pss mss:List (List Int))(x:PplO):Option Ppl:=(BS pss x.v).bind fun v=>(Et mss x.members).map fun ms=>⟨v,ms⟩
def FT (pss:List (List Int))(x:EvtO):Option Evt:=(BS pss x.v).map fun v=>⟨x.kind,x.a,x.b,v⟩
def Fa (pss:List (List Int))(vss:List (List VtxO)):Option Nat→Option (List Vtx)
 |some i=>vss[i]?.bind fun vs=>vs.mapM (BS pss)
 |none=>some []
def Fo (pss:List (List Int))(xs:List VtxO):List (List Vtx):=(xs.mapM (BS pss)).toList
def xi (pss mss:List (List Int))(xs:List PplO):List (List Ppl):=(xs.mapM (Fb pss mss)).toList
def Fn (pss:List (List Int))(xs:List EvtO):List (List Evt):=(xs.mapM (FT pss)).toList
def xh (pss:List (List Int))(vss:List (List VtxO))(xs:List (Option Nat)):List (List (List Vtx)):=(xs.mapM (Fa pss vss)).toList
def xb (h:VH)(b:Nat)(t:Ty)(xs:List t.den)(K:V→List Nat→Prop):Prop:=
 match t,xs with
 | .vtxo k,xs=>(match aw h k with
  |some (.frow _ (.int .i64) pss)=>di (Fo pss xs) 0 fun ys=>K (.lst .vtx ys) [b,k]
  |_=>False)
 | .pplo k k',xs=>(match aw h k,aw h k' with
  |some (.frow _ (.int .i64) pss),some (.frow _ (.int .i64) mss)=>di (xi pss mss xs) 0 fun ys=>K (.lst .ppl ys) [b,k,k']
  |_,_=>False)
 | .evto k,xs=>(match aw h k with
  |some (.frow _ (.int .i64) pss)=>di (Fn pss xs) 0 fun ys=>K (.lst .evt ys) [b,k]
  |_=>False)
 | .hr k,xs=>(match aw h k with
  |some (.frow _ (.vtxo k') vss)=>(match aw h k' with
   |some (.frow _ (.int .i64) pss)=>di (xh pss vss xs) 0 fun ys=>K (.lst (.lst .vtx) ys) [b,k,k']
   |_=>False)
  |_=>False)
 |_,_=>False
mutual
def a6 (os fs:List Nat)(h:VH)(v:V)(K:V→List Nat→Prop):Prop:=
 match v with
 | .ref b=>kb b os 4 fun r=>(match r with
  |some i=>K (.ref i) []
  |none=>(match aw h b with
   |some (.row _ t xs)=>(match t.pure with
    |true=>K (.lst t xs) [b]
    |false=>Chk (os.isEmpty && fs.isEmpty) (xb h b t xs K))
   |some (.froz t xs)=>K (.lst t xs) [b]
   |_=>False))
 | .ptr b o=>kb b os 4 fun r=>(match r with
  |some i=>K (.ptr i o) []
  |none=>(match aw h b,o with
   |some (.fvb t x),0=>K (.box t x) [b]
   |_,_=>False))
 | .eptr b j o=>kb b os 4 fun r=>(match r with|some i=>K (.eptr i j o) []|none=>False)
 | .vref b o m=>kb b os 4 fun r=>(match r with|some i=>K (.vref i o m) []|none=>False)
 | .aptr b p j=>kb b os 4 fun r=>(match r with|some i=>K (.aptr i p j) []|none=>False)
 | .fref k i=>Chk (fs.contains k) (K (.fref k i) [])
 | .fptr k i o=>Chk (fs.contains k) (K (.fptr k i o) [])
 | .feptr k i j o=>Chk (fs.contains k) (K (.feptr k i j o) [])
 | .faptr k i p j=>Chk (fs.contains k) (K (.faptr k i p j) [])
 | .hro k o=>(match fs.contains k with
  |true=>K (.hro k o) []
  |false=>eY o False fun i=>(match aw h k with
   |some (.frow _ t xss)=>Chk (t.pure && !os.contains k) (di xss i fun xs=>K (.lst t xs) [k])
   |some (.frowx _ t xss)=>Chk (t.pure && !os.contains k) (di xss i fun ox=>eY ox False fun xs=>K (.lst t xs) [k])
   |_=>False))
 | .hpo k o=>Chk (fs.contains k) (K (.hpo k o) [])
 | .agg cs=>fX os fs h cs fun cs ws=>K (.agg cs) ws
 | .clo f cs=>fX os fs h cs fun cs ws=>K (.clo f cs) ws
 | .ifc T v=>a6 os fs h v fun v ws=>K (.ifc T v) ws
 | .nils=>K (.lst (.int .i64) []) []
 | .int k n=>K (.int k n) []
 | .bool b=>K (.bool b) []
 | .tt=>K .tt []
 | .ff=>K .ff []
 | .str s=>K (.str s) []
 | .lst t xs=>K (.lst t xs) []
 | .box t x=>K (.box t x) []
 | .nilp=>K .nilp []
 | .nilf=>K .nilf []
 | .nili=>K .nili []
 | .gv g=>K (.gv g) []
 | .obo t o=>K (.obo t o) []
 | .junk=>K .junk []
 |_=>False
def fX (os fs:List Nat)(h:VH)(l:List V)(K:List V→List Nat→Prop):Prop:=
 match l with
 |[]=>K [] []
 |v::l=>a6 os fs h v fun v ws=>fX os fs h l fun l ws'=>K (v::l) (ws++ws')
end
def E7 (h:VH)(b:Nat):Prop:=(∃E t,∃xs:List (Ty.den t),t.pure=true∧look h b=some (.row E t xs))∨(∃t,∃xs:List (Ty.den t),look h b=some (.froz t xs))∨∃t,∃x:Ty.den t,look h b=some (.fvb t x)
def E8 (h:VH)(b:Nat):Prop:=(∃E t,∃xs:List (List (Ty.den t)),look h b=some (.frow E t xs))∨(∃E t,∃xs:List (Option (List (Ty.den t))),look h b=some (.frowx E t xs))∨∃E t,∃xs:List (Ty.den t),t.pure=false∧look h b=some (.row E t xs)
def m5 (h:VH)(os fs:List Nat)(b:Nat):Prop:=b∉os∧(E7 h b∨(b∉fs∧E8 h b))
def DY (h:VH)(ws:List Nat)(W:List Id):Prop:=∀b∈ws,∀i,Live (toH h) (b,i)→(b,i)∈W
structure HinOK (os fs:List Nat)(h:VH)(hin:HL):Prop where
 low:∀k∈fs,k<4
 sgl:∀m b,os[m]?=some b→Live hin (4+m,0)
 fam:∀k∈fs,∀i,Live (toH h) (k,i)→Live hin (k,i)
theorem ir {os fs:List Nat}{n:Nat}{h:VH}{hin:HL}(H:HinOK os fs h hin){m b:Nat}(hb:os[m]?=some b):VLive (toH h) (gI (gN os n)) hin fs (4+m,0)∧gI (gN os n) (4+m,0)=(b,0):=
 ⟨.inl (H.sgl m b hb),by simp only[gI,dD,cb hb]⟩
theorem kt {os fs:List Nat}{n:Nat}{h:VH}{hin:HL}(H:HinOK os fs h hin){k:Nat}(hk:k∈fs)(i:Nat):VLive (toH h) (gI (gN os n)) hin fs (k,i)∧gI (gN os n) (k,i)=(k,i):=by
 have e:gI (gN os n) (k,i)=(k,i):=by simp only[gI,jY os n (H.low k hk)]
 exact⟨.inr ⟨by rw[e];exact hk,fun hl=>H.fam k hk i (by rw[e] at hl;exact hl)⟩,e⟩
section
variable {os fs:List Nat} {n:Nat} {h:VH} {hin:HL} {W:List Id}
theorem zx (H:HinOK os fs h hin){m b:Nat}(hb:os[m]?=some b):View (toH h) (gI (gN os n)) hin W fs (.ref (b,0)) (.ref (4+m,0)):=by
 obtain⟨h1,h2⟩:=ir (n:=n) H hb
 have:=View.ref (W:=W) _ h1
 rwa [h2] at this
theorem rR (H:HinOK os fs h hin){m b:Nat}(hb:os[m]?=some b)(o:Nat):View (toH h) (gI (gN os n)) hin W fs (.ptr (b,0) o) (.ptr (4+m,0) o):=by
 obtain⟨h1,h2⟩:=ir (n:=n) H hb
 have:=View.ptr (W:=W) _ o h1
 rwa [h2] at this
theorem wv (H:HinOK os fs h hin){m b:Nat}(hb:os[m]?=some b)(j o:Nat):View (toH h) (gI (gN os n)) hin W fs (.eptr (b,0) j o) (.eptr (4+m,0) j o):=by
 obtain⟨h1,h2⟩:=ir (n:=n) H hb
 have:=View.eptr (W:=W) _ j o h1
 rwa [h2] at this
theorem ww (H:HinOK os fs h hin){m b:Nat}(hb:os[m]?=some b)(o q:Nat):View (toH h) (gI (gN os n)) hin W fs (.vref (b,0) o q) (.vref (4+m,0) o q):=by
 obtain⟨h1,h2⟩:=ir (n:=n) H hb
 have:=View.vref (W:=W) _ o q h1
 rwa [h2] at this
theorem nZ (H:HinOK os fs h hin){k:Nat}(hk:k∈fs)(i:Nat):View (toH h) (gI (gN os n)) hin W fs (.ref (k,i)) (.ref (k,i)):=by
 obtain⟨h1,h2⟩:=kt (n:=n) H hk i
 have:=View.ref (W:=W) _ h1
 rwa [h2] at this
theorem kr (H:HinOK os fs h hin){k:Nat}(hk:k∈fs)(i o:Nat):View (toH h) (gI (gN os n)) hin W fs (.ptr (k,i) o) (.ptr (k,i) o):=by
 obtain⟨h1,h2⟩:=kt (n:=n) H hk i
 have:=View.ptr (W:=W) _ o h1
 rwa [h2] at this
theorem tD (H:HinOK os fs h hin){k:Nat}(hk:k∈fs)(i j o:Nat):View (toH h) (gI (gN os n)) hin W fs (.eptr (k,i) j o) (.eptr (k,i) j o):=by
 obtain⟨h1,h2⟩:=kt (n:=n) H hk i
 have:=View.eptr (W:=W) _ j o h1
 rwa [h2] at this
theorem eN (H:HinOK os fs h hin){k:Nat}(hk:k∈fs)(o:Option Nat):View (toH h) (gI (gN os n)) hin W fs (gY k o) (gY k o):=by
 cases o with
 |none=>exact .pure 0 _ _ rfl (fun b hb=>by cases hb)
 |some i=>exact nZ H hk i
theorem u6 (H:HinOK os fs h hin){k:Nat}(hk:k∈fs)(o:Option Nat):View (toH h) (gI (gN os n)) hin W fs (kD k o) (kD k o):=by
 cases o with
 |none=>exact .pure 0 _ _ rfl (fun b hb=>by cases hb)
 |some i=>exact kr H hk i 0
theorem iq {d d':D}{g:Id→Id}{hh:HL}(hd:leaf d=some d'):View hh g hin W fs d d':=.pure 0 _ _ hd (fun b hb=>by cases hb)
theorem fB {cs:List D}{g:Id→Id}{hh:HL}(hc:∀c∈cs,View hh g hin W fs c c):View hh g hin W fs (.agg cs) (.agg cs):=.agg cs cs rfl fun i hi=>hc _ (aD hi)
theorem jL (H:HinOK os fs h hin){t:Ty}(ht:∀k∈t.fams,k∈fs)(x:t.den):View (toH h) (gI (gN os n)) hin W fs (aa t x) (aa t x):=by
 by_cases hp:t.pure=true
 ·by_cases hag:∃cs,aa t x= .agg cs
  ·obtain⟨cs,he⟩:=hag
   have:=fp hp x
   rw[he] at this⊢
   exact fB fun c hc=>iq (this c hc)
  ·have hc:(aa t x).cells=[aa t x]:=bq fun cs hcs=>hag ⟨cs,hcs⟩
   exact iq (fp hp x _ (by rw[hc];exact List.mem_singleton.2 rfl))
 ·have lf:∀d:D,leaf d=some d→View (toH h) (gI (gN os n)) hin W fs d d:=fun d hd=>iq hd
  cases t<;>simp only[Ty.pure,not_true_eq_false] at hp
  case hr k=>exact eN H (ht k (by simp[Ty.fams])) x
  case hp k=>exact u6 H (ht k (by simp[Ty.fams])) x
  case vtxo k=>
   refine fB fun c hc=>?_
   simp only[List.mem_cons,List.not_mem_nil,or_false] at hc
   rcases hc with rfl|rfl|rfl|rfl
   ·exact lf _ rfl
   ·exact lf _ rfl
   ·exact eN H (ht k (by simp[Ty.fams])) _
   ·exact lf _ rfl
  case pplm k=>
   refine fB fun c hc=>?_
   simp only[dZ,List.cons_append,List.nil_append,List.mem_cons,List.not_mem_nil,or_false] at hc
   rcases hc with rfl|rfl|rfl|rfl|rfl
   ·exact lf _ rfl
   ·exact lf _ rfl
   ·exact lf _ rfl
   ·exact lf _ rfl
   ·exact eN H (ht k (by simp[Ty.fams])) _
  case pplo k k'=>
   refine fB fun c hc=>?_
   simp only[List.mem_cons,List.not_mem_nil,or_false] at hc
   rcases hc with rfl|rfl|rfl|rfl|rfl
   ·exact lf _ rfl
   ·exact lf _ rfl
   ·exact eN H (ht k (by simp[Ty.fams])) _
   ·exact lf _ rfl
   ·exact eN H (ht k' (by simp[Ty.fams])) _
  case evto k=>
   refine fB fun c hc=>?_
   simp only[List.mem_cons,List.not_mem_nil,or_false] at hc
   rcases hc with rfl|rfl|rfl|rfl|rfl|rfl|rfl
   ·exact lf _ rfl
   ·exact lf _ rfl
   ·exact lf _ rfl
   ·exact lf _ rfl
   ·exact lf _ rfl
   ·exact eN H (ht k (by simp[Ty.fams])) _
   ·exact lf _ rfl
  case nod k=>
   refine fB fun c hc=>?_
   simp only[dZ,List.cons_append,List.nil_append,List.mem_cons,List.not_mem_nil,or_false] at hc
   rcases hc with rfl|rfl|rfl|rfl|rfl|rfl
   ·exact lf _ rfl
   ·exact lf _ rfl
   ·exact lf _ rfl
   ·exact lf _ rfl
   ·exact lf _ rfl
   ·exact eN H (ht k (by simp[Ty.fams])) _
theorem u7 {b:Nat}(hw:(b,0)∈W){t:Ty}{xs:List t.den}{g:Id→Id}(hb:(∃E,t.pure=true∧look h b=some (.row E t xs))∨look h b=some (.froz t xs)):View (toH h) g hin W fs (.ref (b,0)) (.lst (xs.map (aa t))):=by
 refine .pure 1 _ _ ?_ fun c hc=>?_
 ·rcases hb with⟨E,hp,hb⟩|hb
  ·have hl:=am (i:=0) hb (d:=.row E (xs.map (aa t))) rfl
   simp only[purD,hl]
   rw[show (fun x=>leaf x)=leaf from rfl,row_pure hp]
   rfl
  ·have hl:=am (i:=0) hb (d:=.froz (xs.map (aa t))) rfl
   simp only[purD,hl]
 ·unfold idsD at hc
  rcases List.mem_cons.1 hc with rfl|hc
  ·exact hw
  ·exfalso
   split at hc
   ·rw[List.mem_flatMap] at hc
    obtain⟨e,_,hc⟩:=hc
    rw[List.mem_flatMap] at hc
    obtain⟨d,_,hc⟩:=hc
    cases hc
   ·cases hc
theorem rS {b i:Nat}(hw:(b,i)∈W){E:TypeId}{t:Ty}{xs:List t.den}{g:Id→Id}(hp:t.pure=true)(hl:look (toH h) (b,i)=some (.row E (xs.map (aa t)))):View (toH h) g hin W fs (.ref (b,i)) (.lst (xs.map (aa t))):=by
 refine .pure 1 _ _ ?_ fun c hc=>?_
 ·simp only[purD,hl]
  rw[show (fun x=>leaf x)=leaf from rfl,row_pure hp]
  rfl
 ·unfold idsD at hc
  rcases List.mem_cons.1 hc with rfl|hc
  ·exact hw
  ·exfalso
   split at hc
   ·rw[List.mem_flatMap] at hc
    obtain⟨e,_,hc⟩:=hc
    rw[List.mem_flatMap] at hc
    obtain⟨d,_,hc⟩:=hc
    cases hc
   ·cases hc
theorem jj {α β:Type}{f:α→Option β}{l:List α}{l':List β}(h:l.mapM f=some l'):l.length=l'.length∧∀(i:Nat) x,l[i]?=some x→∃y,l'[i]?=some y∧f x=some y:=by
 induction l generalizing l' with
 |nil=>simp at h;subst h;exact⟨rfl,fun i x hx=>by simp at hx⟩
 |cons a l ih=>
  simp only[List.mapM_cons,Option.bind_eq_bind,Option.pure_def] at h
  obtain⟨y,h1,h⟩:=Option.bind_eq_some_iff.1 h
  obtain⟨l2,h2,h⟩:=Option.bind_eq_some_iff.1 h
  obtain rfl:=Option.some.inj h
  obtain⟨h3,h4⟩:=ih h2
  refine⟨by simp[h3],fun i x hx=>?_⟩
  cases i with
  |zero=>simp at hx;subst hx;exact⟨y,rfl,h1⟩
  |succ i=>simpa using h4 i x (by simpa using hx)
theorem mj {α β γ δ:Type}{f:α→Option β}{p:γ→α}{q:δ→β}:∀{l:List γ} {l':List δ},l.length=l'.length→(∀(i:Nat) x y,l[i]?=some x→l'[i]?=some y→f (p x)=some (q y))→(l.map p).mapM f=some (l'.map q)
 |[],[],_,_=>rfl
 |[],_::_,h,_=>by cases h
 |_::_,[],h,_=>by cases h
 |x::l,y::l',hl,h=>by simp[List.mapM_cons,h 0 x y rfl rfl,mj (l:=l) (l':=l') (by simpa using hl) fun i a b ha hb=>h (i+1) a b (by simpa using ha) (by simpa using hb)]
structure DpE (h:VH)(n:Nat)(g:List Nat)(d d':D):Prop where
 pur:purE (purD (toH h) n) d=some d'
 ids:∀c∈d.cells,∀b∈idsD (toH h) n c,b.1∈g∧Live (toH h) b
theorem sB {h:VH}{n:Nat}{g:List Nat}{k i:Nat}{E:TypeId}{ds ds':List D}(hl:look (toH h) (k,i)=some (.row E ds))(hk:k∈g)(hlen:ds.length=ds'.length)(hd:∀(j:Nat) x y,ds[j]?=some x→ds'[j]?=some y→DpE h n g x y):
  purD (toH h) (n+1) (.ref (k,i))=some (.lst ds')∧∀b∈idsD (toH h) (n+1) (.ref (k,i)),b.1∈g∧Live (toH h) b:=by
 constructor
 ·have:=mj (f:=purE (purD (toH h) n)) (p:=id) (q:=id) hlen fun j x y hx hy=>(hd j x y hx hy).pur
  simp only[List.map_id] at this
  simp only[purD,hl,this,Option.map_some]
 ·intro b hb
  simp only[idsD,hl] at hb
  rcases List.mem_cons.1 hb with rfl|hb
  ·exact⟨hk,Live.of_look hl⟩
  ·obtain⟨e,he,hb⟩:=List.mem_flatMap.1 hb
   obtain⟨c,hc,hb⟩:=List.mem_flatMap.1 hb
   obtain⟨j,hj⟩:=List.getElem?_of_mem he
   have hj2:j<ds'.length:=by rw[←hlen];exact(List.getElem?_eq_some_iff.1 hj).1
   exact(hd j e _ hj (List.getElem?_eq_getElem hj2)).ids c hc b hb
theorem z6 {h:VH}{n:Nat}{g:List Nat}{t:Ty}(ht:t.pure=true)(x:t.den)(hn:n=0):DpE h n g (aa t x) (aa t x):=by
 subst hn
 exact⟨nU ht x,fun c hc b hb=>by cases hb⟩
theorem t8 {h:VH}{g:List Nat}{k:Nat}{E:TypeId}{pss:List (List Int)}(hk:look h k=some (.frow E (.int .i64) pss))(hg:k∈g){o:Option Nat}{ps:List Int}(hp:Et pss o=some ps):
  purD (toH h) 1 (gY k o)=some (cO ps)∧∀b∈idsD (toH h) 1 (gY k o),b.1∈g∧Live (toH h) b:=by
 cases o with
 |none=>
  obtain rfl:=Option.some.inj hp
  exact⟨rfl,fun b hb=>by simp[gY,idsD] at hb⟩
 |some i=>
  have hl:=am (i:=i) hk (d:=.row E (ps.map (aa (.int .i64)))) (by simp only[VB.blks,List.getElem?_map];rw[show pss[i]?=some ps from hp];rfl)
  refine sB hl hg rfl fun j x y hx hy=>?_
  rw[ge] at hx
  rw[hx] at hy
  obtain rfl:=Option.some.inj hy
  obtain⟨e,_,rfl⟩:=List.mem_map.1 (List.mem_of_getElem? hx)
  exact z6 (t:=.int .i64) rfl e rfl
theorem dW {h:VH}{n:Nat}{g:List Nat}(x:Int):purD (toH h) n (.int .i64 x)=some (.int .i64 x)∧∀b∈idsD (toH h) n (.int .i64 x),b.1∈g∧Live (toH h) b:=by
 cases n<;>exact⟨rfl,fun b hb=>by simp[idsD] at hb⟩
theorem sA {h:VH}{n:Nat}{g:List Nat}:∀{cs cs':List D},cs.length=cs'.length→(∀(i:Nat) c c',cs[i]?=some c→cs'[i]?=some c'→purD (toH h) n c=some c'∧∀b∈idsD (toH h) n c,b.1∈g∧Live (toH h) b)→DpE h n g (.agg cs) (.agg cs'):=by
 intro cs cs' hl hc
 constructor
 ·have:=mj (f:=purD (toH h) n) (p:=id) (q:=id) hl fun i x y hx hy=>(hc i x y hx hy).1
  simp only[List.map_id] at this
  simp only[purE,this,Option.map_some]
 ·intro c hm b hb
  obtain⟨i,hi⟩:=List.getElem?_of_mem (show c∈cs from hm)
  have hi2:i<cs'.length:=by rw[←hl];exact(List.getElem?_eq_some_iff.1 hi).1
  exact(hc i c _ hi (List.getElem?_eq_getElem hi2)).2 b hb
theorem xj {h:VH}{g:List Nat}{k:Nat}{E:TypeId}{pss:List (List Int)}(hk:look h k=some (.frow E (.int .i64) pss))(hg:k∈g){x:VtxO}{y:Vtx}(hp:BS pss x=some y):DpE h 1 g (aa (.vtxo k) x) (aa .vtx y):=by
 obtain⟨ps,h1,rfl⟩:=Option.map_eq_some_iff.1 hp
 refine sA rfl fun i c c' hc hc'=>?_
 match i with
 |0=>obtain rfl:=Option.some.inj hc;obtain rfl:=Option.some.inj hc';exact dW _
 |1=>obtain rfl:=Option.some.inj hc;obtain rfl:=Option.some.inj hc';exact dW _
 |2=>obtain rfl:=Option.some.inj hc;obtain rfl:=Option.some.inj hc';exact t8 hk hg h1
 |3=>obtain rfl:=Option.some.inj hc;obtain rfl:=Option.some.inj hc';exact dW _
 |i+4=>cases hc
theorem Cw {h:VH}{g:List Nat}{k k':Nat}{E E':TypeId}{pss mss:List (List Int)}(hk:look h k=some (.frow E (.int .i64) pss))(hk':look h k'=some (.frow E' (.int .i64) mss))(hg:k∈g)(hg':k'∈g){x:PplO}{y:Ppl}(hp:Fb pss mss x=some y):DpE h 1 g (aa (.pplo k k') x) (aa .ppl y):=by
 obtain⟨v,h1,h2⟩:=Option.bind_eq_some_iff.1 hp
 obtain⟨ms,h3,rfl⟩:=Option.map_eq_some_iff.1 h2
 obtain⟨ps,h4,rfl⟩:=Option.map_eq_some_iff.1 h1
 refine sA rfl fun i c c' hc hc'=>?_
 match i with
 |0=>obtain rfl:=Option.some.inj hc;obtain rfl:=Option.some.inj hc';exact dW _
 |1=>obtain rfl:=Option.some.inj hc;obtain rfl:=Option.some.inj hc';exact dW _
 |2=>obtain rfl:=Option.some.inj hc;obtain rfl:=Option.some.inj hc';exact t8 hk hg h4
 |3=>obtain rfl:=Option.some.inj hc;obtain rfl:=Option.some.inj hc';exact dW _
 |4=>obtain rfl:=Option.some.inj hc;obtain rfl:=Option.some.inj hc';exact t8 hk' hg' h3
 |i+5=>cases hc
theorem Cu {h:VH}{g:List Nat}{k:Nat}{E:TypeId}{pss:List (List Int)}(hk:look h k=some (.frow E (.int .i64) pss))(hg:k∈g){x:EvtO}{y:Evt}(hp:FT pss x=some y):DpE h 1 g (aa (.evto k) x) (aa .evt y):=by
 obtain⟨v,h1,rfl⟩:=Option.map_eq_some_iff.1 hp
 obtain⟨ps,h2,rfl⟩:=Option.map_eq_some_iff.1 h1
 refine sA rfl fun i c c' hc hc'=>?_
 match i with
 |0=>obtain rfl:=Option.some.inj hc;obtain rfl:=Option.some.inj hc';exact dW _
 |1=>obtain rfl:=Option.some.inj hc;obtain rfl:=Option.some.inj hc';exact dW _
 |2=>obtain rfl:=Option.some.inj hc;obtain rfl:=Option.some.inj hc';exact dW _
 |3=>obtain rfl:=Option.some.inj hc;obtain rfl:=Option.some.inj hc';exact dW _
 |4=>obtain rfl:=Option.some.inj hc;obtain rfl:=Option.some.inj hc';exact dW _
 |5=>obtain rfl:=Option.some.inj hc;obtain rfl:=Option.some.inj hc';exact t8 hk hg h2
 |6=>obtain rfl:=Option.some.inj hc;obtain rfl:=Option.some.inj hc';exact dW _
 |i+7=>cases hc
theorem Cv {h:VH}{g:List Nat}{k k':Nat}{E E':TypeId}{pss:List (List Int)}{vss:List (List VtxO)}(hk:look h k=some (.frow E (.vtxo k') vss))(hk':look h k'=some (.frow E' (.int .i64) pss))(hg:k∈g)(hg':k'∈g){o:Option Nat}{y:List Vtx}(hp:Fa pss vss o=some y):DpE h 2 g (aa (.hr k) o) (aa (.lst .vtx) y):=by
 cases o with
 |none=>
  obtain rfl:=Option.some.inj hp
  exact⟨rfl,fun c hc b hb=>by simp[aa,gY,D.cells] at hc;subst hc;simp[idsD] at hb⟩
 |some i=>
  obtain⟨vs,h1,h2⟩:=Option.bind_eq_some_iff.1 hp
  have hl:=am (i:=i) hk (d:=.row E (vs.map (aa (.vtxo k')))) (by simp only[VB.blks,List.getElem?_map,h1,Option.map_some])
  obtain⟨h3,h4⟩:=jj h2
  obtain⟨q1,q2⟩:=sB (n:=1) (g:=g) (ds':=y.map (aa .vtx)) hl hg (by simp[h3]) fun j x z hx hz=>by
   rw[List.getElem?_map] at hx hz
   obtain⟨a,ha,rfl⟩:=Option.map_eq_some_iff.1 hx
   obtain⟨c,hc,rfl⟩:=Option.map_eq_some_iff.1 hz
   obtain⟨c2,hc2,hf⟩:=h4 j a ha
   rw[hc] at hc2
   obtain rfl:=Option.some.inj hc2
   exact xj hk' hg' hf
  refine⟨q1,fun c hc b hb=>?_⟩
  simp only[aa,gY,D.cells,List.mem_singleton] at hc
  subst hc
  exact q2 b hb
theorem ip {hin:HL}{W:List Id}{g:Id→Id}{fs:List Nat}{h:VH}{b n:Nat}{E:TypeId}{t t':Ty}{xs:List t.den}{ys:List t'.den}{ws:List Nat}(hb:look h b=some (.row E t xs))(hw:b∈ws)(hW:DY h ws W)(hl:xs.length=ys.length)(hd:∀(i:Nat) x y,xs[i]?=some x→ys[i]?=some y→DpE h n ws (aa t x) (aa t' y)):View (toH h) g hin W fs (.ref (b,0)) (.lst (ys.map (aa t'))):=by
 obtain⟨q1,q2⟩:=sB (n:=n) (g:=ws) (ds':=ys.map (aa t')) (am (i:=0) hb (d:=.row E (xs.map (aa t))) rfl) hw (by simp[hl]) fun j x z hx hz=>by
  rw[List.getElem?_map] at hx hz
  obtain⟨a,ha,rfl⟩:=Option.map_eq_some_iff.1 hx
  obtain⟨c,hc,rfl⟩:=Option.map_eq_some_iff.1 hz
  exact hd j a c ha hc
 exact .pure _ _ _ q1 fun c hc=>hW c.1 (q2 c hc).1 c.2 (q2 c hc).2
theorem jI {α:Type}{o:Option α}{x:α}(h:o.toList[0]?=some x):o=some x:=by cases o<;>simp at h;rw[h]
theorem xc {os fs:List Nat}{h:VH}{b:Nat}{E:TypeId}{t:Ty}{xs:List t.den}{K:V→List Nat→Prop}(hos:os=[])(hfs:fs=[])(hp:t.pure=false)(hb:look h b=some (.row E t xs))(hk:xb h b t xs K):
  ∃v' ws,(∀(g:Id→Id) (hin:HL) (W:List Id) (F:List Nat),DY h ws W→View (toH h) g hin W F (.ref (b,0)) v'.toD)∧(∀b∈ws,m5 h os fs b)∧K v' ws:=by
 subst hos hfs
 have r0:m5 h [] [] b:=⟨by simp,.inr ⟨by simp,.inr (.inr ⟨E,t,xs,hp,hb⟩)⟩⟩
 have rf:∀k E' t',∀yss:List (List (Ty.den t')),look h k=some (.frow E' t' yss)→m5 h [] [] k:=fun k E' t' yss hk=>⟨by simp,.inr ⟨by simp,.inl ⟨E',t',yss,hk⟩⟩⟩
 unfold xb at hk
 split at hk
 ·rename_i k xs
  split at hk
  ·rename_i E' pss hl
   rw[ax] at hl
   obtain⟨ys,hy,hk⟩:=hk
   have hy:=jj (jI hy)
   refine⟨_,_,fun g hin W F hW=>ip (n:=1) hb (by simp) hW hy.1 fun i x y hx hz=>?_,fun c hc=>?_,hk⟩
   ·obtain⟨z,z1,z2⟩:=hy.2 i x hx
    rw[hz] at z1
    obtain rfl:=Option.some.inj z1
    exact xj hl (by simp) z2
   ·rcases List.mem_cons.1 hc with rfl|hc
    ·exact r0
    ·obtain rfl:=List.mem_singleton.1 hc
     exact rf _ _ _ _ hl
  ·exact hk.elim
 ·rename_i k k' xs
  split at hk
  ·rename_i E' pss E'' mss hl hl'
   rw[ax] at hl hl'
   obtain⟨ys,hy,hk⟩:=hk
   have hy:=jj (jI hy)
   refine⟨_,_,fun g hin W F hW=>ip (n:=1) hb (by simp) hW hy.1 fun i x y hx hz=>?_,fun c hc=>?_,hk⟩
   ·obtain⟨z,z1,z2⟩:=hy.2 i x hx
    rw[hz] at z1
    obtain rfl:=Option.some.inj z1
    exact Cw hl hl' (by simp) (by simp) z2
   ·rcases List.mem_cons.1 hc with rfl|hc
    ·exact r0
    ·rcases List.mem_cons.1 hc with rfl|hc
     ·exact rf _ _ _ _ hl
     ·obtain rfl:=List.mem_singleton.1 hc
      exact rf _ _ _ _ hl'
  ·exact hk.elim
 ·rename_i k xs
  split at hk
  ·rename_i E' pss hl
   rw[ax] at hl
   obtain⟨ys,hy,hk⟩:=hk
   have hy:=jj (jI hy)
   refine⟨_,_,fun g hin W F hW=>ip (n:=1) hb (by simp) hW hy.1 fun i x y hx hz=>?_,fun c hc=>?_,hk⟩
   ·obtain⟨z,z1,z2⟩:=hy.2 i x hx
    rw[hz] at z1
    obtain rfl:=Option.some.inj z1
    exact Cu hl (by simp) z2
   ·rcases List.mem_cons.1 hc with rfl|hc
    ·exact r0
    ·obtain rfl:=List.mem_singleton.1 hc
     exact rf _ _ _ _ hl
  ·exact hk.elim
 ·rename_i k xs
  split at hk
  ·rename_i E' k' vss hl
   split at hk
   ·rename_i E'' pss hl'
    rw[ax] at hl hl'
    obtain⟨ys,hy,hk⟩:=hk
    have hy:=jj (jI hy)
    refine⟨_,_,fun g hin W F hW=>ip (n:=2) hb (by simp) hW hy.1 fun i x y hx hz=>?_,fun c hc=>?_,hk⟩
    ·obtain⟨z,z1,z2⟩:=hy.2 i x hx
     rw[hz] at z1
     obtain rfl:=Option.some.inj z1
     exact Cv hl hl' (by simp) (by simp) z2
    ·rcases List.mem_cons.1 hc with rfl|hc
     ·exact r0
     ·rcases List.mem_cons.1 hc with rfl|hc
      ·exact rf _ _ _ _ hl
      ·obtain rfl:=List.mem_singleton.1 hc
       exact rf _ _ _ _ hl'
   ·exact hk.elim
  ·exact hk.elim
 ·exact hk.elim
end
end Go.Proofs.YthmfppknagbkeaaGreatDoor.Am
namespace Go.Proofs.YthmfppknagbkeaaGreatDoor.Am
open Go Go.RowKit
variable {P:Program} {os fs:List Nat} {n:Nat} {h:VH}
def Vw (os fs:List Nat)(n:Nat)(h:VH)(ws:List Nat)(v v':V):Prop:=∀hin,HinOK os fs h hin→∀W:List Id,DY h ws W→View (toH h) (gI (gN os n)) hin W fs v.toD v'.toD
def FR (os fs:List Nat)(n:Nat)(h:VH)(ws:List Nat)(l l':List V):Prop:=(ae l).length=(ae l').length∧∀hin,HinOK os fs h hin→∀W:List Id,DY h ws W→∀i,i<(ae l).length→View (toH h) (gI (gN os n)) hin W fs ((ae l).getD i .undef) ((ae l').getD i .undef)
theorem cw {v v':V}{ws:List Nat}(hd:leaf v.toD=some v'.toD):Vw os fs n h ws v v':=fun _ _ _ _=>iq hd
mutual
theorem mU:∀{v:V} {K:V→List Nat→Prop},a6 os fs h v K→∃v' ws,Vw os fs n h ws v v'∧(∀b∈ws,m5 h os fs b)∧K v' ws
 | .ref b,K,hk=>by
  simp only[a6] at hk
  obtain⟨r,r1,r2,hk⟩:=cX hk
  split at hk
  ·obtain⟨m,rfl,hm⟩:=r2 _ rfl
   exact⟨_,_,fun hin H W _=>zx H hm,by simp,hk⟩
  ·split at hk
   ·rename_i E t xs hb
    rw[ax] at hb
    split at hk
    ·rename_i c
     exact⟨_,_,fun hin H W hW=>u7 (hW b (by simp) 0 (Live.of_look (am (i:=0) hb rfl))) (.inl ⟨E,c,hb⟩),fun b' hb'=>by simp at hb';subst hb';exact⟨r1 rfl,.inl (.inl ⟨E,t,xs,c,hb⟩)⟩,hk⟩
    ·rename_i c
     obtain⟨c2,hk⟩:=hk.ok
     simp only[Bool.and_eq_true,List.isEmpty_iff] at c2
     obtain⟨v',ws,d1,d2,d3⟩:=xc c2.1 c2.2 c hb hk
     exact⟨v',ws,fun hin H W hW=>d1 _ _ _ _ hW,d2,d3⟩
   ·rename_i t xs hb
    rw[ax] at hb
    exact⟨_,_,fun hin H W hW=>u7 (hW b (by simp) 0 (Live.of_look (am (i:=0) hb rfl))) (.inr hb),fun b' hb'=>by simp at hb';subst hb';exact⟨r1 rfl,.inl (.inr (.inl ⟨t,xs,hb⟩))⟩,hk⟩
   ·exact hk.elim
 | .ptr b o,K,hk=>by
  simp only[a6] at hk
  obtain⟨r,r1,r2,hk⟩:=cX hk
  split at hk
  ·obtain⟨m,rfl,hm⟩:=r2 _ rfl
   exact⟨_,_,fun hin H W _=>rR H hm o,by simp,hk⟩
  ·split at hk
   ·rename_i t x hb _
    rw[ax] at hb
    have hl:=am (i:=0) hb (d:=.fvar (aa t x).cells) rfl
    refine⟨_,_,fun hin H W hW=>.pure 1 _ _ (by simp only[V.toD,purD,hl]) fun c hc=>?_,fun b' hb'=>by simp at hb';subst hb';exact⟨r1 rfl,.inl (.inr (.inr ⟨t,x,hb⟩))⟩,hk⟩
    simp only[V.toD,idsD,hl,List.mem_cons,List.not_mem_nil,or_false] at hc
    subst hc
    exact hW b (by simp) 0 (Live.of_look hl)
   ·exact hk.elim
 | .eptr b j o,K,hk=>by
  simp only[a6] at hk
  obtain⟨r,r1,r2,hk⟩:=cX hk
  split at hk
  ·obtain⟨m,rfl,hm⟩:=r2 _ rfl
   exact⟨_,_,fun hin H W _=>wv H hm j o,by simp,hk⟩
  ·exact hk.elim
 | .vref b o q,K,hk=>by
  simp only[a6] at hk
  obtain⟨r,r1,r2,hk⟩:=cX hk
  split at hk
  ·obtain⟨m,rfl,hm⟩:=r2 _ rfl
   exact⟨_,_,fun hin H W _=>ww H hm o q,by simp,hk⟩
  ·exact hk.elim
 | .aptr b p j,K,hk=>by
  simp only[a6] at hk
  obtain⟨r,r1,r2,hk⟩:=cX hk
  split at hk
  ·obtain⟨m,rfl,hm⟩:=r2 _ rfl
   exact⟨_,_,fun hin H W _=>rR H hm (p+j),by simp,hk⟩
  ·exact hk.elim
 | .fref k i,K,hk=>by
  simp only[a6] at hk
  obtain⟨c,hk⟩:=hk.ok
  exact⟨_,_,fun hin H W _=>nZ H (by simpa using c) i,by simp,hk⟩
 | .fptr k i o,K,hk=>by
  simp only[a6] at hk
  obtain⟨c,hk⟩:=hk.ok
  exact⟨_,_,fun hin H W _=>kr H (by simpa using c) i o,by simp,hk⟩
 | .feptr k i j o,K,hk=>by
  simp only[a6] at hk
  obtain⟨c,hk⟩:=hk.ok
  exact⟨_,_,fun hin H W _=>tD H (by simpa using c) i j o,by simp,hk⟩
 | .faptr k i p j,K,hk=>by
  simp only[a6] at hk
  obtain⟨c,hk⟩:=hk.ok
  exact⟨_,_,fun hin H W _=>kr H (by simpa using c) i (p+j),by simp,hk⟩
 | .hro k o,K,hk=>by
  simp only[a6] at hk
  split at hk
  ·rename_i c
   exact⟨_,_,fun hin H W _=>eN H (by simpa using c) o,by simp,hk⟩
  ·rename_i c
   have c:k∉fs:=by simpa using c
   cases o with
   |none=>exact(hk.1 rfl).elim
   |some i=>
    have hk:=hk.2 i rfl
    split at hk
    ·rename_i E t xss hb
     rw[ax] at hb
     obtain⟨c2,xs,hxs,hk⟩:=hk.ok
     simp only[Bool.and_eq_true,Bool.not_eq_true',List.contains_eq_mem,decide_eq_false_iff_not] at c2
     have hl:=am (i:=i) hb (d:=.row E (xs.map (aa t))) (by simp only[VB.blks,List.getElem?_map,hxs,Option.map_some])
     exact⟨_,_,fun hin H W hW=>rS (hW k (by simp) i (Live.of_look hl)) c2.1 hl,fun b' hb'=>by simp at hb';subst hb';exact⟨c2.2,.inr ⟨c,.inl ⟨E,t,xss,hb⟩⟩⟩,hk⟩
    ·rename_i E t xss hb
     rw[ax] at hb
     obtain⟨c2,ox,hxs,hk⟩:=hk.ok
     simp only[Bool.and_eq_true,Bool.not_eq_true',List.contains_eq_mem,decide_eq_false_iff_not] at c2
     cases ox with
     |none=>exact(hk.1 rfl).elim
     |some xs=>
      have hk:=hk.2 xs rfl
      have hl:=am (i:=i) hb (d:=.row E (xs.map (aa t))) (by simp only[VB.blks,List.getElem?_map,hxs,Option.map_some,rowX])
      exact⟨_,_,fun hin H W hW=>rS (hW k (by simp) i (Live.of_look hl)) c2.1 hl,fun b' hb'=>by simp at hb';subst hb';exact⟨c2.2,.inr ⟨c,.inr (.inl ⟨E,t,xss,hb⟩)⟩⟩,hk⟩
    ·exact hk.elim
 | .hpo k o,K,hk=>by
  simp only[a6] at hk
  obtain⟨c,hk⟩:=hk.ok
  exact⟨_,_,fun hin H W _=>u6 H (by simpa using c) o,by simp,hk⟩
 | .agg cs,K,hk=>by
  simp only[a6] at hk
  obtain⟨cs',ws,h1,h2,h3⟩:=ed hk
  exact⟨_,ws,fun hin H W hW=>by simp only[V.toD];exact .agg _ _ h1.1 (h1.2 hin H W hW),h2,h3⟩
 | .clo f cs,K,hk=>by
  simp only[a6] at hk
  obtain⟨cs',ws,h1,h2,h3⟩:=ed hk
  exact⟨_,ws,fun hin H W hW=>by simp only[V.toD];exact .clo f _ _ h1.1 (h1.2 hin H W hW),h2,h3⟩
 | .ifc T v,K,hk=>by
  simp only[a6] at hk
  obtain⟨v',ws,h1,h2,h3⟩:=mU hk
  exact⟨_,ws,fun hin H W hW=>by simp only[V.toD];exact .ifc T _ _ (h1 hin H W hW),h2,h3⟩
 | .nils,K,hk=>⟨_,[],cw (v':=.lst (.int .i64) []) rfl,by simp,by simpa only[a6] using hk⟩
 | .int k m,K,hk=>⟨_,[],cw (v':=.int k m) rfl,by simp,by simpa only[a6] using hk⟩
 | .bool b,K,hk=>⟨_,[],cw (v':=.bool b) rfl,by simp,by simpa only[a6] using hk⟩
 | .tt,K,hk=>⟨_,[],cw (v':=.tt) rfl,by simp,by simpa only[a6] using hk⟩
 | .ff,K,hk=>⟨_,[],cw (v':=.ff) rfl,by simp,by simpa only[a6] using hk⟩
 | .str s,K,hk=>⟨_,[],cw (v':=.str s) rfl,by simp,by simpa only[a6] using hk⟩
 | .lst t xs,K,hk=>⟨_,[],cw (v':=.lst t xs) rfl,by simp,by simpa only[a6] using hk⟩
 | .box t x,K,hk=>⟨_,[],cw (v':=.box t x) rfl,by simp,by simpa only[a6] using hk⟩
 | .nilp,K,hk=>⟨_,[],cw (v':=.nilp) rfl,by simp,by simpa only[a6] using hk⟩
 | .nilf,K,hk=>⟨_,[],cw (v':=.nilf) rfl,by simp,by simpa only[a6] using hk⟩
 | .nili,K,hk=>⟨_,[],cw (v':=.nili) rfl,by simp,by simpa only[a6] using hk⟩
 | .obo t o,K,hk=>⟨_,[],cw (v':=.obo t o) (by cases o<;>rfl),by simp,by simpa only[a6] using hk⟩
 | .junk,K,hk=>⟨_,[],fun _ _ _ _=>.junk,by simp,by simpa only[a6] using hk⟩
 | .gv g,K,hk=>⟨.gv g,[],fun _ _ _ _=>.gv g,by simp,by simpa only[a6] using hk⟩
 | .tup _,K,hk| .gp _,K,hk| .iptr ..,K,hk| .undef,K,hk=>by simp only[a6] at hk
theorem ed:∀{l:List V} {K:List V→List Nat→Prop},fX os fs h l K→∃l' ws,FR os fs n h ws l l'∧(∀b∈ws,m5 h os fs b)∧K l' ws
 |[],K,hk=>⟨[],[],⟨rfl,fun hin H W _ i hi=>by simp[ae] at hi⟩,by simp,by simpa only[fX] using hk⟩
 |v::l,K,hk=>by
  simp only[fX] at hk
  obtain⟨v',ws,h1,h2,hk⟩:=mU hk
  obtain⟨l',ws',h3,h4,hk⟩:=ed hk
  refine⟨v'::l',ws++ws',⟨by simp only[ae,List.length_cons,h3.1],fun hin H W hW i hi=>?_⟩,fun b hb=>?_,hk⟩
  ·cases i with
   |zero=>simpa[ae] using h1 hin H W fun b hb=>hW b (List.mem_append_left _ hb)
   |succ i=>
    have:=h3.2 hin H W (fun b hb=>hW b (List.mem_append_right _ hb)) i (by simpa[ae] using hi)
    simpa[ae] using this
  ·rcases List.mem_append.1 hb with hb|hb
   ·exact h2 b hb
   ·exact h4 b hb
end
def fW (os fs:List Nat)(h:VH):List V→(List V→List Nat→Prop)→Prop
 |[],K=>K [] []
 | .nils::l,K=>fW os fs h l fun l ws=>K (.nils::l) ws
 |v::l,K=>a6 os fs h v fun v' ws=>fW os fs h l fun l' ws'=>K (v'::l') (ws++ws')
theorem kq:∀{l:List V} {K:List V→List Nat→Prop},fW os fs h l K→∃l' ws,FR os fs n h ws l l'∧(∀b∈ws,m5 h os fs b)∧K l' ws
 |[],K,hk=>⟨[],[],⟨rfl,fun hin H W _ i hi=>by simp[ae] at hi⟩,by simp,by simpa only[fW] using hk⟩
 |v::l,K,hk=>by
  have key:∃v' ws,Vw os fs n h ws v v'∧(∀b∈ws,m5 h os fs b)∧fW os fs h l fun l' ws'=>K (v'::l') (ws++ws'):=by
   by_cases e:v= .nils
   ·subst e
    exact⟨.nils,[],fun hin H W _=>.nils,by simp,by simpa only[fW,List.nil_append] using hk⟩
   ·have hk':a6 os fs h v fun v' ws=>fW os fs h l fun l' ws'=>K (v'::l') (ws++ws'):=by
     cases v<;>first|exact hk|exact absurd rfl e
    obtain⟨v',ws,h1,h2,hk⟩:=mU (n:=n) hk'
    exact⟨v',ws,h1,h2,hk⟩
  obtain⟨v',ws,h1,h2,hk⟩:=key
  obtain⟨l',ws',h3,h4,hk⟩:=kq hk
  refine⟨v'::l',ws++ws',⟨by simp only[ae,List.length_cons,h3.1],fun hin H W hW i hi=>?_⟩,fun b hb=>?_,hk⟩
  ·cases i with
   |zero=>simpa[ae] using h1 hin H W fun b hb=>hW b (List.mem_append_left _ hb)
   |succ i=>
    have:=h3.2 hin H W (fun b hb=>hW b (List.mem_append_right _ hb)) i (by simpa[ae] using hi)
    simpa[ae] using this
  ·rcases List.mem_append.1 hb with hb|hb
   ·exact h2 b hb
   ·exact h4 b hb
def tC (os fs:List Nat)(h:VH)(x:VB)(K:VB→List Nat→Prop):Prop:=
 match x with
 | .var T cs=>fX os fs h cs fun cs ws=>K (.var T cs) ws
 | .vari T pre m t xs post=>Chk (zm t.fams fs) (fW os fs h pre fun pre ws=>fW os fs h post fun post ws'=>K (.vari T pre m t xs post) (ws++ws'))
 | .row E t xs=>Chk (zm t.fams fs) (K (.row E t xs) [])
 | .lit E vs=>fX os fs h vs fun vs ws=>K (.lit E vs) ws
 |_=>False
def Fj (os fs:List Nat)(n:Nat)(h:VH)(ws:List Nat)(x x':VB):Prop:=∃d d',x.blks=[d]∧x'.blks=[d']∧∀hin,HinOK os fs h hin→∀W:List Id,DY h ws W→ViewB (toH h) (gI (gN os n)) hin W fs d d'
theorem cC {A B:List D}{i:Nat}(hi:i<A.length):(A++B).getD i .undef=A.getD i .undef:=by simp[List.getD_eq_getElem?_getD,List.getElem?_append_left hi]
theorem cD {A B:List D}{i:Nat}(hi:A.length≤i):(A++B).getD i .undef=B.getD (i-A.length) .undef:=by simp[List.getD_eq_getElem?_getD,List.getElem?_append_right hi]
theorem wu {x:VB}{K:VB→List Nat→Prop}(hk:tC os fs h x K):∃x' ws,Fj os fs n h ws x x'∧(∀b∈ws,m5 h os fs b)∧K x' ws:=by
 unfold tC at hk
 split at hk
 ·rename_i T cs
  obtain⟨cs',ws,h1,h2,hk⟩:=ed (n:=n) hk
  exact⟨_,ws,⟨_,_,rfl,rfl,fun hin H W hW=>.var T _ _ h1.1 (h1.2 hin H W hW)⟩,h2,hk⟩
 ·rename_i T pre m t xs post
  obtain⟨c,hk⟩:=hk.ok
  obtain⟨pre',ws,h1,h2,hk⟩:=kq (n:=n) hk
  obtain⟨post',ws',h3,h4,hk⟩:=kq (n:=n) hk
  refine⟨_,ws++ws',⟨_,_,rfl,rfl,fun hin H W hW=>.var T _ _ ?_ fun i hi=>?_⟩,fun b hb=>(List.mem_append.1 hb).elim (h2 b) (h4 b),hk⟩
  ·simp only[List.length_append,h1.1,h3.1]
  ·have g1:=h1.2 hin H W (fun b hb=>hW b (List.mem_append_left _ hb))
   have g3:=h3.2 hin H W (fun b hb=>hW b (List.mem_append_right _ hb))
   by_cases c1:i<(ae pre).length
   ·rw[List.append_assoc,List.append_assoc,cC (A:=ae pre) c1,cC (A:=ae pre') (by rw[←h1.1];exact c1)]
    exact g1 i c1
   ·rw[List.append_assoc,List.append_assoc,cD (A:=ae pre) (by omega),cD (A:=ae pre') (by rw[←h1.1];omega),←h1.1]
    simp only[List.length_append] at hi
    by_cases c2:i-(ae pre).length<(xs.map (aa t)).length
    ·rw[cC c2,cC c2]
     obtain⟨e,he,hee⟩:=List.mem_map.1 (aD c2)
     rw[←hee]
     exact jL H (py c) e
    ·rw[cD (by omega),cD (by omega)]
     exact g3 _ (by omega)
 ·rename_i E t xs
  obtain⟨c,hk⟩:=hk.ok
  refine⟨_,[],⟨_,_,rfl,rfl,fun hin H W hW=>.row E _ _ rfl fun i hi=>?_⟩,by simp,hk⟩
  obtain⟨e,he,hee⟩:=List.mem_map.1 (aD hi)
  rw[←hee]
  exact jL H (py c) e
 ·rename_i E cs
  obtain⟨cs',ws,h1,h2,hk⟩:=ed (n:=n) hk
  exact⟨_,ws,⟨_,_,rfl,rfl,fun hin H W hW=>.row E _ _ h1.1 (h1.2 hin H W hW)⟩,h2,hk⟩
 ·exact hk.elim
def zf (os fs:List Nat)(h:VH):List Nat→Nat→(VH→List Nat→Prop)→Prop
 |[],_,K=>K [] []
 |b::l,i,K=>cf h b fun x=>tC os fs h x fun x' ws=>dt (i+1) fun j=>zf os fs h l j fun r ws'=>K ((i,x')::r) (ws++ws')
theorem rE:∀{l:List Nat} {i:Nat} {K:VH→List Nat→Prop},zf os fs h l i K→∃hs ws,(∀k x,look hs k=some x→∃m,k=i+m∧m<l.length)∧(∀m b,l[m]?=some b→∃x x',look h b=some x∧look hs (i+m)=some x'∧Fj os fs n h ws x x')∧(∀b∈ws,m5 h os fs b)∧K hs ws
 |[],i,K,hk=>⟨[],[],(fun k x hx=>by cases hx),by simp,by simp,hk⟩
 |b::l,i,K,hk=>by
  obtain⟨x,hx,hk⟩:=aB hk
  obtain⟨x',ws,h1,h2,hk⟩:=wu (n:=n) hk
  obtain⟨hs,ws',h3,h4,h5,hk⟩:=rE (aP hk)
  refine⟨(i,x')::hs,ws++ws',fun k y hy=>?_,fun m b' hm=>?_,fun b hb=>(List.mem_append.1 hb).elim (h2 b) (h5 b),hk⟩
  ·simp only[look] at hy
   split at hy
   ·rename_i e;exact⟨0,by omega,by simp⟩
   ·obtain⟨m,e1,e2⟩:=h3 k y hy
    exact⟨m+1,by omega,by simpa using e2⟩
  ·cases m with
   |zero=>
    simp only[List.getElem?_cons_zero,Option.some.injEq] at hm
    subst hm
    obtain⟨d,d',e1,e2,e3⟩:=h1
    exact⟨x,x',hx,by simp[look],d,d',e1,e2,fun hin H W hW=>e3 hin H W fun b hb=>hW b (List.mem_append_left _ hb)⟩
   |succ m=>
    obtain⟨y,y',q1,q2,d,d',e1,e2,e3⟩:=h4 m b' (by simpa using hm)
    refine⟨y,y',q1,?_,d,d',e1,e2,fun hin H W hW=>e3 hin H W fun b hb=>hW b (List.mem_append_right _ hb)⟩
    simp only[look]
    rw[if_neg (by omega),show i+(m+1)=i+1+m by omega]
    exact q2
def VB.fams:VB→List Nat
 | .vari _ _ _ t _ _=>t.fams
 | .row _ t _=>t.fams
 | .fvar _ t _=>t.fams
 | .fvari _ _ t _=>t.fams
 | .frow _ t _=>t.fams
 | .frowx _ t _=>t.fams
 |_=>[]
def xt (fs:List Nat)(h:VH):List Nat→(VH→Prop)→Prop
 |[],K=>K []
 |k::l,K=>cf h k fun x=>Chk (!x.sgl && zm x.fams fs) (xt fs h l fun r=>K ((k,x)::r))
theorem qv:∀{l:List Nat} {K:VH→Prop},xt fs h l K→∃hf,(∀k x,look hf k=some x→k∈l∧look h k=some x∧x.sgl=false∧∀j∈x.fams,j∈fs)∧(∀k∈l,∃x,look hf k=some x)∧K hf
 |[],K,hk=>⟨[],(fun k x hx=>by cases hx),by simp,hk⟩
 |k::l,K,hk=>by
  obtain⟨x,hx,hk⟩:=aB hk
  obtain⟨c,hk⟩:=hk.ok
  simp only[Bool.and_eq_true,Bool.not_eq_true'] at c
  obtain⟨hf,h1,h2,hk⟩:=qv hk
  refine⟨(k,x)::hf,fun j y hy=>?_,fun j hj=>?_,hk⟩
  ·simp only[look] at hy
   split at hy
   ·rename_i e
    simp only[Option.some.injEq] at hy
    subst hy e
    exact⟨List.mem_cons_self ..,hx,c.1,py c.2⟩
   ·obtain⟨q1,q2⟩:=h1 j y hy
    exact⟨List.mem_cons_of_mem _ q1,q2⟩
  ·simp only[look]
   by_cases e:j=k
   ·exact⟨x,by rw[if_pos e]⟩
   ·rw[if_neg e]
    rcases List.mem_cons.1 hj with rfl|hj
    ·exact absurd rfl e
    ·exact h2 j hj
theorem zw {x:VB}{hin:HL}{W:List Id}(H:HinOK os fs h hin)(hs:x.sgl=false)(hf:∀j∈x.fams,j∈fs):∀d∈x.blks,ViewB (toH h) (gI (gN os n)) hin W fs d d:=by
 intro d hd
 have key:∀(t:Ty) (xs:List t.den),(∀k∈t.fams,k∈fs)→∀i,i<(xs.map (aa t)).length→View (toH h) (gI (gN os n)) hin W fs ((xs.map (aa t)).getD i .undef) ((xs.map (aa t)).getD i .undef):=by
  intro t xs ht i hi
  obtain⟨e,he,hee⟩:=List.mem_map.1 (aD hi)
  rw[←hee]
  exact jL H ht e
 cases x<;>simp[VB.sgl] at hs
 ·rename_i T t xs
  obtain⟨e,_,rfl⟩:=List.mem_map.1 hd
  refine .var T _ _ rfl fun i hi=>?_
  have hv:View (toH h) (gI (gN os n)) hin W fs (aa t e) (aa t e):=jL H hf e
  exact(hv.wf (cK t e)).2 i (by rw[←(cK t e).1];exact hi)
 ·rename_i T m t xss
  obtain⟨xs,_,rfl⟩:=List.mem_map.1 hd
  exact .var T _ _ rfl (key t xs hf)
 ·rename_i E t xss
  obtain⟨xs,_,rfl⟩:=List.mem_map.1 hd
  exact .row E _ _ rfl (key t xs hf)
 ·rename_i E t xss
  obtain⟨xs,_,rfl⟩:=List.mem_map.1 hd
  cases xs with
  |none=>exact .gone
  |some xs=>exact .row E _ _ rfl (key t xs hf)
end Go.Proofs.YthmfppknagbkeaaGreatDoor.Am
namespace Go.Proofs.YthmfppknagbkeaaGreatDoor.Am
open Go Go.RowKit
variable {P:Program} {os fs:List Nat} {n:Nat} {h:VH}
mutual
def fK:V→Bool
 | .lst .. | .box .. | .iptr .. | .obo .. | .gp _| .gv _=>false
 | .agg cs=>dF cs
 | .tup cs=>dF cs
 | .clo _ cs=>dF cs
 | .ifc _ v=>fK v
 |_=>true
def dF:List V→Bool
 |[]=>true
 |v::l=>fK v && dF l
end
theorem cW (k:Nat)(o:Option Nat):noMem (gY k o)=true:=by cases o<;>rfl
theorem mq (k:Nat)(o:Option Nat):noMem (kD k o)=true:=by cases o<;>rfl
mutual
theorem j7:∀v:V,fK v=true→noMem v.toD=true
 | .agg cs,hv=>by simp only[fK] at hv;simp only[V.toD,noMem,cc cs hv]
 | .tup cs,hv=>by simp only[fK] at hv;simp only[V.toD,noMem,cc cs hv]
 | .clo f cs,hv=>by simp only[fK] at hv;simp only[V.toD,noMem,cc cs hv]
 | .ifc T v,hv=>by simp only[fK] at hv;simp only[V.toD,noMem,j7 v hv]
 | .hro k o,_=>cW k o
 | .hpo k o,_=>mq k o
 | .lst ..,hv| .box ..,hv| .iptr ..,hv| .obo ..,hv| .gp _,hv| .gv _,hv=>by simp only[fK] at hv;cases hv
 | .int ..,_| .bool _,_| .tt,_| .ff,_| .str _,_| .nilp,_| .nils,_| .nilf,_| .nili,_| .ref _,_| .ptr ..,_| .eptr ..,_| .vref ..,_| .aptr ..,_| .fref ..,_| .fptr ..,_| .feptr ..,_| .faptr ..,_| .undef,_| .junk,_=>by simp only[V.toD,noMem]
theorem cc:∀l:List V,dF l=true→cU (ae l)=true
 |[],_=>rfl
 |v::l,hv=>by
  simp only[dF,Bool.and_eq_true] at hv
  simp only[ae,cU,j7 v hv.1,cc l hv.2,Bool.and_self]
end
def Ty.flat:Ty→Bool
 | .int _| .bool| .str| .txn| .slt| .hr _| .hp _| .vtxo _| .pplo _ _| .evto _=>true
 |_=>false
theorem lZ {t:Ty}(h:t.flat=true)(x:t.den):(aa t x).cells.all noMem=true:=by
 cases t<;>first|(cases h;done)|rfl|skip
 ·simp only[aa,(ja _ x).2];simp[cW]
 ·simp only[aa,(i9 _ x).2];simp[mq]
 ·simp[aa,D.cells,noMem,cW]
 ·simp[aa,D.cells,noMem,cW]
 ·simp[aa,D.cells,noMem,cW]
theorem qC {t:Ty}(h:t.flat=true)(x:t.den):noMem (aa t x)=true:=by
 cases t<;>first|(cases h;done)|rfl|skip
 ·exact cW _ x
 ·exact mq _ x
 ·simp[aa,noMem,cU,cW]
 ·simp[aa,noMem,cU,cW]
 ·simp[aa,noMem,cU,cW]
def lm:VB→Bool
 | .var _ cs=>dF cs
 | .vari _ pre _ t _ post=>dF pre && dF post && t.flat
 | .row _ t _=>t.flat
 | .lit _ vs=>vs.all fun v=>dF v.cells
 | .froz _ _| .fvb _ _=>false
 | .fvar _ t _=>t.flat
 | .fvari _ _ t _=>t.flat
 | .frow _ t _=>t.flat
 | .frowx _ t _=>t.flat
 | .moved .. | .gone=>true
theorem sZ (l:List D):cU l=true↔∀d∈l,noMem d=true:=by rw[du,List.all_eq_true]
theorem s0 {x:VB}(h:lm x=true):∀d∈x.blks,noMemB d=true:=by
 intro d hd
 have kc:∀(t:Ty) (xs:List t.den),t.flat=true→∀e∈xs.map (aa t),e.cells.all noMem=true:=by
  intro t xs ht e he
  obtain⟨x,_,rfl⟩:=List.mem_map.1 he
  exact lZ ht x
 have kd:∀(t:Ty) (xs:List t.den),t.flat=true→∀e∈xs.map (aa t),noMem e=true:=by
  intro t xs ht e he
  obtain⟨x,_,rfl⟩:=List.mem_map.1 he
  exact qC ht x
 cases x with
 |var T cs=>
  obtain rfl:=List.mem_singleton.1 hd
  simp only[noMemB,←du]
  exact cc cs h
 |vari T pre m t xs post=>
  obtain rfl:=List.mem_singleton.1 hd
  simp only[lm,Bool.and_eq_true] at h
  simp only[noMemB,List.all_append,←du,cc _ h.1.1,cc _ h.1.2,Bool.true_and,Bool.and_true]
  rw[sZ]
  exact kd t xs h.2
 |row E t xs=>
  obtain rfl:=List.mem_singleton.1 hd
  simp only[noMemB,List.all_eq_true]
  intro e he
  exact List.all_eq_true.1 (kc t xs h e he)
 |lit E vs=>
  obtain rfl:=List.mem_singleton.1 hd
  simp only[lm,List.all_eq_true] at h
  simp only[noMemB,bk,List.all_map,List.all_eq_true]
  intro v hv
  have:=cc _ (h v hv)
  rw[du] at this
  simp only[Function.comp,aF]
  exact this
 |froz t xs=>cases h
 |fvb t x=>cases h
 |fvar T t xs=>
  obtain⟨e,_,rfl⟩:=List.mem_map.1 hd
  exact lZ h e
 |fvari T m t xss=>
  obtain⟨xs,_,rfl⟩:=List.mem_map.1 hd
  simp only[noMemB,List.all_eq_true]
  exact kd t xs h
 |frow E t xss=>
  obtain⟨xs,_,rfl⟩:=List.mem_map.1 hd
  simp only[noMemB,List.all_eq_true]
  intro e he
  exact List.all_eq_true.1 (kc t xs h e he)
 |frowx E t xss=>
  obtain⟨xs,_,rfl⟩:=List.mem_map.1 hd
  cases xs with
  |none=>rfl
  |some xs=>
   simp only[rowX,noMemB,List.all_eq_true]
   intro e he
   exact List.all_eq_true.1 (kc t xs h e he)
 |moved k i=>obtain rfl:=List.mem_singleton.1 hd;rfl
 |gone=>obtain rfl:=List.mem_singleton.1 hd;rfl
mutual
def bZ (g:Nat→Nat)(v:V)(K:V→Prop):Prop:=
 match v with
 | .ref b=>dt (g b) fun b=>K (.ref b)
 | .vref b o n=>dt (g b) fun b=>K (.vref b o n)
 | .ptr b o=>dt (g b) fun b=>K (.ptr b o)
 | .eptr b i o=>dt (g b) fun b=>K (.eptr b i o)
 | .aptr b p i=>dt (g b) fun b=>K (.aptr b p i)
 | .fref k i=>Chk (Nat.beq (g k) k) (K (.fref k i))
 | .fptr k i o=>Chk (Nat.beq (g k) k) (K (.fptr k i o))
 | .feptr k i j o=>Chk (Nat.beq (g k) k) (K (.feptr k i j o))
 | .faptr k i p j=>Chk (Nat.beq (g k) k) (K (.faptr k i p j))
 | .hro k o=>Chk (Nat.beq (g k) k) (K (.hro k o))
 | .hpo k o=>Chk (Nat.beq (g k) k) (K (.hpo k o))
 | .agg cs=>gx g cs fun cs=>K (.agg cs)
 | .tup cs=>gx g cs fun cs=>K (.tup cs)
 | .clo f cs=>gx g cs fun cs=>K (.clo f cs)
 | .ifc T v=>bZ g v fun v=>K (.ifc T v)
 | .int k n=>K (.int k n)
 | .bool b=>K (.bool b)
 | .tt=>K .tt
 | .ff=>K .ff
 | .str s=>K (.str s)
 | .lst t xs=>K (.lst t xs)
 | .box t x=>K (.box t x)
 | .nilp=>K .nilp
 | .nils=>K .nils
 | .nilf=>K .nilf
 | .nili=>K .nili
 | .gp g=>K (.gp g)
 | .gv g=>K (.gv g)
 | .iptr t x o=>K (.iptr t x o)
 | .obo t o=>K (.obo t o)
 | .undef=>K .undef
 | .junk=>K .junk
def gx (g:Nat→Nat)(l:List V)(K:List V→Prop):Prop:=
 match l with
 |[]=>K []
 |v::l=>bZ g v fun v=>gx g l fun l=>K (v::l)
end
theorem gw {g:Nat→Nat}{k:Nat}(hk:g k=k)(o:Option Nat):renD (gI g) (gY k o)=gY k o:=by
 cases o with
 |none=>rfl
 |some i=>simp[gY,renD,hk]
theorem y5 {g:Nat→Nat}{k:Nat}(hk:g k=k)(o:Option Nat):renD (gI g) (kD k o)=kD k o:=by
 cases o with
 |none=>rfl
 |some i=>simp[kD,renD,hk]
mutual
theorem pj {g:Nat→Nat}:∀{v:V} {K:V→Prop},bZ g v K→∃r,renD (gI g) v.toD=r.toD∧K r
 | .ref b,K,h=>⟨.ref (g b),rfl,aP (by simpa only[bZ] using h)⟩
 | .vref b o n,K,h=>⟨.vref (g b) o n,rfl,aP (by simpa only[bZ] using h)⟩
 | .ptr b o,K,h=>⟨.ptr (g b) o,rfl,aP (by simpa only[bZ] using h)⟩
 | .eptr b i o,K,h=>⟨.eptr (g b) i o,rfl,aP (by simpa only[bZ] using h)⟩
 | .aptr b p i,K,h=>⟨.aptr (g b) p i,rfl,aP (by simpa only[bZ] using h)⟩
 | .fref k i,K,h=>by simp only[bZ] at h;obtain⟨c,h⟩:=h.ok;exact⟨.fref k i,by simp[V.toD,renD,Nat.eq_of_beq_eq_true c],h⟩
 | .fptr k i o,K,h=>by simp only[bZ] at h;obtain⟨c,h⟩:=h.ok;exact⟨.fptr k i o,by simp[V.toD,renD,Nat.eq_of_beq_eq_true c],h⟩
 | .feptr k i j o,K,h=>by simp only[bZ] at h;obtain⟨c,h⟩:=h.ok;exact⟨.feptr k i j o,by simp[V.toD,renD,Nat.eq_of_beq_eq_true c],h⟩
 | .faptr k i p j,K,h=>by simp only[bZ] at h;obtain⟨c,h⟩:=h.ok;exact⟨.faptr k i p j,by simp[V.toD,renD,Nat.eq_of_beq_eq_true c],h⟩
 | .hro k o,K,h=>by simp only[bZ] at h;obtain⟨c,h⟩:=h.ok;exact⟨.hro k o,gw (Nat.eq_of_beq_eq_true c) o,h⟩
 | .hpo k o,K,h=>by simp only[bZ] at h;obtain⟨c,h⟩:=h.ok;exact⟨.hpo k o,y5 (Nat.eq_of_beq_eq_true c) o,h⟩
 | .agg cs,K,h=>by
  simp only[bZ] at h
  obtain⟨r,h1,h2⟩:=dO h
  exact⟨.agg r,by simp only[V.toD,renD,h1],h2⟩
 | .tup cs,K,h=>by
  simp only[bZ] at h
  obtain⟨r,h1,h2⟩:=dO h
  exact⟨.tup r,by simp only[V.toD,renD,h1],h2⟩
 | .clo f cs,K,h=>by
  simp only[bZ] at h
  obtain⟨r,h1,h2⟩:=dO h
  exact⟨.clo f r,by simp only[V.toD,renD,h1],h2⟩
 | .ifc T v,K,h=>by
  simp only[bZ] at h
  obtain⟨r,h1,h2⟩:=pj h
  exact⟨.ifc T r,by simp only[V.toD,renD,h1],h2⟩
 | .int k n,K,h=>⟨.int k n,rfl,by simpa only[bZ] using h⟩
 | .bool b,K,h=>⟨.bool b,rfl,by simpa only[bZ] using h⟩
 | .tt,K,h=>⟨.tt,rfl,by simpa only[bZ] using h⟩
 | .ff,K,h=>⟨.ff,rfl,by simpa only[bZ] using h⟩
 | .str s,K,h=>⟨.str s,rfl,by simpa only[bZ] using h⟩
 | .lst t xs,K,h=>⟨.lst t xs,rfl,by simpa only[bZ] using h⟩
 | .box t x,K,h=>⟨.box t x,rfl,by simpa only[bZ] using h⟩
 | .nilp,K,h=>⟨.nilp,rfl,by simpa only[bZ] using h⟩
 | .nils,K,h=>⟨.nils,rfl,by simpa only[bZ] using h⟩
 | .nilf,K,h=>⟨.nilf,rfl,by simpa only[bZ] using h⟩
 | .nili,K,h=>⟨.nili,rfl,by simpa only[bZ] using h⟩
 | .gp g,K,h=>⟨.gp g,rfl,by simpa only[bZ] using h⟩
 | .gv g,K,h=>⟨.gv g,rfl,by simpa only[bZ] using h⟩
 | .iptr t x o,K,h=>⟨.iptr t x o,rfl,by simpa only[bZ] using h⟩
 | .obo t o,K,h=>⟨.obo t o,by cases o<;>rfl,by simpa only[bZ] using h⟩
 | .undef,K,h=>⟨.undef,rfl,by simpa only[bZ] using h⟩
 | .junk,K,h=>⟨.junk,rfl,by simpa only[bZ] using h⟩
theorem dO {g:Nat→Nat}:∀{l:List V} {K:List V→Prop},gx g l K→∃r,js (gI g) (ae l)=ae r∧K r
 |[],K,h=>⟨[],rfl,by simpa only[gx] using h⟩
 |v::l,K,h=>by
  simp only[gx] at h
  obtain⟨v',h1,h2⟩:=pj h
  obtain⟨l',h3,h4⟩:=dO h2
  exact⟨v'::l',by simp only[ae,js,h1,h3],h4⟩
end
def qA (g:Nat→Nat)(l:List Nat):Bool:=l.all fun k=>Nat.beq (g k) k
theorem gS {g:Nat→Nat}{l:List Nat}(h:qA g l=true):∀k∈l,g k=k:=by
 unfold qA at h
 rw[List.all_eq_true] at h
 exact fun k hk=>Nat.eq_of_beq_eq_true (h k hk)
theorem uR {g:Nat→Nat}{t:Ty}(ht:∀k∈t.fams,g k=k)(x:t.den):renD (gI g) (aa t x)=aa t x:=by
 cases t<;>try rfl
 case ob t=>cases x<;>rfl
 case hr k=>exact gw (ht k (by simp[Ty.fams])) x
 case hp k=>exact y5 (ht k (by simp[Ty.fams])) x
 case vtxo k=>simp only[aa,renD,js,gw (ht k (by simp[Ty.fams]))]
 case pplm k=>simp only[aa,dZ,List.cons_append,List.nil_append,renD,js,gw (ht k (by simp[Ty.fams])),cO]
 case pplo k k'=>simp only[aa,renD,js,gw (ht k (by simp[Ty.fams])),gw (ht k' (by simp[Ty.fams]))]
 case evto k=>simp only[aa,renD,js,gw (ht k (by simp[Ty.fams]))]
 case nod k=>simp only[aa,dZ,List.cons_append,List.nil_append,renD,js,gw (ht k (by simp[Ty.fams])),cO]
def yX (g:Nat→Nat)(x:VB)(K:VB→Prop):Prop:=
 match x with
 | .var T cs=>gx g cs fun cs=>K (.var T cs)
 | .vari T pre m t xs post=>Chk (qA g t.fams) (gx g pre fun pre=>gx g post fun post=>K (.vari T pre m t xs post))
 | .row E t xs=>Chk (qA g t.fams) (K (.row E t xs))
 | .lit E vs=>gx g vs fun vs=>K (.lit E vs)
 | .froz t xs=>K (.froz t xs)
 | .fvb t x=>K (.fvb t x)
 | .fvar T t xs=>Chk (qA g t.fams) (K (.fvar T t xs))
 | .fvari T m t xss=>Chk (qA g t.fams) (K (.fvari T m t xss))
 | .frow E t xss=>Chk (qA g t.fams) (K (.frow E t xss))
 | .frowx E t xss=>Chk (qA g t.fams) (K (.frowx E t xss))
 | .moved k i=>dt (g k) fun k=>K (.moved k i)
 | .gone=>K .gone
theorem jt {g:Nat→Nat}{t:Ty}(ht:∀k∈t.fams,g k=k)(xs:List t.den):(xs.map (aa t)).map (renD (gI g))=xs.map (aa t):=by
 rw[List.map_map]
 exact List.map_congr_left fun x _=>uR ht x
theorem yY {g:Nat→Nat}{x:VB}{K:VB→Prop}(h:yX g x K):∃y,y.blks=x.blks.map (renB (gI g))∧K y:=by
 unfold yX at h
 split at h
 ·obtain⟨r,h1,h2⟩:=dO h
  exact⟨_,by simp only[VB.blks,List.map_cons,List.map_nil,renB,←dG,h1],h2⟩
 ·rename_i T pre m t xs post
  obtain⟨c,h⟩:=h.ok
  obtain⟨r,h1,h2⟩:=dO h
  obtain⟨r2,h3,h4⟩:=dO h2
  refine⟨_,?_,h4⟩
  rw[dG] at h1 h3
  simp only[VB.blks,List.map_cons,List.map_nil,renB,List.map_append,h1,h3,jt (gS c)]
 ·rename_i E t xs
  obtain⟨c,h⟩:=h.ok
  exact⟨_,by simp only[VB.blks,List.map_cons,List.map_nil,renB,jt (gS c)],h⟩
 ·obtain⟨r,h1,h2⟩:=dO h
  exact⟨_,by simp only[VB.blks,List.map_cons,List.map_nil,renB,←dG,h1],h2⟩
 ·exact⟨_,rfl,h⟩
 ·exact⟨_,rfl,h⟩
 ·rename_i T t xs
  obtain⟨c,h⟩:=h.ok
  refine⟨_,?_,h⟩
  simp only[VB.blks,List.map_map]
  refine List.map_congr_left fun x _=>?_
  simp only[Function.comp,renB]
  rw[←fQ,uR (gS c)]
 ·rename_i T m t xss
  obtain⟨c,h⟩:=h.ok
  refine⟨_,?_,h⟩
  simp only[VB.blks,List.map_map]
  refine List.map_congr_left fun xs _=>?_
  simp only[Function.comp,renB,jt (gS c)]
 ·rename_i E t xss
  obtain⟨c,h⟩:=h.ok
  refine⟨_,?_,h⟩
  simp only[VB.blks,List.map_map]
  refine List.map_congr_left fun xs _=>?_
  simp only[Function.comp,renB,jt (gS c)]
 ·rename_i E t xss
  obtain⟨c,h⟩:=h.ok
  refine⟨_,?_,h⟩
  simp only[VB.blks,List.map_map]
  refine List.map_congr_left fun xs _=>?_
  cases xs with
  |none=>rfl
  |some xs=>simp only[Function.comp,rowX,renB,jt (gS c)]
 ·exact⟨_,rfl,aP h⟩
 ·exact⟨_,rfl,h⟩
def yw (g:Nat→Nat):VH→(VH→Prop)→Prop
 |[],K=>K []
 |(k,x)::l,K=>yX g x fun y=>dt (g k) fun b=>yw g l fun u=>K ((b,y)::u)
inductive RenVH (g:Nat→Nat):VH→VH→Prop where
 |nil:RenVH g [] []
 |cons {k:Nat} {x y:VB} {l u:VH} (hy:y.blks=x.blks.map (renB (gI g))) (hl:RenVH g l u):RenVH g ((k,x)::l) ((g k,y)::u)
theorem rh {g:Nat→Nat}:∀{l:VH} {K:VH→Prop},yw g l K→∃u,RenVH g l u∧K u
 |[],K,h=>⟨[],.nil,h⟩
 |(k,x)::l,K,h=>by
  obtain⟨y,h1,h2⟩:=yY h
  obtain⟨u,h3,h4⟩:=rh (aP h2)
  exact⟨(g k,y)::u,.cons h1 h3,h4⟩
theorem RenVH.look {g:Nat→Nat}(hg:∀a b,g a=g b→a=b){l u:VH}(hr:RenVH g l u):(∀k,(Am.look l k=none→Am.look u (g k)=none)∧∀x,Am.look l k=some x→∃y,Am.look u (g k)=some y∧y.blks=x.blks.map (renB (gI g)))∧∀b,(∀k,Am.look l k≠none→g k≠b)→Am.look u b=none:=by
 induction hr with
 |nil=>exact⟨fun k=>⟨fun _=>rfl,fun x hx=>by cases hx⟩,fun b _=>rfl⟩
 | @cons k0 x0 y0 l u hy hl ih=>
  refine⟨fun k=>?_,fun b hb=>?_⟩
  ·by_cases e:k=k0
   ·subst e
    refine⟨fun hn=>by simp[Am.look] at hn,fun x hx=>⟨y0,by simp[Am.look],?_⟩⟩
    simp[Am.look] at hx
    subst hx
    exact hy
   ·have e':¬g k=g k0:=fun he=>e (hg _ _ he)
    simp only[Am.look,if_neg e,if_neg e']
    exact ih.1 k
  ·have e':¬b=g k0:=fun he=>hb k0 (by simp[Am.look]) he.symm
   simp only[Am.look,if_neg e']
   refine ih.2 b fun k hk=>hb k ?_
   simp only[Am.look]
   split
   ·simp
   ·exact hk
theorem RenVH.keys {g:Nat→Nat}{l u:VH}(hr:RenVH g l u):u.map (·.1)=l.map (fun p=>g p.1):=by
 induction hr with
 |nil=>rfl
 |cons hy hl ih=>simp[ih]
end Go.Proofs.YthmfppknagbkeaaGreatDoor.Am
namespace Go.Proofs.YthmfppknagbkeaaGreatDoor.Am
open Go Go.RowKit
variable {P:Program} {os fs:List Nat} {n:Nat} {h:VH}
theorem j8 {α β:Type}{f:α→β}{l:List α}(hf:∀a b,f a=f b→a=b)(h:l.Nodup):(l.map f).Nodup:=List.pairwise_map.2 (List.Pairwise.imp (fun hne e=>hne (hf _ _ e)) h)
theorem jh {κ α:Type}[DecidableEq κ]{us g:List (κ×α)}(hn:(us.map (·.1)).Nodup)(b:κ):look (puts us g) b=match look us b with|some y=>some y|none=>look g b:=by
 cases hl:look us b with
 |some y=>exact eU us g b y hn (bH hl)
 |none=>
  refine ar us g b fun x hx he=>?_
  have:=eq hn (k:=x.1) (a:=x.2) hx
  rw[he,hl] at this
  cases this
theorem j6 {κ α:Type}[DecidableEq κ](us:List (κ×α)){g g':List (κ×α)}(b:κ)(hg:look g b=look g' b):look (puts us g) b=look (puts us g') b:=by
 induction us generalizing g g' with
 |nil=>exact hg
 |cons x us ih=>
  show look (puts us (put x.1 x.2 g)) b=look (puts us (put x.1 x.2 g')) b
  refine ih ?_
  rw[ai,ai,hg]
theorem nY:∀(s:List Nat) (l:VH),(∀p∈nn s l,p.1.1∉s)∧((nn s l).map (·.1)).Nodup
 |s,[]=>⟨by simp[nn],by simp[nn]⟩
 |s,(k,x)::l=>by
  obtain⟨ih1,ih2⟩:=nY (k::s) l
  have hfam:∀p∈fam k x.blks,p.1.1=k:=by
   intro p hp
   obtain⟨q,_,rfl⟩:=List.mem_map.1 hp
   rfl
  have hnd:((fam k x.blks).map (·.1)).Nodup:=by
   have e:∀(l:List Blk) (q:Nat),(((l.zipIdx q).map fun p:Blk×Nat=>(((k,p.2),p.1):Id×Blk)).map (·.1))=(List.range' q l.length).map fun i=>((k,i):Id):=by
    intro l
    induction l with
    |nil=>intro q;rfl
    |cons y l ih=>intro q;simp only[List.zipIdx_cons,List.map_cons,List.length_cons,List.range'_succ,ih]
   unfold fam
   rw[e]
   exact j8 (fun a b hab=>by simpa using hab) List.nodup_range'
  simp only[nn]
  cases hc:s.contains k with
  |true=>
   simp only[cond_true,List.nil_append]
   exact⟨fun p hp hs=>ih1 p hp (List.mem_cons_of_mem _ hs),ih2⟩
  |false=>
   have hk:k∉s:=by simpa using hc
   simp only[cond_false,List.map_append]
   refine⟨fun p hp=>?_,List.nodup_append.2 ⟨hnd,ih2,fun a ha b hb he=>?_⟩⟩
   ·rcases List.mem_append.1 hp with hp|hp
    ·rw[hfam p hp];exact hk
    ·exact fun hs=>ih1 p hp (List.mem_cons_of_mem _ hs)
   ·obtain⟨p,hp,rfl⟩:=List.mem_map.1 ha
    obtain⟨q,hq,rfl⟩:=List.mem_map.1 hb
    have:=ih1 q hq
    rw[←he,hfam p hp] at this
    exact this (List.mem_cons_self ..)
theorem mP (l:VH):((toH l).map (·.1)).Nodup:=(nY [] l).2
theorem uz {l:VH}{p:Id×Blk}(hp:p∈toH l):∃x,look l p.1.1=some x∧p.2∈x.blks:=by
 have h1:=eq (mP l) (k:=p.1) (a:=p.2) hp
 rw[al] at h1
 obtain⟨x,h2,h3⟩:=Option.bind_eq_some_iff.1 h1
 exact⟨x,h2,List.mem_of_getElem? h3⟩
theorem nI {g:Id→Id}(hg:∀a b,g a=g b→a=b):∀(l:HL),(∀b,look (renH g l) (g b)=(look l b).map (renB g))∧∀c,(∀b,look l b≠none→g b≠c)→look (renH g l) c=none
 |[]=>⟨fun b=>rfl,fun c _=>rfl⟩
 |(b0,x)::l=>by
  obtain⟨h1,h2⟩:=nI hg l
  refine⟨fun b=>?_,fun c hc=>?_⟩
  ·show look ((g b0,renB g x)::renH g l) (g b)=_
   simp only[look]
   by_cases e:b=b0
   ·subst e;simp
   ·rw[if_neg fun he=>e (hg _ _ he),if_neg e]
    exact h1 b
  ·show look ((g b0,renB g x)::renH g l) c=none
   simp only[look]
   rw[if_neg fun he=>hc b0 (by simp[look]) he.symm]
   refine h2 c fun b hb=>hc b ?_
   simp only[look]
   split
   ·simp
   ·exact hb
theorem wg {g:Id→Id}(hg:∀a b,g a=g b→a=b){l:HL}(hn:(l.map (·.1)).Nodup):((renH g l).map (·.1)).Nodup:=by
 unfold renH
 rw[List.map_map]
 have:(fun x:Id×Blk=>x.1)∘(fun p:Id×Blk=>(g p.1,renB g p.2))=g∘(fun x:Id×Blk=>x.1):=rfl
 rw[this,←List.map_map]
 exact j8 hg hn
theorem u5 {g:Nat→Nat}(hg:∀a b,g a=g b→a=b){hout u h0:VH}{H:HL}(hH:∀b,look H b=look (toH h0) b)(hr:RenVH g hout u)(hn:(hout.map (·.1)).Nodup)(hc:∀k x,look hout k=some x→∀j,x.blks.length≤j→look (toH h0) (g k,j)=none):
  (∀b,look (puts (renH (gI g) (toH hout)) H) b=look (toH (puts u h0)) b)∧∀x∈renH (gI g) (toH hout),x.1.1∈u.map (·.1):=by
 have hgI:∀a b:Id,gI g a=gI g b→a=b:=by
  rintro⟨a1,a2⟩ ⟨b1,b2⟩ he
  simp only[gI,Prod.mk.injEq] at he⊢
  exact⟨hg _ _ he.1,he.2⟩
 have hun:(u.map (·.1)).Nodup:=by
  rw[hr.keys]
  have:(fun p:Nat×VB=>g p.1)=g∘(fun x:Nat×VB=>x.1):=rfl
  rw[this,←List.map_map]
  exact j8 hg hn
 obtain⟨q1,q2⟩:=nI hgI (toH hout)
 obtain⟨r1,r2⟩:=hr.look hg
 refine⟨fun b=>?_,fun x hx=>?_⟩
 ·rw[jh (wg hgI (mP hout)),al,jh hun,hH]
  by_cases hex:∃k x,look hout k=some x∧g k=b.1
  ·obtain⟨k,x,hk,he⟩:=hex
   obtain⟨y,y1,y2⟩:=(r1 k).2 x hk
   have e1:b=gI g (k,b.2):=by simp[gI,he]
   rw[←he,y1,he]
   have e2:look (renH (gI g) (toH hout)) b=(x.blks[b.2]?).map (renB (gI g)):=by
    rw[e1,q1,al,hk];rfl
   rw[e2]
   simp only[Option.bind_some,y2,List.getElem?_map]
   cases hx:x.blks[b.2]? with
   |some d=>rfl
   |none=>
    simp only[Option.map_none]
    have:=hc k x hk b.2 (by simpa using hx)
    rw[he] at this
    exact this
  ·have e1:look u b.1=none:=r2 b.1 fun k hk he=>hex (by
    cases hl:look hout k with
    |none=>exact absurd hl hk
    |some x=>exact⟨k,x,hl,he⟩)
   have e2:look (renH (gI g) (toH hout)) b=none:=q2 b fun c hcl he=>hex (by
    rw[al] at hcl
    cases hl:look hout c.1 with
    |none=>rw[hl] at hcl;exact absurd rfl hcl
    |some x=>exact⟨c.1,x,hl,by rw[←he]⟩)
   rw[e1,e2]
   exact al h0 b
 ·obtain⟨p,hp,rfl⟩:=List.mem_map.1 hx
  obtain⟨x,h1,_⟩:=uz hp
  obtain⟨y,h2,_⟩:=(r1 p.1.1).2 x h1
  exact List.mem_map.2 ⟨_,bH h2,rfl⟩
def Fi (h:VH):List Nat→(VH→Prop)→Prop
 |[],K=>K []
 |b::l,K=>Fi h l fun u=>(match aw h b with
  |some (.row _ t xs)=>Chk t.pure (K ((b,.froz t xs)::u))
  |some (.frow ..)=>False
  |some (.frowx ..)=>False
  |_=>K u)
def rY (h:VH):List Nat→VH
 |[]=>[]
 |b::l=>match aw h b with
  |some (.row _ t xs)=>(b,.froz t xs)::rY h l
  |_=>rY h l
theorem tF:∀{l:List Nat} {K:VH→Prop},Fi h l K→K (rY h l)∧∀b∈l,¬E8 h b
 |[],K,hk=>⟨hk,by simp⟩
 |b::l,K,hk=>by
  obtain⟨this,h2⟩:=tF (l:=l) hk
  simp only[rY]
  have key:K (match aw h b with
   |some (.row _ t xs)=>(b,.froz t xs)::rY h l
   |_=>rY h l)∧¬E8 h b:=by
   cases hl:aw h b with
   |none=>
    rw[hl] at this
    rw[ax] at hl
    exact⟨this,fun hf=>by rcases hf with⟨E,t,xs,hf⟩|⟨E,t,xs,hf⟩|⟨E,t,xs,_,hf⟩<;>rw[hl] at hf<;>cases hf⟩
   |some x=>
    rw[hl] at this
    rw[ax] at hl
    have hx:(∀E t xs,x≠ .frow E t xs)→(∀E t xs,x≠ .frowx E t xs)→(∀E t xs,t.pure=false→x≠ .row E t xs)→¬E8 h b:=fun h1 h2 h3 hf=>by
     rcases hf with⟨E,t,xs,hf⟩|⟨E,t,xs,hf⟩|⟨E,t,xs,hp,hf⟩<;>rw[hl] at hf<;>cases hf
     ·exact h1 _ _ _ rfl
     ·exact h2 _ _ _ rfl
     ·exact h3 _ _ _ hp rfl
    cases x<;>first|exact this.elim|exact⟨this.ok.2,hx (fun _ _ _ he=>by cases he) (fun _ _ _ he=>by cases he) (fun _ _ _ hp he=>by cases he;rw[this.ok.1] at hp;cases hp)⟩|exact⟨this,hx (fun _ _ _ he=>by cases he) (fun _ _ _ he=>by cases he) (fun _ _ _ _ he=>by cases he)⟩
  exact⟨key.1,fun c hc=>(List.mem_cons.1 hc).elim (fun e=>e▸key.2) (h2 c)⟩
theorem ji:∀(ws:List Nat) (g:VH) (b:Nat),look (puts (rY h ws) g) b=if b∈ws then(match look h b with|some (.row _ t xs)=>some (.froz t xs)|_=>look g b) else look g b
 |[],g,b=>by simp[rY,puts]
 |c::ws,g,b=>by
  simp only[rY]
  rw[ax]
  split
  ·rename_i E t xs hc
   show look (puts (rY h ws) (put c (.froz t xs) g)) b=_
   rw[ji ws,ai]
   by_cases hb:b=c
   ·subst hb
    simp only[if_true,List.mem_cons,true_or,hc]
    split
    ·rfl
    ·rfl
   ·by_cases hm:b∈ws
    ·simp[hm,hb]
    ·simp[hm,hb]
  ·rename_i hc
   rw[ji ws]
   by_cases hb:b=c
   ·subst hb
    have:(match look h b with|some (VB.row _ t xs)=>some (VB.froz t xs)|_=>look g b)=look g b:=by
     split
     ·rename_i e;exact absurd e (hc _ _ _)
     ·rfl
    simp[this]
   ·simp[hb]
theorem zu {ws:List Nat}(hw:∀b∈ws,E7 h b):bi h (frz (toH h) (ws.map fun b=>(b,0))) (rY h ws)∧∀b∈ws.map (fun b=>((b,0):Id)),∀x,look (toH h) b=some x→x.mutable=true→(frzB (toH h) b).isSome=true:=by
 have fz:∀b E t,∀xs:List (Ty.den t),look h b=some (.row E t xs)→t.pure=true→frzB (toH h) (b,0)=some (.froz (xs.map (aa t))):=by
  intro b E t xs hb hp
  have hl:=am (i:=0) hb (d:=.row E (xs.map (aa t))) rfl
  simp[frzB,hl,row_pure hp]
 refine⟨⟨fun b=>?_,fun x hx=>?_⟩,fun b hb x hx hmu=>?_⟩
 ·obtain⟨b1,b2⟩:=b
  rw[bu,al (puts (rY h ws) h),ji]
  by_cases hm:b1∈ws
  ·rw[if_pos hm]
   rcases hw b1 hm with⟨E,t,xs,hp,hb⟩|⟨t,xs,hb⟩|⟨t,x,hb⟩
   ·rw[hb]
    simp only[Option.bind_some,VB.blks]
    cases b2 with
    |zero=>
     rw[if_pos (List.mem_map.2 ⟨b1,hm,rfl⟩),fz b1 E t xs hb hp]
     rfl
    |succ j=>
     rw[if_neg (by simp)]
     exact yD hb rfl (j+1) (by simp)
   ·rw[hb]
    have e:frzB (toH h) (b1,b2)=none:=by
     unfold frzB
     rw[al,hb]
     simp only[Option.bind_some,VB.blks]
     cases b2<;>simp
    rw[e]
    simp only[ite_self]
    rw[al,hb]
   ·rw[hb]
    have e:frzB (toH h) (b1,b2)=none:=by
     unfold frzB
     rw[al,hb]
     simp only[Option.bind_some,VB.blks]
     cases b2<;>simp
    rw[e]
    simp only[ite_self]
    rw[al,hb]
  ·rw[if_neg (fun hmem=>by obtain⟨c,hc,he⟩:=List.mem_map.1 hmem;simp only[Prod.mk.injEq] at he;exact hm (he.1▸hc)),if_neg hm,al]
 ·obtain⟨c,hc,hcx⟩:=List.mem_filterMap.1 hx
  obtain⟨y,hy,rfl⟩:=Option.map_eq_some_iff.1 hcx
  obtain⟨b,hb,rfl⟩:=List.mem_map.1 hc
  show b∈(rY h ws).map (·.1)
  rcases hw b hb with⟨E,t,xs,hp,hl⟩|⟨t,xs,hl⟩|⟨t,x,hl⟩
  ·have:look (puts (rY h ws) []) b=some (.froz t xs):=by rw[ji,if_pos hb,hl]
   rcases Classical.em (b∈(rY h ws).map (·.1)) with h1|h1
   ·exact h1
   ·rw[ar _ _ _ fun x hx e=>h1 (List.mem_map.2 ⟨x,hx,e⟩)] at this
    cases this
  ·exfalso
   have:=am (i:=0) hl (d:=.froz (xs.map (aa t))) rfl
   simp[frzB,this] at hy
  ·exfalso
   have:=am (i:=0) hl (d:=.fvar (aa t x).cells) rfl
   simp[frzB,this] at hy
 ·obtain⟨c,hc,rfl⟩:=List.mem_map.1 hb
  rcases hw c hc with⟨E,t,xs,hp,hl⟩|⟨t,xs,hl⟩|⟨t,x',hl⟩
  ·rw[fz c E t xs hl hp];rfl
  ·have:=am (i:=0) hl (d:=.froz (xs.map (aa t))) rfl
   rw[this] at hx;cases hx;cases hmu
  ·have:=am (i:=0) hl (d:=.fvar (aa t x').cells) rfl
   rw[this] at hx;cases hx;cases hmu
end Go.Proofs.YthmfppknagbkeaaGreatDoor.Am
namespace Go.Proofs.YthmfppknagbkeaaGreatDoor.Am
open Go Go.RowKit
variable {P:Program} {os fs:List Nat} {n:Nat} {h:VH}
def aG:VB→Nat
 | .fvar _ _ xs=>xs.length
 | .fvari _ _ _ xss=>xss.length
 | .frow _ _ xss=>xss.length
 | .frowx _ _ xss=>xss.length
 |_=>1
theorem gQ (x:VB):x.blks.length=aG x:=by cases x<;>simp[VB.blks,aG]
def keysV:VH→List Nat
 |[]=>[]
 |(k,_)::l=>k::keysV l
theorem dK:∀l:VH,l.map (·.1)=keysV l
 |[]=>rfl
 |(k,x)::l=>by simp[keysV,dK l]
def sv (h:VH)(fs:List Nat):VH→Prop→Prop
 |[],K=>K
 |(k,x)::l,K=>match Nat.blt k 4 with
  |true=>Chk (!x.sgl) (match aw h k with
   |none=>sv h fs l K
   |some y=>Chk (fs.contains k && !y.sgl) (ba (aG y≤aG x) (sv h fs l K)))
  |false=>Chk x.sgl (sv h fs l K)
theorem tZ {K:Prop}:∀{l:VH},sv h fs l K→(∀k x,look l k=some x→(k<4∧∀y,look h k=some y→k∈fs∧aG y≤aG x)∨(4≤k∧x.sgl=true))∧K
 |[],hk=>⟨(fun k x hx=>by cases hx),hk⟩
 |(k0,x0)::l,hk=>by
  simp only[sv] at hk
  have key:((k0<4∧∀y,look h k0=some y→k0∈fs∧aG y≤aG x0)∨(4≤k0∧x0.sgl=true))∧sv h fs l K:=by
   split at hk
   ·rename_i hb
    have hlt:k0<4:=by simpa[Nat.blt_eq] using hb
    obtain⟨c,hk⟩:=hk.ok
    split at hk
    ·rename_i hn
     rw[ax] at hn
     exact⟨.inl ⟨hlt,fun y hy=>by rw[hn] at hy;cases hy⟩,hk⟩
    ·rename_i y hy
     rw[ax] at hy
     obtain⟨c2,hle,hk⟩:=hk.ok
     simp only[Bool.and_eq_true] at c2
     exact⟨.inl ⟨hlt,fun y' hy'=>by rw[hy] at hy';obtain rfl:=Option.some.inj hy';exact⟨by simpa using c2.1,hle⟩⟩,hk⟩
   ·rename_i hb
    obtain⟨c,hk⟩:=hk.ok
    have hge:4≤k0:=by
     rcases Nat.lt_or_ge k0 4 with hlt|hge
     ·have:Nat.blt k0 4=true:=by simpa[Nat.blt_eq] using hlt
      rw[hb] at this;cases this
     ·exact hge
    exact⟨.inr ⟨hge,c⟩,hk⟩
  obtain⟨k1,k2⟩:=key
  obtain⟨h1,h2⟩:=tZ k2
  refine⟨fun k x hx=>?_,h2⟩
  simp only[look] at hx
  split at hx
  ·rename_i e;cases hx;subst e;exact k1
  ·exact h1 k x hx
def An (hout:VH):List Nat→Nat→Bool
 |[],_=>true
 |_::l,i=>(aw hout i).isSome && An hout l (i+1)
theorem un {hout:VH}:∀{l:List Nat} {i:Nat},An hout l i=true→∀m,m<l.length→∃x,look hout (i+m)=some x
 |[],i,_,m,hm=>by simp at hm
 |_::l,i,hb,m,hm=>by
  simp only[An,Bool.and_eq_true,ax] at hb
  cases m with
  |zero=>exact Option.isSome_iff_exists.1 hb.1
  |succ m=>
   have:=un hb.2 m (by simpa using hm)
   rwa [show i+1+m=i+(m+1) by omega] at this
def uD (l:VH):Bool:=l.all fun p=>lm p.2
def ky (P:Program)(h:VH)(n:Nat)(f:FuncId)(vs:List V)(os fs:List Nat)(K:V→VH→List Nat→Prop):Prop:=
 Chk (v8 os n && fs.all (fun k=>Nat.blt k 4)) (fX os fs h vs fun vs' ws=>xt fs h fs fun hf=>zf os fs h os 4 fun hs ws'=>zO hf hs fun hin=>bV P f vs' hin fun r hout=>
  Chk (gt (keysV hout) && fs.all (fun k=>(aw hout k).isSome) && An hout os 4) (sv h fs hout (bZ (gN os n) r fun r'=>yw (gN os n) hout fun u=>
   match fK r && uD hout with
   |true=>K r' u ((ws++ws')++fs++keysV u)
   |false=>Fi h (ws++ws') fun u0=>K r' (u0++u) ((ws++ws')++fs++keysV u))))
theorem wS {f:FuncId}{vs:List V}{K:V→VH→List Nat→Prop}(hfr:∀c:Id,n≤c.1→look (toH h) c=none)(hk:ky P h n f vs os fs K):
  ∃r u vu gl,(∀f':List Nat,(∀k∈gl,k∈f')→∃c:CallOK P f (toH h) n (ae vs) r.toD u f',∀b,Live c.hout b→(c.g b).1∈f')∧bi h u vu∧K r vu gl:=by
 obtain⟨c0,hk⟩:=hk.ok
 simp only[Bool.and_eq_true,List.all_eq_true] at c0
 obtain⟨c1,c2⟩:=c0
 have hlow:∀k∈fs,k<4:=fun k hk=>by simpa[Nat.blt_eq] using c2 k hk
 obtain⟨o1,o2,o3⟩:=uJ c1
 obtain⟨vs',ws,v1,v2,hk⟩:=ed (n:=n) hk
 obtain⟨hf,f1,f2,hk⟩:=qv hk
 obtain⟨hs,ws',s1,s2,s3,hk⟩:=rE (n:=n) hk
 have hk:=oh hk
 obtain⟨r,hout,hcon,hk⟩:=hk
 obtain⟨c3,hk⟩:=hk.ok
 simp only[Bool.and_eq_true,List.all_eq_true] at c3
 obtain⟨⟨c3,c4⟩,c5⟩:=c3
 obtain⟨cov,hk⟩:=tZ hk
 obtain⟨r',r1,hk⟩:=pj hk
 obtain⟨u,hr,hk⟩:=rh hk
 have hg:∀a b,gN os n a=gN os n b→a=b:=fun a b=>xE c1
 have hgI:∀a b:Id,gI (gN os n) a=gI (gN os n) b→a=b:=fun a b=>xD c1
 have hin_look:∀k x,look (hf++hs) k=some x→(k∈fs∧look hf k=some x)∨(∃m b,k=4+m∧os[m]?=some b∧look hs k=some x):=by
  intro k x hx
  rw[dM] at hx
  cases hl:look hf k with
  |some y=>
   rw[hl] at hx
   obtain rfl:=Option.some.inj hx
   exact .inl ⟨(f1 k _ hl).1,rfl⟩
  |none=>
   rw[hl] at hx
   obtain⟨m,rfl,hm⟩:=s1 k x hx
   exact .inr ⟨m,os[m],rfl,List.getElem?_eq_getElem hm,hx⟩
 have hf_none:∀m,look hf (4+m)=none:=by
  intro m
  cases hl:look hf (4+m) with
  |none=>rfl
  |some y=>have:=hlow _ (f1 _ _ hl).1;omega
 have hin_sgl:∀m b,os[m]?=some b→∃x x',look h b=some x∧look (hf++hs) (4+m)=some x'∧Fj os fs n h ws' x x':=by
  intro m b hb
  obtain⟨x,x',q1,q2,q3⟩:=s2 m b hb
  exact⟨x,x',q1,by rw[dM,hf_none];exact q2,q3⟩
 have hin_fam:∀k∈fs,∃x,look (hf++hs) k=some x∧look h k=some x∧x.sgl=false∧∀j∈x.fams,j∈fs:=by
  intro k hk
  obtain⟨x,hx⟩:=f2 k hk
  obtain⟨_,q2,q3,q4⟩:=f1 k x hx
  exact⟨x,by rw[dM,hx],q2,q3,q4⟩
 have H:HinOK os fs h (toH (hf++hs)):=by
  refine⟨hlow,fun m b hb=>?_,fun k hk i hl=>?_⟩
  ·obtain⟨x,x',q1,q2,d,d',e1,e2,e3⟩:=hin_sgl m b hb
   exact Live.of_look (am q2 (by rw[e2];rfl))
  ·obtain⟨x,q1,q2,q3,q4⟩:=hin_fam k hk
   unfold Live at hl⊢
   rw[al,q2] at hl
   rw[al,q1]
   exact hl
 have live_in:∀b,Live (toH (hf++hs)) b→(b.1∈fs∧∃x,look h b.1=some x∧look (hf++hs) b.1=some x∧b.2<x.blks.length)∨∃m c,b=(4+m,0)∧os[m]?=some c:=by
  intro b hb
  unfold Live at hb
  rw[al] at hb
  cases hl:look (hf++hs) b.1 with
  |none=>rw[hl] at hb;cases hb
  |some x=>
   rw[hl] at hb
   simp only[Option.bind_some] at hb
   rcases hin_look _ _ hl with⟨g1,g2⟩|⟨m,c,e,g1,g2⟩
   ·obtain⟨_,q2,q3,q4⟩:=f1 _ _ g2
    refine .inl ⟨g1,x,q2,rfl,?_⟩
    rcases Nat.lt_or_ge b.2 x.blks.length with hlt|hge
    ·exact hlt
    ·rw[List.getElem?_eq_none hge] at hb;cases hb
   ·obtain⟨y,y',q1,q2,d,d',e1,e2,_⟩:=hin_sgl m c g1
    rw[e,q2] at hl
    obtain rfl:=Option.some.inj hl
    rw[e2] at hb
    refine .inr ⟨m,c,?_,g1⟩
    obtain⟨b1,b2⟩:=b
    simp only at e hb⊢
    cases b2 with
    |zero=>rw[e]
    |succ j=>simp at hb
 have hcov:∀k x,look hout k=some x→∀j,x.blks.length≤j→look (toH h) (gN os n k,j)=none:=by
  intro k x hx j hj
  rcases k5 os n k with⟨a1,a2⟩|⟨m,b,rfl,a1,a2⟩|⟨m,rfl,a1,a2⟩<;>rw[a2]
  ·rcases cov k x hx with⟨_,q⟩|⟨q,_⟩
   ·rw[al]
    cases hl:look h k with
    |none=>rfl
    |some y=>
     simp only[Option.bind_some]
     rw[List.getElem?_eq_none]
     have:=(q y hl).2
     rw[←gQ,←gQ] at this
     omega
   ·omega
  ·rcases cov _ x hx with⟨q,_⟩|⟨_,q⟩
   ·omega
   ·obtain⟨d,hd⟩:=VB.sgl_ok q
    rw[hd] at hj
    simp only[List.length_singleton] at hj
    obtain⟨y,y',q1,q2,e,e',e1,e2,_⟩:=hin_sgl m b a1
    rw[al,q1]
    simp only[Option.bind_some,e1]
    rw[List.getElem?_eq_none]
    simpa using hj
  ·exact hfr _ (by show n≤n+_;omega)
 have hW:∀b∈ws++ws',m5 h os fs b:=fun b hb=>(List.mem_append.1 hb).elim (v2 b) (s3 b)
 have hkeys:=mP hout
 have hnd:(hout.map (·.1)).Nodup:=by rw[dK];exact fo c3
 have hukeys:∀b,Live (toH hout) b→(gI (gN os n) b).1∈keysV u:=by
  intro b hb
  unfold Live at hb
  rw[al] at hb
  cases hl:look hout b.1 with
  |none=>rw[hl] at hb;cases hb
  |some x=>
   obtain⟨y,y1,_⟩:=((hr.look hg).1 b.1).2 x hl
   rw[←dK]
   exact List.mem_map.2 ⟨_,bH y1,rfl⟩
 have mk:∀(uu:HL) (W:List Id),DY h (ws++ws') W→(∀b∈W,b.1∈ws++ws')→((noMem r.toD=true∧(∀p∈toH hout,noMemB p.2=true)∧uu=renH (gI (gN os n)) (toH hout))∨((∀b∈W,∀x,look (toH h) b=some x→x.mutable=true→(frzB (toH h) b).isSome=true)∧uu=frz (toH h) W++renH (gI (gN os n)) (toH hout)))→
   ∀f':List Nat,(∀k∈(ws++ws')++fs++keysV u,k∈f')→∃c:CallOK P f (toH h) n (ae vs) r'.toD uu f',∀b,Live c.hout b→(c.g b).1∈f':=by
  intro uu W hcW hWs hupd f' hf'
  refine⟨⟨gI (gN os n),W,fs,ae vs',toH (hf++hs),r.toD,toH hout,hcon,v1.1,?_,?_,hkeys,fun b b' _ _ he=>hgI b b' he,?_,?_,?_,⟨?_,?_,?_⟩,r1.symm,hupd⟩,?_⟩
  ·exact v1.2 _ H _ fun b hb=>hcW b (List.mem_append_left _ hb)
  ·intro b x' hx
   have hlv:Live (toH (hf++hs)) b:=Live.of_look hx
   rcases live_in b hlv with⟨g1,x,g2,g3,g4⟩|⟨m,c,rfl,g1⟩
   ·rw[al,g3] at hx
    refine⟨x',by simp only[gI,jY os n (hlow _ g1)];rw[al,g2];exact hx,?_⟩
    obtain⟨y,y1,y2,y3,y4⟩:=hin_fam _ g1
    rw[g2] at y2
    obtain rfl:=Option.some.inj y2
    exact zw H y3 y4 x' (List.mem_of_getElem? hx)
   ·obtain⟨y,y',q1,q2,d,d',e1,e2,e3⟩:=hin_sgl m c g1
    rw[al,q2] at hx
    simp only[Option.bind_some,e2,List.getElem?_cons_zero,Option.some.injEq] at hx
    subst hx
    refine⟨d,?_,e3 _ H _ fun b hb=>hcW b (List.mem_append_right _ hb)⟩
    simp only[gI,dD,cb g1]
    exact am q1 (by rw[e1];rfl)
  ·intro b hb
   rcases live_in b hb with⟨g1,x,g2,g3,g4⟩|⟨m,c,rfl,g1⟩
   ·have hl:=c4 _ g1
    rw[ax] at hl
    obtain⟨y,hy⟩:=Option.isSome_iff_exists.1 hl
    rcases cov _ _ hy with⟨_,q⟩|⟨q,_⟩
    ·have:=(q x g2).2
     rw[←gQ,←gQ] at this
     unfold Live
     rw[al,hy]
     simp only[Option.bind_some]
     rw[List.getElem?_eq_getElem (by omega)]
     rfl
    ·have:=hlow _ g1;omega
   ·obtain⟨y,hy⟩:=un c5 m (List.getElem?_eq_some_iff.1 g1).1
    rcases cov _ _ hy with⟨q,_⟩|⟨_,q⟩
    ·omega
    ·obtain⟨d,hd⟩:=VB.sgl_ok q
     exact Live.of_look (am hy (by rw[hd];rfl))
  ·intro b hb hnb
   have hb':=hb
   unfold Live at hb
   rw[al] at hb
   cases hl:look hout b.1 with
   |none=>rw[hl] at hb;cases hb
   |some x=>
    rw[hl] at hb
    rcases k5 os n b.1 with⟨a1,a2⟩|⟨m,c,e,a1,a2⟩|⟨m,e,a1,a2⟩<;>simp only[gI]<;>rw[a2]
    ·cases hh:look h b.1 with
     |none=>rw[al,hh];rfl
     |some y=>
      rcases cov _ _ hl with⟨_,q⟩|⟨q,_⟩
      ·obtain⟨g1,_⟩:=q y hh
       obtain⟨z,z1,z2,_⟩:=hin_fam _ g1
       rw[hh] at z2
       obtain rfl:=Option.some.inj z2
       unfold Live at hnb
       rw[al,z1] at hnb
       rw[al,hh]
       simpa using hnb
      ·omega
    ·exfalso
     rcases cov _ _ hl with⟨q,_⟩|⟨_,q⟩
     ·omega
     ·obtain⟨d,hd⟩:=VB.sgl_ok q
      simp only[Option.bind_some,hd] at hb
      obtain⟨b1,b2⟩:=b
      simp only at e hb hnb
      cases b2 with
      |zero=>exact hnb (by rw[e];exact H.sgl m c a1)
      |succ j=>simp at hb
    ·exact hfr _ (by show n≤n+_;omega)
  ·intro b hb b' hb' he
   obtain⟨q1,q2⟩:=hW _ (hWs b hb)
   obtain⟨c,i⟩:=b
   rcases live_in b' hb' with⟨g1,x,g2,g3,g4⟩|⟨m,c',rfl,g1⟩
   ·simp only[gI,jY os n (hlow _ g1),Prod.mk.injEq] at he
    obtain⟨y,y1,y2,y3,_⟩:=hin_fam _ g1
    rw[he.1] at y2
    rcases q2 with(⟨E,t,xs,_,hb⟩|⟨t,xs,hb⟩|⟨t,x,hb⟩)|⟨q2,_⟩
    ·rw[y2] at hb;cases hb;cases y3
    ·rw[y2] at hb;cases hb;cases y3
    ·rw[y2] at hb;cases hb;cases y3
    ·exact q2 (he.1▸g1)
   ·simp only[gI,dD,cb g1,Prod.mk.injEq] at he
    obtain⟨he,_⟩:=he
    subst he
    exact q1 (List.mem_of_getElem? g1)
  ·exact fun b hb=>.inl (hf' _ (List.mem_append_right _ (hukeys b hb)))
  ·exact fun b hb=>hf' _ (List.mem_append_left _ (List.mem_append_left _ (hWs b hb)))
  ·exact fun k hk=>hf' _ (List.mem_append_left _ (List.mem_append_right _ hk))
  ·exact fun b hb=>hf' _ (List.mem_append_right _ (hukeys b hb))
 split at hk
 ·rename_i hm
  simp only[Bool.and_eq_true,uD,List.all_eq_true] at hm
  refine⟨r',_,u,_,mk _ (((toH h).map (·.1)).filter fun b=>decide (b.1∈ws++ws')) (fun b hb i hl=>?_) (fun b hb=>by simpa using(List.mem_filter.1 hb).2) (.inl ⟨j7 r hm.1,fun p hp=>?_,rfl⟩),u5 hg (fun _=>rfl) hr hnd hcov,hk⟩
  ·refine List.mem_filter.2 ⟨?_,by simpa using hb⟩
   obtain⟨d,hd⟩:=Option.isSome_iff_exists.1 hl
   exact List.mem_map.2 ⟨_,bH hd,rfl⟩
  obtain⟨x,x1,x2⟩:=uz hp
  exact s0 (hm.2 _ (bH x1)) _ x2
 ·obtain⟨hk,hnf⟩:=tF hk
  have hW1:∀b∈ws++ws',E7 h b:=fun b hb=>(hW b hb).2.elim id fun q=>(hnf b hb q.2).elim
  obtain⟨w1,w2⟩:=zu hW1
  refine⟨r',_,_,_,mk _ ((ws++ws').map fun b=>(b,0)) (fun b hb i hl=>?_) (fun b hb=>by obtain⟨c,hc,rfl⟩:=List.mem_map.1 hb;exact hc) (.inr ⟨w2,rfl⟩),?_,hk⟩
  ·have h0:i=0:=by
    unfold Live at hl
    cases i with
    |zero=>rfl
    |succ j=>
     rcases hW1 b hb with⟨E,t,xs,_,hx⟩|⟨t,xs,hx⟩|⟨t,x,hx⟩<;>rw[yD hx rfl (j+1) (by simp)] at hl<;>cases hl
   subst h0
   exact List.mem_map.2 ⟨b,hb,rfl⟩
  have hcov':∀k x,look hout k=some x→∀j,x.blks.length≤j→look (toH (puts (rY h (ws++ws')) h)) (gN os n k,j)=none:=by
   intro k x hx j hj
   have h1:=hcov k x hx j hj
   rw[←w1.1,bu]
   split
   ·rename_i y hy
    exfalso
    split at hy
    ·obtain⟨⟨z,z1,_⟩,_⟩:=ga hy
     rw[h1] at z1;cases z1
    ·cases hy
   ·exact h1
  obtain⟨q1,q2⟩:=u5 hg w1.1 hr hnd hcov'
  refine⟨fun b=>?_,fun x hx=>?_⟩
  ·rw[aI,aI];exact q1 b
  ·rw[List.map_append]
   rcases List.mem_append.1 hx with hx|hx
   ·exact List.mem_append_left _ (w1.2 x hx)
   ·exact List.mem_append_right _ (q2 x hx)
end Go.Proofs.YthmfppknagbkeaaGreatDoor.Am
namespace Go.Proofs.YthmfppknagbkeaaGreatDoor.Am
open Go Go.RowKit
variable {P:Program} {N:Nat} {Θ:TT} {t:VT} {h:VH} {n:Nat}
mutual
theorem oQ (g:HL):∀(d:D),∀b∈ag (fwd g d),b∈ag d∨∃c∈ag d,look g c=some (.moved b)
 | .ref c,b,hb=>by
  simp only[fwd] at hb
  split at hb
  ·rename_i c' hc
   simp only[ag,List.mem_singleton] at hb
   subst hb
   exact .inr ⟨c,by simp[ag],hc⟩
  ·cases hb
  ·exact .inl hb
 | .ptr c o,b,hb=>by
  simp only[fwd] at hb
  split at hb
  ·rename_i c' hc
   simp only[ag,List.mem_singleton] at hb
   subst hb
   exact .inr ⟨c,by simp[ag],hc⟩
  ·split at hb<;>cases hb
  ·exact .inl hb
 | .eptr c i o,b,hb=>by
  simp only[fwd] at hb
  split at hb
  ·rename_i c' hc
   simp only[ag,List.mem_singleton] at hb
   subst hb
   exact .inr ⟨c,by simp[ag],hc⟩
  ·exact .inl hb
 | .vref c o q,b,hb=>by
  simp only[fwd] at hb
  split at hb
  ·rename_i c' hc
   simp only[ag,List.mem_singleton] at hb
   subst hb
   exact .inr ⟨c,by simp[ag],hc⟩
  ·exact .inl hb
 | .ifc T d,b,hb=>by
  simp only[fwd,ag] at hb
  rcases oQ g d b hb with h1|⟨c,h1,h2⟩
  ·exact .inl (by simpa only[ag] using h1)
  ·exact .inr ⟨c,by simpa only[ag] using h1,h2⟩
 | .clo f cs,b,hb=>by
  simp only[fwd,ag] at hb
  rcases i5 g cs b hb with h1|⟨c,h1,h2⟩
  ·exact .inl (by simpa only[ag] using h1)
  ·exact .inr ⟨c,by simpa only[ag] using h1,h2⟩
 | .agg cs,b,hb=>by
  simp only[fwd,ag] at hb
  rcases i5 g cs b hb with h1|⟨c,h1,h2⟩
  ·exact .inl (by simpa only[ag] using h1)
  ·exact .inr ⟨c,by simpa only[ag] using h1,h2⟩
 | .tup cs,b,hb=>by
  simp only[fwd,ag] at hb
  rcases i5 g cs b hb with h1|⟨c,h1,h2⟩
  ·exact .inl (by simpa only[ag] using h1)
  ·exact .inr ⟨c,by simpa only[ag] using h1,h2⟩
 | .int ..,b,hb| .bool _,b,hb| .str _,b,hb| .lst _,b,hb| .box _,b,hb| .nilp,b,hb| .nils,b,hb| .nilf,b,hb| .nili,b,hb| .gp _,b,hb| .gv _,b,hb| .iptr ..,b,hb| .undef,b,hb| .junk,b,hb=>by simp[fwd,ag] at hb
theorem i5 (g:HL):∀(l:List D),∀b∈aH (fI g l),b∈aH l∨∃c∈aH l,look g c=some (.moved b)
 |[],b,hb=>by simp[fI,aH] at hb
 |d::l,b,hb=>by
  simp only[fI,aH,List.mem_append] at hb⊢
  rcases hb with hb|hb
  ·rcases oQ g d b hb with h1|⟨c,h1,h2⟩
   ·exact .inl (.inl h1)
   ·exact .inr ⟨c,.inl h1,h2⟩
  ·rcases i5 g l b hb with h1|⟨c,h1,h2⟩
   ·exact .inl (.inr h1)
   ·exact .inr ⟨c,.inr h1,h2⟩
end
def yq (h:VH):List Nat→List Nat
 |[]=>[]
 |b::l=>match aw h b with
  |some (.moved k _)=>k::yq h l
  |_=>yq h l
theorem uB:∀{l:List Nat} {b k i:Nat},b∈l→look h b=some (.moved k i)→k∈yq h l
 |c::l,b,k,i,hb,hl=>by
  simp only[yq]
  rcases List.mem_cons.1 hb with rfl|hb
  ·rw[ax,hl];simp
  ·have:=uB hb hl
   split
   ·exact List.mem_cons_of_mem _ this
   ·exact this
theorem yr {c b:Id}(hc:look (toH h) c=some (.moved b)):look h c.1=some (.moved b.1 b.2):=by
 rw[al] at hc
 obtain⟨x,h1,h2⟩:=Option.bind_eq_some_iff.1 hc
 rw[h1]
 have hm:=List.mem_of_getElem? h2
 cases x<;>simp only[VB.blks,List.mem_singleton,List.mem_map,reduceCtorEq,and_false,exists_false,Blk.moved.injEq] at hm
 case frowx=>
  obtain⟨y,_,e⟩:=hm
  cases y<;>cases e
 rw[hm]
def zb (t:VT)(h:VH)(x:Operand):List Nat:=match x with
 | .tmp k=>(match aw t k with|some v=>df v++yq h (df v)|none=>[])
 |_=>[]
def bM (t:VT)(h:VH):List Operand→List Nat
 |[]=>[]
 |x::l=>zb t h x++bM t h l
theorem s5 {v:Value}{d:D}(h:eI v=some d)(g:HL):ag d=[]∧ag (fwd g d)=[]:=by
 unfold eI at h
 split at h<;>first|(simp only[Option.some.injEq] at h;subst h;exact⟨by simp[ag],by simp[fwd,ag]⟩)|cases h
theorem zc (x:Operand):∀k∈ju (dA t) (toH h) x,k∈zb t h x:=by
 intro k hk
 unfold ju at hk
 cases x with
 |tmp j=>
  simp only[ay,br] at hk
  simp only[zb,ax]
  cases hl:look t j with
  |none=>rw[hl] at hk;cases hk
  |some v=>
   rw[hl] at hk
   simp only[Option.map_some] at hk
   rcases List.mem_append.1 hk with hk|hk
   ·obtain⟨b,hb,rfl⟩:=List.mem_map.1 hk
    exact List.mem_append_left _ (fh v b hb)
   ·obtain⟨b,hb,rfl⟩:=List.mem_map.1 hk
    rcases oQ _ _ b hb with h1|⟨c,h1,h2⟩
    ·exact List.mem_append_left _ (fh v b h1)
    ·exact List.mem_append_right _ (uB (fh v c h1) (yr h2))
 |const v=>
  simp only[ay] at hk
  cases hv:eI v with
  |none=>rw[hv] at hk;cases hk
  |some d=>
   rw[hv] at hk
   obtain⟨e1,e2⟩:=s5 hv (toH h)
   simp[e1,e2,gV] at hk
 |global g=>
  simp only[ay] at hk
  by_cases hg:(look Gl g).isSome=true
  ·rw[if_pos hg] at hk
   simp[ag,fwd,gV] at hk
  ·rw[if_neg hg] at hk
   simp at hk
 |_=>simp[ay] at hk
theorem mG:∀(l:List Operand),∀k∈nX (dA t) (toH h) l,k∈bM t h l
 |[],k,hk=>by cases hk
 |x::l,k,hk=>by
  simp only[nX,List.flatMap_cons,List.mem_append] at hk
  simp only[bM,List.mem_append]
  rcases hk with hk|hk
  ·exact .inl (zc x k hk)
  ·exact .inr (mG l k hk)
def kP (t:VT)(h:VH)(op:Op):List Nat:=match gm op with|true=>bM t h op.operands.toList|false=>[]
theorem uT (op:Op):∀k∈tp (dA t) (toH h) op,k∈kP t h op:=by
 intro k hk
 unfold tp at hk
 unfold kP
 cases hl:gm op with
 |false=>rw[hl] at hk;cases hk
 |true=>rw[hl] at hk;exact mG _ k hk
def StepOK (P:Program)(N:Nat)(o:Oper)(t:VT)(h:VH)(r:V)(vu:VH)(gl:List Nat):Prop:=∃u,bi h u vu∧∀f:List Nat,(∀k∈gl,k∈f)→OpS P N o (dA t) (toH h) r.toD u f
theorem xy (g:HL):∃n:Nat,look g (n,0)=none:=by
 have key:∀(l:HL),∃m,∀p∈l,p.1.1<m:=by
  intro l
  induction l with
  |nil=>exact⟨0,by simp⟩
  |cons p l ih=>
   obtain⟨m,hm⟩:=ih
   refine⟨max m (p.1.1+1),fun q hq=>?_⟩
   rcases List.mem_cons.1 hq with rfl|hq
   ·omega
   ·have:=hm q hq;omega
 obtain⟨m,hm⟩:=key g
 refine⟨m,?_⟩
 cases hl:look g (m,0) with
 |none=>rfl
 |some x=>have:=hm _ (bH hl);simp only at this;omega
theorem yE {t:List (Nat×D)}{h:HL}{m:Bool}{o:Oper}{d:D}{u:HL}{f:List Nat}(hd:∀n,bL P m o.op t h n=some (d,u))(hf:∀k∈tp t h o.op,k∈f):OpS P N o t h d u f:=by
 intro t' h' ht ha w0 S A ρ a w s
 obtain⟨n,hn⟩:=xy h'
 refine s.op (m:=m) (n:=n) ?_ hn
 rw[←BN (t:=t') (h:=h) (fs:=f) ?_ ha,←BO ht]
 ·exact hd n
 ·have:tp t' h o.op=tp t h o.op:=by
   unfold tp
   cases hl:gm o.op with
   |false=>rfl
   |true=>
    simp only[cond_true,nX]
    have hx:∀x∈o.op.operands.toList,ju t' h x=ju t h x:=fun x hx=>by unfold ju;rw[ht x (Array.mem_toList_iff.1 hx)]
    generalize o.op.operands.toList=l at hx
    induction l with
    |nil=>rfl
    |cons x l ih=>rw[List.flatMap_cons,List.flatMap_cons,hx x (List.mem_cons_self ..),ih fun y hy=>hx y (List.mem_cons_of_mem _ hy)]
  rw[this]
  exact hf
theorem B5 {m:Bool}{o:Oper}{r:V}{u:HL}{vu:VH}(hd:∀n,bL P m o.op (dA t) (toH h) n=some (r.toD,u))(hu:bi h u vu):StepOK P N o t h r vu (kP t h o.op):=
 ⟨u,hu,fun f hf=>yE hd fun k hk=>hf k (uT _ k hk)⟩
theorem B6 {m:Bool}{o:Oper}{r:V}{u:HL}{vu:VH}(hn:∀c:Id,n≤c.1→look (toH h) c=none)(hd:bL P m o.op (dA t) (toH h) n=some (r.toD,u))(hu:bi h u vu):StepOK P N o t h r vu (n::kP t h o.op):=
 ⟨u,hu,fun f hf=>AQ (hn (n,0) (Nat.le_refl _)) hd (fun k hk=>hf k (List.mem_cons_of_mem _ (uT _ k hk))) (hf n (List.mem_cons_self ..))⟩
theorem rG {o:Oper}{r:V}{u1:HL}{v1 v2:VH}{g1 g2:List Nat}(hp:∀f:List Nat,(∀k∈g1,k∈f)→cA P N h u1 v1 f)(hs:StepOK P N o t (puts v1 h) r v2 g2):StepOK P N o t h r (v1++v2) (g1++g2):=by
 obtain⟨u,h1,h2⟩:=hs
 have p0:=hp g1 fun k hk=>hk
 refine⟨u1++u,lz p0.1 h1,fun f hf=>(hp f fun k hk=>hf k (List.mem_append_left _ hk)).2 _ _ _ _ (j9 (fun b=>(p0.1.1 b).symm) (h2 f fun k hk=>hf k (List.mem_append_right _ hk)))⟩
theorem cH {o:Oper}{r:V}{vu:VH}{g g':List Nat}(hs:StepOK P N o t h r vu g)(hg:∀k∈g,k∈g'):StepOK P N o t h r vu g':=by
 obtain⟨u,h1,h2⟩:=hs
 exact⟨u,h1,fun f hf=>h2 f fun k hk=>hf k (hg k hk)⟩
theorem kk {o:Oper}{f:FuncId}{vs:List V}{os fs:List Nat}{K:V→VH→List Nat→Prop}(hn:∀c:Id,n≤c.1→look (toH h) c=none)(hc:lN P (dA t) (toH h) o f (ae vs))(hk:ky P h n f vs os fs K):
  ∃r vu gl,StepOK P N o t h r vu (bM t h o.op.operands.toList++gl)∧K r vu gl:=by
 obtain⟨r,u,vu,gl,h1,h2,h3⟩:=wS hn hk
 refine⟨r,vu,gl,⟨u,h2,fun f' hf'=>?_⟩,h3⟩
 obtain⟨c,hc'⟩:=h1 f' fun k hk=>hf' k (List.mem_append_right _ hk)
 exact yF hn hc c (fun k hk=>hf' k (List.mem_append_left _ (mG _ k hk))) hc'
end Go.Proofs.YthmfppknagbkeaaGreatDoor.Am
namespace Go.Proofs.YthmfppknagbkeaaGreatDoor.Am
open Go Go.RowKit
variable {P:Program} {N:Nat} {Θ:TT} {t:VT} {h:VH} {n:Nat}
mutual
def Ex (own:Bool)(h:VH):V→List Nat
 | .ref b=>(match aw h b with
  |some (.row _ t _)=>bif own|| !t.pure then[b] else[]
  |some (.lit ..)=>[b]
  |_=>[])
 | .ptr b _=>(match aw h b with
  |some (.fvb ..)=>[]
  |_=>[b])
 | .agg cs=>i7 own h cs
 | .tup cs=>i7 own h cs
 | .clo _ cs=>i7 own h cs
 | .ifc _ v=>Ex own h v
 |v=>xO v
def i7 (own:Bool)(h:VH):List V→List Nat
 |[]=>[]
 |v::l=>Ex own h v++i7 own h l
end
def FD (own:Bool)(h:VH):VB→List Nat
 | .var _ cs=>i7 own h cs
 | .vari _ pre _ t _ post=>i7 own h pre++t.fams++i7 own h post
 | .lit _ vs=>i7 own h vs
 |x=>x.fams
def Cf (l:List Nat)(b:Nat):List Nat:=match l.contains b with|true=>l|false=>l++[b]
def de:List Nat→List Nat→List Nat
 |l,[]=>l
 |l,b::bs=>de (Cf l b) bs
def k7 (own:Bool)(h:VH):Nat→Nat→List Nat→(List Nat→Prop)→Prop
 |0,_,l,K=>K l
 |k+1,i,l,K=>match l[i]? with
  |none=>K l
  |some b=>cS (de l (match aw h b with|some x=>FD own h x|none=>[])) fun l=>k7 own h k (i+1) l K
theorem mb {own:Bool}:∀{k i:Nat} {l:List Nat} {K:List Nat→Prop},k7 own h k i l K→∃l,K l
 |0,_,l,_,hk=>⟨l,hk⟩
 |k+1,i,l,K,hk=>by
  simp only[k7] at hk
  split at hk
  ·exact⟨_,hk⟩
  ·have hk:=aX hk
   exact mb hk
def xW (own:Bool)(h:VH)(vs:List V)(K:List Nat→List Nat→Prop):Prop:=
 cS (de [] (i7 own h vs)) fun l=>k7 own h 60 0 l fun l=>cS (l.filter fun b=>Nat.ble 4 b) fun os=>cS (l.filter fun b=>Nat.blt b 4) fun fs=>K os fs
theorem k8 {own:Bool}{vs:List V}{K:List Nat→List Nat→Prop}(hk:xW own h vs K):∃os fs,K os fs:=by
 have hk:=aX hk
 obtain⟨l,hk⟩:=mb hk
 have hk:=aX hk
 have hk:=aX hk
 exact⟨_,_,hk⟩
def bh (P:Program)(h:VH)(n:Nat)(f:FuncId)(vs:List V)(K:V→VH→List Nat→Prop):Prop:=∃os fs,ky P h n f vs os fs K
theorem lM {f:FuncId}{vs:List V}{K:V→VH→List Nat→Prop}(hk:xW false h vs fun os fs=>ky P h n f vs os fs K):bh P h n f vs K:=k8 hk
theorem wU {f:FuncId}{vs:List V}{K:V→VH→List Nat→Prop}(hk:xW true h vs fun os fs=>ky P h n f vs os fs K):bh P h n f vs K:=k8 hk
def EO (h:VH)(k:Nat):Bool:=match aw h k with
 |some (.frow _ t _)=>t.pure
 |some (.frowx _ t _)=>t.pure
 |_=>false
theorem Fm {f:FuncId}{vs:List V}{K:V→VH→List Nat→Prop}(hk:xW false h vs fun os fs=>cS (fs.filter fun k=>!EO h k) fun fs=>ky P h n f vs os fs K):bh P h n f vs K:=by
 obtain⟨os,fs,hk⟩:=k8 hk
 exact⟨_,_,aX hk⟩
theorem wT {f:FuncId}{vs:List V}{K:V→VH→List Nat→Prop}(hk:ky P h n f vs [] [] K):bh P h n f vs K:=⟨_,_,hk⟩
theorem wV (ex:List Nat){f:FuncId}{vs:List V}{K:V→VH→List Nat→Prop}(hk:xW true h vs fun os fs=>cS (de ex fs) fun fs=>ky P h n f vs os fs K):bh P h n f vs K:=by
 obtain⟨os,fs,hk⟩:=k8 hk
 exact⟨_,_,aX hk⟩
def jV (Θ:TT)(b:Builtin)(vs:List V)(Ts:List TypeId)(h:VH)(K:V→VH→Prop):Prop:=
 match b,vs,Ts with
 | .len,[v],[T]=>aK Θ T fun ti=>Dd ti h v fun r=>K r []
 | .copy,[d,e],[T,_]=>aK Θ T fun ti=>w8 Θ ti h d e K
 | .min,[.int k x,.int k' y],_=>Chk (decide (k=k')) (K (.int k (if y<x then y else x)) [])
 | .max,[.int k x,.int k' y],_=>Chk (decide (k=k')) (K (.int k (if x<y then y else x)) [])
 |_,_,_=>False
theorem ot (hΘ:Θ.ok P){b:Builtin}{vs:List V}{Ts:List TypeId}{m:Bool}{K:V→VH→Prop}(hk:jV Θ b vs Ts h K):∃r u vu,(∀n,b6 P m b (ae vs) Ts (toH h) n=some (r.toD,u))∧bi h u vu∧K r vu:=by
 unfold jV at hk
 split at hk
 ·obtain⟨ti,l1,hk⟩:=ao hk
  obtain⟨r,h1,h2⟩:=AF (hΘ _ _ l1) hk
  exact⟨r,[],[],fun n=>by simp only[b6,ae,h1,Option.map_some],az,h2⟩
 ·obtain⟨ti,l1,hk⟩:=ao hk
  obtain⟨r,u,vu,h1,h2,h3⟩:=w9 hΘ (hΘ _ _ l1) hk
  exact⟨r,u,vu,fun n=>by simp only[b6,ae,h1],h2,h3⟩
 ·obtain⟨c,hk⟩:=hk.ok
  simp only[decide_eq_true_eq] at c
  exact⟨_,[],[],fun n=>by simp only[b6,ae,V.toD,if_pos c],az,hk⟩
 ·obtain⟨c,hk⟩:=hk.ok
  simp only[decide_eq_true_eq] at c
  exact⟨_,[],[],fun n=>by simp only[b6,ae,V.toD,if_pos c],az,hk⟩
 ·exact hk.elim
def xw (h:VH)(τ:Ty):List V→(VH→VH→List Nat→Prop)→Prop
 |[],K=>K h [] []
 |v::l,K=>uh h τ.shs v.cells fun h1 vu g=>xw h1 τ l fun h2 vu2 g2=>K h2 (vu++vu2) (g++g2)
theorem qy {τ:Ty}:∀{l:List V} {h:VH} {K:VH→VH→List Nat→Prop},xw h τ l K→∃u vu g,(∀f:List Nat,(∀k∈g,k∈f)→cA P N h u vu f)∧K (puts vu h) vu g
 |[],h,K,hk=>⟨[],[],[],fun f _=>cY,hk⟩
 |v::l,h,K,hk=>by
  obtain⟨u1,v1,g1,p1,hk⟩:=lY (P:=P) (N:=N) hk
  obtain⟨u2,v2,g2,p2,hk⟩:=qy hk
  refine⟨u1++u2,v1++v2,g1++g2,fun f hf=>fO (p1 f fun k hk=>hf k (List.mem_append_left _ hk)) (p2 f fun k hk=>hf k (List.mem_append_right _ hk)),?_⟩
  rw[aI]
  exact hk
def xa (t:Ty):List V→Option (List t.den)
 |[]=>some []
 |v::l=>match D2 t (m7.nzL v),xa t l with
  |some x,some xs=>some (x::xs)
  |_,_=>none
theorem t5 {t:Ty}:∀{l:List V} {xs:List t.den},xa t l=some xs→(ae l).map nzE=xs.map (aa t)
 |[],xs,h=>by simp only[xa,Option.some.injEq] at h;subst h;rfl
 |v::l,xs,h=>by
  simp only[xa] at h
  split at h
  ·rename_i x xs' h1 h2
   simp only[Option.some.injEq] at h
   subst h
   simp only[ae,List.map_cons,t5 h2]
   rw[←oz h1,pd]
  ·cases h
def tA (h:VH)(b:Nat)(τ:Ty)(K:VH→VH→List Nat→Prop):Prop:=
 match aw h b with
 |some (.lit _ vs)=>xw h τ vs fun h1 vu g=>(match aw h1 b with
  |some (.lit E vs')=>iB h1 vs' fun vs2=>(match xa τ vs2 with
   |some xs=>we b (VB.row E τ xs) h1 fun h2=>K h2 (vu++[(b,.row E τ xs)]) (g++b::cM vs')
   |none=>False)
  |_=>False)
 |_=>K h [] []
theorem wl {b:Nat}{τ:Ty}{K:VH→VH→List Nat→Prop}(hk:tA h b τ K):∃u vu g,(∀f:List Nat,(∀k∈g,k∈f)→cA P N h u vu f)∧K (puts vu h) vu g:=by
 unfold tA at hk
 split at hk
 ·obtain⟨u1,v1,g1,p1,hk⟩:=qy (P:=P) (N:=N) hk
  split at hk
  ·rename_i E vs' hb
   rw[ax] at hb
   obtain⟨vs2,f1,hk⟩:=ef hk
   split at hk
   ·rename_i xs hx
    have hk:=ls hk
    have hlast:bG (toH (puts v1 h)) (.row E (ae vs'))= .row E (xs.map (aa τ)):=by
     simp only[bG]
     rw[←t5 hx,←f1,cq,List.map_map]
     rfl
    refine⟨u1++[((b,0),bG (toH (puts v1 h)) (.row E (ae vs')))],v1++[(b,.row E τ xs)],g1++b::cM vs',fun f hf=>fO (p1 f fun k hk=>hf k (List.mem_append_left _ hk)) (rr (y:=.row E τ xs) hb rfl (by rw[hlast];rfl) ⟨hf b (by simp),fun c hc=>hf c.1 ?_⟩),?_⟩
    ·refine List.mem_append_right _ (List.mem_cons_of_mem _ (bT vs' c ?_))
     rw[dm]
     exact hc
    ·rw[aI];exact hk
   ·exact hk.elim
  ·exact hk.elim
 ·exact⟨[],[],[],fun f _=>cY,hk⟩
def ye (h:VH)(d:V)(o:Option Ty)(K:Ty→Prop):Prop:=
 match d with
 | .ref b=>cf h b fun x=>(match x with
  | .row _ t _=>K t
  |_=>False)
 |_=>(match o with|some t=>K t|none=>False)
theorem yf {d:V}{o:Option Ty}{K:Ty→Prop}(hk:ye h d o K):∃t,K t:=by
 unfold ye at hk
 split at hk
 ·obtain⟨x,_,hk⟩:=aB hk
  split at hk
  ·exact⟨_,hk⟩
  ·exact hk.elim
 ·split at hk
  ·exact⟨_,hk⟩
  ·exact hk.elim
def FF (h:VH)(e:V):Option Nat:=match e with
 | .ref b=>(match aw h b with|some (.lit ..)=>some b|_=>none)
 |_=>none
def lB (s:Nat)(v:V):Bool:=v.whole && mg v.cells s && v.cells.all V.one
def D4:List (Nat×V)→List V
 |[]=>[]
 |(_,v)::l=>m7.nzL v::D4 l
theorem yy:∀l:List (Nat×V),((rX l).map fun x=>nzE x.2)=ae (D4 l)
 |[]=>rfl
 |(k,v)::l=>by
  have:=yy l
  simp only[rX,List.map_cons,List.map_map] at this⊢
  simp only[D4,ae,pd]
  rw[←this]
def ux:List (Nat×V)→Nat→Bool
 |[],0=>true
 |_::l,n+1=>ux l n
 |_,_=>false
theorem qU:∀{l:List (Nat×V)} {n:Nat},ux l n=true→l.length=n
 |[],0,_=>rfl
 |_::l,n+1,h=>by simp[qU (l:=l) (n:=n) h]
 |[],_+1,h=>by cases h
 |_::_,0,h=>by cases h
def oq (ei:TI)(E:TypeId)(vs:List (Nat×V))(n:Nat)(K:V→VH→Prop):Prop:=
 match ei.ty with
 |some τ=>(match m7 τ vs with
  |some xs=>Chk (τ.sz==ei.sz) (K (.ref n) [(n,.row E τ xs)])
  |none=>Chk (vs.all fun p=>lB ei.sz p.2) (K (.ref n) [(n,.lit E (D4 vs))]))
 |none=>Chk (vs.all fun p=>lB ei.sz p.2) (K (.ref n) [(n,.lit E (D4 vs))])
theorem xm (t:Ty)(x:t.den):D8 t.sz (aa t x)=true:=by
 have h1:=cK t x
 have hw:(aa t x).whole=true:=by
  cases t<;>first|rfl|(cases x<;>rfl)
 simp only[D8,hw,h1.1,h1.2,beq_self_eq_true,Bool.and_self]
theorem sg {T E:TypeId}{ei:TI}{len:Nat}{vs:List (Nat×V)}{K:V→VH→Prop}(hu:P.underlying T=some (.slice E))(he:elemT P E=some (ei.sz,ei.nb))(hkeys:qP vs 0=true)(hlen:ux vs len=true)(hb:len*ei.sz≤16777216)
  (hn:∀c:Id,n≤c.1→look (toH h) c=none) (hk:oq ei E vs n K):∃r u vu,b5 P (n,0) T len ((rX vs).map fun x=>(x.1,nzE x.2))=some (V.toD r,u)∧bi h u vu∧K r vu:=by
 have hmap1:((rX vs).map fun x=>(x.1,nzE x.2)).map (·.1)=List.range' 0 len:=by
  rw[List.map_map]
  have:=qQ hkeys
  rw[qU hlen] at this
  exact this
 have hmap2:((rX vs).map fun x=>(x.1,nzE x.2)).map (·.2)=(rX vs).map fun x=>nzE x.2:=by
  rw[List.map_map];rfl
 have lit:(vs.all fun p=>lB ei.sz p.2)=true→b5 P (n,0) T len ((rX vs).map fun x=>(x.1,nzE x.2))=some ((V.ref n).toD,[((n,0),.row E (ae (D4 vs)))]):=by
  intro hw
  unfold b5
  simp only[hu,he]
  rw[if_pos,hmap2,yy]
  ·rfl
  ·refine⟨hmap1,hb,?_⟩
   rw[hmap2,List.all_eq_true]
   intro e hx
   obtain⟨p,hp,rfl⟩:=List.mem_map.1 hx
   obtain⟨q,hq,rfl⟩:=List.mem_map.1 hp
   rw[List.all_eq_true] at hw
   have:=hw q hq
   simp only[lB,Bool.and_eq_true] at this
   obtain⟨⟨w1,w2⟩,w3⟩:=this
   simp only[D8,Bool.and_eq_true,beq_iff_eq]
   refine⟨by rw[nO,dB];exact w1,?_,yA w3⟩
   rw[kF,ap,rl,eh w2]
 unfold oq at hk
 split at hk
 ·rename_i τ hτ
  split at hk
  ·rename_i xs hx
   obtain⟨c,hk⟩:=hk.ok
   simp only[beq_iff_eq] at c
   have hd:=t6 hx
   refine⟨.ref n,[((n,0),.row E (xs.map (aa τ)))],_,?_,fV hn rfl,hk⟩
   unfold b5
   simp only[hu,he]
   rw[if_pos,hmap2,hd]
   ·rfl
   ·refine⟨hmap1,hb,?_⟩
    rw[hmap2,hd,List.all_eq_true]
    intro e hx
    obtain⟨x,_,rfl⟩:=List.mem_map.1 hx
    rw[←c]
    exact xm τ x
  ·obtain⟨c,hk⟩:=hk.ok
   exact⟨_,_,_,lit c,fV hn rfl,hk⟩
 ·obtain⟨c,hk⟩:=hk.ok
  exact⟨_,_,_,lit c,fV hn rfl,hk⟩
def zi (k:TK):Bool:=match k with| .ifc| .func=>false|_=>true
theorem rF {T:TypeId}{k:TK}(h:k.ok P T)(hs:zi k=true):vm P T=true:=by
 unfold vm
 cases k with
 |struct fs=>
  have:=h.2
  unfold fM at this
  cases hu:P.underlying T with
  |none=>rw[hu] at this;simp at this
  |some d=>
   rw[hu] at this
   cases d<;>first|rfl|(simp at this)
 |ifc=>cases hs
 |func=>cases hs
 |int k=>rw[show P.underlying T=some (.int k) from h]
 |bool=>rw[show P.underlying T=some .bool from h]
 |str=>rw[show P.underlying T=some .string from h]
 |slice E=>rw[show P.underlying T=some (.slice E) from h]
 |ptr E=>rw[show P.underlying T=some (.pointer E) from h]
 |arr m E=>rw[show P.underlying T=some (.array m E) from h]
def tN (T:TypeId)(ti:TI)(ok:Bool)(v:V)(K:V→Prop):Prop:=
 Chk (zi ti.k) (match v with
  | .ifc T' e=>(match Nat.beq T' T with
   |true=>(match ok with|true=>K (.tup [e,.tt])|false=>K e)
   |false=>Chk ok (match ti.z with|some z=>K (.tup [z,.ff])|none=>False))
  | .nili=>Chk ok (match ti.z with|some z=>K (.tup [z,.ff])|none=>False)
  |_=>False)
theorem r9 {T:TypeId}{ti:TI}(ht:ti.ok P T){ok:Bool}{v:V}{K:V→Prop}(hk:tN T ti ok v K):∃r,iP P T ok v.toD=some (V.toD r)∧K r:=by
 obtain⟨c,hk⟩:=Chk.ok hk
 have hi:=rF ht.und c
 unfold iP
 rw[if_pos hi]
 split at hk
 ·rename_i T' e
  simp only[V.toD]
  split at hk
  ·rename_i hb
   rw[if_pos (Nat.eq_of_beq_eq_true hb)]
   cases ok with
   |true=>exact⟨_,by simp[V.toD,ae],hk⟩
   |false=>exact⟨_,by simp,hk⟩
  ·rename_i hb
   obtain⟨c2,hk⟩:=hk.ok
   rw[if_neg (by rintro rfl;simp at hb)]
   split at hk
   ·rename_i z hz
    refine⟨_,?_,hk⟩
    rw[if_pos c2,ht.zero z hz]
    simp[V.toD,ae]
   ·exact hk.elim
 ·obtain⟨c2,hk⟩:=hk.ok
  split at hk
  ·rename_i z hz
   refine⟨_,?_,hk⟩
   simp only[V.toD]
   rw[if_pos c2,ht.zero z hz]
   simp[V.toD,ae]
  ·exact hk.elim
 ·exact hk.elim
theorem wH {q:Bool}(hq:q=false){T:TypeId}{H:HL}{m m':Id}{d:D}{lo hi:Option D}:cJ P H q m T d lo hi=cJ P H q m' T d lo hi:=by
 subst hq
 unfold cJ
 simp only[Bool.false_eq_true,if_false]
end Go.Proofs.YthmfppknagbkeaaGreatDoor.Am
namespace Go.Proofs.YthmfppknagbkeaaGreatDoor.Am
open Go Go.RowKit
variable {P:Program} {N:Nat} {Θ:TT} {t:VT} {h:VH} {n:Nat}
def FZ (τ:Ty)(z:V)(K:τ.den→Prop):Prop:=qf τ (m7.nzL z) K
theorem Dh {τ:Ty}{z:V}{K:τ.den→Prop}(h:FZ τ z K):∃x,nzE z.toD=aa τ x∧K x:=by
 obtain⟨x,h1,h2⟩:=gM h
 exact⟨x,by rw[←pd];exact h1,h2⟩
def wR (P:Program)(h:VH)(n:Nat)(f:FuncId)(vs:List V)(tp:List Nat)(K:V→VH→List Nat→Prop):Prop:=bh P h n f vs fun r vu gl=>K r vu (tp++gl)
def nv (P:Program)(T:TypeId)(m:String)(K:FuncId→Bool→Prop):Prop:=∃f b,fk P T m=some (f,b)∧K f b
theorem EK {P:Program}{T:TypeId}{m:String}{K:FuncId→Bool→Prop}{f:FuncId}{b:Bool}(h:fk P T m=some (f,b))(k:K f b):nv P T m K:=⟨f,b,h,k⟩
def yV (Θ:TT)(h:VH)(T:TypeId)(b:Bool)(v:V)(K:V→Prop):Prop:=
 match b with
 |true=>K v
 |false=>aK Θ T fun ti=>(match ti.k with
  | .ptr E=>aK Θ E fun ei=>qV ei h v K
  |_=>False)
theorem yW {P:Program}{Θ:TT}{h:VH}(hΘ:Θ.ok P){T:TypeId}{b:Bool}{v:V}{K:V→Prop}(hk:yV Θ h T b v K):∃r,gu P (toH h) T b v.toD=some (V.toD r)∧K r:=by
 unfold yV at hk
 split at hk
 ·exact⟨v,by simp[gu],hk⟩
 ·obtain⟨ti,l1,hk⟩:=ao hk
  have hu:=(hΘ _ _ l1).und
  split at hk
  ·rename_i E e
   rw[e] at hu
   have hu:P.underlying T=some (.pointer E):=hu
   obtain⟨ei,l2,hk⟩:=ao hk
   obtain⟨r,h1,h2⟩:=mh (hΘ _ _ l2) hk
   exact⟨r,by simp only[gu,Bool.false_eq_true,if_false,hu,h1],h2⟩
  ·exact hk.elim
def Dv (v:V)(K:V→Prop):Prop:=
 match v with
 | .ptr b o=>K (.ptr b o)
 | .eptr b i o=>K (.eptr b i o)
 | .aptr b p i=>K (.aptr b p i)
 | .iptr t x o=>K (.iptr t x o)
 | .box t x=>K (.box t x)
 | .fptr k i o=>K (.fptr k i o)
 | .feptr k i j o=>K (.feptr k i j o)
 | .faptr k i p j=>K (.faptr k i p j)
 | .hpo k o=>eY o False fun i=>K (.fptr k i 0)
 | .obo t o=>eY o False fun x=>K (.box t x)
 |_=>False
theorem A4 {v:V}{K:V→Prop}(hk:Dv v K):∃r:V,ch v.toD=true∧r.toD=v.toD∧K r:=by
 unfold Dv at hk
 split at hk<;>try exact⟨_,rfl,rfl,hk⟩
 ·rename_i k o
  cases o with
  |none=>exact(hk.1 rfl).elim
  |some i=>exact⟨.fptr k i 0,rfl,rfl,hk.2 i rfl⟩
 ·rename_i t o
  cases o with
  |none=>exact(hk.1 rfl).elim
  |some x=>exact⟨.box t x,rfl,rfl,hk.2 x rfl⟩
 ·exact hk.elim
def vT (n:Nat):VH→Bool
 |[]=>true
 |(x,_)::u=>Nat.blt x n && vT n u
theorem o8:∀{u:VH},vT n u=true→∀k∈u.map (·.1),k<n
 |[],_,k,hk=>by cases hk
 |(a,b)::u,h,k,hk=>by
  simp only[vT,Bool.and_eq_true] at h
  rcases List.mem_cons.1 hk with rfl|hk
  ·simpa[Nat.blt_eq] using h.1
  ·exact o8 h.2 k hk
theorem nA {u:HL}{vu:VH}(hn:∀c:Id,n≤c.1→look (toH h) c=none)(hu:bi h u vu)(hl:vT n vu=true):∀c:Id,n≤c.1→look (toH (puts vu h)) c=none:=by
 intro c hc
 rw[←hu.1,ar _ _ _ fun x hx e=>?_]
 ·exact hn c hc
 ·have:=o8 hl _ (hu.2 x hx)
  rw[e] at this
  omega
def zj (P:Program)(Θ:TT)(op:Op)(t:VT)(h:VH)(n:Nat)(K:V→VH→List Nat→Prop):Prop:=
 match op with
 | .move x=>kz t x fun v=>K v [] []
 | .assign x=>kz t x fun v=>K v [] []
 | .load T x=>sC t h x fun v=>aK Θ T fun ti=>qV ti h v fun r=>K r [] (bM t h [x])
 | .store T x y=>sC t h x fun d=>sC t h y fun v=>aK Θ T fun ti=>DM h d fun tg=>(match tg with
  |none=>pq ti h d v fun r u=>K r u (bM t h [x,y])
  |some p=>uh h (p.1.shs.drop p.2) v.cells fun h1 vu g=>sC t h1 x fun d=>sC t h1 y fun v=>uY ti h1 d v fun r u=>K r (vu++u) (g++bM t h1 [x,y]))
 | .fieldAddr T x f=>kz t x fun v=>aK Θ T fun ti=>(match ti.k with
  | .struct fs=>rk fs f fun g=>Chk (decide (0<g.2.2)) (Fx g v fun r=>K r [] [])
  |_=>False)
 | .indexAddr T x i=>sC t h x fun v=>kz t i fun ix=>aK Θ T fun ti=>(match ix with
  | .int _ j=>FE Θ ti h v j fun r=>K r [] (bM t h [x,i])
  |_=>False)
 | .binOp op T x y _=>sC t h x fun d=>sC t h y fun e=>aK Θ T fun ti=>(match ti.k with
  | .ifc=>x7 op (bQ x||bQ y) d e fun r=>K r [] (bM t h [x,y])
  | .struct _=>Mk (zr P T) (DL op d e fun r=>K r [] (bM t h [x,y]))
  | .ptr E=>(match d,e with
   | .hpo k o,.hpo k' o'=>Dp P T op h k k' o o' fun r=>K r [] (bM t h [x,y])
   |d,e=>jT op (.ptr E) d e fun r=>K r [] (bM t h [x,y]))
  |_=>jT op ti.k d e fun r=>K r [] (bM t h [x,y]))
 | .unOp op _ x=>kz t x fun d=>FP op d fun r=>K r [] []
 | .call ⟨.builtin b,args,Ts⟩=>(match b with
  | .append=>qp t h args.toList fun vs=>(match vs,Ts.toList with
   |[d,e],[T,T']=>(match Nat.beq T T' with
    |false=>aK Θ T fun ti=>aK Θ T' fun ti'=>lI Θ ti ti' h n d e fun r u=>K r u (n::bM t h args.toList)
    |true=>aK Θ T fun ti=>(match FF h e with
    |none=>kT Θ ti h n d e fun r u=>K r u (n::bM t h args.toList)
    |some b=>(match ti.k with
     | .slice E=>aK Θ E fun ei=>ye h d ei.ty fun τ=>tA h b τ fun h1 vu g=>Chk (vT n vu) (qp t h1 args.toList fun vs=>(match vs with
      |[d,e]=>kT Θ ti h1 n d e fun r u=>K r (vu++u) (g++n::bM t h1 args.toList)
      |_=>False))
     |_=>False)))
   |_,_=>False)
  |b=>qp t h args.toList fun vs=>jV Θ b vs Ts.toList h fun r u=>K r u (bM t h args.toList))
 | .call ⟨.value (.func f),args,_⟩=>qp t h args.toList fun vs=>wR P h n f vs (bM t h (.func f::args.toList)) K
 | .call ⟨.value (.tmp k),args,_⟩=>sC t h (.tmp k) fun c=>(match c with
  | .clo f cs=>qp t h args.toList fun vs=>wR P h n f (vs++cs) (bM t h (.tmp k::args.toList)) K
  |_=>False)
 | .call ⟨.invoke x m,args,_⟩=>sC t h x fun c=>(match c with
  | .ifc T v=>nv P T m fun f b=>yV Θ h T b v fun r=>qp t h args.toList fun vs=>wR P h n f (r::vs) (bM t h (x::args.toList)) K
  |_=>False)
 | .pick c x y=>kz t c fun b=>(match b with
  | .tt=>kz t x fun v=>K v [] []
  | .ff=>kz t y fun v=>K v [] []
  | .bool b=>f4 b (kz t x fun v=>K v [] []) (kz t y fun v=>K v [] [])
  |_=>False)
 | .alloc T=>aK Θ T fun ti=>(match ti.z with
  |some z=>K (.ptr n 0) [(n,.var T z.cells)] [n]
  |none=>False)
 | .box T x=>kz t x fun v=>Chk v.whole (K (.ptr n 0) [(n,.var T v.cells)] [n])
 | .build T ps=>CA t ps.toList fun vs=>aK Θ T fun ti=>(match ti.k,ti.z with
  | .struct fs,some (.agg zs)=>xv fs zs vs fun cs=>K (.agg cs) [] []
  | .arr _ E,some (.agg zs)=>aK Θ E fun _=>Chk vs.isEmpty (K (.agg zs) [] [])
  |_,_=>False)
 | .buildSlice T len ps=>xp t h ps.toList fun vs=>aK Θ T fun ti=>(match ti.k with
  | .slice E=>aK Θ E fun ei=>Chk (ei.z.isSome && decide (0<ei.sz) && qP vs 0 && ux vs len && decide (len*ei.sz≤16777216)) (oq ei E vs n fun r u=>K r u (n::bM t h (ps.toList.map (·.2))))
  |_=>False)
 | .nilCheck x=>kz t x fun v=>Dv v fun r=>K r [] []
 | .convert S T x=>sC t h x fun v=>aK Θ T fun ti=>aK Θ S fun si=>w6 Θ ti si h v fun r=>K r [] (bM t h [x])
 | .makeInterface T x=>kz t x fun v=>aK Θ T fun ti=>Chk (zi ti.k) (K (.ifc T v) [] [])
 | .makeFunc (.func f) first captured=>Chk (Nat.beq first.size 0) (Cz t captured.toList fun vs=>K (.clo f vs) [] [])
 | .typeAssert x _ T ok=>kz t x fun v=>aK Θ T fun ti=>tN T ti ok v fun r=>K r [] []
 | .makeSlice T l c=>kz t l fun a=>kz t c fun b=>aK Θ T fun ti=>(match ti.k,a,b with
  | .slice E,.int _ a,.int _ b=>aK Θ E fun ei=>(match ei.z,ei.ty with
   |some z,some τ=>Chk (decide (0<ei.sz) && τ.sz==ei.sz && z.cells.all V.pure0) (FZ τ z fun x=>ba (0≤a∧a=b) (ba (fH ei.nb a.toNat) (K (.ref n) [(n,.row E τ (List.replicate a.toNat x))] [n])))
   |_,_=>False)
  |_,_,_=>False)
 | .slice T x lo hi none=>sC t h x fun v=>ub t lo fun l=>ub t hi fun r=>aK Θ T fun ti=>tq Θ ti h n v l r fun q r u=>(match q with
  |true=>K r u (n::kP t h op)
  |false=>K r u (kP t h op))
 | .field T x f=>kz t x fun v=>aK Θ T fun ti=>(match ti.k,v with
  | .struct fs,.agg cs=>rk fs f fun g=>aK Θ g.1 fun gi=>dQ gi cs g.2.1 fun r=>K r [] []
  |_,_=>False)
 | .index T x i=>kz t x fun v=>kz t i fun i=>aK Θ T fun ti=>(match ti.k,v,i with
  | .str,.str s,.int _ i=>ba (0≤i∧i<(s.size:Nat)) (K (.int .u8 ((s.data.toList.getD i.toNat 0).toNat:Nat)) [] [])
  | .arr m E,.agg cs,.int _ i=>aK Θ E fun ei=>ba (0≤i∧i<(m:Nat)) (dQ ei cs (i.toNat * ei.sz) fun r=>K r [] [])
  |_,_,_=>False)
 | .extract x i=>kz t x fun v=>(match v with
  | .tup cs=>rk cs i fun r=>K r [] []
  |_=>False)
 |_=>False
def rZ (P:Program)(N:Nat)(o:Oper)(t:VT)(h:VH)(K:V→VH→List Nat→Prop):Prop:=∃r vu gl,StepOK P N o t h r vu gl∧K r vu gl
theorem jw {m:Bool}{o:Oper}{r:V}{u:HL}{vu:VH}{gl:List Nat}{K:V→VH→List Nat→Prop}(hd:∀n,bL P m o.op (dA t) (toH h) n=some (r.toD,u))(hu:bi h u vu)(hg:∀k∈kP t h o.op,k∈gl)(hk:K r vu gl):rZ P N o t h K:=⟨r,vu,gl,cH (B5 hd hu) hg,hk⟩
theorem DK {m:Bool}{o:Oper}{r:V}{u:HL}{vu:VH}{gl:List Nat}{K:V→VH→List Nat→Prop}(hn:∀c:Id,n≤c.1→look (toH h) c=none)(hd:bL P m o.op (dA t) (toH h) n=some (r.toD,u))(hu:bi h u vu)(hg:∀k∈n::kP t h o.op,k∈gl)(hk:K r vu gl):rZ P N o t h K:=⟨r,vu,gl,cH (B6 hn hd hu) hg,hk⟩
theorem cz {op:Op}{l:List Operand}(hl:gm op=true)(ho:op.operands.toList=l):∀k∈kP t h op,k∈bM t h l:=by
 intro k hk
 unfold kP at hk
 rw[hl] at hk
 rw[ho] at hk
 exact hk
theorem bw {op:Op}(hl:gm op=false)(gl:List Nat):∀k∈kP t h op,k∈gl:=by
 intro k hk
 unfold kP at hk
 rw[hl] at hk
 cases hk
end Go.Proofs.YthmfppknagbkeaaGreatDoor.Am
namespace Go.Proofs.YthmfppknagbkeaaGreatDoor.Am
open Go Go.RowKit
variable {P:Program} {N:Nat} {Θ:TT} {t:VT} {h:VH} {n:Nat}
set_option maxHeartbeats 1600000 in
theorem zk (hΘ:Θ.ok P){o:Oper}(hn:∀c:Id,n≤c.1→look (toH h) c=none){K:V→VH→List Nat→Prop}(hk:zj P Θ o.op t h n K):rZ P N o t h K:=by
 obtain⟨dst,op,ty,pos,after,guard⟩:=o
 simp only at hk
 unfold zj at hk
 split at hk
 ·obtain⟨v,h1,h2⟩:=bc hk
  exact jw (m:=false) (fun n=>by simp only[bL,h1,Option.map_some]) az (bw rfl _) h2
 ·obtain⟨v,h1,h2⟩:=bc hk
  exact jw (m:=false) (fun n=>by simp only[bL,h1,Option.map_some]) az (bw rfl _) h2
 ·obtain⟨v,h1,h2⟩:=cL hk
  obtain⟨ti,l1,h2⟩:=ao h2
  obtain⟨r,h3,h4⟩:=mh (hΘ _ _ l1) h2
  exact jw (m:=false) (fun n=>by simp only[bL,h1,Option.bind_some,h3,Option.map_some]) az (cz rfl (by simp[Op.operands])) h4
 ·rename_i T x y
  obtain⟨d,h1,h2⟩:=cL hk
  obtain⟨v,h3,h2⟩:=cL h2
  obtain⟨ti,l1,h2⟩:=ao h2
  obtain⟨tg,h2⟩:=Bx h2
  split at h2
  ·obtain⟨u,vu,h5,h6,h7⟩:=tv (hΘ _ _ l1) h2
   exact jw (m:=false) (fun n=>by
    simp only[bL,h1,h3,Option.bind_some,Bool.not_false,nzM,if_true,h5,Option.map_some];rfl) h6 (cz rfl (by simp[Op.operands])) h7
  ·obtain⟨u1,v1,g1,p1,h2⟩:=lY (P:=P) (N:=N) h2
   obtain⟨d,h1,h2⟩:=cL h2
   obtain⟨v,h3,h2⟩:=cL h2
   obtain⟨u,vu,h5,h6,h7⟩:=tw (hΘ _ _ l1) h2
   refine⟨.undef,_,_,rG p1 (cH (B5 (m:=true) (fun n=>?_) h6) (cz rfl (by simp[Op.operands]))),h7⟩
   simp only[bL,h1,h3,Option.bind_some,Bool.not_true,nzM,Bool.false_eq_true,if_false,h5,Option.map_some];rfl
 ·rename_i T x f
  obtain⟨v,h1,h2⟩:=bc hk
  obtain⟨ti,l1,h2⟩:=ao h2
  have hu:=(hΘ _ _ l1).und
  split at h2
  ·rename_i fs e
   rw[e] at hu
   obtain⟨g,g1,h2⟩:=fL h2
   obtain⟨c,h2⟩:=h2.ok
   simp only[decide_eq_true_eq] at c
   obtain⟨r,h3,h4⟩:=CB (P:=P) (T:=T) (i:=f) ((hu.1 f g.1 g.2.1 g.2.2 g1).2 c) h2
   exact jw (m:=false) (fun n=>by simp only[bL,h1,Option.bind_some,h3,Option.map_some]) az (bw rfl _) h4
  ·exact h2.elim
 ·obtain⟨v,h1,h2⟩:=cL hk
  obtain⟨i,h3,h4⟩:=bc h2
  obtain⟨ti,l1,h4⟩:=ao h4
  split at h4
  ·rename_i k j _
   obtain⟨r,h5,h6⟩:=CN hΘ (hΘ _ _ l1) (k:=k) h4
   exact jw (m:=false) (fun n=>by
    have h3':ay (dA t) _=some (.int k j):=h3
    simp only[bL,h1,h3',Option.bind_some,h5,Option.map_some]) az (cz rfl (by simp[Op.operands])) h6
  ·exact h4.elim
 ·rename_i op T x y yT
  obtain⟨d,h1,h2⟩:=cL hk
  obtain⟨e,h3,h4⟩:=cL h2
  obtain⟨ti,l1,h4⟩:=ao h4
  have hu:=(hΘ _ _ l1).und
  have fin:∀{tk:TK},tk.ok P T→jT op tk d e (fun r=>K r [] (bM t h [x,y]))→∃r:V,(∀n,bL P false (.binOp op T x y yT) (dA t) (toH h) n=some (r.toD,[]))∧K r [] (bM t h [x,y]):=fun hu h4=>by
   obtain⟨r,h5,h6⟩:=zQ (P:=P) hu h4
   refine⟨r,fun n=>?_,h6⟩
   simp only[bL,h1,h3,Option.bind_some]
   unfold bz at h5
   split at h5
   ·rename_i r' hr
    rw[hr]
    simp only[Option.some.injEq] at h5
    rw[h5]
   ·rename_i hr
    rw[hr]
    split at h5
    ·rename_i r' hr'
     simp only[Option.some.injEq] at h5
     simp only[hr',h5]
    ·rename_i hr'
     simp only[hr',h5]
  split at h4
  ·rename_i hi
   rw[hi] at hu
   obtain⟨r,h5,h6,h7,h8,h9⟩:=Aw (P:=P) hu h4
   refine jw (m:=false) (u:=[]) (fun n=>?_) az (cz rfl (by simp[Op.operands])) h9
   simp only[bL,h1,h3,Option.bind_some,h5,h6,h7,h8]
  ·obtain⟨hm,h4⟩:=h4
   obtain⟨r,h5,h6,h7,h8,h9,h10⟩:=Bq (P:=P) hm h4
   refine jw (m:=false) (u:=[]) (fun n=>?_) az (cz rfl (by simp[Op.operands])) h10
   simp only[bL,h1,h3,Option.bind_some,h5,h6,h7,h8,h9]
  ·rename_i E hi
   rw[hi] at hu
   split at h4
   ·obtain⟨r,h5,h6,h7,h8,h9,h10,h11⟩:=AT h4
    refine jw (m:=false) (u:=[]) (fun n=>?_) az (cz rfl (by simp[Op.operands])) h11
    simp only[bL,h1,h3,Option.bind_some,h5,h6,h7,h8,h9,h10,Option.map_some]
   ·obtain⟨r,h5,h6⟩:=fin hu h4
    exact jw (m:=false) (u:=[]) h5 az (cz rfl (by simp[Op.operands])) h6
  ·obtain⟨r,h5,h6⟩:=fin hu h4
   exact jw (m:=false) (u:=[]) h5 az (cz rfl (by simp[Op.operands])) h6
 ·obtain⟨d,h1,h2⟩:=bc hk
  obtain⟨r,h5,h6⟩:=DO h2
  exact jw (m:=false) (fun n=>by simp only[bL,h1,Option.bind_some,h5,Option.map_some]) az (bw rfl _) h6
 ·rename_i b args Ts
  split at hk
  ·obtain⟨vs,h1,h2⟩:=fF hk
   split at h2
   ·rename_i d e T T' eT
    split at h2
    ·rename_i c
     have hne:T≠T':=by rintro rfl;simp at c
     obtain⟨ti,l1,h3⟩:=ao h2
     obtain⟨ti',l1',h3⟩:=ao h3
     obtain⟨r,u,vu,h5,h6,h7⟩:=pY hΘ (hΘ _ _ l1) (hΘ _ _ l1') hn h3
     refine DK (m:=false) hn ?_ h6 (fun k hk=>?_) h7
     ·simp only[bL,h1,Option.bind_some,eT,ae,b6,hne,if_false,h5]
     ·rcases List.mem_cons.1 hk with rfl|hk
      ·exact List.mem_cons_self ..
      ·refine List.mem_cons_of_mem _ (cz (l:=args.toList) rfl (by simp[Op.operands,Call.operands]) k hk)
    ·rename_i c
     obtain rfl:=Nat.eq_of_beq_eq_true c
     obtain⟨ti,l1,h3⟩:=ao h2
     split at h3
     ·obtain⟨r,u,vu,h5,h6,h7⟩:=lH hΘ (hΘ _ _ l1) hn h3
      refine DK (m:=false) hn ?_ h6 (fun k hk=>?_) h7
      ·simp only[bL,h1,Option.bind_some,eT,ae,b6,if_true,h5]
      ·rcases List.mem_cons.1 hk with rfl|hk
       ·exact List.mem_cons_self ..
       ·refine List.mem_cons_of_mem _ (cz (l:=args.toList) rfl (by simp[Op.operands,Call.operands]) k hk)
     ·split at h3
      ·obtain⟨ei,l2,h3⟩:=ao h3
       obtain⟨τ,h3⟩:=yf h3
       obtain⟨u1,v1,g1,p1,h3⟩:=wl (P:=P) (N:=N) h3
       obtain⟨cl,h3⟩:=h3.ok
       obtain⟨vs,h1,h3⟩:=fF h3
       split at h3
       ·rename_i d e
        have p0:=(p1 g1 fun k hk=>hk).1
        have hn':=nA hn p0 cl
        obtain⟨r,u,vu,h5,h6,h7⟩:=lH hΘ (hΘ _ _ l1) hn' h3
        refine⟨r,_,_,rG p1 (cH (B6 (m:=false) hn' ?_ h6) (fun k hk=>?_)),h7⟩
        ·simp only[bL,h1,Option.bind_some,eT,ae,b6,if_true,h5]
        ·rcases List.mem_cons.1 hk with rfl|hk
         ·exact List.mem_cons_self ..
         ·refine List.mem_cons_of_mem _ (cz (l:=args.toList) rfl (by simp[Op.operands,Call.operands]) k hk)
       ·exact h3.elim
      ·exact h3.elim
   ·exact h2.elim
  ·obtain⟨vs,h1,h2⟩:=fF hk
   obtain⟨r,u,vu,h5,h6,h7⟩:=ot (m:=false) hΘ h2
   exact jw (m:=false) (fun n=>by simp only[bL,h1,Option.bind_some,h5]) h6 (cz rfl (by simp[Op.operands,Call.operands])) h7
 ·rename_i f args Ts
  obtain⟨vs,h1,h2⟩:=fF hk
  obtain⟨os,fs,h2⟩:=h2
  obtain⟨r,vu,gl,h3,h4⟩:=kk (N:=N) (o:=⟨dst,.call ⟨.value (.func f),args,Ts⟩,ty,pos,after,guard⟩) hn ⟨args,Ts,.inl ⟨rfl,h1⟩⟩ h2
  refine⟨r,vu,_,cH h3 (fun k hk=>?_),h4⟩
  simpa[Op.operands,Call.operands] using hk
 ·rename_i k args Ts
  obtain⟨c,h1,h2⟩:=cL hk
  split at h2
  ·rename_i f cs
   obtain⟨vs,h3,h2⟩:=fF h2
   obtain⟨os,fs,h2⟩:=h2
   obtain⟨r,vu,gl,h3,h4⟩:=kk (N:=N) (o:=⟨dst,.call ⟨.value (.tmp k),args,Ts⟩,ty,pos,after,guard⟩) hn ⟨args,Ts,.inr (.inl ⟨k,ae cs,ae vs,rfl,h1,h3,by simp[bk]⟩)⟩ h2
   refine⟨r,vu,_,cH h3 (fun k hk=>?_),h4⟩
   simpa[Op.operands,Call.operands] using hk
  ·exact h2.elim
 ·rename_i x m args Ts
  obtain⟨c,h1,h2⟩:=cL hk
  split at h2
  ·rename_i T v
   obtain⟨f,b,hm,h2⟩:=h2
   obtain⟨r0,hr,h2⟩:=yW hΘ h2
   obtain⟨vs,h3,h2⟩:=fF h2
   obtain⟨os,fs,h2⟩:=h2
   obtain⟨r,vu,gl,h4,h5⟩:=kk (N:=N) (o:=⟨dst,.call ⟨.invoke x m,args,Ts⟩,ty,pos,after,guard⟩) hn ⟨args,Ts,.inr (.inr ⟨x,m,T,v.toD,r0.toD,b,ae vs,rfl,h1,hm,hr,h3,rfl⟩)⟩ h2
   refine⟨r,vu,_,cH h4 (fun k hk=>?_),h5⟩
   simpa[Op.operands,Call.operands] using hk
  ·exact h2.elim
 ·obtain⟨b,h1,h2⟩:=bc hk
  split at h2
  ·obtain⟨r,h3,h4⟩:=bc h2
   have h1':ay (dA t) _=some (.bool true):=h1
   exact jw (m:=false) (fun n=>by simp only[bL,h1',h3,Option.map_some]) az (bw rfl _) h4
  ·obtain⟨r,h3,h4⟩:=bc h2
   have h1':ay (dA t) _=some (.bool false):=h1
   exact jw (m:=false) (fun n=>by simp only[bL,h1',h3,Option.map_some]) az (bw rfl _) h4
  ·rename_i b
   cases b with
   |true=>
    obtain⟨r,h3,h4⟩:=bc (h2.1 rfl)
    have h1':ay (dA t) _=some (.bool true):=h1
    exact jw (m:=false) (fun n=>by simp only[bL,h1',h3,Option.map_some]) az (bw rfl _) h4
   |false=>
    obtain⟨r,h3,h4⟩:=bc (h2.2 rfl)
    have h1':ay (dA t) _=some (.bool false):=h1
    exact jw (m:=false) (fun n=>by simp only[bL,h1',h3,Option.map_some]) az (bw rfl _) h4
  ·exact h2.elim
 ·obtain⟨ti,l1,h2⟩:=ao hk
  split at h2
  ·rename_i z hz
   refine DK (m:=false) (u:=[((n,0),.var _ (ae z.cells))]) hn ?_ (fV hn rfl) (fun k hk=>?_) h2
   ·simp only[bL,(hΘ _ _ l1).zero z hz,Option.map_some,aF];rfl
   ·rcases List.mem_cons.1 hk with rfl|hk
    ·exact List.mem_cons_self ..
    ·exact bw rfl _ k hk
  ·exact h2.elim
 ·obtain⟨v,h1,h2⟩:=bc hk
  obtain⟨c,h3⟩:=h2.ok
  refine DK (m:=false) (u:=[((n,0),.var _ (ae v.cells))]) hn ?_ (fV hn rfl) (fun k hk=>?_) h3
  ·simp only[bL,h1,Option.bind_some,dB,c,if_true,aF];rfl
  ·rcases List.mem_cons.1 hk with rfl|hk
   ·exact List.mem_cons_self ..
   ·exact bw rfl _ k hk
 ·rename_i T ps
  obtain⟨vs,h1,h2⟩:=ud hk
  obtain⟨ti,l1,h2⟩:=ao h2
  have hu:=(hΘ _ _ l1).und
  have hz:=(hΘ _ _ l1).zero
  split at h2
  ·rename_i fs zs e ez
   rw[e] at hu
   obtain⟨cs,h3,h4⟩:=qw h2
   have hz':=hz _ ez
   simp only[V.toD] at hz'
   exact jw (m:=false) (fun n=>by simp only[bL,h1,Option.bind_some,lD,hu.2,hz',h3,Option.map_some];rfl) az (bw rfl _) h4
  ·rename_i M E zs e ez
   rw[e] at hu
   obtain⟨ei,l2,h2⟩:=ao h2
   obtain⟨c,h4⟩:=h2.ok
   have hz':=hz _ ez
   simp only[V.toD] at hz'
   have hv:vs=[]:=List.isEmpty_iff.1 c
   subst hv
   have hpl:fM P T=some []:=by
    have hs:=(hΘ _ _ l2).size
    unfold sizeT at hs
    obtain⟨i,hi,_⟩:=Option.map_eq_some_iff.1 hs
    unfold fM
    rw[show P.underlying T=some (.array M E) from hu]
    simp only[hi,Option.map_some]
   exact jw (m:=false) (fun n=>by simp only[bL,h1,Option.bind_some,lD,hpl,hz',rX,ee,Option.map_some];rfl) az (bw rfl _) h4
  ·exact h2.elim
 ·rename_i T len ps
  obtain⟨vs,h1,h2⟩:=qo hk
  obtain⟨ti,l1,h2⟩:=ao h2
  have hu:=(hΘ _ _ l1).und
  split at h2
  ·rename_i E e
   rw[e] at hu
   obtain⟨ei,l2,h2⟩:=ao h2
   have hei:=hΘ _ _ l2
   obtain⟨c,h2⟩:=h2.ok
   simp only[Bool.and_eq_true,decide_eq_true_eq] at c
   obtain⟨⟨⟨⟨c1,c2⟩,c3⟩,c4⟩,c5⟩:=c
   obtain⟨r,u,vu,h5,h6,h7⟩:=sg (show P.underlying T=some (.slice E) from hu) (hei.elem c1 c2) c3 c4 c5 hn h2
   refine DK (m:=false) hn (by simp only[bL,h1,Option.bind_some,h5]) h6 (fun k hk=>?_) h7
   rcases List.mem_cons.1 hk with rfl|hk
   ·exact List.mem_cons_self ..
   ·exact List.mem_cons_of_mem _ (cz rfl (by simp[Op.operands]) k hk)
  ·exact h2.elim
 ·obtain⟨v,h1,h2⟩:=bc hk
  obtain⟨r,h3,h4,h5⟩:=A4 h2
  exact jw (m:=false) (fun n=>by simp only[bL,h1,Option.bind_some,h3,if_true,h4]) az (bw rfl _) h5
 ·obtain⟨v,h1,h2⟩:=cL hk
  obtain⟨ti,l1,h2⟩:=ao h2
  obtain⟨si,l2,h2⟩:=ao h2
  obtain⟨r,h3,h4⟩:=w7 hΘ (hΘ _ _ l1) (hΘ _ _ l2) h2
  exact jw (m:=false) (fun n=>by simp only[bL,h1,Option.bind_some,h3,Option.map_some]) az (cz rfl (by simp[Op.operands])) h4
 ·obtain⟨v,h1,h2⟩:=bc hk
  obtain⟨ti,l1,h2⟩:=ao h2
  obtain⟨c,h2⟩:=h2.ok
  exact jw (m:=false) (fun n=>by simp only[bL,h1,Option.bind_some,rF (hΘ _ _ l1).und c,if_true];rfl) az (bw rfl _) h2
 ·rename_i f first captured
  obtain⟨c,h2⟩:=hk.ok
  obtain⟨vs,h1,h2⟩:=uc h2
  exact jw (m:=false) (fun n=>by simp only[bL,Nat.eq_of_beq_eq_true c,if_true,h1,Option.map_some];rfl) az (bw rfl _) h2
 ·obtain⟨v,h1,h2⟩:=bc hk
  obtain⟨ti,l1,h2⟩:=ao h2
  obtain⟨r,h3,h4⟩:=r9 (hΘ _ _ l1) h2
  exact jw (m:=false) (fun n=>by simp only[bL,h1,Option.bind_some,h3,Option.map_some]) az (bw rfl _) h4
 ·obtain⟨a,h1,h2⟩:=bc hk
  obtain⟨b,h3,h4⟩:=bc h2
  obtain⟨ti,l1,h4⟩:=ao h4
  have hu:=(hΘ _ _ l1).und
  split at h4
  ·rename_i E k1 a k2 b e _
   rw[e] at hu
   obtain⟨ei,l2,h4⟩:=ao h4
   have hei:=hΘ _ _ l2
   split at h4
   ·rename_i z τ hz hτ
    obtain⟨c,h4⟩:=h4.ok
    simp only[Bool.and_eq_true,beq_iff_eq,decide_eq_true_eq] at c
    obtain⟨⟨c1,c2⟩,c3⟩:=c
    obtain⟨x,hx,h5⟩:=Dh h4
    obtain⟨h6,h7,h8⟩:=h5
    refine DK (m:=false) (u:=[((n,0),.row E ((List.replicate a.toNat x).map (aa τ)))]) hn ?_ (fV hn rfl) (fun k hk=>?_) h8
    ·have h1':ay (dA t) _=some (.int k1 a):=h1
     have h3':ay (dA t) _=some (.int k2 b):=h3
     simp only[bL,h1',h3',Option.bind_some,tJ,show P.underlying _=some (.slice E) from hu,hei.elem (by rw[hz];rfl) c1,hei.zero z hz]
     rw[if_pos]
     ·simp only[nzM,Bool.false_eq_true,if_false,hx,List.map_replicate];rfl
     ·refine⟨h6.1,h6.2,h7,?_⟩
      simp only[Fh,Bool.and_eq_true,beq_iff_eq]
      refine⟨?_,by rw[aF];exact gD _ c3⟩
      have h9:=congrArg (fun d:D=>d.cells.length) hx
      simp only[dw,List.length_map,(cK τ x).1] at h9
      omega
    ·rcases List.mem_cons.1 hk with rfl|hk
     ·exact List.mem_cons_self ..
     ·exact bw rfl _ k hk
   ·exact h4.elim
  ·exact h4.elim
 ·rename_i T x lo hi
  obtain⟨v,h1,h2⟩:=cL hk
  obtain⟨lo',h3,h4⟩:=qq h2
  obtain⟨hi',h5,h6⟩:=qq h4
  obtain⟨ti,l1,h6⟩:=ao h6
  obtain⟨q,r,u,vu,h7,h8,h9⟩:=wj hΘ (hΘ _ _ l1) hn h6
  cases q with
  |true=>
   exact DK (m:=true) hn (by simp only[bL,h1,h3,h5,Option.bind_some,h7]) h8 (fun k hk=>hk) h9
  |false=>
   exact jw (m:=false) (fun n'=>by
    simp only[bL,h1,h3,h5,Option.bind_some]
    rw[wH rfl (m':=(n,0))]
    exact h7) h8 (fun k hk=>hk) h9
 ·rename_i T x f
  obtain⟨v,h1,h2⟩:=bc hk
  obtain⟨ti,l1,h2⟩:=ao h2
  have hu:=(hΘ _ _ l1).und
  split at h2
  ·rename_i fs cs e _
   rw[e] at hu
   obtain⟨g,g1,h2⟩:=fL h2
   obtain⟨gi,l2,h2⟩:=ao h2
   obtain⟨r,h3,h4⟩:=bj (hΘ _ _ l2) h2
   exact jw (m:=false) (fun n=>by
    have h1':ay (dA t) _=some (.agg (ae cs)):=h1
    simp only[bL,h1',Option.bind_some,tK,(hu.1 f g.1 g.2.1 g.2.2 g1).1,h3,Option.map_some]) az (bw rfl _) h4
  ·exact h2.elim
 ·obtain⟨v,h1,h2⟩:=bc hk
  obtain⟨i,h3,h4⟩:=bc h2
  obtain⟨ti,l1,h4⟩:=ao h4
  have hu:=(hΘ _ _ l1).und
  split at h4
  ·rename_i s k i e _
   rw[e] at hu
   refine jw (m:=false) (u:=[]) (fun n=>?_) az (bw rfl _) h4.2
   have h1':ay (dA t) _=some (.str s):=h1
   have h3':ay (dA t) _=some (.int k i):=h3
   simp only[bL,h1',h3',Option.bind_some,lE,show P.underlying _=some .string from hu]
   rw[if_pos h4.1]
   rfl
  ·rename_i m E cs k i e _
   rw[e] at hu
   obtain⟨ei,l2,h4⟩:=ao h4
   obtain⟨r,h5,h6⟩:=bj (hΘ _ _ l2) h4.2
   refine jw (m:=false) (u:=[]) (fun n=>?_) az (bw rfl _) h6
   have h1':ay (dA t) _=some (.agg (ae cs)):=h1
   have h3':ay (dA t) _=some (.int k i):=h3
   simp only[bL,h1',h3',Option.bind_some,lE,show P.underlying _=some (.array m E) from hu,(hΘ _ _ l2).size]
   rw[if_pos h4.1,h5]
   rfl
  ·exact h4.elim
 ·obtain⟨v,h1,h2⟩:=bc hk
  split at h2
  ·rename_i cs
   obtain⟨r,h3,h4⟩:=fL h2
   exact jw (m:=false) (fun n=>by
    have h1':ay (dA t) _=some (.tup (ae cs)):=h1
    simp only[bL,h1',Option.bind_some,iQ,bk,List.getElem?_map,h3,Option.map_some]) az (bw rfl _) h4
  ·exact h2.elim
 ·exact hk.elim

end Go.Proofs.YthmfppknagbkeaaGreatDoor.Am
