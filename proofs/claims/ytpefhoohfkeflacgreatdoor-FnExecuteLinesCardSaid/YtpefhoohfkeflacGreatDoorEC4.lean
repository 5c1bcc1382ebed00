/- The plain machine with types: slices, addresses, literals. The plain machine with types: cuts, conversions, builtins. The plain machine with types: calls: names, views. The plain machine with types: calls. The plain machine with types: calls: what comes back. The plain machine with types: a call. The plain machine with types: a call, put together. The plain machine with types: what an operation looks at. The plain machine with types: one operation. The plain machine with types: one operation, put together. The plain machine with types: one operation is sound. -/
import Derived.Test.YtpefhoohfkeflacGreatDoorEC3
set_option linter.unusedSimpArgs false
set_option linter.unusedVariables false
set_option maxHeartbeats 1000000
namespace Go.Proofs.YtpefhoohfkeflacGreatDoor.Am
open Go Go.RowKit
def zz:List V→(List Int→Prop)→Prop
 |[],K=>K []
 | .int .i64 n::l,K=>zz l fun r=>K (n::r)
 |_::_,_=>False
theorem ul:∀{l:List V} {K:List Int→Prop},zz l K→∃ns:List Int,ak l=ns.map (D.int .i64)∧K ns
 |[],K,h=>⟨[],rfl,h⟩
 |v::l,K,h=>by
  cases v<;>try exact h.elim
  rename_i k n
  cases k<;>try exact h.elim
  obtain⟨ns,h1,h2⟩:=ul (l:=l) h
  exact⟨n::ns,by simp[ak,V.toD,h1],h2⟩
def V.pure0:V→Bool
 | .int .. | .bool _| .tt| .ff| .str _| .lst .. | .box .. | .nilp| .nils| .nilf| .nili=>true
 |_=>false
theorem mD (l:List V)(h:l.all V.pure0=true):(ak l).all D.pure0=true:=by
 rw[cX,List.all_map]
 rw[aM] at h⊢
 intro x hx
 have:=h x hx
 cases x<;>first|rfl|cases this
theorem sk {t:Ty}(h:t.sz=1)(hp:t.pure=true)(xs:List t.den):(xs.map (ai t)).all D.pure0=true:=by
 rw[aM]
 intro y hy
 obtain⟨z,_,rfl⟩:=aB.1 hy
 have h1:=ki hp z
 rw[h] at h1
 have h2:=h1.1
 have h3:=h1.2
 match hc:(ai t z).cells,h2 with
 |[c],_=>
  rw[hc] at h3
  simp only[List.all_cons,List.all_nil,Bool.and_true] at h3
  by_cases hag:∃cs,ai t z= .agg cs
  ·obtain⟨cs,he⟩:=hag
   cases t<;>simp[Ty.sz] at h<;>first|(cases he;done)|(cases z<;>simp[ai,mS,qu] at he;done)
  ·have:=dh fun cs hcs=>hag ⟨cs,hcs⟩
   rw[this] at hc
   simp only[List.cons.injEq,and_true] at hc
   rw[hc];exact h3
def pu (h:VH)(v:V)(K:(t:Ty)→List t.den→Prop):Prop:=
 match v with
 | .lst t xs=>K t xs
 | .nils=>K (.int .i64) []
 | .ref b=>eO h b fun x=>(match x with
  | .row _ t xs=>K t xs
  | .froz t xs=>K t xs
  |_=>False)
 | .fref k i=>eO h k fun x=>(match x with
  | .frow _ t xss=>fB xss i fun xs=>K t xs
  | .frowx _ t xss=>fB xss i fun ox=>iT ox False fun xs=>K t xs
  |_=>False)
 | .hro k o=>iT o (K (.int .i64) []) fun i=>eO h k fun x=>(match x with
  | .frow _ t xss=>fB xss i fun xs=>K t xs
  | .frowx _ t xss=>fB xss i fun ox=>iT ox False fun xs=>K t xs
  |_=>False)
 | .vref b o n=>eO h b fun x=>(match x with
  | .var _ cs=>Chk (cs.all V.pure0) (GE cs o n fun r=>zz r fun ns=>K (.int .i64) ns)
  | .vari _ pre m t xs post=>Chk (pre.all V.pure0 && post.all V.pure0 && Nat.beq o pre.length && Nat.beq n m && t.sz==1 && t.pure) (ci (xs.length=m) (K t xs))
  |_=>False)
 |_=>False
theorem mK {h:VH}{v:V}{K:(t:Ty)→List t.den→Prop}(hk:pu h v K):∃t,∃xs:List (Ty.den t),elems (toH h) v.toD=some (xs.map (ai t))∧K t xs:=by
 unfold pu at hk
 split at hk
 ·exact⟨_,_,rfl,hk⟩
 ·exact⟨_,_,rfl,hk⟩
 ·rename_i b
  obtain⟨x,h1,h3⟩:=bh hk
  split at h3
  ·rename_i E t xs
   have hl:=av (i:=0) h1 (d:=.row E (xs.map (ai t))) rfl
   exact⟨_,_,by simp[elems,V.toD,hl],h3⟩
  ·rename_i t xs
   have hl:=av (i:=0) h1 (d:=.froz (xs.map (ai t))) rfl
   exact⟨_,_,by simp[elems,V.toD,hl],h3⟩
  ·exact h3.elim
 ·rename_i k i
  obtain⟨x,h1,h3⟩:=bh hk
  split at h3
  ·rename_i E t xss
   obtain⟨xs,h4,h5⟩:=h3
   have hl:=av (i:=i) h1 (d:=.row E (xs.map (ai t))) (by simp only[VB.blks,be,h4,aI])
   exact⟨_,_,by simp[elems,V.toD,hl],h5⟩
  ·rename_i E t xss
   obtain⟨ox,h4,h5⟩:=h3
   cases ox with
   |none=>exact(h5.1 rfl).elim
   |some xs=>
    have hl:=av (i:=i) h1 (d:=.row E (xs.map (ai t))) (by simp only[VB.blks,be,h4,aI,rowX])
    exact⟨_,_,by simp[elems,V.toD,hl],h5.2 xs rfl⟩
  ·exact h3.elim
 ·rename_i k o
  cases o with
  |none=>exact⟨.int .i64,[],rfl,hk.1 rfl⟩
  |some i=>
   obtain⟨x,h1,h3⟩:=bh (hk.2 i rfl)
   split at h3
   ·rename_i E t xss
    obtain⟨xs,h4,h5⟩:=h3
    have hl:=av (i:=i) h1 (d:=.row E (xs.map (ai t))) (by simp only[VB.blks,be,h4,aI])
    exact⟨_,_,by simp[elems,V.toD,mS,hl],h5⟩
   ·rename_i E t xss
    obtain⟨ox,h4,h5⟩:=h3
    cases ox with
    |none=>exact(h5.1 rfl).elim
    |some xs=>
     have hl:=av (i:=i) h1 (d:=.row E (xs.map (ai t))) (by simp only[VB.blks,be,h4,aI,rowX])
     exact⟨_,_,by simp[elems,V.toD,mS,hl],h5.2 xs rfl⟩
   ·exact h3.elim
 ·rename_i b o n
  obtain⟨x,h1,h3⟩:=bh hk
  split at h3
  ·rename_i T cs
   have hl:=av (i:=0) h1 (d:=.var T (ak cs)) rfl
   obtain⟨c1,h4⟩:=h3.ok
   obtain⟨h5,h6⟩:=we h4
   obtain⟨ns,h7,h8⟩:=ul h6
   refine⟨.int .i64,ns,?_,h8⟩
   simp only[elems,V.toD,hl]
   rw[if_pos ⟨by rw[aL];exact h5,mD _ c1⟩]
   rw[show ns.map (ai (.int .i64))=ns.map (D.int .i64) from rfl,←h7]
   simp only[cX,List.map_take,List.map_drop]
  ·rename_i T pre m t xs post
   have hl:=av (i:=0) h1 (d:=.var T (ak pre++xs.map (ai t)++ak post)) rfl
   obtain⟨c1,h4⟩:=h3.ok
   simp only[aA,beq_iff_eq] at c1
   obtain⟨⟨⟨⟨⟨c1,c2⟩,c3⟩,c4⟩,c5⟩,c6⟩:=c1
   obtain⟨h5,h6⟩:=h4
   have hp:o=pre.length:=cq c3
   have hn:n=m:=cq c4
   refine⟨t,xs,?_,h6⟩
   simp only[elems,V.toD,hl]
   have hall:(ak pre++xs.map (ai t)++ak post).all D.pure0=true:=by
    rw[List.all_append,List.all_append,mD _ c1,mD _ c2,sk c5 c6]
    rfl
   rw[if_pos ⟨by rw[aP,aP,aL,az];omega,hall⟩]
   rw[bH,hp,←aL pre,List.drop_left,hn,←h5]
   rw[show xs.length=(xs.map (ai t)).length by rw[az],List.take_left]
  ·exact h3.elim
 ·exact hk.elim
theorem tr (t:Ty)(xs:List t.den)(s:Nat)(h:t.sz=s):Ar s (xs.map (ai t))=s:=Jj fun e he=>by
 obtain⟨x,_,rfl⟩:=aB.1 he
 rw[(fR t x).1,h]
def LC (ti:TI)(h:VH)(v:V)(K:V→Prop):Prop:=
 match ti.k with
 | .str=>(match v with| .str s=>K (.int .i64 (s.size:Nat))|_=>False)
 | .slice _=>pu h v fun _ xs=>K (.int .i64 (xs.length:Nat))
 |_=>False
theorem It {P:Program}{T:TypeId}{ti:TI}(ht:ti.ok P T){h:VH}{v:V}{K:V→Prop}(hk:LC ti h v K):∃r,uO P (toH h) T v.toD=some r.toD∧K r:=by
 have hu:=ht.und
 unfold LC at hk
 split at hk
 ·rename_i e
  rw[e] at hu
  split at hk
  ·exact⟨_,by simp only[uO,show P.underlying T=some .string from hu,V.toD],hk⟩
  ·exact hk.elim
 ·rename_i E e
  rw[e] at hu
  obtain⟨t,xs,h1,h2⟩:=mK hk
  exact⟨_,by simp only[uO,show P.underlying T=some (.slice E) from hu,h1,aI,az,V.toD],h2⟩
 ·exact hk.elim
def qS (Θ:TT)(ti:TI)(h:VH)(n:Nat)(d1 d2:V)(K:V→VH→Prop):Prop:=
 match ti.k with
 | .slice E=>bI Θ E fun ei=>Chk (ei.z.isSome && decide (0<ei.sz)) (pu h d2 fun t ys=>(match d1 with
  | .ref b=>eO h b fun x=>(match x with
   | .row E' t' xs=>Chk (E'==E && t'.sz==ei.sz && !Nat.beq b n) (match nl t' t ys with
    |some ys'=>ci (kZ ei.nb (xs.length+ys'.length)) (K (.ref n) [(b,.gone),(n,.row E t' (xs++ys'))])
    |none=>False)
   |_=>False)
  | .nils=>Chk (t.sz==ei.sz) (match ys with
   |[]=>K .nils []
   |y::ys'=>ci (kZ ei.nb (ys'.length+1)) (K (.ref n) [(n,.row E t (y::ys'))]))
  |_=>False))
 |_=>False
theorem wn {h:VH}{b n:Nat}{x y:VB}{d:Blk}(hn:∀c:Id,n≤c.1→look (toH h) c=none)(hb:look h b=some x)(hs:x.sgl=true)(hbn:b≠n)(hy:y.blks=[d]):cS h [((b,0),.gone),((n,0),d)] [(b,.gone),(n,y)]:=by
 have h1:cS h [((b,0),.gone)] [(b,.gone)]:=gV hb hs rfl
 have h2:cS (puts [(b,VB.gone)] h) [((n,0),d)] [(n,y)]:=o5 (fun i hi=>by
  rw[←h1.1,aN _ _ _ (fun z hz e=>by obtain rfl:=aY.1 hz;simp only[aZ] at e;exact hbn e.1)]
  exact hn (n,i) (ax _)) hy
 exact rK h1 h2
theorem rT {P:Program}{Θ:TT}(hΘ:Θ.ok P){T:TypeId}{ti:TI}(ht:ti.ok P T){h:VH}{n:Nat}(hn:∀c:Id,n≤c.1→look (toH h) c=none){d1 d2:V}{K:V→VH→Prop}(hk:qS Θ ti h n d1 d2 K):∃r u vu,jz P (toH h) (n,0) T d1.toD d2.toD=some (r.toD,u)∧cS h u vu∧K r vu:=by
 have hu:=ht.und
 unfold qS at hk
 split at hk
 ·rename_i E e
  rw[e] at hu
  obtain⟨ei,l1,h1⟩:=aD hk
  have hei:=hΘ _ _ l1
  obtain⟨c,h2⟩:=h1.ok
  simp only[aA,decide_eq_true_eq] at c
  obtain⟨t,ys,h3,h4⟩:=mK h2
  have hel:=hei.elem c.1 c.2
  unfold jz
  simp only[show P.underlying T=some (.slice E) from hu,hel,h3]
  split at h4
  ·rename_i b
   obtain⟨x,b1,h5⟩:=bh h4
   split at h5
   ·rename_i E' t' xs
    obtain⟨c2,h6⟩:=h5.ok
    simp only[aA,beq_iff_eq,fK] at c2
    obtain⟨⟨rfl,c3⟩,c4⟩:=c2
    have hbn:b≠n:=by rintro rfl;simp at c4
    split at h6
    ·rename_i ys' hc
     have hce:=ib hc
     have hl:=av (i:=0) b1 (d:=.row E' (xs.map (ai t'))) rfl
     refine⟨.ref n,[((b,0),.gone),((n,0),.row E' ((xs++ys').map (ai t')))],_,?_,wn hn b1 rfl hbn rfl,h6.2⟩
     rw[hce,if_pos (tr _ _ _ c3)]
     simp only[V.toD,hl]
     rw[if_pos ⟨trivial,by simpa using h6.1⟩]
     simp
    ·exact h6.elim
   ·exact h5.elim
  ·obtain⟨c3,h6⟩:=h4.ok
   simp only[beq_iff_eq] at c3
   rw[if_pos (tr _ _ _ c3)]
   split at h6
   ·exact⟨.nils,[],[],rfl,a7,h6⟩
   ·rename_i y ys'
    refine⟨.ref n,[((n,0),.row E ((y::ys').map (ai t)))],_,?_,lu hn rfl,h6.2⟩
    simp only[V.toD,bK]
    rw[if_pos (by simpa using h6.1)]
  ·exact h4.elim
 ·exact hk.elim
def rU (Θ:TT)(ti ti':TI)(h:VH)(n:Nat)(d1 d2:V)(K:V→VH→Prop):Prop:=
 match ti.k,ti'.k,d1,d2 with
 | .slice E,.int _,.ref b,.int _ m=>bI Θ E fun ei=>eO h b fun x=>(match x,ei.z with
  | .row E' (.int k2) xs,some (.int k3 z)=>Chk (E'==E && Nat.beq ei.sz 1 && !Nat.beq b n && decide (k3=k2)) (ci (0<m∧m≤1000000) (ci (kZ ei.nb (xs.length+m.toNat)) (K (.ref n) [(b,.gone),(n,.row E (.int k2) (xs++List.replicate m.toNat z))])))
  |_,_=>False)
 |_,_,_,_=>False
theorem wJ {P:Program}{Θ:TT}(hΘ:Θ.ok P){T T':TypeId}{ti ti':TI}(ht:ti.ok P T)(ht':ti'.ok P T'){h:VH}{n:Nat}(hn:∀c:Id,n≤c.1→look (toH h) c=none){d1 d2:V}{K:V→VH→Prop}(hk:rU Θ ti ti' h n d1 d2 K):∃r u vu,ia P (toH h) (n,0) T T' d1.toD d2.toD=some (r.toD,u)∧cS h u vu∧K r vu:=by
 have hu:=ht.und
 have hu':=ht'.und
 unfold rU at hk
 split at hk
 ·rename_i E kn b k m e e'
  rw[e] at hu
  rw[e'] at hu'
  obtain⟨ei,l1,h1⟩:=aD hk
  have hei:=hΘ _ _ l1
  obtain⟨x,b1,h5⟩:=bh h1
  split at h5
  ·rename_i E' k2 xs k3 z hz
   obtain⟨c2,h6⟩:=h5.ok
   simp only[aA,beq_iff_eq,fK,decide_eq_true_eq] at c2
   obtain⟨⟨⟨rfl,c1⟩,c4⟩,rfl⟩:=c2
   have hs1:ei.sz=1:=cq c1
   have hbn:b≠n:=by rintro rfl;simp at c4
   obtain⟨h7,h8,h9⟩:=h6
   have hl:=av (i:=0) b1 (d:=.row E' (xs.map (ai (.int k3)))) rfl
   refine⟨.ref n,[((b,0),.gone),((n,0),.row E' ((xs++List.replicate m.toNat z).map (ai (.int k3))))],_,?_,wn hn b1 rfl hbn rfl,h9⟩
   simp only[ia,V.toD,show P.underlying T=some (.slice E') from hu,show P.underlying T'=some (.int _) from hu',hl,hei.elem (by rw[hz];rfl) (by omega),hei.zero _ hz]
   rw[if_pos ⟨trivial,hs1,h7.1,h7.2,by simpa using h8⟩]
   simp[List.map_replicate,ai]
  ·exact h5.elim
 ·exact hk.elim
def A1:List V→Nat→(List V→Prop)→Prop
 |l,0,K=>K l
 |[],_+1,_=>False
 |_::cs,n+1,K=>A1 cs n K
theorem w9:∀{l:List V} {n:Nat} {K:List V→Prop},A1 l n K→n≤l.length∧K (l.drop n)
 |l,0,K,h=>⟨aW _,by cases l<;>simpa[A1] using h⟩
 |[],_+1,_,h=>h.elim
 |c::cs,n+1,K,h=>by
  obtain⟨h1,h2⟩:=w9 (l:=cs) (n:=n) h
  exact⟨by simpa using h1,by simpa using h2⟩
def DZ (Θ:TT)(ti:TI)(h:VH)(d e:V)(K:V→VH→Prop):Prop:=
 match ti.k,d with
 | .slice E,.vref b o m=>bI Θ E fun ei=>Chk (ei.sz==1) (pu h e fun t ys=>Chk (t.sz==1 && t.pure) (eO h b fun x=>(match x with
  | .var T' cs=>tu cs o fun pre=>A1 cs (o+m) fun post=>ci (ys.length=m) (K (.int .i64 (ys.length:Nat)) [(b,.vari T' pre m t ys post)])
  |_=>False)))
 |_,_=>False
theorem D0 {P:Program}{Θ:TT}(hΘ:Θ.ok P){T:TypeId}{ti:TI}(ht:ti.ok P T){h:VH}{d e:V}{K:V→VH→Prop}(hk:DZ Θ ti h d e K):∃r u vu,qk P (toH h) T d.toD e.toD=some (r.toD,u)∧cS h u vu∧K r vu:=by
 have hu:=ht.und
 unfold DZ at hk
 split at hk
 ·rename_i E b o m ek
  rw[ek] at hu
  obtain⟨ei,l1,h1⟩:=aD hk
  have hei:=hΘ _ _ l1
  obtain⟨c,h2⟩:=h1.ok
  simp only[beq_iff_eq] at c
  obtain⟨t,ys,h3,h4⟩:=mK h2
  obtain⟨c2,h4⟩:=h4.ok
  simp only[aA,beq_iff_eq] at c2
  obtain⟨x,b1,h5⟩:=bh h4
  split at h5
  ·rename_i T' cs
   have hl:=av (i:=0) b1 (d:=.var T' (ak cs)) rfl
   obtain⟨g1,h6⟩:=oY h5
   obtain⟨g2,h7⟩:=w9 h6
   obtain⟨h10,h11⟩:=h7
   refine⟨.int .i64 (ys.length:Nat),[((b,0),.var T' (ak (cs.take o)++ys.map (ai t)++ak (cs.drop (o+m))))],_,?_,gV b1 rfl rfl,h11⟩
   unfold qk
   have hsz:sizeT P E=some 1:=by rw[hei.size,c]
   simp only[show P.underlying T=some (.slice E) from hu,V.toD,hsz,h3,hl]
   have hmin:min (ys.map (ai t)).length m=ys.length:=by rw[az];omega
   have hall:(ys.map (ai t)).all D.pure0=true:=sk c2.1 c2.2 ys
   rw[hmin,if_pos ⟨by rw[aL];omega,hall⟩,bp (by rw[az];omega)]
   simp only[a8,az,h10,cX,List.map_take,List.map_drop]
  ·exact h5.elim
 ·exact hk.elim
def Oj (g:Nat×Nat×Nat)(v:V)(K:V→Prop):Prop:=
 match v with
 | .ptr b o=>gE (o+g.2.1) fun o'=>K (.ptr b o')
 | .eptr b j o=>gE (o+g.2.1) fun o'=>K (.eptr b j o')
 | .fptr k i o=>gE (o+g.2.1) fun o'=>K (.fptr k i o')
 | .feptr k i j o=>gE (o+g.2.1) fun o'=>K (.feptr k i j o')
 | .iptr t e o=>gE (o+g.2.1) fun o'=>K (.iptr t e o')
 | .hpo k p=>iT p False fun i=>K (.fptr k i g.2.1)
 | .box t e=>(match enc t e with
  | .agg _=>K (.iptr t e g.2.1)
  |_=>False)
 | .obo t p=>iT p False fun e=>(match enc t e with
  | .agg _=>K (.iptr t e g.2.1)
  |_=>False)
 |_=>False
theorem Ba {P:Program}{T:TypeId}{i:Nat}{g:Nat×Nat×Nat}(hg:jW P T i=some g.2.1){t:Ty}{e:t.den}{K:V→Prop}(hk:match enc t e with| .agg _=>K (.iptr t e g.2.1)|_=>False):∃r,iB P T i (.box (ai t e).cells)=some r.toD∧K r:=by
 split at hk
 ·rename_i cs hc
  refine⟨_,?_,hk⟩
  simp only[V.toD,iB,hg,aI]
  have:=kW t e
  rw[hc] at this
  rw[←this]
  rfl
 ·exact hk.elim
theorem Ky {P:Program}{T:TypeId}{i:Nat}{g:Nat×Nat×Nat}(hg:jW P T i=some g.2.1){v:V}{K:V→Prop}(hk:Oj g v K):∃r,iB P T i v.toD=some r.toD∧K r:=by
 unfold Oj at hk
 split at hk
 ·exact⟨_,by simp only[V.toD,iB,hg,aI],bU hk⟩
 ·exact⟨_,by simp only[V.toD,iB,hg,aI],bU hk⟩
 ·exact⟨_,by simp only[V.toD,iB,hg,aI],bU hk⟩
 ·exact⟨_,by simp only[V.toD,iB,hg,aI],bU hk⟩
 ·exact⟨_,by simp only[V.toD,iB,hg,aI],bU hk⟩
 ·rename_i k p
  cases p with
  |none=>exact(hk.1 rfl).elim
  |some i=>exact⟨.fptr k i g.2.1,by simp only[V.toD,qu,iB,hg,aI,eX],hk.2 i rfl⟩
 ·exact Ba hg hk
 ·rename_i t p
  cases p with
  |none=>exact(hk.1 rfl).elim
  |some e=>exact Ba hg (hk.2 e rfl)
 ·exact hk.elim
def CY (i s:Nat)(K:Nat→Prop):Prop:=match s with|1=>K i|s=>K (i*s)
theorem rr {i s:Nat}{K:Nat→Prop}(h:CY i s K):K (i*s):=by
 unfold CY at h
 split at h
 ·rw[iP];exact h
 ·exact h
def Ou (Θ:TT)(ti:TI)(h:VH)(v:V)(i:Int)(K:V→Prop):Prop:=
 match ti.k with
 | .slice E=>bI Θ E fun ei=>(match v with
  | .ref b=>eO h b fun x=>(match x with
   | .row E' t xs=>Chk (E'==E) (ci (0≤i∧i<(xs.length:Nat)) (K (.eptr b i.toNat 0)))
   | .lit E' vs=>Chk (E'==E) (ci (0≤i∧i<(vs.length:Nat)) (gE i.toNat fun j=>K (.eptr b j 0)))
   | .froz t xs=>Chk (t.sz==ei.sz) (mA xs i fun _ e=>K (.iptr t e 0))
   |_=>False)
  | .fref k j=>eO h k fun x=>(match x with
   | .frow E' t xss=>Chk (E'==E) (fB xss j fun xs=>ci (0≤i∧i<(xs.length:Nat)) (K (.feptr k j i.toNat 0)))
   |_=>False)
  | .hro k p=>iT p False fun j=>eO h k fun x=>(match x with
   | .frow E' t xss=>Chk (E'==E) (fB xss j fun xs=>ci (0≤i∧i<(xs.length:Nat)) (K (.feptr k j i.toNat 0)))
   | .frowx E' t xss=>Chk (E'==E) (fB xss j fun ox=>iT ox False fun xs=>ci (0≤i∧i<(xs.length:Nat)) (K (.feptr k j i.toNat 0)))
   |_=>False)
  | .lst t xs=>Chk (t.sz==ei.sz) (mA xs i fun _ e=>K (.iptr t e 0))
  |_=>False)
 | .arr m E=>bI Θ E fun ei=>ci (0≤i∧i<(m:Nat)) (match v with
  | .ptr b o=>eO h b fun x=>(match x with
   | .vari _ pre _ _ _ _=>(match Nat.beq o pre.length with
    |true=>gE pre.length fun p=>CY i.toNat ei.sz fun j=>K (.aptr b p j)
    |false=>gE (o+i.toNat * ei.sz) fun o'=>K (.ptr b o'))
   |_=>gE (o+i.toNat * ei.sz) fun o'=>K (.ptr b o'))
  | .aptr b p j=>CY i.toNat ei.sz fun j'=>K (.aptr b p (j+j'))
  | .fptr k j o=>eO h k fun x=>(match x with
   | .fvari ..=>Chk (Nat.beq o 0) (CY i.toNat ei.sz fun j'=>K (.faptr k j 0 j'))
   |_=>gE (o+i.toNat * ei.sz) fun o'=>K (.fptr k j o'))
  | .faptr k j p q=>CY i.toNat ei.sz fun j'=>K (.faptr k j p (q+j'))
  | .eptr b j o=>gE (o+i.toNat * ei.sz) fun o'=>K (.eptr b j o')
  | .iptr t e o=>gE (o+i.toNat * ei.sz) fun o'=>K (.iptr t e o')
  |_=>False)
 |_=>False
theorem E0 {α:Type}{xs:List α}{i:Int}{x:α}(h0:0≤i)(h:xs[i.toNat]?=some x):i<(xs.length:Nat):=by
 have:=(aR.1 h).1
 omega
theorem Bm {P:Program}{T E E':TypeId}{s:Nat}(hu':P.underlying T=some (.slice E))(hs:sizeT P E=some s){h:VH}{k j:Nat}{t:Ty}{xss:List (List t.den)}{xs:List t.den}(b1:look h k=some (.frow E' t xss))(c:E'=E)(hx:xss[j]?=some xs){ik:IntKind}{i:Int}(hi:0≤i∧i<(xs.length:Nat)):
  bN P (toH h) T (.ref (k,j)) (.int ik i)=some (V.feptr k j i.toNat 0).toD:=by
 subst c
 have hl:=av (i:=j) b1 (d:=.row E' (xs.map (ai t))) (by simp only[VB.blks,be,hx,aI])
 unfold bN
 simp only[hu',hs,elems,hl,az]
 rw[if_pos hi]
 simp[V.toD]
theorem ES {P:Program}{T E E':TypeId}{s:Nat}(hu':P.underlying T=some (.slice E))(hs:sizeT P E=some s){h:VH}{k j:Nat}{t:Ty}{xss:List (Option (List t.den))}{xs:List t.den}(b1:look h k=some (.frowx E' t xss))(c:E'=E)(hx:xss[j]?=some (some xs)){ik:IntKind}{i:Int}(hi:0≤i∧i<(xs.length:Nat)):
  bN P (toH h) T (.ref (k,j)) (.int ik i)=some (V.feptr k j i.toNat 0).toD:=by
 subst c
 have hl:=av (i:=j) b1 (d:=.row E' (xs.map (ai t))) (by simp only[VB.blks,be,hx,aI,rowX])
 unfold bN
 simp only[hu',hs,elems,hl,az]
 rw[if_pos hi]
 simp[V.toD]
theorem KM {P:Program}{Θ:TT}(hΘ:Θ.ok P){T:TypeId}{ti:TI}(ht:ti.ok P T){h:VH}{v:V}{k:IntKind}{i:Int}{K:V→Prop}(hk:Ou Θ ti h v i K):∃r,bN P (toH h) T v.toD (.int k i)=some r.toD∧K r:=by
 have hu:=ht.und
 unfold Ou at hk
 split at hk
 ·rename_i E e
  rw[e] at hu
  have hu':P.underlying T=some (.slice E):=hu
  obtain⟨ei,l1,hk⟩:=aD hk
  have hs:=(hΘ _ _ l1).size
  split at hk
  ·rename_i b
   obtain⟨x,b1,h5⟩:=bh hk
   split at h5
   ·rename_i E' t xs
    have hl:=av (i:=0) b1 (d:=.row E' (xs.map (ai t))) rfl
    obtain⟨c,h6⟩:=h5.ok
    simp only[beq_iff_eq] at c
    subst c
    refine⟨_,?_,h6.2⟩
    unfold bN
    simp only[hu',hs,elems,V.toD,hl,az]
    rw[if_pos h6.1]
    simp
   ·rename_i E' vs
    have hl:=av (i:=0) b1 (d:=.row E' (ak vs)) rfl
    obtain⟨c,h6⟩:=h5.ok
    simp only[beq_iff_eq] at c
    subst c
    refine⟨_,?_,bU h6.2⟩
    unfold bN
    simp only[hu',hs,elems,V.toD,hl,aL]
    rw[if_pos h6.1]
    simp
   ·rename_i t xs
    have hl:=av (i:=0) b1 (d:=.froz (xs.map (ai t))) rfl
    obtain⟨c,h0,x,hx,h7⟩:=h5.ok
    simp only[beq_iff_eq] at c
    refine⟨_,?_,h7⟩
    unfold bN
    simp only[hu',hs,elems,V.toD,hl,az]
    rw[if_pos ⟨h0,E0 h0 hx⟩]
    simp only[be,hx,aI]
    rw[if_pos (by rw[(fR t x).1,c])]
   ·exact h5.elim
  ·rename_i k' j
   obtain⟨x,b1,h5⟩:=bh hk
   split at h5
   ·obtain⟨c,h6⟩:=h5.ok
    simp only[beq_iff_eq] at c
    obtain⟨xs,hx,hi,h7⟩:=h6
    exact⟨_,Bm hu' hs b1 c hx hi,h7⟩
   ·exact h5.elim
  ·rename_i k' p _
   cases p with
   |none=>exact(hk.1 rfl).elim
   |some j=>
    obtain⟨x,b1,h5⟩:=bh (hk.2 j rfl)
    split at h5
    ·obtain⟨c,h6⟩:=h5.ok
     simp only[beq_iff_eq] at c
     obtain⟨xs,hx,hi,h7⟩:=h6
     exact⟨_,Bm hu' hs b1 c hx hi,h7⟩
    ·obtain⟨c,h6⟩:=h5.ok
     simp only[beq_iff_eq] at c
     obtain⟨ox,hx,h7⟩:=h6
     cases ox with
     |none=>exact(h7.1 rfl).elim
     |some xs=>
      obtain⟨hi,h7⟩:=h7.2 xs rfl
      exact⟨_,ES hu' hs b1 c hx hi,h7⟩
    ·exact h5.elim
  ·rename_i t xs _
   obtain⟨c,h0,x,hx,h7⟩:=hk.ok
   simp only[beq_iff_eq] at c
   refine⟨_,?_,h7⟩
   unfold bN
   simp only[hu',hs,elems,V.toD,az]
   rw[if_pos ⟨h0,E0 h0 hx⟩]
   simp only[be,hx,aI]
   rw[if_pos (by rw[(fR t x).1,c])]
  ·exact hk.elim
 ·rename_i m E e
  rw[e] at hu
  have hu':P.underlying T=some (.array m E):=hu
  obtain⟨ei,l1,hk⟩:=aD hk
  have hs:=(hΘ _ _ l1).size
  obtain⟨hc,hk⟩:=hk
  unfold bN
  simp only[hu',hs]
  rw[if_pos hc]
  split at hk
  ·obtain⟨x,b1,h5⟩:=bh hk
   split at h5
   ·split at h5
    ·rename_i ho
     have ho':=cq ho
     exact⟨_,by simp only[V.toD,ho'],rr (bU h5)⟩
    ·exact⟨_,by simp only[V.toD],bU h5⟩
   ·exact⟨_,by simp only[V.toD],bU h5⟩
  ·exact⟨_,by simp only[V.toD,lx],rr hk⟩
  ·obtain⟨x,b1,h5⟩:=bh hk
   split at h5
   ·obtain⟨c,h6⟩:=h5.ok
    have ho:=cq c
    exact⟨_,by simp only[V.toD,ho],rr h6⟩
   ·exact⟨_,by simp only[V.toD],bU h5⟩
  ·exact⟨_,by simp only[V.toD,lx],rr hk⟩
  ·exact⟨_,by simp only[V.toD],bU hk⟩
  ·exact⟨_,by simp only[V.toD],bU hk⟩
  ·exact hk.elim
 ·exact hk.elim
def En (fs:List (Nat×Nat×Nat))(cs:List V):List (Nat×V)→(List V→Prop)→Prop
 |[],K=>K cs
 |(i,v)::l,K=>x7 fs i fun f=>Chk (v.whole && sL v.cells f.2.2) (tV cs f.2.1 v.cells fun cs'=>En fs cs' l K)
theorem xl {fs:List (Nat×Nat×Nat)}:∀{ps:List (Nat×V)} {cs:List V} {K:List V→Prop},En fs cs ps K→∃cs',jd (fun i=>(fs.map fun f=>(f.2.1,f.2.2))[i]?) (ak cs) (yM ps)=some (ak cs')∧K cs'
 |[],cs,K,h=>⟨cs,rfl,h⟩
 |(i,v)::l,cs,K,h=>by
  obtain⟨f,h1,h2⟩:=le h
  obtain⟨c,h3⟩:=h2.ok
  simp only[aA] at c
  obtain⟨h4,h5⟩:=jQ h3
  obtain⟨cs',h6,h7⟩:=xl h5
  have hl:=jg c.2
  exact⟨cs',zd (off:=f.2.1) (size:=f.2.2) (by rw[be,h1];rfl) (by rw[gM];exact c.1) (by rw[bu,aL];exact hl) (by rw[aL];omega) (by rw[bu,mg]) h6,h7⟩
def xJ:List (Nat×V)→Nat→Bool
 |[],_=>true
 |(i,_)::l,k=>Nat.beq i k && xJ l (k+1)
def tK (t:Ty):List (Nat×V)→Option (List t.den)
 |[]=>some []
 |(_,v)::l=>match MK t (nzL v),tK t l with
  |some x,some xs=>some (x::xs)
  |_,_=>none
where
 nzL (v:V):V:=match v with
  | .agg cs=>.agg (j5 cs)
  |v=>MO v
theorem vR (v:V):(tK.nzL v).toD=nzE v.toD:=by
 unfold tK.nzL
 split
 ·simp only[V.toD,nzE,oG]
 ·rename_i hne
  rw[FF]
  cases v
  case hro k o=>cases o<;>rfl
  case hpo k o=>cases o<;>rfl
  case obo t o=>cases o<;>rfl
  case agg cs=>exact absurd rfl (hne _)
  all_goals rfl
theorem AY {t:Ty}:∀{l:List (Nat×V)} {xs:List t.den},tK t l=some xs→((yM l).map fun x=>nzE x.2)=xs.map (ai t)
 |[],xs,h=>by simp only[tK,aw] at h;subst h;rfl
 |(i,v)::l,xs,h=>by
  simp only[tK] at h
  split at h
  ·rename_i x xs' h1 h2
   simp only[aw] at h
   subst h
   have:=AY h2
   simp only[yM,bK,ep] at this⊢
   rw[←u7 h1,vR]
   simp only[List.cons.injEq,true_and]
   exact this
  ·cases h
theorem xK:∀{l:List (Nat×V)} {k:Nat},xJ l k=true→(yM l).map (·.1)=List.range' k l.length
 |[],k,_=>rfl
 |(i,v)::l,k,h=>by
  simp only[xJ,aA] at h
  have hi:i=k:=cq h.1
  have:=xK h.2
  simp only[yM,bK,ep,bF,List.range'_succ] at this⊢
  rw[hi]
  exact congrArg (k:: ·) this
def pn (len:Nat)(o:Option V)(dflt:Nat)(K:Nat→Prop):Prop:=
 match o with
 |none=>K dflt
 |some (.int _ i)=>ci (0≤i∧i≤(len:Nat)) (K i.toNat)
 |_=>False
theorem mE {len dflt:Nat}{o:Option V}{K:Nat→Prop}(h:pn len o dflt K):∃k,iA len (o.map V.toD) dflt=some k∧(o=none→k=dflt)∧K k:=by
 unfold pn at h
 split at h
 ·exact⟨dflt,rfl,fun _=>rfl,h⟩
 ·exact⟨_,by simp only[aI,V.toD,iA];rw[if_pos h.1],fun e=>(by cases e),h.2⟩
 ·exact h.elim
def lM {α:Type}(xs:List α)(lo hi:Option V)(ll hh:Nat):List α:=
 match lo,hi with
 |none,none=>xs
 |none,_=>xs.take hh
 |_,none=>xs.drop ll
 |_,_=>(xs.take hh).drop ll
theorem Hp {α:Type}(xs:List α){lo hi:Option V}{ll hh:Nat}(h1:hi=none→hh=xs.length)(h2:lo=none→ll=0):lM xs lo hi ll hh=(xs.take hh).drop ll:=by
 unfold lM
 split
 ·rw[h1 rfl,h2 rfl];simp
 ·rw[h2 rfl];simp
 ·rw[h1 rfl];simp
 ·rfl
def CC (ei:TI){t:Ty}(xs:List t.den)(lo hi:Option V)(K:List t.den→Prop):Prop:=
 Chk (t.sz==ei.sz) (pn xs.length hi xs.length fun hh=>pn hh lo 0 fun ll=>K (lM xs lo hi ll hh))
def Af (Θ:TT)(ti:TI)(h:VH)(n:Nat)(v:V)(lo hi:Option V)(K:Bool→V→VH→Prop):Prop:=
 match ti.k with
 | .str=>(match v with
  | .str s=>pn s.size hi s.size fun hh=>pn hh lo 0 fun ll=>K false (.str (s.extract ll hh)) []
  |_=>False)
 | .slice E=>bI Θ E fun ei=>(match v with
  | .lst t xs=>CC ei xs lo hi fun ys=>K false (.lst t ys) []
  | .nils=>CC ei (t:=.int .i64) [] lo hi fun ys=>K false (.lst (.int .i64) ys) []
  | .ref b=>eO h b fun x=>(match x with
   | .row E' t xs=>(match t.pure && !ti.own with
    |true=>Chk t.pure (CC ei xs lo hi fun ys=>K false (.lst t ys) [(b,.froz t xs)])
    |false=>Chk (match lo with|none=>!Nat.beq b n|_=>false) (CC ei xs none hi fun ys=>K true (.ref n) [(b,.gone),(n,.row E' t ys)]))
   | .froz t xs=>CC ei xs lo hi fun ys=>K false (.lst t ys) []
   |_=>False)
  |_=>False)
 | .arr m E=>(match v,lo,hi with
  | .ptr b o,none,none=>bI Θ E fun _=>eO h b fun x=>(match x with
   | .var _ _=>Chk (decide (m≤maxLen)) (K false (.vref b o m) [])
   | .vari _ _ _ _ _ _=>Chk (decide (m≤maxLen)) (K false (.vref b o m) [])
   |_=>False)
  |_,_,_=>False)
 |_=>False
theorem n8 {P:Program}{E:TypeId}{ei:TI}(_:ei.ok P E){t:Ty}{xs:List t.den}{lo hi:Option V}{K:List t.den→Prop}(h:CC ei xs lo hi K):
  Ar ei.sz (xs.map (ai t))=ei.sz∧∃hh ll ys,iA (xs.map (ai t)).length (hi.map V.toD) (xs.map (ai t)).length=some hh∧iA hh (lo.map V.toD) 0=some ll∧((xs.map (ai t)).take hh).drop ll=ys.map (ai t)∧K ys:=by
 obtain⟨c,h1⟩:=Chk.ok h
 simp only[beq_iff_eq] at c
 obtain⟨hh,b1,b2,h2⟩:=mE h1
 obtain⟨ll,b3,b4,h3⟩:=mE h2
 refine⟨tr _ _ _ c,hh,ll,_,by rw[az];exact b1,b3,?_,h3⟩
 rw[Hp xs b2 b4,←List.map_take,←List.map_drop]
theorem row_all {t:Ty}(ht:t.pure=true)(xs:List t.den):((xs.map (ai t)).all fun e=>e.cells.all D.pure0)=true:=by
 rw[aM]
 intro e he
 obtain⟨x,_,rfl⟩:=aB.1 he
 exact(ki ht x).2
theorem Dd {P:Program}{Θ:TT}(hΘ:Θ.ok P){T:TypeId}{ti:TI}(ht:ti.ok P T){h:VH}{n:Nat}(hn:∀c:Id,n≤c.1→look (toH h) c=none){v:V}{lo hi:Option V}{K:Bool→V→VH→Prop}(hk:Af Θ ti h n v lo hi K):∃q r u vu,fN P (toH h) q (n,0) T v.toD (lo.map V.toD) (hi.map V.toD)=some (r.toD,u)∧cS h u vu∧K q r vu:=by
 have hu:=ht.und
 unfold Af at hk
 split at hk
 ·rename_i e
  rw[e] at hu
  split at hk
  ·rename_i s
   obtain⟨hh,b1,b2,h2⟩:=mE hk
   obtain⟨ll,b3,b4,h3⟩:=mE h2
   refine⟨_,_,[],_,?_,a7,h3⟩
   unfold fN
   simp only[show P.underlying T=some .string from hu,V.toD,b1,b3]
  ·exact hk.elim
 ·rename_i E e
  rw[e] at hu
  have hu':P.underlying T=some (.slice E):=hu
  obtain⟨ei,l1,hk⟩:=aD hk
  have hei:=hΘ _ _ l1
  unfold fN
  simp only[hu',hei.size]
  split at hk
  ·obtain⟨c,hh,ll,ys,b1,b2,b3,h3⟩:=n8 hei hk
   exact⟨_,_,[],_,by simp only[V.toD,elems,c,if_true,b1,b2,b3],a7,h3⟩
  ·obtain⟨c,hh,ll,ys,b1,b2,b3,h3⟩:=n8 hei hk
   simp only[eq] at c b1 b3
   exact⟨_,_,[],_,by simp only[V.toD,elems,c,if_true,b1,b2,b3],a7,h3⟩
  ·rename_i b _
   obtain⟨x,x1,h2⟩:=bh hk
   split at h2
   ·rename_i E' t xs
    have hl:=av (i:=0) x1 (d:=.row E' (xs.map (ai t))) rfl
    split at h2
    ·obtain⟨cp,h2⟩:=h2.ok
     obtain⟨c,hh,ll,ys,b1,b2,b3,h3⟩:=n8 hei h2
     refine⟨_,_,[((b,0),.froz (xs.map (ai t)))],_,?_,gV x1 rfl rfl,h3⟩
     simp only[V.toD,elems,hl,c,if_true,b1,b2,b3,eW,if_false,row_all cp]
    ·obtain⟨c0,h9⟩:=h2.ok
     clear h2
     cases lo with
     |some l=>cases c0
     |none=>
      have hbn:b≠n:=by rintro rfl;simp at c0
      obtain⟨c,hh,ll,ys,b1,b2,b3,h3⟩:=n8 hei h9
      simp only[Option.map_none,iA,aw] at b2
      subst b2
      refine⟨_,.ref n,[((b,0),.gone),((n,0),.row E' (ys.map (ai t)))],_,?_,wn hn x1 rfl hbn rfl,h3⟩
      rw[List.drop_zero] at b3
      have e0:∀q:Nat,iA q (none:Option D) 0=some 0:=fun _=>rfl
      simp only[V.toD,elems,hl,c,if_true,b1,Option.map_none,e0,b3]
   ·rename_i t xs
    have hl:=av (i:=0) x1 (d:=.froz (xs.map (ai t))) rfl
    obtain⟨c,hh,ll,ys,b1,b2,b3,h3⟩:=n8 hei h2
    exact⟨false,_,[],_,by simp only[V.toD,elems,hl,c,if_true,b1,b2,b3],a7,h3⟩
   ·exact h2.elim
  ·exact hk.elim
 ·rename_i m E e
  rw[e] at hu
  split at hk
  ·obtain⟨ei,l1,hk⟩:=aD hk
   obtain⟨x,x1,h2⟩:=bh hk
   split at h2
   ·rename_i T' cs
    have hl:=av (i:=0) x1 (d:=.var T' (ak cs)) rfl
    obtain⟨c,h3⟩:=h2.ok
    simp only[decide_eq_true_eq] at c
    refine⟨_,_,[],_,?_,a7,h3⟩
    unfold fN
    simp only[show P.underlying T=some (.array m E) from hu,V.toD,(hΘ _ _ l1).size,Option.map_none,hl,if_pos c]
   ·rename_i T' pre m' t xs post
    have hl:=av (i:=0) x1 (d:=.var T' (ak pre++xs.map (ai t)++ak post)) rfl
    obtain⟨c,h3⟩:=h2.ok
    simp only[decide_eq_true_eq] at c
    refine⟨_,_,[],_,?_,a7,h3⟩
    unfold fN
    simp only[show P.underlying T=some (.array m E) from hu,V.toD,(hΘ _ _ l1).size,Option.map_none,hl,if_pos c]
   ·exact h2.elim
  ·exact hk.elim
 ·exact hk.elim
def uZ (t:Ty)(xs:List t.den)(K:ByteArray→Prop):Prop:=
 match t,xs with
 | .int .u8,xs=>K ⟨(xs.map fun n:Int=>UInt8.ofNat n.toNat).toArray⟩
 |_,_=>False
theorem y5 {t:Ty}{xs:List t.den}{K:ByteArray→Prop}(h:uZ t xs K):∃bs,(xs.map (ai t)).mapM mF=some bs∧K ⟨bs.toArray⟩:=by
 unfold uZ at h
 split at h
 ·rename_i xs
  refine⟨_,?_,h⟩
  rw[show xs.map (ai (.int .u8))=xs.map (D.int .u8) from rfl,List.mapM_map]
  exact up (f:=mF∘D.int .u8) fun x _=>rfl
 ·exact h.elim
def DX (Θ:TT)(ti si:TI)(h:VH)(v:V)(K:V→Prop):Prop:=
 match ti.k with
 | .int k=>(match v,si.k with
  | .int _ n,.int _=>Ari k n fun z=>K (.int k z)
  |_,_=>False)
 | .str=>(match si.k with
  | .str=>(match v with
   | .str s=>K (.str s)
   |_=>False)
  | .slice E=>bI Θ E fun ei=>(match ei.k with
   | .int .u8=>Chk (ei.sz==1) (pu h v fun t xs=>uZ t xs fun s=>K (.str s))
   |_=>False)
  |_=>False)
 |_=>False
theorem DY {P:Program}{Θ:TT}(hΘ:Θ.ok P){S T:TypeId}{ti si:TI}(ht:ti.ok P T)(hs:si.ok P S){h:VH}{v:V}{K:V→Prop}(hk:DX Θ ti si h v K):∃r,nj P (toH h) S T v.toD=some r.toD∧K r:=by
 have hu:=ht.und
 have hv:=hs.und
 unfold DX at hk
 split at hk
 ·rename_i k e
  rw[e] at hu
  split at hk
  ·rename_i k1 n1 k2 e2
   rw[e2] at hv
   refine⟨_,?_,hk.ok⟩
   unfold nj
   simp only[show P.underlying T=some (.int k) from hu,show P.underlying S=some (.int k2) from hv,V.toD]
  ·exact hk.elim
 ·rename_i e
  rw[e] at hu
  split at hk
  ·rename_i e2
   rw[e2] at hv
   split at hk
   ·refine⟨_,?_,hk⟩
    unfold nj
    simp only[show P.underlying T=some .string from hu,show P.underlying S=some .string from hv,V.toD]
   ·exact hk.elim
  ·rename_i E e2
   rw[e2] at hv
   obtain⟨ei,l1,hk⟩:=aD hk
   have hei:=hΘ _ _ l1
   have hek:=hei.und
   split at hk
   ·rename_i e3
    rw[e3] at hek
    obtain⟨c,hk⟩:=hk.ok
    simp only[beq_iff_eq] at c
    obtain⟨t,xs,h1,h2⟩:=mK hk
    obtain⟨bs,h3,h4⟩:=y5 h2
    refine⟨_,?_,h4⟩
    unfold nj
    have hsz:sizeT P E=some 1:=by rw[hei.size,c]
    simp only[show P.underlying T=some .string from hu,show P.underlying S=some (.slice E) from hv,show P.underlying E=some (.int .u8) from hek,hsz,h1,h3,V.toD]
   ·exact hk.elim
  ·exact hk.elim
 ·exact hk.elim
def A5 (t:VT)(x:Option Operand)(K:Option V→Prop):Prop:=
 match x with
 |none=>K none
 |some x=>qq t x fun v=>K (some v)
theorem xg {t:VT}{x:Option Operand}{K:Option V→Prop}(h:A5 t x K):∃v,kj (fL t) x=some (v.map V.toD)∧K v:=by
 unfold A5 at h
 split at h
 ·exact⟨none,rfl,h⟩
 ·obtain⟨v,h1,h2⟩:=cL h
  exact⟨some v,by simp only[kj,h1,aI],h2⟩
def ag (P:Program)(f:FuncId)(vs:List V)(hin:VH)(r:V)(hout:VH):Prop:=Con P f (ak vs) (toH hin) r.toD (toH hout)
def cR (P:Program)(f:FuncId)(vs:List V)(hin:VH)(K:V→VH→Prop):Prop:=∃r hout,ag P f vs hin r hout∧K r hout
def oE (n:Nat):List Nat→Nat→Nat
 |[],i=>n+i
 |o::_,0=>o
 |_::os,i+1=>oE n os i
def gN (os:List Nat)(n k:Nat):Nat:=match k with
 |0=>0
 |1=>1
 |2=>2
 |3=>3
 |k+4=>oE n os k
abbrev gI (g:Nat→Nat):Id→Id:=fun b=>(g b.1,b.2)
def C3 (os:List Nat)(n:Nat):Bool:=j4 os && (os.all fun o=>Nat.ble 4 o && Nat.blt o n) && Nat.ble 4 n
theorem eE {n:Nat}:∀{os:List Nat} {i b:Nat},os[i]?=some b→oE n os i=b
 |[],i,b,h=>by simp at h
 |o::os,0,b,h=>by simpa[oE] using h
 |o::os,i+1,b,h=>by simpa[oE] using eE (os:=os) (i:=i) (by simpa using h)
theorem xZ {n:Nat}:∀{os:List Nat} {i:Nat},os.length≤i→oE n os i=n+(i-os.length)
 |[],i,_=>by simp[oE]
 |o::os,0,h=>by simp at h
 |o::os,i+1,h=>by
  have:=xZ (n:=n) (os:=os) (i:=i) (by simpa using h)
  simp only[oE,this,bF]
  omega
theorem pB (os:List Nat)(n:Nat){k:Nat}(hk:k<4):gN os n k=k:=by
 match k,hk with
 |0,_|1,_|2,_|3,_=>rfl
theorem gS (os:List Nat)(n m:Nat):gN os n (4+m)=oE n os m:=by rw[Nat.add_comm];rfl
theorem BQ {os:List Nat}{n:Nat}(h:C3 os n=true):os.Nodup∧(∀o∈os,4≤o∧o<n)∧4≤n:=by
 unfold C3 at h
 simp only[aA,aM] at h
 obtain⟨⟨h1,h2⟩,h3⟩:=h
 exact⟨iW h1,fun o ho=>⟨Nat.le_of_ble_eq_true (h2 o ho).1,by have:=(h2 o ho).2;simpa[Nat.blt_eq] using this⟩,Nat.le_of_ble_eq_true h3⟩
theorem q9 (os:List Nat)(n k:Nat):(k<4∧gN os n k=k)∨(∃m b,k=4+m∧os[m]?=some b∧gN os n k=b)∨(∃m,k=4+m∧os.length≤m∧gN os n k=n+(m-os.length)):=by
 by_cases hk:k<4
 ·exact .inl ⟨hk,pB os n hk⟩
 ·obtain⟨m,rfl⟩:∃m,k=4+m:=⟨k-4,by omega⟩
  rw[gS]
  by_cases hm:m<os.length
  ·exact .inr (.inl ⟨m,os[m],rfl,am hm,eE (am hm)⟩)
  ·exact .inr (.inr ⟨m,rfl,by omega,xZ (by omega)⟩)
theorem EB {os:List Nat}{n:Nat}(h:C3 os n=true){a b:Nat}(he:gN os n a=gN os n b):a=b:=by
 obtain⟨h1,h2,h3⟩:=BQ h
 rcases q9 os n a with⟨a1,a2⟩|⟨m,x,rfl,a1,a2⟩|⟨m,rfl,a1,a2⟩<;>rcases q9 os n b with⟨b1,b2⟩|⟨m',y,rfl,b1,b2⟩|⟨m',rfl,b1,b2⟩<;>rw[a2,b2] at he
 ·exact he
 ·have:=h2 y (br b1);omega
 ·omega
 ·have:=h2 x (br a1);omega
 ·subst he
  have e1:=(aR.1 a1).1
  have:=(List.getElem?_inj e1 h1).1 (a1.trans b1.symm)
  omega
 ·have:=h2 x (br a1);omega
 ·omega
 ·have:=h2 y (br b1);omega
 ·omega
theorem EA {os:List Nat}{n:Nat}(h:C3 os n=true){a b:Id}(he:gI (gN os n) a=gI (gN os n) b):a=b:=by
 obtain⟨a1,a2⟩:=a
 obtain⟨b1,b2⟩:=b
 simp only[gI,aZ] at he⊢
 exact⟨EB h he.1,he.2⟩
def pS (b:Nat):List Nat→Nat→(Option Nat→Prop)→Prop
 |[],_,K=>K none
 |o::os,i,K=>bif Nat.beq o b then K (some i) else gE (i+1) fun i=>pS b os i K
theorem gc {b:Nat}:∀{os:List Nat} {i:Nat} {K:Option Nat→Prop},pS b os i K→∃r,(r=none→b∉os)∧(∀j,r=some j→∃m,j=i+m∧os[m]?=some b)∧K r
 |[],i,K,hk=>⟨none,by simp,by simp,hk⟩
 |o::os,i,K,hk=>by
  simp only[pS] at hk
  cases hb:Nat.beq o b with
  |true=>
   rw[hb] at hk
   obtain rfl:=cq hb
   exact⟨some i,by simp,fun j hj=>⟨0,by simpa using hj.symm,rfl⟩,hk⟩
  |false=>
   rw[hb] at hk
   simp only[cond_false] at hk
   have hk:=bU hk
   obtain⟨r,h1,h2,h3⟩:=gc hk
   refine⟨r,fun hr hm=>?_,fun j hj=>?_,h3⟩
   ·rcases aJ.1 hm with rfl|hm
    ·simp at hb
    ·exact h1 hr hm
   ·obtain⟨m,e1,e2⟩:=h2 j hj
    exact⟨m+1,by omega,by simpa using e2⟩
def Ty.fams:Ty→List Nat
 | .hr k| .hp k| .vtxo k| .pplm k| .nod k| .evto k=>[k]
 | .pplo k k'=>[k,k']
 |_=>[]
def GF (a b:List Nat):Bool:=a.all fun x=>b.contains x
theorem wg {a b:List Nat}(h:GF a b=true):∀x∈a,x∈b:=by
 unfold GF at h
 rw[aM] at h
 intro x hx
 simpa using h x hx
def N9 (pss:List (List Int)):Option Nat→Option (List Int)
 |some i=>pss[i]?
 |none=>some []
def M4 (pss:List (List Int))(x:VtxO):Option Vtx:=(N9 pss x.parents).map fun ps=>⟨x.round,x.author,ps,x.digest⟩
def OL (pss mss:List (List Int))(x:PplO):Option Ppl:=(M4 pss x.v).bind fun v=>(N9 mss x.members).map fun ms=>⟨v,ms⟩
def OJ (pss:List (List Int))(x:EvtO):Option Evt:=(M4 pss x.v).map fun v=>⟨x.kind,x.a,x.b,v⟩
def OK (pss:List (List Int))(vss:List (List VtxO)):Option Nat→Option (List Vtx)
 |some i=>vss[i]?.bind fun vs=>vs.mapM (M4 pss)
 |none=>some []
def Ob (pss:List (List Int))(xs:List VtxO):List (List Vtx):=(xs.mapM (M4 pss)).toList
def Oa (pss mss:List (List Int))(xs:List PplO):List (List Ppl):=(xs.mapM (OL pss mss)).toList
def N7 (pss:List (List Int))(xs:List EvtO):List (List Evt):=(xs.mapM (OJ pss)).toList
def N8 (pss:List (List Int))(vss:List (List VtxO))(xs:List (Option Nat)):List (List (List Vtx)):=(xs.mapM (OK pss vss)).toList
def D5 (h:VH)(b:Nat)(t:Ty)(xs:List t.den)(K:V→List Nat→Prop):Prop:=
 match t,xs with
 | .vtxo k,xs=>(match aU h k with
  |some (.frow _ (.int .i64) pss)=>fB (Ob pss xs) 0 fun ys=>K (.lst .vtx ys) [b,k]
  |_=>False)
 | .pplo k k',xs=>(match aU h k,aU h k' with
  |some (.frow _ (.int .i64) pss),some (.frow _ (.int .i64) mss)=>fB (Oa pss mss xs) 0 fun ys=>K (.lst .ppl ys) [b,k,k']
  |_,_=>False)
 | .evto k,xs=>(match aU h k with
  |some (.frow _ (.int .i64) pss)=>fB (N7 pss xs) 0 fun ys=>K (.lst .evt ys) [b,k]
  |_=>False)
 | .hr k,xs=>(match aU h k with
  |some (.frow _ (.vtxo k') vss)=>(match aU h k' with
   |some (.frow _ (.int .i64) pss)=>fB (N8 pss vss xs) 0 fun ys=>K (.lst (.lst .vtx) ys) [b,k,k']
   |_=>False)
  |_=>False)
 |_,_=>False
mutual
def cB (os fs:List Nat)(h:VH)(v:V)(K:V→List Nat→Prop):Prop:=
 match v with
 | .ref b=>pS b os 4 fun r=>(match r with
  |some i=>K (.ref i) []
  |none=>(match aU h b with
   |some (.row _ t xs)=>(match t.pure with
    |true=>K (.lst t xs) [b]
    |false=>Chk (os.isEmpty && fs.isEmpty) (D5 h b t xs K))
   |some (.froz t xs)=>K (.lst t xs) [b]
   |_=>False))
 | .ptr b o=>pS b os 4 fun r=>(match r with
  |some i=>K (.ptr i o) []
  |none=>(match aU h b,o with
   |some (.fvb t x),0=>K (.box t x) [b]
   |_,_=>False))
 | .eptr b j o=>pS b os 4 fun r=>(match r with|some i=>K (.eptr i j o) []|none=>False)
 | .vref b o m=>pS b os 4 fun r=>(match r with|some i=>K (.vref i o m) []|none=>False)
 | .aptr b p j=>pS b os 4 fun r=>(match r with|some i=>K (.aptr i p j) []|none=>False)
 | .fref k i=>Chk (fs.contains k) (K (.fref k i) [])
 | .fptr k i o=>Chk (fs.contains k) (K (.fptr k i o) [])
 | .feptr k i j o=>Chk (fs.contains k) (K (.feptr k i j o) [])
 | .faptr k i p j=>Chk (fs.contains k) (K (.faptr k i p j) [])
 | .hro k o=>(match fs.contains k with
  |true=>K (.hro k o) []
  |false=>iT o False fun i=>(match aU h k with
   |some (.frow _ t xss)=>Chk (t.pure && !os.contains k) (fB xss i fun xs=>K (.lst t xs) [k])
   |some (.frowx _ t xss)=>Chk (t.pure && !os.contains k) (fB xss i fun ox=>iT ox False fun xs=>K (.lst t xs) [k])
   |_=>False))
 | .hpo k o=>Chk (fs.contains k) (K (.hpo k o) [])
 | .agg cs=>mh os fs h cs fun cs ws=>K (.agg cs) ws
 | .clo f cs=>mh os fs h cs fun cs ws=>K (.clo f cs) ws
 | .ifc T v=>cB os fs h v fun v ws=>K (.ifc T v) ws
 | .nils=>K (.lst (.int .i64) []) []
 | .int k n=>K (.int k n) []
 | .bool b=>K (.bool b) []
 | .tt=>K .tt []
 | .ff=>K .ff []
 | .str s=>K (.str s) []
 | .lst t xs=>K (.lst t xs) []
 | .box t x=>K (.box t x) []
 | .nilp=>K .nilp []
 | .nilf=>K .nilf []
 | .nili=>K .nili []
 | .gv g=>K (.gv g) []
 | .obo t o=>K (.obo t o) []
 | .junk=>K .junk []
 |_=>False
def mh (os fs:List Nat)(h:VH)(l:List V)(K:List V→List Nat→Prop):Prop:=
 match l with
 |[]=>K [] []
 |v::l=>cB os fs h v fun v ws=>mh os fs h l fun l ws'=>K (v::l) (ws++ws')
end
def NT (h:VH)(b:Nat):Prop:=(∃E t,∃xs:List (Ty.den t),t.pure=true∧look h b=some (.row E t xs))∨(∃t,∃xs:List (Ty.den t),look h b=some (.froz t xs))∨∃t,∃x:Ty.den t,look h b=some (.fvb t x)
def NU (h:VH)(b:Nat):Prop:=(∃E t,∃xs:List (List (Ty.den t)),look h b=some (.frow E t xs))∨(∃E t,∃xs:List (Option (List (Ty.den t))),look h b=some (.frowx E t xs))∨∃E t,∃xs:List (Ty.den t),t.pure=false∧look h b=some (.row E t xs)
def tF (h:VH)(os fs:List Nat)(b:Nat):Prop:=b∉os∧(NT h b∨(b∉fs∧NU h b))
def MH (h:VH)(ws:List Nat)(W:List Id):Prop:=∀b∈ws,∀i,Live (toH h) (b,i)→(b,i)∈W
structure HinOK (os fs:List Nat)(h:VH)(hin:HL):Prop where
 low:∀k∈fs,k<4
 sgl:∀m b,os[m]?=some b→Live hin (4+m,0)
 fam:∀k∈fs,∀i,Live (toH h) (k,i)→Live hin (k,i)
theorem na {os fs:List Nat}{n:Nat}{h:VH}{hin:HL}(H:HinOK os fs h hin){m b:Nat}(hb:os[m]?=some b):VLive (toH h) (gI (gN os n)) hin fs (4+m,0)∧gI (gN os n) (4+m,0)=(b,0):=
 ⟨.inl (H.sgl m b hb),by simp only[gI,gS,eE hb]⟩
theorem qa {os fs:List Nat}{n:Nat}{h:VH}{hin:HL}(H:HinOK os fs h hin){k:Nat}(hk:k∈fs)(i:Nat):VLive (toH h) (gI (gN os n)) hin fs (k,i)∧gI (gN os n) (k,i)=(k,i):=by
 have e:gI (gN os n) (k,i)=(k,i):=by simp only[gI,pB os n (H.low k hk)]
 exact⟨.inr ⟨by rw[e];exact hk,fun hl=>H.fam k hk i (by rw[e] at hl;exact hl)⟩,e⟩
section
variable {os fs:List Nat} {n:Nat} {h:VH} {hin:HL} {W:List Id}
theorem GR (H:HinOK os fs h hin){m b:Nat}(hb:os[m]?=some b):View (toH h) (gI (gN os n)) hin W fs (.ref (b,0)) (.ref (4+m,0)):=by
 obtain⟨h1,h2⟩:=na (n:=n) H hb
 have:=View.ref (W:=W) _ h1
 rwa [h2] at this
theorem yF (H:HinOK os fs h hin){m b:Nat}(hb:os[m]?=some b)(o:Nat):View (toH h) (gI (gN os n)) hin W fs (.ptr (b,0) o) (.ptr (4+m,0) o):=by
 obtain⟨h1,h2⟩:=na (n:=n) H hb
 have:=View.ptr (W:=W) _ o h1
 rwa [h2] at this
theorem Dk (H:HinOK os fs h hin){m b:Nat}(hb:os[m]?=some b)(j o:Nat):View (toH h) (gI (gN os n)) hin W fs (.eptr (b,0) j o) (.eptr (4+m,0) j o):=by
 obtain⟨h1,h2⟩:=na (n:=n) H hb
 have:=View.eptr (W:=W) _ j o h1
 rwa [h2] at this
theorem Dl (H:HinOK os fs h hin){m b:Nat}(hb:os[m]?=some b)(o q:Nat):View (toH h) (gI (gN os n)) hin W fs (.vref (b,0) o q) (.vref (4+m,0) o q):=by
 obtain⟨h1,h2⟩:=na (n:=n) H hb
 have:=View.vref (W:=W) _ o q h1
 rwa [h2] at this
theorem uI (H:HinOK os fs h hin){k:Nat}(hk:k∈fs)(i:Nat):View (toH h) (gI (gN os n)) hin W fs (.ref (k,i)) (.ref (k,i)):=by
 obtain⟨h1,h2⟩:=qa (n:=n) H hk i
 have:=View.ref (W:=W) _ h1
 rwa [h2] at this
theorem p9 (H:HinOK os fs h hin){k:Nat}(hk:k∈fs)(i o:Nat):View (toH h) (gI (gN os n)) hin W fs (.ptr (k,i) o) (.ptr (k,i) o):=by
 obtain⟨h1,h2⟩:=qa (n:=n) H hk i
 have:=View.ptr (W:=W) _ o h1
 rwa [h2] at this
theorem Ax (H:HinOK os fs h hin){k:Nat}(hk:k∈fs)(i j o:Nat):View (toH h) (gI (gN os n)) hin W fs (.eptr (k,i) j o) (.eptr (k,i) j o):=by
 obtain⟨h1,h2⟩:=qa (n:=n) H hk i
 have:=View.eptr (W:=W) _ j o h1
 rwa [h2] at this
theorem jT (H:HinOK os fs h hin){k:Nat}(hk:k∈fs)(o:Option Nat):View (toH h) (gI (gN os n)) hin W fs (mS k o) (mS k o):=by
 cases o with
 |none=>exact .pure 0 _ _ rfl (fun b hb=>by cases hb)
 |some i=>exact uI H hk i
theorem Cg (H:HinOK os fs h hin){k:Nat}(hk:k∈fs)(o:Option Nat):View (toH h) (gI (gN os n)) hin W fs (qu k o) (qu k o):=by
 cases o with
 |none=>exact .pure 0 _ _ rfl (fun b hb=>by cases hb)
 |some i=>exact p9 H hk i 0
theorem m9 {d d':D}{g:Id→Id}{hh:HL}(hd:leaf d=some d'):View hh g hin W fs d d':=.pure 0 _ _ hd (fun b hb=>by cases hb)
theorem kN {cs:List D}{g:Id→Id}{hh:HL}(hc:∀c∈cs,View hh g hin W fs c c):View hh g hin W fs (.agg cs) (.agg cs):=.agg cs cs rfl fun i hi=>hc _ (bj hi)
theorem o7 (H:HinOK os fs h hin){t:Ty}(ht:∀k∈t.fams,k∈fs)(x:t.den):View (toH h) (gI (gN os n)) hin W fs (ai t x) (ai t x):=by
 by_cases hp:t.pure=true
 ·by_cases hag:∃cs,ai t x= .agg cs
  ·obtain⟨cs,he⟩:=hag
   have:=kD hp x
   rw[he] at this⊢
   exact kN fun c hc=>m9 (this c hc)
  ·have hc:(ai t x).cells=[ai t x]:=dh fun cs hcs=>hag ⟨cs,hcs⟩
   exact m9 (kD hp x _ (by rw[hc];exact aY.2 rfl))
 ·have lf:∀d:D,leaf d=some d→View (toH h) (gI (gN os n)) hin W fs d d:=fun d hd=>m9 hd
  cases t<;>simp only[Ty.pure,not_true_eq_false] at hp
  case hr k=>exact jT H (ht k (by simp[Ty.fams])) x
  case hp k=>exact Cg H (ht k (by simp[Ty.fams])) x
  case vtxo k=>
   refine kN fun c hc=>?_
   simp only[aJ,gu,or_false] at hc
   rcases hc with rfl|rfl|rfl|rfl
   ·exact lf _ rfl
   ·exact lf _ rfl
   ·exact jT H (ht k (by simp[Ty.fams])) _
   ·exact lf _ rfl
  case pplm k=>
   refine kN fun c hc=>?_
   simp only[iJ,gx,eo,aJ,gu,or_false] at hc
   rcases hc with rfl|rfl|rfl|rfl|rfl
   ·exact lf _ rfl
   ·exact lf _ rfl
   ·exact lf _ rfl
   ·exact lf _ rfl
   ·exact jT H (ht k (by simp[Ty.fams])) _
  case pplo k k'=>
   refine kN fun c hc=>?_
   simp only[aJ,gu,or_false] at hc
   rcases hc with rfl|rfl|rfl|rfl|rfl
   ·exact lf _ rfl
   ·exact lf _ rfl
   ·exact jT H (ht k (by simp[Ty.fams])) _
   ·exact lf _ rfl
   ·exact jT H (ht k' (by simp[Ty.fams])) _
  case evto k=>
   refine kN fun c hc=>?_
   simp only[aJ,gu,or_false] at hc
   rcases hc with rfl|rfl|rfl|rfl|rfl|rfl|rfl
   ·exact lf _ rfl
   ·exact lf _ rfl
   ·exact lf _ rfl
   ·exact lf _ rfl
   ·exact lf _ rfl
   ·exact jT H (ht k (by simp[Ty.fams])) _
   ·exact lf _ rfl
  case nod k=>
   refine kN fun c hc=>?_
   simp only[iJ,gx,eo,aJ,gu,or_false] at hc
   rcases hc with rfl|rfl|rfl|rfl|rfl|rfl
   ·exact lf _ rfl
   ·exact lf _ rfl
   ·exact lf _ rfl
   ·exact lf _ rfl
   ·exact lf _ rfl
   ·exact jT H (ht k (by simp[Ty.fams])) _
theorem Ch {b:Nat}(hw:(b,0)∈W){t:Ty}{xs:List t.den}{g:Id→Id}(hb:(∃E,t.pure=true∧look h b=some (.row E t xs))∨look h b=some (.froz t xs)):View (toH h) g hin W fs (.ref (b,0)) (.lst (xs.map (ai t))):=by
 refine .pure 1 _ _ ?_ fun c hc=>?_
 ·rcases hb with⟨E,hp,hb⟩|hb
  ·have hl:=av (i:=0) hb (d:=.row E (xs.map (ai t))) rfl
   simp only[purD,hl]
   rw[show (fun x=>leaf x)=leaf from rfl,row_pure hp]
   rfl
  ·have hl:=av (i:=0) hb (d:=.froz (xs.map (ai t))) rfl
   simp only[purD,hl]
 ·unfold idsD at hc
  rcases aJ.1 hc with rfl|hc
  ·exact hw
  ·exfalso
   split at hc
   ·rw[dZ] at hc
    obtain⟨e,_,hc⟩:=hc
    rw[dZ] at hc
    obtain⟨d,_,hc⟩:=hc
    cases hc
   ·cases hc
theorem yG {b i:Nat}(hw:(b,i)∈W){E:TypeId}{t:Ty}{xs:List t.den}{g:Id→Id}(hp:t.pure=true)(hl:look (toH h) (b,i)=some (.row E (xs.map (ai t)))):View (toH h) g hin W fs (.ref (b,i)) (.lst (xs.map (ai t))):=by
 refine .pure 1 _ _ ?_ fun c hc=>?_
 ·simp only[purD,hl]
  rw[show (fun x=>leaf x)=leaf from rfl,row_pure hp]
  rfl
 ·unfold idsD at hc
  rcases aJ.1 hc with rfl|hc
  ·exact hw
  ·exfalso
   split at hc
   ·rw[dZ] at hc
    obtain⟨e,_,hc⟩:=hc
    rw[dZ] at hc
    obtain⟨d,_,hc⟩:=hc
    cases hc
   ·cases hc
theorem oC {α β:Type}{f:α→Option β}{l:List α}{l':List β}(h:l.mapM f=some l'):l.length=l'.length∧∀(i:Nat) x,l[i]?=some x→∃y,l'[i]?=some y∧f x=some y:=by
 induction l generalizing l' with
 |nil=>simp at h;subst h;exact⟨rfl,fun i x hx=>by simp at hx⟩
 |cons a l ih=>
  simp only[iw,qf,Option.pure_def] at h
  obtain⟨y,h1,h⟩:=bE.1 h
  obtain⟨l2,h2,h⟩:=bE.1 h
  obtain rfl:=ar h
  obtain⟨h3,h4⟩:=ih h2
  refine⟨by simp[h3],fun i x hx=>?_⟩
  cases i with
  |zero=>simp at hx;subst hx;exact⟨y,rfl,h1⟩
  |succ i=>simpa using h4 i x (by simpa using hx)
theorem sQ {α β γ δ:Type}{f:α→Option β}{p:γ→α}{q:δ→β}:∀{l:List γ} {l':List δ},l.length=l'.length→(∀(i:Nat) x y,l[i]?=some x→l'[i]?=some y→f (p x)=some (q y))→(l.map p).mapM f=some (l'.map q)
 |[],[],_,_=>rfl
 |[],_::_,h,_=>by cases h
 |_::_,[],h,_=>by cases h
 |x::l,y::l',hl,h=>by simp[iw,h 0 x y rfl rfl,sQ (l:=l) (l':=l') (by simpa using hl) fun i a b ha hb=>h (i+1) a b (by simpa using ha) (by simpa using hb)]
structure DpE (h:VH)(n:Nat)(g:List Nat)(d d':D):Prop where
 pur:purE (purD (toH h) n) d=some d'
 ids:∀c∈d.cells,∀b∈idsD (toH h) n c,b.1∈g∧Live (toH h) b
theorem zg {h:VH}{n:Nat}{g:List Nat}{k i:Nat}{E:TypeId}{ds ds':List D}(hl:look (toH h) (k,i)=some (.row E ds))(hk:k∈g)(hlen:ds.length=ds'.length)(hd:∀(j:Nat) x y,ds[j]?=some x→ds'[j]?=some y→DpE h n g x y):
  purD (toH h) (n+1) (.ref (k,i))=some (.lst ds')∧∀b∈idsD (toH h) (n+1) (.ref (k,i)),b.1∈g∧Live (toH h) b:=by
 constructor
 ·have:=sQ (f:=purE (purD (toH h) n)) (p:=id) (q:=id) hlen fun j x y hx hy=>(hd j x y hx hy).pur
  simp only[List.map_id] at this
  simp only[purD,hl,this,aI]
 ·intro b hb
  simp only[idsD,hl] at hb
  rcases aJ.1 hb with rfl|hb
  ·exact⟨hk,Live.of_look hl⟩
  ·obtain⟨e,he,hb⟩:=dZ.1 hb
   obtain⟨c,hc,hb⟩:=dZ.1 hb
   obtain⟨j,hj⟩:=iM he
   have hj2:j<ds'.length:=by rw[←hlen];exact(aR.1 hj).1
   exact(hd j e _ hj (am hj2)).ids c hc b hb
theorem Hz {h:VH}{n:Nat}{g:List Nat}{t:Ty}(ht:t.pure=true)(x:t.den)(hn:n=0):DpE h n g (ai t x) (ai t x):=by
 subst hn
 exact⟨uC ht x,fun c hc b hb=>by cases hb⟩
theorem A0 {h:VH}{g:List Nat}{k:Nat}{E:TypeId}{pss:List (List Int)}(hk:look h k=some (.frow E (.int .i64) pss))(hg:k∈g){o:Option Nat}{ps:List Int}(hp:N9 pss o=some ps):
  purD (toH h) 1 (mS k o)=some (fW ps)∧∀b∈idsD (toH h) 1 (mS k o),b.1∈g∧Live (toH h) b:=by
 cases o with
 |none=>
  obtain rfl:=ar hp
  exact⟨rfl,fun b hb=>by simp[mS,idsD] at hb⟩
 |some i=>
  have hl:=av (i:=i) hk (d:=.row E (ps.map (ai (.int .i64)))) (by simp only[VB.blks,be];rw[show pss[i]?=some ps from hp];rfl)
  refine zg hl hg rfl fun j x y hx hy=>?_
  rw[lT] at hx
  rw[hx] at hy
  obtain rfl:=ar hy
  obtain⟨e,_,rfl⟩:=aB.1 (br hx)
  exact Hz (t:=.int .i64) rfl e rfl
theorem iC {h:VH}{n:Nat}{g:List Nat}(x:Int):purD (toH h) n (.int .i64 x)=some (.int .i64 x)∧∀b∈idsD (toH h) n (.int .i64 x),b.1∈g∧Live (toH h) b:=by
 cases n<;>exact⟨rfl,fun b hb=>by simp[idsD] at hb⟩
theorem zf {h:VH}{n:Nat}{g:List Nat}:∀{cs cs':List D},cs.length=cs'.length→(∀(i:Nat) c c',cs[i]?=some c→cs'[i]?=some c'→purD (toH h) n c=some c'∧∀b∈idsD (toH h) n c,b.1∈g∧Live (toH h) b)→DpE h n g (.agg cs) (.agg cs'):=by
 intro cs cs' hl hc
 constructor
 ·have:=sQ (f:=purD (toH h) n) (p:=id) (q:=id) hl fun i x y hx hy=>(hc i x y hx hy).1
  simp only[List.map_id] at this
  simp only[purE,this,aI]
 ·intro c hm b hb
  obtain⟨i,hi⟩:=iM (show c∈cs from hm)
  have hi2:i<cs'.length:=by rw[←hl];exact(aR.1 hi).1
  exact(hc i c _ hi (am hi2)).2 b hb
theorem Eb {h:VH}{g:List Nat}{k:Nat}{E:TypeId}{pss:List (List Int)}(hk:look h k=some (.frow E (.int .i64) pss))(hg:k∈g){x:VtxO}{y:Vtx}(hp:M4 pss x=some y):DpE h 1 g (ai (.vtxo k) x) (ai .vtx y):=by
 obtain⟨ps,h1,rfl⟩:=bm.1 hp
 refine zf rfl fun i c c' hc hc'=>?_
 match i with
 |0=>obtain rfl:=ar hc;obtain rfl:=ar hc';exact iC _
 |1=>obtain rfl:=ar hc;obtain rfl:=ar hc';exact iC _
 |2=>obtain rfl:=ar hc;obtain rfl:=ar hc';exact A0 hk hg h1
 |3=>obtain rfl:=ar hc;obtain rfl:=ar hc';exact iC _
 |i+4=>cases hc
theorem Ks {h:VH}{g:List Nat}{k k':Nat}{E E':TypeId}{pss mss:List (List Int)}(hk:look h k=some (.frow E (.int .i64) pss))(hk':look h k'=some (.frow E' (.int .i64) mss))(hg:k∈g)(hg':k'∈g){x:PplO}{y:Ppl}(hp:OL pss mss x=some y):DpE h 1 g (ai (.pplo k k') x) (ai .ppl y):=by
 obtain⟨v,h1,h2⟩:=bE.1 hp
 obtain⟨ms,h3,rfl⟩:=bm.1 h2
 obtain⟨ps,h4,rfl⟩:=bm.1 h1
 refine zf rfl fun i c c' hc hc'=>?_
 match i with
 |0=>obtain rfl:=ar hc;obtain rfl:=ar hc';exact iC _
 |1=>obtain rfl:=ar hc;obtain rfl:=ar hc';exact iC _
 |2=>obtain rfl:=ar hc;obtain rfl:=ar hc';exact A0 hk hg h4
 |3=>obtain rfl:=ar hc;obtain rfl:=ar hc';exact iC _
 |4=>obtain rfl:=ar hc;obtain rfl:=ar hc';exact A0 hk' hg' h3
 |i+5=>cases hc
theorem Kq {h:VH}{g:List Nat}{k:Nat}{E:TypeId}{pss:List (List Int)}(hk:look h k=some (.frow E (.int .i64) pss))(hg:k∈g){x:EvtO}{y:Evt}(hp:OJ pss x=some y):DpE h 1 g (ai (.evto k) x) (ai .evt y):=by
 obtain⟨v,h1,rfl⟩:=bm.1 hp
 obtain⟨ps,h2,rfl⟩:=bm.1 h1
 refine zf rfl fun i c c' hc hc'=>?_
 match i with
 |0=>obtain rfl:=ar hc;obtain rfl:=ar hc';exact iC _
 |1=>obtain rfl:=ar hc;obtain rfl:=ar hc';exact iC _
 |2=>obtain rfl:=ar hc;obtain rfl:=ar hc';exact iC _
 |3=>obtain rfl:=ar hc;obtain rfl:=ar hc';exact iC _
 |4=>obtain rfl:=ar hc;obtain rfl:=ar hc';exact iC _
 |5=>obtain rfl:=ar hc;obtain rfl:=ar hc';exact A0 hk hg h2
 |6=>obtain rfl:=ar hc;obtain rfl:=ar hc';exact iC _
 |i+7=>cases hc
theorem Kr {h:VH}{g:List Nat}{k k':Nat}{E E':TypeId}{pss:List (List Int)}{vss:List (List VtxO)}(hk:look h k=some (.frow E (.vtxo k') vss))(hk':look h k'=some (.frow E' (.int .i64) pss))(hg:k∈g)(hg':k'∈g){o:Option Nat}{y:List Vtx}(hp:OK pss vss o=some y):DpE h 2 g (ai (.hr k) o) (ai (.lst .vtx) y):=by
 cases o with
 |none=>
  obtain rfl:=ar hp
  exact⟨rfl,fun c hc b hb=>by simp[ai,mS,D.cells] at hc;subst hc;simp[idsD] at hb⟩
 |some i=>
  obtain⟨vs,h1,h2⟩:=bE.1 hp
  have hl:=av (i:=i) hk (d:=.row E (vs.map (ai (.vtxo k')))) (by simp only[VB.blks,be,h1,aI])
  obtain⟨h3,h4⟩:=oC h2
  obtain⟨q1,q2⟩:=zg (n:=1) (g:=g) (ds':=y.map (ai .vtx)) hl hg (by simp[h3]) fun j x z hx hz=>by
   rw[be] at hx hz
   obtain⟨a,ha,rfl⟩:=bm.1 hx
   obtain⟨c,hc,rfl⟩:=bm.1 hz
   obtain⟨c2,hc2,hf⟩:=h4 j a ha
   rw[hc] at hc2
   obtain rfl:=ar hc2
   exact Eb hk' hg' hf
  refine⟨q1,fun c hc b hb=>?_⟩
  simp only[ai,mS,D.cells,aY] at hc
  subst hc
  exact q2 b hb
theorem m8 {hin:HL}{W:List Id}{g:Id→Id}{fs:List Nat}{h:VH}{b n:Nat}{E:TypeId}{t t':Ty}{xs:List t.den}{ys:List t'.den}{ws:List Nat}(hb:look h b=some (.row E t xs))(hw:b∈ws)(hW:MH h ws W)(hl:xs.length=ys.length)(hd:∀(i:Nat) x y,xs[i]?=some x→ys[i]?=some y→DpE h n ws (ai t x) (ai t' y)):View (toH h) g hin W fs (.ref (b,0)) (.lst (ys.map (ai t'))):=by
 obtain⟨q1,q2⟩:=zg (n:=n) (g:=ws) (ds':=ys.map (ai t')) (av (i:=0) hb (d:=.row E (xs.map (ai t))) rfl) hw (by simp[hl]) fun j x z hx hz=>by
  rw[be] at hx hz
  obtain⟨a,ha,rfl⟩:=bm.1 hx
  obtain⟨c,hc,rfl⟩:=bm.1 hz
  exact hd j a c ha hc
 exact .pure _ _ _ q1 fun c hc=>hW c.1 (q2 c hc).1 c.2 (q2 c hc).2
theorem oZ {α:Type}{o:Option α}{x:α}(h:o.toList[0]?=some x):o=some x:=by cases o<;>simp at h;rw[h]
theorem D6 {os fs:List Nat}{h:VH}{b:Nat}{E:TypeId}{t:Ty}{xs:List t.den}{K:V→List Nat→Prop}(hos:os=[])(hfs:fs=[])(hp:t.pure=false)(hb:look h b=some (.row E t xs))(hk:D5 h b t xs K):
  ∃v' ws,(∀(g:Id→Id) (hin:HL) (W:List Id) (F:List Nat),MH h ws W→View (toH h) g hin W F (.ref (b,0)) v'.toD)∧(∀b∈ws,tF h os fs b)∧K v' ws:=by
 subst hos hfs
 have r0:tF h [] [] b:=⟨by simp,.inr ⟨by simp,.inr (.inr ⟨E,t,xs,hp,hb⟩)⟩⟩
 have rf:∀k E' t',∀yss:List (List (Ty.den t')),look h k=some (.frow E' t' yss)→tF h [] [] k:=fun k E' t' yss hk=>⟨by simp,.inr ⟨by simp,.inl ⟨E',t',yss,hk⟩⟩⟩
 unfold D5 at hk
 split at hk
 ·rename_i k xs
  split at hk
  ·rename_i E' pss hl
   rw[aS] at hl
   obtain⟨ys,hy,hk⟩:=hk
   have hy:=oC (oZ hy)
   refine⟨_,_,fun g hin W F hW=>m8 (n:=1) hb (by simp) hW hy.1 fun i x y hx hz=>?_,fun c hc=>?_,hk⟩
   ·obtain⟨z,z1,z2⟩:=hy.2 i x hx
    rw[hz] at z1
    obtain rfl:=ar z1
    exact Eb hl (by simp) z2
   ·rcases aJ.1 hc with rfl|hc
    ·exact r0
    ·obtain rfl:=aY.1 hc
     exact rf _ _ _ _ hl
  ·exact hk.elim
 ·rename_i k k' xs
  split at hk
  ·rename_i E' pss E'' mss hl hl'
   rw[aS] at hl hl'
   obtain⟨ys,hy,hk⟩:=hk
   have hy:=oC (oZ hy)
   refine⟨_,_,fun g hin W F hW=>m8 (n:=1) hb (by simp) hW hy.1 fun i x y hx hz=>?_,fun c hc=>?_,hk⟩
   ·obtain⟨z,z1,z2⟩:=hy.2 i x hx
    rw[hz] at z1
    obtain rfl:=ar z1
    exact Ks hl hl' (by simp) (by simp) z2
   ·rcases aJ.1 hc with rfl|hc
    ·exact r0
    ·rcases aJ.1 hc with rfl|hc
     ·exact rf _ _ _ _ hl
     ·obtain rfl:=aY.1 hc
      exact rf _ _ _ _ hl'
  ·exact hk.elim
 ·rename_i k xs
  split at hk
  ·rename_i E' pss hl
   rw[aS] at hl
   obtain⟨ys,hy,hk⟩:=hk
   have hy:=oC (oZ hy)
   refine⟨_,_,fun g hin W F hW=>m8 (n:=1) hb (by simp) hW hy.1 fun i x y hx hz=>?_,fun c hc=>?_,hk⟩
   ·obtain⟨z,z1,z2⟩:=hy.2 i x hx
    rw[hz] at z1
    obtain rfl:=ar z1
    exact Kq hl (by simp) z2
   ·rcases aJ.1 hc with rfl|hc
    ·exact r0
    ·obtain rfl:=aY.1 hc
     exact rf _ _ _ _ hl
  ·exact hk.elim
 ·rename_i k xs
  split at hk
  ·rename_i E' k' vss hl
   split at hk
   ·rename_i E'' pss hl'
    rw[aS] at hl hl'
    obtain⟨ys,hy,hk⟩:=hk
    have hy:=oC (oZ hy)
    refine⟨_,_,fun g hin W F hW=>m8 (n:=2) hb (by simp) hW hy.1 fun i x y hx hz=>?_,fun c hc=>?_,hk⟩
    ·obtain⟨z,z1,z2⟩:=hy.2 i x hx
     rw[hz] at z1
     obtain rfl:=ar z1
     exact Kr hl hl' (by simp) (by simp) z2
    ·rcases aJ.1 hc with rfl|hc
     ·exact r0
     ·rcases aJ.1 hc with rfl|hc
      ·exact rf _ _ _ _ hl
      ·obtain rfl:=aY.1 hc
       exact rf _ _ _ _ hl'
   ·exact hk.elim
  ·exact hk.elim
 ·exact hk.elim
end
end Go.Proofs.YtpefhoohfkeflacGreatDoor.Am
namespace Go.Proofs.YtpefhoohfkeflacGreatDoor.Am
open Go Go.RowKit
variable {P:Program} {os fs:List Nat} {n:Nat} {h:VH}
def Vw (os fs:List Nat)(n:Nat)(h:VH)(ws:List Nat)(v v':V):Prop:=∀hin,HinOK os fs h hin→∀W:List Id,MH h ws W→View (toH h) (gI (gN os n)) hin W fs v.toD v'.toD
def OI (os fs:List Nat)(n:Nat)(h:VH)(ws:List Nat)(l l':List V):Prop:=(ak l).length=(ak l').length∧∀hin,HinOK os fs h hin→∀W:List Id,MH h ws W→∀i,i<(ak l).length→View (toH h) (gI (gN os n)) hin W fs ((ak l).getD i .undef) ((ak l').getD i .undef)
theorem fm {v v':V}{ws:List Nat}(hd:leaf v.toD=some v'.toD):Vw os fs n h ws v v':=fun _ _ _ _=>m9 hd
mutual
theorem tw:∀{v:V} {K:V→List Nat→Prop},cB os fs h v K→∃v' ws,Vw os fs n h ws v v'∧(∀b∈ws,tF h os fs b)∧K v' ws
 | .ref b,K,hk=>by
  simp only[cB] at hk
  obtain⟨r,r1,r2,hk⟩:=gc hk
  split at hk
  ·obtain⟨m,rfl,hm⟩:=r2 _ rfl
   exact⟨_,_,fun hin H W _=>GR H hm,by simp,hk⟩
  ·split at hk
   ·rename_i E t xs hb
    rw[aS] at hb
    split at hk
    ·rename_i c
     exact⟨_,_,fun hin H W hW=>Ch (hW b (by simp) 0 (Live.of_look (av (i:=0) hb rfl))) (.inl ⟨E,c,hb⟩),fun b' hb'=>by simp at hb';subst hb';exact⟨r1 rfl,.inl (.inl ⟨E,t,xs,c,hb⟩)⟩,hk⟩
    ·rename_i c
     obtain⟨c2,hk⟩:=hk.ok
     simp only[aA,List.isEmpty_iff] at c2
     obtain⟨v',ws,d1,d2,d3⟩:=D6 c2.1 c2.2 c hb hk
     exact⟨v',ws,fun hin H W hW=>d1 _ _ _ _ hW,d2,d3⟩
   ·rename_i t xs hb
    rw[aS] at hb
    exact⟨_,_,fun hin H W hW=>Ch (hW b (by simp) 0 (Live.of_look (av (i:=0) hb rfl))) (.inr hb),fun b' hb'=>by simp at hb';subst hb';exact⟨r1 rfl,.inl (.inr (.inl ⟨t,xs,hb⟩))⟩,hk⟩
   ·exact hk.elim
 | .ptr b o,K,hk=>by
  simp only[cB] at hk
  obtain⟨r,r1,r2,hk⟩:=gc hk
  split at hk
  ·obtain⟨m,rfl,hm⟩:=r2 _ rfl
   exact⟨_,_,fun hin H W _=>yF H hm o,by simp,hk⟩
  ·split at hk
   ·rename_i t x hb _
    rw[aS] at hb
    have hl:=av (i:=0) hb (d:=.fvar (ai t x).cells) rfl
    refine⟨_,_,fun hin H W hW=>.pure 1 _ _ (by simp only[V.toD,purD,hl]) fun c hc=>?_,fun b' hb'=>by simp at hb';subst hb';exact⟨r1 rfl,.inl (.inr (.inr ⟨t,x,hb⟩))⟩,hk⟩
    simp only[V.toD,idsD,hl,aJ,gu,or_false] at hc
    subst hc
    exact hW b (by simp) 0 (Live.of_look hl)
   ·exact hk.elim
 | .eptr b j o,K,hk=>by
  simp only[cB] at hk
  obtain⟨r,r1,r2,hk⟩:=gc hk
  split at hk
  ·obtain⟨m,rfl,hm⟩:=r2 _ rfl
   exact⟨_,_,fun hin H W _=>Dk H hm j o,by simp,hk⟩
  ·exact hk.elim
 | .vref b o q,K,hk=>by
  simp only[cB] at hk
  obtain⟨r,r1,r2,hk⟩:=gc hk
  split at hk
  ·obtain⟨m,rfl,hm⟩:=r2 _ rfl
   exact⟨_,_,fun hin H W _=>Dl H hm o q,by simp,hk⟩
  ·exact hk.elim
 | .aptr b p j,K,hk=>by
  simp only[cB] at hk
  obtain⟨r,r1,r2,hk⟩:=gc hk
  split at hk
  ·obtain⟨m,rfl,hm⟩:=r2 _ rfl
   exact⟨_,_,fun hin H W _=>yF H hm (p+j),by simp,hk⟩
  ·exact hk.elim
 | .fref k i,K,hk=>by
  simp only[cB] at hk
  obtain⟨c,hk⟩:=hk.ok
  exact⟨_,_,fun hin H W _=>uI H (by simpa using c) i,by simp,hk⟩
 | .fptr k i o,K,hk=>by
  simp only[cB] at hk
  obtain⟨c,hk⟩:=hk.ok
  exact⟨_,_,fun hin H W _=>p9 H (by simpa using c) i o,by simp,hk⟩
 | .feptr k i j o,K,hk=>by
  simp only[cB] at hk
  obtain⟨c,hk⟩:=hk.ok
  exact⟨_,_,fun hin H W _=>Ax H (by simpa using c) i j o,by simp,hk⟩
 | .faptr k i p j,K,hk=>by
  simp only[cB] at hk
  obtain⟨c,hk⟩:=hk.ok
  exact⟨_,_,fun hin H W _=>p9 H (by simpa using c) i (p+j),by simp,hk⟩
 | .hro k o,K,hk=>by
  simp only[cB] at hk
  split at hk
  ·rename_i c
   exact⟨_,_,fun hin H W _=>jT H (by simpa using c) o,by simp,hk⟩
  ·rename_i c
   have c:k∉fs:=by simpa using c
   cases o with
   |none=>exact(hk.1 rfl).elim
   |some i=>
    have hk:=hk.2 i rfl
    split at hk
    ·rename_i E t xss hb
     rw[aS] at hb
     obtain⟨c2,xs,hxs,hk⟩:=hk.ok
     simp only[aA,fK,List.contains_eq_mem,decide_eq_false_iff_not] at c2
     have hl:=av (i:=i) hb (d:=.row E (xs.map (ai t))) (by simp only[VB.blks,be,hxs,aI])
     exact⟨_,_,fun hin H W hW=>yG (hW k (by simp) i (Live.of_look hl)) c2.1 hl,fun b' hb'=>by simp at hb';subst hb';exact⟨c2.2,.inr ⟨c,.inl ⟨E,t,xss,hb⟩⟩⟩,hk⟩
    ·rename_i E t xss hb
     rw[aS] at hb
     obtain⟨c2,ox,hxs,hk⟩:=hk.ok
     simp only[aA,fK,List.contains_eq_mem,decide_eq_false_iff_not] at c2
     cases ox with
     |none=>exact(hk.1 rfl).elim
     |some xs=>
      have hk:=hk.2 xs rfl
      have hl:=av (i:=i) hb (d:=.row E (xs.map (ai t))) (by simp only[VB.blks,be,hxs,aI,rowX])
      exact⟨_,_,fun hin H W hW=>yG (hW k (by simp) i (Live.of_look hl)) c2.1 hl,fun b' hb'=>by simp at hb';subst hb';exact⟨c2.2,.inr ⟨c,.inr (.inl ⟨E,t,xss,hb⟩)⟩⟩,hk⟩
    ·exact hk.elim
 | .hpo k o,K,hk=>by
  simp only[cB] at hk
  obtain⟨c,hk⟩:=hk.ok
  exact⟨_,_,fun hin H W _=>Cg H (by simpa using c) o,by simp,hk⟩
 | .agg cs,K,hk=>by
  simp only[cB] at hk
  obtain⟨cs',ws,h1,h2,h3⟩:=kM hk
  exact⟨_,ws,fun hin H W hW=>by simp only[V.toD];exact .agg _ _ h1.1 (h1.2 hin H W hW),h2,h3⟩
 | .clo f cs,K,hk=>by
  simp only[cB] at hk
  obtain⟨cs',ws,h1,h2,h3⟩:=kM hk
  exact⟨_,ws,fun hin H W hW=>by simp only[V.toD];exact .clo f _ _ h1.1 (h1.2 hin H W hW),h2,h3⟩
 | .ifc T v,K,hk=>by
  simp only[cB] at hk
  obtain⟨v',ws,h1,h2,h3⟩:=tw hk
  exact⟨_,ws,fun hin H W hW=>by simp only[V.toD];exact .ifc T _ _ (h1 hin H W hW),h2,h3⟩
 | .nils,K,hk=>⟨_,[],fm (v':=.lst (.int .i64) []) rfl,by simp,by simpa only[cB] using hk⟩
 | .int k m,K,hk=>⟨_,[],fm (v':=.int k m) rfl,by simp,by simpa only[cB] using hk⟩
 | .bool b,K,hk=>⟨_,[],fm (v':=.bool b) rfl,by simp,by simpa only[cB] using hk⟩
 | .tt,K,hk=>⟨_,[],fm (v':=.tt) rfl,by simp,by simpa only[cB] using hk⟩
 | .ff,K,hk=>⟨_,[],fm (v':=.ff) rfl,by simp,by simpa only[cB] using hk⟩
 | .str s,K,hk=>⟨_,[],fm (v':=.str s) rfl,by simp,by simpa only[cB] using hk⟩
 | .lst t xs,K,hk=>⟨_,[],fm (v':=.lst t xs) rfl,by simp,by simpa only[cB] using hk⟩
 | .box t x,K,hk=>⟨_,[],fm (v':=.box t x) rfl,by simp,by simpa only[cB] using hk⟩
 | .nilp,K,hk=>⟨_,[],fm (v':=.nilp) rfl,by simp,by simpa only[cB] using hk⟩
 | .nilf,K,hk=>⟨_,[],fm (v':=.nilf) rfl,by simp,by simpa only[cB] using hk⟩
 | .nili,K,hk=>⟨_,[],fm (v':=.nili) rfl,by simp,by simpa only[cB] using hk⟩
 | .obo t o,K,hk=>⟨_,[],fm (v':=.obo t o) (by cases o<;>rfl),by simp,by simpa only[cB] using hk⟩
 | .junk,K,hk=>⟨_,[],fun _ _ _ _=>.junk,by simp,by simpa only[cB] using hk⟩
 | .gv g,K,hk=>⟨.gv g,[],fun _ _ _ _=>.gv g,by simp,by simpa only[cB] using hk⟩
 | .tup _,K,hk| .gp _,K,hk| .iptr ..,K,hk| .undef,K,hk=>by simp only[cB] at hk
theorem kM:∀{l:List V} {K:List V→List Nat→Prop},mh os fs h l K→∃l' ws,OI os fs n h ws l l'∧(∀b∈ws,tF h os fs b)∧K l' ws
 |[],K,hk=>⟨[],[],⟨rfl,fun hin H W _ i hi=>by simp[ak] at hi⟩,by simp,by simpa only[mh] using hk⟩
 |v::l,K,hk=>by
  simp only[mh] at hk
  obtain⟨v',ws,h1,h2,hk⟩:=tw hk
  obtain⟨l',ws',h3,h4,hk⟩:=kM hk
  refine⟨v'::l',ws++ws',⟨by simp only[ak,bF,h3.1],fun hin H W hW i hi=>?_⟩,fun b hb=>?_,hk⟩
  ·cases i with
   |zero=>simpa[ak] using h1 hin H W fun b hb=>hW b (eh _ hb)
   |succ i=>
    have:=h3.2 hin H W (fun b hb=>hW b (eK _ hb)) i (by simpa[ak] using hi)
    simpa[ak] using this
  ·rcases bl.1 hb with hb|hb
   ·exact h2 b hb
   ·exact h4 b hb
end
def j8 (os fs:List Nat)(h:VH):List V→(List V→List Nat→Prop)→Prop
 |[],K=>K [] []
 | .nils::l,K=>j8 os fs h l fun l ws=>K (.nils::l) ws
 |v::l,K=>cB os fs h v fun v' ws=>j8 os fs h l fun l' ws'=>K (v'::l') (ws++ws')
theorem m7:∀{l:List V} {K:List V→List Nat→Prop},j8 os fs h l K→∃l' ws,OI os fs n h ws l l'∧(∀b∈ws,tF h os fs b)∧K l' ws
 |[],K,hk=>⟨[],[],⟨rfl,fun hin H W _ i hi=>by simp[ak] at hi⟩,by simp,by simpa only[j8] using hk⟩
 |v::l,K,hk=>by
  have key:∃v' ws,Vw os fs n h ws v v'∧(∀b∈ws,tF h os fs b)∧j8 os fs h l fun l' ws'=>K (v'::l') (ws++ws'):=by
   by_cases e:v= .nils
   ·subst e
    exact⟨.nils,[],fun hin H W _=>.nils,by simp,by simpa only[j8,eo] using hk⟩
   ·have hk':cB os fs h v fun v' ws=>j8 os fs h l fun l' ws'=>K (v'::l') (ws++ws'):=by
     cases v<;>first|exact hk|exact absurd rfl e
    obtain⟨v',ws,h1,h2,hk⟩:=tw (n:=n) hk'
    exact⟨v',ws,h1,h2,hk⟩
  obtain⟨v',ws,h1,h2,hk⟩:=key
  obtain⟨l',ws',h3,h4,hk⟩:=m7 hk
  refine⟨v'::l',ws++ws',⟨by simp only[ak,bF,h3.1],fun hin H W hW i hi=>?_⟩,fun b hb=>?_,hk⟩
  ·cases i with
   |zero=>simpa[ak] using h1 hin H W fun b hb=>hW b (eh _ hb)
   |succ i=>
    have:=h3.2 hin H W (fun b hb=>hW b (eK _ hb)) i (by simpa[ak] using hi)
    simpa[ak] using this
  ·rcases bl.1 hb with hb|hb
   ·exact h2 b hb
   ·exact h4 b hb
def Aw (os fs:List Nat)(h:VH)(x:VB)(K:VB→List Nat→Prop):Prop:=
 match x with
 | .var T cs=>j8 os fs h cs fun cs ws=>K (.var T cs) ws
 | .vari T pre m t xs post=>Chk (GF t.fams fs) (j8 os fs h pre fun pre ws=>j8 os fs h post fun post ws'=>K (.vari T pre m t xs post) (ws++ws'))
 | .row E t xs=>Chk (GF t.fams fs) (K (.row E t xs) [])
 | .lit E vs=>mh os fs h vs fun vs ws=>K (.lit E vs) ws
 |_=>False
def N1 (os fs:List Nat)(n:Nat)(h:VH)(ws:List Nat)(x x':VB):Prop:=∃d d',x.blks=[d]∧x'.blks=[d']∧∀hin,HinOK os fs h hin→∀W:List Id,MH h ws W→ViewB (toH h) (gI (gN os n)) hin W fs d d'
theorem fE {A B:List D}{i:Nat}(hi:i<A.length):(A++B).getD i .undef=A.getD i .undef:=by simp[aq,cW hi]
theorem fF {A B:List D}{i:Nat}(hi:A.length≤i):(A++B).getD i .undef=B.getD (i-A.length) .undef:=by simp[aq,eJ hi]
theorem Dj {x:VB}{K:VB→List Nat→Prop}(hk:Aw os fs h x K):∃x' ws,N1 os fs n h ws x x'∧(∀b∈ws,tF h os fs b)∧K x' ws:=by
 unfold Aw at hk
 split at hk
 ·rename_i T cs
  obtain⟨cs',ws,h1,h2,hk⟩:=m7 (n:=n) hk
  exact⟨_,ws,⟨_,_,rfl,rfl,fun hin H W hW=>.var T _ _ h1.1 (h1.2 hin H W hW)⟩,h2,hk⟩
 ·rename_i T pre m t xs post
  obtain⟨c,hk⟩:=hk.ok
  obtain⟨pre',ws,h1,h2,hk⟩:=m7 (n:=n) hk
  obtain⟨post',ws',h3,h4,hk⟩:=m7 (n:=n) hk
  refine⟨_,ws++ws',⟨_,_,rfl,rfl,fun hin H W hW=>.var T _ _ ?_ fun i hi=>?_⟩,fun b hb=>(bl.1 hb).elim (h2 b) (h4 b),hk⟩
  ·simp only[aP,h1.1,h3.1]
  ·have g1:=h1.2 hin H W (fun b hb=>hW b (eh _ hb))
   have g3:=h3.2 hin H W (fun b hb=>hW b (eK _ hb))
   by_cases c1:i<(ak pre).length
   ·rw[bH,bH,fE (A:=ak pre) c1,fE (A:=ak pre') (by rw[←h1.1];exact c1)]
    exact g1 i c1
   ·rw[bH,bH,fF (A:=ak pre) (by omega),fF (A:=ak pre') (by rw[←h1.1];omega),←h1.1]
    simp only[aP] at hi
    by_cases c2:i-(ak pre).length<(xs.map (ai t)).length
    ·rw[fE c2,fE c2]
     obtain⟨e,he,hee⟩:=aB.1 (bj c2)
     rw[←hee]
     exact o7 H (wg c) e
    ·rw[fF (by omega),fF (by omega)]
     exact g3 _ (by omega)
 ·rename_i E t xs
  obtain⟨c,hk⟩:=hk.ok
  refine⟨_,[],⟨_,_,rfl,rfl,fun hin H W hW=>.row E _ _ rfl fun i hi=>?_⟩,by simp,hk⟩
  obtain⟨e,he,hee⟩:=aB.1 (bj hi)
  rw[←hee]
  exact o7 H (wg c) e
 ·rename_i E cs
  obtain⟨cs',ws,h1,h2,hk⟩:=kM (n:=n) hk
  exact⟨_,ws,⟨_,_,rfl,rfl,fun hin H W hW=>.row E _ _ h1.1 (h1.2 hin H W hW)⟩,h2,hk⟩
 ·exact hk.elim
def Gu (os fs:List Nat)(h:VH):List Nat→Nat→(VH→List Nat→Prop)→Prop
 |[],_,K=>K [] []
 |b::l,i,K=>eO h b fun x=>Aw os fs h x fun x' ws=>gE (i+1) fun j=>Gu os fs h l j fun r ws'=>K ((i,x')::r) (ws++ws')
theorem yp:∀{l:List Nat} {i:Nat} {K:VH→List Nat→Prop},Gu os fs h l i K→∃hs ws,(∀k x,look hs k=some x→∃m,k=i+m∧m<l.length)∧(∀m b,l[m]?=some b→∃x x',look h b=some x∧look hs (i+m)=some x'∧N1 os fs n h ws x x')∧(∀b∈ws,tF h os fs b)∧K hs ws
 |[],i,K,hk=>⟨[],[],(fun k x hx=>by cases hx),by simp,by simp,hk⟩
 |b::l,i,K,hk=>by
  obtain⟨x,hx,hk⟩:=bh hk
  obtain⟨x',ws,h1,h2,hk⟩:=Dj (n:=n) hk
  obtain⟨hs,ws',h3,h4,h5,hk⟩:=yp (bU hk)
  refine⟨(i,x')::hs,ws++ws',fun k y hy=>?_,fun m b' hm=>?_,fun b hb=>(bl.1 hb).elim (h2 b) (h5 b),hk⟩
  ·simp only[look] at hy
   split at hy
   ·rename_i e;exact⟨0,by omega,by simp⟩
   ·obtain⟨m,e1,e2⟩:=h3 k y hy
    exact⟨m+1,by omega,by simpa using e2⟩
  ·cases m with
   |zero=>
    simp only[iL,aw] at hm
    subst hm
    obtain⟨d,d',e1,e2,e3⟩:=h1
    exact⟨x,x',hx,by simp[look],d,d',e1,e2,fun hin H W hW=>e3 hin H W fun b hb=>hW b (eh _ hb)⟩
   |succ m=>
    obtain⟨y,y',q1,q2,d,d',e1,e2,e3⟩:=h4 m b' (by simpa using hm)
    refine⟨y,y',q1,?_,d,d',e1,e2,fun hin H W hW=>e3 hin H W fun b hb=>hW b (eK _ hb)⟩
    simp only[look]
    rw[if_neg (by omega),show i+(m+1)=i+1+m by omega]
    exact q2
def VB.fams:VB→List Nat
 | .vari _ _ _ t _ _=>t.fams
 | .row _ t _=>t.fams
 | .fvar _ t _=>t.fams
 | .fvari _ _ t _=>t.fams
 | .frow _ t _=>t.fams
 | .frowx _ t _=>t.fams
 |_=>[]
def El (fs:List Nat)(h:VH):List Nat→(VH→Prop)→Prop
 |[],K=>K []
 |k::l,K=>eO h k fun x=>Chk (!x.sgl && GF x.fams fs) (El fs h l fun r=>K ((k,x)::r))
theorem xk:∀{l:List Nat} {K:VH→Prop},El fs h l K→∃hf,(∀k x,look hf k=some x→k∈l∧look h k=some x∧x.sgl=false∧∀j∈x.fams,j∈fs)∧(∀k∈l,∃x,look hf k=some x)∧K hf
 |[],K,hk=>⟨[],(fun k x hx=>by cases hx),by simp,hk⟩
 |k::l,K,hk=>by
  obtain⟨x,hx,hk⟩:=bh hk
  obtain⟨c,hk⟩:=hk.ok
  simp only[aA,fK] at c
  obtain⟨hf,h1,h2,hk⟩:=xk hk
  refine⟨(k,x)::hf,fun j y hy=>?_,fun j hj=>?_,hk⟩
  ·simp only[look] at hy
   split at hy
   ·rename_i e
    simp only[aw] at hy
    subst hy e
    exact⟨bk ..,hx,c.1,wg c.2⟩
   ·obtain⟨q1,q2⟩:=h1 j y hy
    exact⟨bA _ q1,q2⟩
  ·simp only[look]
   by_cases e:j=k
   ·exact⟨x,by rw[if_pos e]⟩
   ·rw[if_neg e]
    rcases aJ.1 hj with rfl|hj
    ·exact absurd rfl e
    ·exact h2 j hj
theorem GQ {x:VB}{hin:HL}{W:List Id}(H:HinOK os fs h hin)(hs:x.sgl=false)(hf:∀j∈x.fams,j∈fs):∀d∈x.blks,ViewB (toH h) (gI (gN os n)) hin W fs d d:=by
 intro d hd
 have key:∀(t:Ty) (xs:List t.den),(∀k∈t.fams,k∈fs)→∀i,i<(xs.map (ai t)).length→View (toH h) (gI (gN os n)) hin W fs ((xs.map (ai t)).getD i .undef) ((xs.map (ai t)).getD i .undef):=by
  intro t xs ht i hi
  obtain⟨e,he,hee⟩:=aB.1 (bj hi)
  rw[←hee]
  exact o7 H ht e
 cases x<;>simp[VB.sgl] at hs
 ·rename_i T t xs
  obtain⟨e,_,rfl⟩:=aB.1 hd
  refine .var T _ _ rfl fun i hi=>?_
  have hv:View (toH h) (gI (gN os n)) hin W fs (ai t e) (ai t e):=o7 H hf e
  exact(hv.wf (fR t e)).2 i (by rw[←(fR t e).1];exact hi)
 ·rename_i T m t xss
  obtain⟨xs,_,rfl⟩:=aB.1 hd
  exact .var T _ _ rfl (key t xs hf)
 ·rename_i E t xss
  obtain⟨xs,_,rfl⟩:=aB.1 hd
  exact .row E _ _ rfl (key t xs hf)
 ·rename_i E t xss
  obtain⟨xs,_,rfl⟩:=aB.1 hd
  cases xs with
  |none=>exact .gone
  |some xs=>exact .row E _ _ rfl (key t xs hf)
end Go.Proofs.YtpefhoohfkeflacGreatDoor.Am
namespace Go.Proofs.YtpefhoohfkeflacGreatDoor.Am
open Go Go.RowKit
variable {P:Program} {os fs:List Nat} {n:Nat} {h:VH}
mutual
def ld:V→Bool
 | .lst .. | .box .. | .iptr .. | .obo .. | .gp _| .gv _=>false
 | .agg cs=>gT cs
 | .tup cs=>gT cs
 | .clo _ cs=>gT cs
 | .ifc _ v=>ld v
 |_=>true
def gT:List V→Bool
 |[]=>true
 |v::l=>ld v && gT l
end
theorem gb (k:Nat)(o:Option Nat):noMem (mS k o)=true:=by cases o<;>rfl
theorem sT (k:Nat)(o:Option Nat):noMem (qu k o)=true:=by cases o<;>rfl
mutual
theorem pM:∀v:V,ld v=true→noMem v.toD=true
 | .agg cs,hv=>by simp only[ld] at hv;simp only[V.toD,noMem,eF cs hv]
 | .tup cs,hv=>by simp only[ld] at hv;simp only[V.toD,noMem,eF cs hv]
 | .clo f cs,hv=>by simp only[ld] at hv;simp only[V.toD,noMem,eF cs hv]
 | .ifc T v,hv=>by simp only[ld] at hv;simp only[V.toD,noMem,pM v hv]
 | .hro k o,_=>gb k o
 | .hpo k o,_=>sT k o
 | .lst ..,hv| .box ..,hv| .iptr ..,hv| .obo ..,hv| .gp _,hv| .gv _,hv=>by simp only[ld] at hv;cases hv
 | .int ..,_| .bool _,_| .tt,_| .ff,_| .str _,_| .nilp,_| .nils,_| .nilf,_| .nili,_| .ref _,_| .ptr ..,_| .eptr ..,_| .vref ..,_| .aptr ..,_| .fref ..,_| .fptr ..,_| .feptr ..,_| .faptr ..,_| .undef,_| .junk,_=>by simp only[V.toD,noMem]
theorem eF:∀l:List V,gT l=true→ga (ak l)=true
 |[],_=>rfl
 |v::l,hv=>by
  simp only[gT,aA] at hv
  simp only[ak,ga,pM v hv.1,eF l hv.2,Bool.and_self]
end
def Ty.flat:Ty→Bool
 | .int _| .bool| .str| .txn| .slt| .hr _| .hp _| .vtxo _| .pplo _ _| .evto _=>true
 |_=>false
theorem sx {t:Ty}(h:t.flat=true)(x:t.den):(ai t x).cells.all noMem=true:=by
 cases t<;>first|(cases h;done)|rfl|skip
 ·simp only[ai,(ou _ x).2];simp[gb]
 ·simp only[ai,(ot _ x).2];simp[sT]
 ·simp[ai,D.cells,noMem,gb]
 ·simp[ai,D.cells,noMem,gb]
 ·simp[ai,D.cells,noMem,gb]
theorem xq {t:Ty}(h:t.flat=true)(x:t.den):noMem (ai t x)=true:=by
 cases t<;>first|(cases h;done)|rfl|skip
 ·exact gb _ x
 ·exact sT _ x
 ·simp[ai,noMem,ga,gb]
 ·simp[ai,noMem,ga,gb]
 ·simp[ai,noMem,ga,gb]
def rt:VB→Bool
 | .var _ cs=>gT cs
 | .vari _ pre _ t _ post=>gT pre && gT post && t.flat
 | .row _ t _=>t.flat
 | .lit _ vs=>vs.all fun v=>gT v.cells
 | .froz _ _| .fvb _ _=>false
 | .fvar _ t _=>t.flat
 | .fvari _ _ t _=>t.flat
 | .frow _ t _=>t.flat
 | .frowx _ t _=>t.flat
 | .moved .. | .gone=>true
theorem zQ (l:List D):ga l=true↔∀d∈l,noMem d=true:=by rw[gG,aM]
theorem zR {x:VB}(h:rt x=true):∀d∈x.blks,noMemB d=true:=by
 intro d hd
 have kc:∀(t:Ty) (xs:List t.den),t.flat=true→∀e∈xs.map (ai t),e.cells.all noMem=true:=by
  intro t xs ht e he
  obtain⟨x,_,rfl⟩:=aB.1 he
  exact sx ht x
 have kd:∀(t:Ty) (xs:List t.den),t.flat=true→∀e∈xs.map (ai t),noMem e=true:=by
  intro t xs ht e he
  obtain⟨x,_,rfl⟩:=aB.1 he
  exact xq ht x
 cases x with
 |var T cs=>
  obtain rfl:=aY.1 hd
  simp only[noMemB,←gG]
  exact eF cs h
 |vari T pre m t xs post=>
  obtain rfl:=aY.1 hd
  simp only[rt,aA] at h
  simp only[noMemB,List.all_append,←gG,eF _ h.1.1,eF _ h.1.2,d7,Bool.and_true]
  rw[zQ]
  exact kd t xs h.2
 |row E t xs=>
  obtain rfl:=aY.1 hd
  simp only[noMemB,aM]
  intro e he
  exact aM.1 (kc t xs h e he)
 |lit E vs=>
  obtain rfl:=aY.1 hd
  simp only[rt,aM] at h
  simp only[noMemB,cX,List.all_map,aM]
  intro v hv
  have:=eF _ (h v hv)
  rw[gG] at this
  simp only[Function.comp,bu]
  exact this
 |froz t xs=>cases h
 |fvb t x=>cases h
 |fvar T t xs=>
  obtain⟨e,_,rfl⟩:=aB.1 hd
  exact sx h e
 |fvari T m t xss=>
  obtain⟨xs,_,rfl⟩:=aB.1 hd
  simp only[noMemB,aM]
  exact kd t xs h
 |frow E t xss=>
  obtain⟨xs,_,rfl⟩:=aB.1 hd
  simp only[noMemB,aM]
  intro e he
  exact aM.1 (kc t xs h e he)
 |frowx E t xss=>
  obtain⟨xs,_,rfl⟩:=aB.1 hd
  cases xs with
  |none=>rfl
  |some xs=>
   simp only[rowX,noMemB,aM]
   intro e he
   exact aM.1 (kc t xs h e he)
 |moved k i=>obtain rfl:=aY.1 hd;rfl
 |gone=>obtain rfl:=aY.1 hd;rfl
mutual
def er (g:Nat→Nat)(v:V)(K:V→Prop):Prop:=
 match v with
 | .ref b=>gE (g b) fun b=>K (.ref b)
 | .vref b o n=>gE (g b) fun b=>K (.vref b o n)
 | .ptr b o=>gE (g b) fun b=>K (.ptr b o)
 | .eptr b i o=>gE (g b) fun b=>K (.eptr b i o)
 | .aptr b p i=>gE (g b) fun b=>K (.aptr b p i)
 | .fref k i=>Chk (Nat.beq (g k) k) (K (.fref k i))
 | .fptr k i o=>Chk (Nat.beq (g k) k) (K (.fptr k i o))
 | .feptr k i j o=>Chk (Nat.beq (g k) k) (K (.feptr k i j o))
 | .faptr k i p j=>Chk (Nat.beq (g k) k) (K (.faptr k i p j))
 | .hro k o=>Chk (Nat.beq (g k) k) (K (.hro k o))
 | .hpo k o=>Chk (Nat.beq (g k) k) (K (.hpo k o))
 | .agg cs=>mc g cs fun cs=>K (.agg cs)
 | .tup cs=>mc g cs fun cs=>K (.tup cs)
 | .clo f cs=>mc g cs fun cs=>K (.clo f cs)
 | .ifc T v=>er g v fun v=>K (.ifc T v)
 | .int k n=>K (.int k n)
 | .bool b=>K (.bool b)
 | .tt=>K .tt
 | .ff=>K .ff
 | .str s=>K (.str s)
 | .lst t xs=>K (.lst t xs)
 | .box t x=>K (.box t x)
 | .nilp=>K .nilp
 | .nils=>K .nils
 | .nilf=>K .nilf
 | .nili=>K .nili
 | .gp g=>K (.gp g)
 | .gv g=>K (.gv g)
 | .iptr t x o=>K (.iptr t x o)
 | .obo t o=>K (.obo t o)
 | .undef=>K .undef
 | .junk=>K .junk
def mc (g:Nat→Nat)(l:List V)(K:List V→Prop):Prop:=
 match l with
 |[]=>K []
 |v::l=>er g v fun v=>mc g l fun l=>K (v::l)
end
theorem mb {g:Nat→Nat}{k:Nat}(hk:g k=k)(o:Option Nat):renD (gI g) (mS k o)=mS k o:=by
 cases o with
 |none=>rfl
 |some i=>simp[mS,renD,hk]
theorem Ga {g:Nat→Nat}{k:Nat}(hk:g k=k)(o:Option Nat):renD (gI g) (qu k o)=qu k o:=by
 cases o with
 |none=>rfl
 |some i=>simp[qu,renD,hk]
mutual
theorem vW {g:Nat→Nat}:∀{v:V} {K:V→Prop},er g v K→∃r,renD (gI g) v.toD=r.toD∧K r
 | .ref b,K,h=>⟨.ref (g b),rfl,bU (by simpa only[er] using h)⟩
 | .vref b o n,K,h=>⟨.vref (g b) o n,rfl,bU (by simpa only[er] using h)⟩
 | .ptr b o,K,h=>⟨.ptr (g b) o,rfl,bU (by simpa only[er] using h)⟩
 | .eptr b i o,K,h=>⟨.eptr (g b) i o,rfl,bU (by simpa only[er] using h)⟩
 | .aptr b p i,K,h=>⟨.aptr (g b) p i,rfl,bU (by simpa only[er] using h)⟩
 | .fref k i,K,h=>by simp only[er] at h;obtain⟨c,h⟩:=h.ok;exact⟨.fref k i,by simp[V.toD,renD,cq c],h⟩
 | .fptr k i o,K,h=>by simp only[er] at h;obtain⟨c,h⟩:=h.ok;exact⟨.fptr k i o,by simp[V.toD,renD,cq c],h⟩
 | .feptr k i j o,K,h=>by simp only[er] at h;obtain⟨c,h⟩:=h.ok;exact⟨.feptr k i j o,by simp[V.toD,renD,cq c],h⟩
 | .faptr k i p j,K,h=>by simp only[er] at h;obtain⟨c,h⟩:=h.ok;exact⟨.faptr k i p j,by simp[V.toD,renD,cq c],h⟩
 | .hro k o,K,h=>by simp only[er] at h;obtain⟨c,h⟩:=h.ok;exact⟨.hro k o,mb (cq c) o,h⟩
 | .hpo k o,K,h=>by simp only[er] at h;obtain⟨c,h⟩:=h.ok;exact⟨.hpo k o,Ga (cq c) o,h⟩
 | .agg cs,K,h=>by
  simp only[er] at h
  obtain⟨r,h1,h2⟩:=io h
  exact⟨.agg r,by simp only[V.toD,renD,h1],h2⟩
 | .tup cs,K,h=>by
  simp only[er] at h
  obtain⟨r,h1,h2⟩:=io h
  exact⟨.tup r,by simp only[V.toD,renD,h1],h2⟩
 | .clo f cs,K,h=>by
  simp only[er] at h
  obtain⟨r,h1,h2⟩:=io h
  exact⟨.clo f r,by simp only[V.toD,renD,h1],h2⟩
 | .ifc T v,K,h=>by
  simp only[er] at h
  obtain⟨r,h1,h2⟩:=vW h
  exact⟨.ifc T r,by simp only[V.toD,renD,h1],h2⟩
 | .int k n,K,h=>⟨.int k n,rfl,by simpa only[er] using h⟩
 | .bool b,K,h=>⟨.bool b,rfl,by simpa only[er] using h⟩
 | .tt,K,h=>⟨.tt,rfl,by simpa only[er] using h⟩
 | .ff,K,h=>⟨.ff,rfl,by simpa only[er] using h⟩
 | .str s,K,h=>⟨.str s,rfl,by simpa only[er] using h⟩
 | .lst t xs,K,h=>⟨.lst t xs,rfl,by simpa only[er] using h⟩
 | .box t x,K,h=>⟨.box t x,rfl,by simpa only[er] using h⟩
 | .nilp,K,h=>⟨.nilp,rfl,by simpa only[er] using h⟩
 | .nils,K,h=>⟨.nils,rfl,by simpa only[er] using h⟩
 | .nilf,K,h=>⟨.nilf,rfl,by simpa only[er] using h⟩
 | .nili,K,h=>⟨.nili,rfl,by simpa only[er] using h⟩
 | .gp g,K,h=>⟨.gp g,rfl,by simpa only[er] using h⟩
 | .gv g,K,h=>⟨.gv g,rfl,by simpa only[er] using h⟩
 | .iptr t x o,K,h=>⟨.iptr t x o,rfl,by simpa only[er] using h⟩
 | .obo t o,K,h=>⟨.obo t o,by cases o<;>rfl,by simpa only[er] using h⟩
 | .undef,K,h=>⟨.undef,rfl,by simpa only[er] using h⟩
 | .junk,K,h=>⟨.junk,rfl,by simpa only[er] using h⟩
theorem io {g:Nat→Nat}:∀{l:List V} {K:List V→Prop},mc g l K→∃r,oQ (gI g) (ak l)=ak r∧K r
 |[],K,h=>⟨[],rfl,by simpa only[mc] using h⟩
 |v::l,K,h=>by
  simp only[mc] at h
  obtain⟨v',h1,h2⟩:=vW h
  obtain⟨l',h3,h4⟩:=io h2
  exact⟨v'::l',by simp only[ak,oQ,h1,h3],h4⟩
end
def xp (g:Nat→Nat)(l:List Nat):Bool:=l.all fun k=>Nat.beq (g k) k
theorem mN {g:Nat→Nat}{l:List Nat}(h:xp g l=true):∀k∈l,g k=k:=by
 unfold xp at h
 rw[aM] at h
 exact fun k hk=>cq (h k hk)
theorem BX {g:Nat→Nat}{t:Ty}(ht:∀k∈t.fams,g k=k)(x:t.den):renD (gI g) (ai t x)=ai t x:=by
 cases t<;>try rfl
 case ob t=>cases x<;>rfl
 case hr k=>exact mb (ht k (by simp[Ty.fams])) x
 case hp k=>exact Ga (ht k (by simp[Ty.fams])) x
 case vtxo k=>simp only[ai,renD,oQ,mb (ht k (by simp[Ty.fams]))]
 case pplm k=>simp only[ai,iJ,gx,eo,renD,oQ,mb (ht k (by simp[Ty.fams])),fW]
 case pplo k k'=>simp only[ai,renD,oQ,mb (ht k (by simp[Ty.fams])),mb (ht k' (by simp[Ty.fams]))]
 case evto k=>simp only[ai,renD,oQ,mb (ht k (by simp[Ty.fams]))]
 case nod k=>simp only[ai,iJ,gx,eo,renD,oQ,mb (ht k (by simp[Ty.fams])),fW]
def F7 (g:Nat→Nat)(x:VB)(K:VB→Prop):Prop:=
 match x with
 | .var T cs=>mc g cs fun cs=>K (.var T cs)
 | .vari T pre m t xs post=>Chk (xp g t.fams) (mc g pre fun pre=>mc g post fun post=>K (.vari T pre m t xs post))
 | .row E t xs=>Chk (xp g t.fams) (K (.row E t xs))
 | .lit E vs=>mc g vs fun vs=>K (.lit E vs)
 | .froz t xs=>K (.froz t xs)
 | .fvb t x=>K (.fvb t x)
 | .fvar T t xs=>Chk (xp g t.fams) (K (.fvar T t xs))
 | .fvari T m t xss=>Chk (xp g t.fams) (K (.fvari T m t xss))
 | .frow E t xss=>Chk (xp g t.fams) (K (.frow E t xss))
 | .frowx E t xss=>Chk (xp g t.fams) (K (.frowx E t xss))
 | .moved k i=>gE (g k) fun k=>K (.moved k i)
 | .gone=>K .gone
theorem oR {g:Nat→Nat}{t:Ty}(ht:∀k∈t.fams,g k=k)(xs:List t.den):(xs.map (ai t)).map (renD (gI g))=xs.map (ai t):=by
 rw[ep]
 exact qJ fun x _=>BX ht x
theorem F8 {g:Nat→Nat}{x:VB}{K:VB→Prop}(h:F7 g x K):∃y,y.blks=x.blks.map (renB (gI g))∧K y:=by
 unfold F7 at h
 split at h
 ·obtain⟨r,h1,h2⟩:=io h
  exact⟨_,by simp only[VB.blks,bK,eq,renB,←gU,h1],h2⟩
 ·rename_i T pre m t xs post
  obtain⟨c,h⟩:=h.ok
  obtain⟨r,h1,h2⟩:=io h
  obtain⟨r2,h3,h4⟩:=io h2
  refine⟨_,?_,h4⟩
  rw[gU] at h1 h3
  simp only[VB.blks,bK,eq,renB,ce,h1,h3,oR (mN c)]
 ·rename_i E t xs
  obtain⟨c,h⟩:=h.ok
  exact⟨_,by simp only[VB.blks,bK,eq,renB,oR (mN c)],h⟩
 ·obtain⟨r,h1,h2⟩:=io h
  exact⟨_,by simp only[VB.blks,bK,eq,renB,←gU,h1],h2⟩
 ·exact⟨_,rfl,h⟩
 ·exact⟨_,rfl,h⟩
 ·rename_i T t xs
  obtain⟨c,h⟩:=h.ok
  refine⟨_,?_,h⟩
  simp only[VB.blks,ep]
  refine qJ fun x _=>?_
  simp only[Function.comp,renB]
  rw[←lk,BX (mN c)]
 ·rename_i T m t xss
  obtain⟨c,h⟩:=h.ok
  refine⟨_,?_,h⟩
  simp only[VB.blks,ep]
  refine qJ fun xs _=>?_
  simp only[Function.comp,renB,oR (mN c)]
 ·rename_i E t xss
  obtain⟨c,h⟩:=h.ok
  refine⟨_,?_,h⟩
  simp only[VB.blks,ep]
  refine qJ fun xs _=>?_
  simp only[Function.comp,renB,oR (mN c)]
 ·rename_i E t xss
  obtain⟨c,h⟩:=h.ok
  refine⟨_,?_,h⟩
  simp only[VB.blks,ep]
  refine qJ fun xs _=>?_
  cases xs with
  |none=>rfl
  |some xs=>simp only[Function.comp,rowX,renB,oR (mN c)]
 ·exact⟨_,rfl,bU h⟩
 ·exact⟨_,rfl,h⟩
def Fy (g:Nat→Nat):VH→(VH→Prop)→Prop
 |[],K=>K []
 |(k,x)::l,K=>F7 g x fun y=>gE (g k) fun b=>Fy g l fun u=>K ((b,y)::u)
inductive RenVH (g:Nat→Nat):VH→VH→Prop where
 |nil:RenVH g [] []
 |cons {k:Nat} {x y:VB} {l u:VH} (hy:y.blks=x.blks.map (renB (gI g))) (hl:RenVH g l u):RenVH g ((k,x)::l) ((g k,y)::u)
theorem x6 {g:Nat→Nat}:∀{l:VH} {K:VH→Prop},Fy g l K→∃u,RenVH g l u∧K u
 |[],K,h=>⟨[],.nil,h⟩
 |(k,x)::l,K,h=>by
  obtain⟨y,h1,h2⟩:=F8 h
  obtain⟨u,h3,h4⟩:=x6 (bU h2)
  exact⟨(g k,y)::u,.cons h1 h3,h4⟩
theorem RenVH.look {g:Nat→Nat}(hg:∀a b,g a=g b→a=b){l u:VH}(hr:RenVH g l u):(∀k,(Am.look l k=none→Am.look u (g k)=none)∧∀x,Am.look l k=some x→∃y,Am.look u (g k)=some y∧y.blks=x.blks.map (renB (gI g)))∧∀b,(∀k,Am.look l k≠none→g k≠b)→Am.look u b=none:=by
 induction hr with
 |nil=>exact⟨fun k=>⟨fun _=>rfl,fun x hx=>by cases hx⟩,fun b _=>rfl⟩
 | @cons k0 x0 y0 l u hy hl ih=>
  refine⟨fun k=>?_,fun b hb=>?_⟩
  ·by_cases e:k=k0
   ·subst e
    refine⟨fun hn=>by simp[Am.look] at hn,fun x hx=>⟨y0,by simp[Am.look],?_⟩⟩
    simp[Am.look] at hx
    subst hx
    exact hy
   ·have e':¬g k=g k0:=fun he=>e (hg _ _ he)
    simp only[Am.look,if_neg e,if_neg e']
    exact ih.1 k
  ·have e':¬b=g k0:=fun he=>hb k0 (by simp[Am.look]) he.symm
   simp only[Am.look,if_neg e']
   refine ih.2 b fun k hk=>hb k ?_
   simp only[Am.look]
   split
   ·simp
   ·exact hk
theorem RenVH.keys {g:Nat→Nat}{l u:VH}(hr:RenVH g l u):u.map (·.1)=l.map (fun p=>g p.1):=by
 induction hr with
 |nil=>rfl
 |cons hy hl ih=>simp[ih]
end Go.Proofs.YtpefhoohfkeflacGreatDoor.Am
namespace Go.Proofs.YtpefhoohfkeflacGreatDoor.Am
open Go Go.RowKit
variable {P:Program} {os fs:List Nat} {n:Nat} {h:VH}
theorem pN {α β:Type}{f:α→β}{l:List α}(hf:∀a b,f a=f b→a=b)(h:l.Nodup):(l.map f).Nodup:=mj.2 (List.Pairwise.imp (fun hne e=>hne (hf _ _ e)) h)
theorem oA {κ α:Type}[DecidableEq κ]{us g:List (κ×α)}(hn:(us.map (·.1)).Nodup)(b:κ):look (puts us g) b=match look us b with|some y=>some y|none=>look g b:=by
 cases hl:look us b with
 |some y=>exact j3 us g b y hn (di hl)
 |none=>
  refine aN us g b fun x hx he=>?_
  have:=ij hn (k:=x.1) (a:=x.2) hx
  rw[he,hl] at this
  cases this
theorem pK {κ α:Type}[DecidableEq κ](us:List (κ×α)){g g':List (κ×α)}(b:κ)(hg:look g b=look g' b):look (puts us g) b=look (puts us g') b:=by
 induction us generalizing g g' with
 |nil=>exact hg
 |cons x us ih=>
  show look (puts us (put x.1 x.2 g)) b=look (puts us (put x.1 x.2 g')) b
  refine ih ?_
  rw[af,af,hg]
theorem uH:∀(s:List Nat) (l:VH),(∀p∈tZ s l,p.1.1∉s)∧((tZ s l).map (·.1)).Nodup
 |s,[]=>⟨by simp[tZ],by simp[tZ]⟩
 |s,(k,x)::l=>by
  obtain⟨ih1,ih2⟩:=uH (k::s) l
  have hfam:∀p∈fam k x.blks,p.1.1=k:=by
   intro p hp
   obtain⟨q,_,rfl⟩:=aB.1 hp
   rfl
  have hnd:((fam k x.blks).map (·.1)).Nodup:=by
   have e:∀(l:List Blk) (q:Nat),(((l.zipIdx q).map fun p:Blk×Nat=>(((k,p.2),p.1):Id×Blk)).map (·.1))=(List.range' q l.length).map fun i=>((k,i):Id):=by
    intro l
    induction l with
    |nil=>intro q;rfl
    |cons y l ih=>intro q;simp only[mm,bK,bF,List.range'_succ,ih]
   unfold fam
   rw[e]
   exact pN (fun a b hab=>by simpa using hab) List.nodup_range'
  simp only[tZ]
  cases hc:s.contains k with
  |true=>
   simp only[cond_true,eo]
   exact⟨fun p hp hs=>ih1 p hp (bA _ hs),ih2⟩
  |false=>
   have hk:k∉s:=by simpa using hc
   simp only[cond_false,ce]
   refine⟨fun p hp=>?_,List.nodup_append.2 ⟨hnd,ih2,fun a ha b hb he=>?_⟩⟩
   ·rcases bl.1 hp with hp|hp
    ·rw[hfam p hp];exact hk
    ·exact fun hs=>ih1 p hp (bA _ hs)
   ·obtain⟨p,hp,rfl⟩:=aB.1 ha
    obtain⟨q,hq,rfl⟩:=aB.1 hb
    have:=ih1 q hq
    rw[←he,hfam p hp] at this
    exact this (bk ..)
theorem tv (l:VH):((toH l).map (·.1)).Nodup:=(uH [] l).2
theorem BE {l:VH}{p:Id×Blk}(hp:p∈toH l):∃x,look l p.1.1=some x∧p.2∈x.blks:=by
 have h1:=ij (tv l) (k:=p.1) (a:=p.2) hp
 rw[ap] at h1
 obtain⟨x,h2,h3⟩:=bE.1 h1
 exact⟨x,h2,br h3⟩
theorem un {g:Id→Id}(hg:∀a b,g a=g b→a=b):∀(l:HL),(∀b,look (renH g l) (g b)=(look l b).map (renB g))∧∀c,(∀b,look l b≠none→g b≠c)→look (renH g l) c=none
 |[]=>⟨fun b=>rfl,fun c _=>rfl⟩
 |(b0,x)::l=>by
  obtain⟨h1,h2⟩:=un hg l
  refine⟨fun b=>?_,fun c hc=>?_⟩
  ·show look ((g b0,renB g x)::renH g l) (g b)=_
   simp only[look]
   by_cases e:b=b0
   ·subst e;simp
   ·rw[if_neg fun he=>e (hg _ _ he),if_neg e]
    exact h1 b
  ·show look ((g b0,renB g x)::renH g l) c=none
   simp only[look]
   rw[if_neg fun he=>hc b0 (by simp[look]) he.symm]
   refine h2 c fun b hb=>hc b ?_
   simp only[look]
   split
   ·simp
   ·exact hb
theorem C8 {g:Id→Id}(hg:∀a b,g a=g b→a=b){l:HL}(hn:(l.map (·.1)).Nodup):((renH g l).map (·.1)).Nodup:=by
 unfold renH
 rw[ep]
 have:(fun x:Id×Blk=>x.1)∘(fun p:Id×Blk=>(g p.1,renB g p.2))=g∘(fun x:Id×Blk=>x.1):=rfl
 rw[this,←ep]
 exact pN hg hn
theorem Ce {g:Nat→Nat}(hg:∀a b,g a=g b→a=b){hout u h0:VH}{H:HL}(hH:∀b,look H b=look (toH h0) b)(hr:RenVH g hout u)(hn:(hout.map (·.1)).Nodup)(hc:∀k x,look hout k=some x→∀j,x.blks.length≤j→look (toH h0) (g k,j)=none):
  (∀b,look (puts (renH (gI g) (toH hout)) H) b=look (toH (puts u h0)) b)∧∀x∈renH (gI g) (toH hout),x.1.1∈u.map (·.1):=by
 have hgI:∀a b:Id,gI g a=gI g b→a=b:=by
  rintro⟨a1,a2⟩ ⟨b1,b2⟩ he
  simp only[gI,aZ] at he⊢
  exact⟨hg _ _ he.1,he.2⟩
 have hun:(u.map (·.1)).Nodup:=by
  rw[hr.keys]
  have:(fun p:Nat×VB=>g p.1)=g∘(fun x:Nat×VB=>x.1):=rfl
  rw[this,←ep]
  exact pN hg hn
 obtain⟨q1,q2⟩:=un hgI (toH hout)
 obtain⟨r1,r2⟩:=hr.look hg
 refine⟨fun b=>?_,fun x hx=>?_⟩
 ·rw[oA (C8 hgI (tv hout)),ap,oA hun,hH]
  by_cases hex:∃k x,look hout k=some x∧g k=b.1
  ·obtain⟨k,x,hk,he⟩:=hex
   obtain⟨y,y1,y2⟩:=(r1 k).2 x hk
   have e1:b=gI g (k,b.2):=by simp[gI,he]
   rw[←he,y1,he]
   have e2:look (renH (gI g) (toH hout)) b=(x.blks[b.2]?).map (renB (gI g)):=by
    rw[e1,q1,ap,hk];rfl
   rw[e2]
   simp only[ba,y2,be]
   cases hx:x.blks[b.2]? with
   |some d=>rfl
   |none=>
    simp only[Option.map_none]
    have:=hc k x hk b.2 (by simpa using hx)
    rw[he] at this
    exact this
  ·have e1:look u b.1=none:=r2 b.1 fun k hk he=>hex (by
    cases hl:look hout k with
    |none=>exact absurd hl hk
    |some x=>exact⟨k,x,hl,he⟩)
   have e2:look (renH (gI g) (toH hout)) b=none:=q2 b fun c hcl he=>hex (by
    rw[ap] at hcl
    cases hl:look hout c.1 with
    |none=>rw[hl] at hcl;exact absurd rfl hcl
    |some x=>exact⟨c.1,x,hl,by rw[←he]⟩)
   rw[e1,e2]
   exact ap h0 b
 ·obtain⟨p,hp,rfl⟩:=aB.1 hx
  obtain⟨x,h1,_⟩:=BE hp
  obtain⟨y,h2,_⟩:=(r1 p.1.1).2 x h1
  exact aB.2 ⟨_,di h2,rfl⟩
def N0 (h:VH):List Nat→(VH→Prop)→Prop
 |[],K=>K []
 |b::l,K=>N0 h l fun u=>(match aU h b with
  |some (.row _ t xs)=>Chk t.pure (K ((b,.froz t xs)::u))
  |some (.frow ..)=>False
  |some (.frowx ..)=>False
  |_=>K u)
def yN (h:VH):List Nat→VH
 |[]=>[]
 |b::l=>match aU h b with
  |some (.row _ t xs)=>(b,.froz t xs)::yN h l
  |_=>yN h l
theorem AA:∀{l:List Nat} {K:VH→Prop},N0 h l K→K (yN h l)∧∀b∈l,¬NU h b
 |[],K,hk=>⟨hk,by simp⟩
 |b::l,K,hk=>by
  obtain⟨this,h2⟩:=AA (l:=l) hk
  simp only[yN]
  have key:K (match aU h b with
   |some (.row _ t xs)=>(b,.froz t xs)::yN h l
   |_=>yN h l)∧¬NU h b:=by
   cases hl:aU h b with
   |none=>
    rw[hl] at this
    rw[aS] at hl
    exact⟨this,fun hf=>by rcases hf with⟨E,t,xs,hf⟩|⟨E,t,xs,hf⟩|⟨E,t,xs,_,hf⟩<;>rw[hl] at hf<;>cases hf⟩
   |some x=>
    rw[hl] at this
    rw[aS] at hl
    have hx:(∀E t xs,x≠ .frow E t xs)→(∀E t xs,x≠ .frowx E t xs)→(∀E t xs,t.pure=false→x≠ .row E t xs)→¬NU h b:=fun h1 h2 h3 hf=>by
     rcases hf with⟨E,t,xs,hf⟩|⟨E,t,xs,hf⟩|⟨E,t,xs,hp,hf⟩<;>rw[hl] at hf<;>cases hf
     ·exact h1 _ _ _ rfl
     ·exact h2 _ _ _ rfl
     ·exact h3 _ _ _ hp rfl
    cases x<;>first|exact this.elim|exact⟨this.ok.2,hx (fun _ _ _ he=>by cases he) (fun _ _ _ he=>by cases he) (fun _ _ _ hp he=>by cases he;rw[this.ok.1] at hp;cases hp)⟩|exact⟨this,hx (fun _ _ _ he=>by cases he) (fun _ _ _ he=>by cases he) (fun _ _ _ _ he=>by cases he)⟩
  exact⟨key.1,fun c hc=>(aJ.1 hc).elim (fun e=>e▸key.2) (h2 c)⟩
theorem oB:∀(ws:List Nat) (g:VH) (b:Nat),look (puts (yN h ws) g) b=if b∈ws then(match look h b with|some (.row _ t xs)=>some (.froz t xs)|_=>look g b) else look g b
 |[],g,b=>by simp[yN,puts]
 |c::ws,g,b=>by
  simp only[yN]
  rw[aS]
  split
  ·rename_i E t xs hc
   show look (puts (yN h ws) (put c (.froz t xs) g)) b=_
   rw[oB ws,af]
   by_cases hb:b=c
   ·subst hb
    simp only[if_true,aJ,true_or,hc]
    split
    ·rfl
    ·rfl
   ·by_cases hm:b∈ws
    ·simp[hm,hb]
    ·simp[hm,hb]
  ·rename_i hc
   rw[oB ws]
   by_cases hb:b=c
   ·subst hb
    have:(match look h b with|some (VB.row _ t xs)=>some (VB.froz t xs)|_=>look g b)=look g b:=by
     split
     ·rename_i e;exact absurd e (hc _ _ _)
     ·rfl
    simp[this]
   ·simp[hb]
theorem GO {ws:List Nat}(hw:∀b∈ws,NT h b):cS h (frz (toH h) (ws.map fun b=>(b,0))) (yN h ws)∧∀b∈ws.map (fun b=>((b,0):Id)),∀x,look (toH h) b=some x→x.mutable=true→(frzB (toH h) b).isSome=true:=by
 have fz:∀b E t,∀xs:List (Ty.den t),look h b=some (.row E t xs)→t.pure=true→frzB (toH h) (b,0)=some (.froz (xs.map (ai t))):=by
  intro b E t xs hb hp
  have hl:=av (i:=0) hb (d:=.row E (xs.map (ai t))) rfl
  simp[frzB,hl,row_pure hp]
 refine⟨⟨fun b=>?_,fun x hx=>?_⟩,fun b hb x hx hmu=>?_⟩
 ·obtain⟨b1,b2⟩:=b
  rw[du,ap (puts (yN h ws) h),oB]
  by_cases hm:b1∈ws
  ·rw[if_pos hm]
   rcases hw b1 hm with⟨E,t,xs,hp,hb⟩|⟨t,xs,hb⟩|⟨t,x,hb⟩
   ·rw[hb]
    simp only[ba,VB.blks]
    cases b2 with
    |zero=>
     rw[if_pos (aB.2 ⟨b1,hm,rfl⟩),fz b1 E t xs hb hp]
     rfl
    |succ j=>
     rw[if_neg (by simp)]
     exact FK hb rfl (j+1) (by simp)
   ·rw[hb]
    have e:frzB (toH h) (b1,b2)=none:=by
     unfold frzB
     rw[ap,hb]
     simp only[ba,VB.blks]
     cases b2<;>simp
    rw[e]
    simp only[ite_self]
    rw[ap,hb]
   ·rw[hb]
    have e:frzB (toH h) (b1,b2)=none:=by
     unfold frzB
     rw[ap,hb]
     simp only[ba,VB.blks]
     cases b2<;>simp
    rw[e]
    simp only[ite_self]
    rw[ap,hb]
  ·rw[if_neg (fun hmem=>by obtain⟨c,hc,he⟩:=aB.1 hmem;simp only[aZ] at he;exact hm (he.1▸hc)),if_neg hm,ap]
 ·obtain⟨c,hc,hcx⟩:=List.mem_filterMap.1 hx
  obtain⟨y,hy,rfl⟩:=bm.1 hcx
  obtain⟨b,hb,rfl⟩:=aB.1 hc
  show b∈(yN h ws).map (·.1)
  rcases hw b hb with⟨E,t,xs,hp,hl⟩|⟨t,xs,hl⟩|⟨t,x,hl⟩
  ·have:look (puts (yN h ws) []) b=some (.froz t xs):=by rw[oB,if_pos hb,hl]
   rcases jr (b∈(yN h ws).map (·.1)) with h1|h1
   ·exact h1
   ·rw[aN _ _ _ fun x hx e=>h1 (aB.2 ⟨x,hx,e⟩)] at this
    cases this
  ·exfalso
   have:=av (i:=0) hl (d:=.froz (xs.map (ai t))) rfl
   simp[frzB,this] at hy
  ·exfalso
   have:=av (i:=0) hl (d:=.fvar (ai t x).cells) rfl
   simp[frzB,this] at hy
 ·obtain⟨c,hc,rfl⟩:=aB.1 hb
  rcases hw c hc with⟨E,t,xs,hp,hl⟩|⟨t,xs,hl⟩|⟨t,x',hl⟩
  ·rw[fz c E t xs hl hp];rfl
  ·have:=av (i:=0) hl (d:=.froz (xs.map (ai t))) rfl
   rw[this] at hx;cases hx;cases hmu
  ·have:=av (i:=0) hl (d:=.fvar (ai t x').cells) rfl
   rw[this] at hx;cases hx;cases hmu
end Go.Proofs.YtpefhoohfkeflacGreatDoor.Am
namespace Go.Proofs.YtpefhoohfkeflacGreatDoor.Am
open Go Go.RowKit
variable {P:Program} {os fs:List Nat} {n:Nat} {h:VH}
def bz:VB→Nat
 | .fvar _ _ xs=>xs.length
 | .fvari _ _ _ xss=>xss.length
 | .frow _ _ xss=>xss.length
 | .frowx _ _ xss=>xss.length
 |_=>1
theorem mL (x:VB):x.blks.length=bz x:=by cases x<;>simp[VB.blks,bz]
def keysV:VH→List Nat
 |[]=>[]
 |(k,_)::l=>k::keysV l
theorem fe:∀l:VH,l.map (·.1)=keysV l
 |[]=>rfl
 |(k,x)::l=>by simp[keysV,fe l]
def zc (h:VH)(fs:List Nat):VH→Prop→Prop
 |[],K=>K
 |(k,x)::l,K=>match Nat.blt k 4 with
  |true=>Chk (!x.sgl) (match aU h k with
   |none=>zc h fs l K
   |some y=>Chk (fs.contains k && !y.sgl) (ci (bz y≤bz x) (zc h fs l K)))
  |false=>Chk x.sgl (zc h fs l K)
theorem AV {K:Prop}:∀{l:VH},zc h fs l K→(∀k x,look l k=some x→(k<4∧∀y,look h k=some y→k∈fs∧bz y≤bz x)∨(4≤k∧x.sgl=true))∧K
 |[],hk=>⟨(fun k x hx=>by cases hx),hk⟩
 |(k0,x0)::l,hk=>by
  simp only[zc] at hk
  have key:((k0<4∧∀y,look h k0=some y→k0∈fs∧bz y≤bz x0)∨(4≤k0∧x0.sgl=true))∧zc h fs l K:=by
   split at hk
   ·rename_i hb
    have hlt:k0<4:=by simpa[Nat.blt_eq] using hb
    obtain⟨c,hk⟩:=hk.ok
    split at hk
    ·rename_i hn
     rw[aS] at hn
     exact⟨.inl ⟨hlt,fun y hy=>by rw[hn] at hy;cases hy⟩,hk⟩
    ·rename_i y hy
     rw[aS] at hy
     obtain⟨c2,hle,hk⟩:=hk.ok
     simp only[aA] at c2
     exact⟨.inl ⟨hlt,fun y' hy'=>by rw[hy] at hy';obtain rfl:=ar hy';exact⟨by simpa using c2.1,hle⟩⟩,hk⟩
   ·rename_i hb
    obtain⟨c,hk⟩:=hk.ok
    have hge:4≤k0:=by
     rcases cG k0 4 with hlt|hge
     ·have:Nat.blt k0 4=true:=by simpa[Nat.blt_eq] using hlt
      rw[hb] at this;cases this
     ·exact hge
    exact⟨.inr ⟨hge,c⟩,hk⟩
  obtain⟨k1,k2⟩:=key
  obtain⟨h1,h2⟩:=AV k2
  refine⟨fun k x hx=>?_,h2⟩
  simp only[look] at hx
  split at hx
  ·rename_i e;cases hx;subst e;exact k1
  ·exact h1 k x hx
def HV (hout:VH):List Nat→Nat→Bool
 |[],_=>true
 |_::l,i=>(aU hout i).isSome && HV hout l (i+1)
theorem Bk {hout:VH}:∀{l:List Nat} {i:Nat},HV hout l i=true→∀m,m<l.length→∃x,look hout (i+m)=some x
 |[],i,_,m,hm=>by simp at hm
 |_::l,i,hb,m,hm=>by
  simp only[HV,aA,aS] at hb
  cases m with
  |zero=>exact mq.1 hb.1
  |succ m=>
   have:=Bk hb.2 m (by simpa using hm)
   rwa [show i+1+m=i+(m+1) by omega] at this
def BI (l:VH):Bool:=l.all fun p=>rt p.2
def n3 (P:Program)(h:VH)(n:Nat)(f:FuncId)(vs:List V)(os fs:List Nat)(K:V→VH→List Nat→Prop):Prop:=
 Chk (C3 os n && fs.all (fun k=>Nat.blt k 4)) (mh os fs h vs fun vs' ws=>El fs h fs fun hf=>Gu os fs h os 4 fun hs ws'=>Hc hf hs fun hin=>cR P f vs' hin fun r hout=>
  Chk (j4 (keysV hout) && fs.all (fun k=>(aU hout k).isSome) && HV hout os 4) (zc h fs hout (er (gN os n) r fun r'=>Fy (gN os n) hout fun u=>
   match ld r && BI hout with
   |true=>K r' u ((ws++ws')++fs++keysV u)
   |false=>N0 h (ws++ws') fun u0=>K r' (u0++u) ((ws++ws')++fs++keysV u))))
theorem DJ {f:FuncId}{vs:List V}{K:V→VH→List Nat→Prop}(hfr:∀c:Id,n≤c.1→look (toH h) c=none)(hk:n3 P h n f vs os fs K):
  ∃r u vu gl,(∀f':List Nat,(∀k∈gl,k∈f')→∃c:CallOK P f (toH h) n (ak vs) r.toD u f',∀b,Live c.hout b→(c.g b).1∈f')∧cS h u vu∧K r vu gl:=by
 obtain⟨c0,hk⟩:=hk.ok
 simp only[aA,aM] at c0
 obtain⟨c1,c2⟩:=c0
 have hlow:∀k∈fs,k<4:=fun k hk=>by simpa[Nat.blt_eq] using c2 k hk
 obtain⟨o1,o2,o3⟩:=BQ c1
 obtain⟨vs',ws,v1,v2,hk⟩:=kM (n:=n) hk
 obtain⟨hf,f1,f2,hk⟩:=xk hk
 obtain⟨hs,ws',s1,s2,s3,hk⟩:=yp (n:=n) hk
 have hk:=uT hk
 obtain⟨r,hout,hcon,hk⟩:=hk
 obtain⟨c3,hk⟩:=hk.ok
 simp only[aA,aM] at c3
 obtain⟨⟨c3,c4⟩,c5⟩:=c3
 obtain⟨cov,hk⟩:=AV hk
 obtain⟨r',r1,hk⟩:=vW hk
 obtain⟨u,hr,hk⟩:=x6 hk
 have hg:∀a b,gN os n a=gN os n b→a=b:=fun a b=>EB c1
 have hgI:∀a b:Id,gI (gN os n) a=gI (gN os n) b→a=b:=fun a b=>EA c1
 have hin_look:∀k x,look (hf++hs) k=some x→(k∈fs∧look hf k=some x)∨(∃m b,k=4+m∧os[m]?=some b∧look hs k=some x):=by
  intro k x hx
  rw[ig] at hx
  cases hl:look hf k with
  |some y=>
   rw[hl] at hx
   obtain rfl:=ar hx
   exact .inl ⟨(f1 k _ hl).1,rfl⟩
  |none=>
   rw[hl] at hx
   obtain⟨m,rfl,hm⟩:=s1 k x hx
   exact .inr ⟨m,os[m],rfl,am hm,hx⟩
 have hf_none:∀m,look hf (4+m)=none:=by
  intro m
  cases hl:look hf (4+m) with
  |none=>rfl
  |some y=>have:=hlow _ (f1 _ _ hl).1;omega
 have hin_sgl:∀m b,os[m]?=some b→∃x x',look h b=some x∧look (hf++hs) (4+m)=some x'∧N1 os fs n h ws' x x':=by
  intro m b hb
  obtain⟨x,x',q1,q2,q3⟩:=s2 m b hb
  exact⟨x,x',q1,by rw[ig,hf_none];exact q2,q3⟩
 have hin_fam:∀k∈fs,∃x,look (hf++hs) k=some x∧look h k=some x∧x.sgl=false∧∀j∈x.fams,j∈fs:=by
  intro k hk
  obtain⟨x,hx⟩:=f2 k hk
  obtain⟨_,q2,q3,q4⟩:=f1 k x hx
  exact⟨x,by rw[ig,hx],q2,q3,q4⟩
 have H:HinOK os fs h (toH (hf++hs)):=by
  refine⟨hlow,fun m b hb=>?_,fun k hk i hl=>?_⟩
  ·obtain⟨x,x',q1,q2,d,d',e1,e2,e3⟩:=hin_sgl m b hb
   exact Live.of_look (av q2 (by rw[e2];rfl))
  ·obtain⟨x,q1,q2,q3,q4⟩:=hin_fam k hk
   unfold Live at hl⊢
   rw[ap,q2] at hl
   rw[ap,q1]
   exact hl
 have live_in:∀b,Live (toH (hf++hs)) b→(b.1∈fs∧∃x,look h b.1=some x∧look (hf++hs) b.1=some x∧b.2<x.blks.length)∨∃m c,b=(4+m,0)∧os[m]?=some c:=by
  intro b hb
  unfold Live at hb
  rw[ap] at hb
  cases hl:look (hf++hs) b.1 with
  |none=>rw[hl] at hb;cases hb
  |some x=>
   rw[hl] at hb
   simp only[ba] at hb
   rcases hin_look _ _ hl with⟨g1,g2⟩|⟨m,c,e,g1,g2⟩
   ·obtain⟨_,q2,q3,q4⟩:=f1 _ _ g2
    refine .inl ⟨g1,x,q2,rfl,?_⟩
    rcases cG b.2 x.blks.length with hlt|hge
    ·exact hlt
    ·rw[eg hge] at hb;cases hb
   ·obtain⟨y,y',q1,q2,d,d',e1,e2,_⟩:=hin_sgl m c g1
    rw[e,q2] at hl
    obtain rfl:=ar hl
    rw[e2] at hb
    refine .inr ⟨m,c,?_,g1⟩
    obtain⟨b1,b2⟩:=b
    simp only at e hb⊢
    cases b2 with
    |zero=>rw[e]
    |succ j=>simp at hb
 have hcov:∀k x,look hout k=some x→∀j,x.blks.length≤j→look (toH h) (gN os n k,j)=none:=by
  intro k x hx j hj
  rcases q9 os n k with⟨a1,a2⟩|⟨m,b,rfl,a1,a2⟩|⟨m,rfl,a1,a2⟩<;>rw[a2]
  ·rcases cov k x hx with⟨_,q⟩|⟨q,_⟩
   ·rw[ap]
    cases hl:look h k with
    |none=>rfl
    |some y=>
     simp only[ba]
     rw[eg]
     have:=(q y hl).2
     rw[←mL,←mL] at this
     omega
   ·omega
  ·rcases cov _ x hx with⟨q,_⟩|⟨_,q⟩
   ·omega
   ·obtain⟨d,hd⟩:=VB.sgl_ok q
    rw[hd] at hj
    simp only[mw] at hj
    obtain⟨y,y',q1,q2,e,e',e1,e2,_⟩:=hin_sgl m b a1
    rw[ap,q1]
    simp only[ba,e1]
    rw[eg]
    simpa using hj
  ·exact hfr _ (by show n≤n+_;omega)
 have hW:∀b∈ws++ws',tF h os fs b:=fun b hb=>(bl.1 hb).elim (v2 b) (s3 b)
 have hkeys:=tv hout
 have hnd:(hout.map (·.1)).Nodup:=by rw[fe];exact iW c3
 have hukeys:∀b,Live (toH hout) b→(gI (gN os n) b).1∈keysV u:=by
  intro b hb
  unfold Live at hb
  rw[ap] at hb
  cases hl:look hout b.1 with
  |none=>rw[hl] at hb;cases hb
  |some x=>
   obtain⟨y,y1,_⟩:=((hr.look hg).1 b.1).2 x hl
   rw[←fe]
   exact aB.2 ⟨_,di y1,rfl⟩
 have mk:∀(uu:HL) (W:List Id),MH h (ws++ws') W→(∀b∈W,b.1∈ws++ws')→((noMem r.toD=true∧(∀p∈toH hout,noMemB p.2=true)∧uu=renH (gI (gN os n)) (toH hout))∨((∀b∈W,∀x,look (toH h) b=some x→x.mutable=true→(frzB (toH h) b).isSome=true)∧uu=frz (toH h) W++renH (gI (gN os n)) (toH hout)))→
   ∀f':List Nat,(∀k∈(ws++ws')++fs++keysV u,k∈f')→∃c:CallOK P f (toH h) n (ak vs) r'.toD uu f',∀b,Live c.hout b→(c.g b).1∈f':=by
  intro uu W hcW hWs hupd f' hf'
  refine⟨⟨gI (gN os n),W,fs,ak vs',toH (hf++hs),r.toD,toH hout,hcon,v1.1,?_,?_,hkeys,fun b b' _ _ he=>hgI b b' he,?_,?_,?_,⟨?_,?_,?_⟩,r1.symm,hupd⟩,?_⟩
  ·exact v1.2 _ H _ fun b hb=>hcW b (eh _ hb)
  ·intro b x' hx
   have hlv:Live (toH (hf++hs)) b:=Live.of_look hx
   rcases live_in b hlv with⟨g1,x,g2,g3,g4⟩|⟨m,c,rfl,g1⟩
   ·rw[ap,g3] at hx
    refine⟨x',by simp only[gI,pB os n (hlow _ g1)];rw[ap,g2];exact hx,?_⟩
    obtain⟨y,y1,y2,y3,y4⟩:=hin_fam _ g1
    rw[g2] at y2
    obtain rfl:=ar y2
    exact GQ H y3 y4 x' (br hx)
   ·obtain⟨y,y',q1,q2,d,d',e1,e2,e3⟩:=hin_sgl m c g1
    rw[ap,q2] at hx
    simp only[ba,e2,iL,aw] at hx
    subst hx
    refine⟨d,?_,e3 _ H _ fun b hb=>hcW b (eK _ hb)⟩
    simp only[gI,gS,eE g1]
    exact av q1 (by rw[e1];rfl)
  ·intro b hb
   rcases live_in b hb with⟨g1,x,g2,g3,g4⟩|⟨m,c,rfl,g1⟩
   ·have hl:=c4 _ g1
    rw[aS] at hl
    obtain⟨y,hy⟩:=mq.1 hl
    rcases cov _ _ hy with⟨_,q⟩|⟨q,_⟩
    ·have:=(q x g2).2
     rw[←mL,←mL] at this
     unfold Live
     rw[ap,hy]
     simp only[ba]
     rw[am (by omega)]
     rfl
    ·have:=hlow _ g1;omega
   ·obtain⟨y,hy⟩:=Bk c5 m (aR.1 g1).1
    rcases cov _ _ hy with⟨q,_⟩|⟨_,q⟩
    ·omega
    ·obtain⟨d,hd⟩:=VB.sgl_ok q
     exact Live.of_look (av hy (by rw[hd];rfl))
  ·intro b hb hnb
   have hb':=hb
   unfold Live at hb
   rw[ap] at hb
   cases hl:look hout b.1 with
   |none=>rw[hl] at hb;cases hb
   |some x=>
    rw[hl] at hb
    rcases q9 os n b.1 with⟨a1,a2⟩|⟨m,c,e,a1,a2⟩|⟨m,e,a1,a2⟩<;>simp only[gI]<;>rw[a2]
    ·cases hh:look h b.1 with
     |none=>rw[ap,hh];rfl
     |some y=>
      rcases cov _ _ hl with⟨_,q⟩|⟨q,_⟩
      ·obtain⟨g1,_⟩:=q y hh
       obtain⟨z,z1,z2,_⟩:=hin_fam _ g1
       rw[hh] at z2
       obtain rfl:=ar z2
       unfold Live at hnb
       rw[ap,z1] at hnb
       rw[ap,hh]
       simpa using hnb
      ·omega
    ·exfalso
     rcases cov _ _ hl with⟨q,_⟩|⟨_,q⟩
     ·omega
     ·obtain⟨d,hd⟩:=VB.sgl_ok q
      simp only[ba,hd] at hb
      obtain⟨b1,b2⟩:=b
      simp only at e hb hnb
      cases b2 with
      |zero=>exact hnb (by rw[e];exact H.sgl m c a1)
      |succ j=>simp at hb
    ·exact hfr _ (by show n≤n+_;omega)
  ·intro b hb b' hb' he
   obtain⟨q1,q2⟩:=hW _ (hWs b hb)
   obtain⟨c,i⟩:=b
   rcases live_in b' hb' with⟨g1,x,g2,g3,g4⟩|⟨m,c',rfl,g1⟩
   ·simp only[gI,pB os n (hlow _ g1),aZ] at he
    obtain⟨y,y1,y2,y3,_⟩:=hin_fam _ g1
    rw[he.1] at y2
    rcases q2 with(⟨E,t,xs,_,hb⟩|⟨t,xs,hb⟩|⟨t,x,hb⟩)|⟨q2,_⟩
    ·rw[y2] at hb;cases hb;cases y3
    ·rw[y2] at hb;cases hb;cases y3
    ·rw[y2] at hb;cases hb;cases y3
    ·exact q2 (he.1▸g1)
   ·simp only[gI,gS,eE g1,aZ] at he
    obtain⟨he,_⟩:=he
    subst he
    exact q1 (br g1)
  ·exact fun b hb=>.inl (hf' _ (eK _ (hukeys b hb)))
  ·exact fun b hb=>hf' _ (eh _ (eh _ (hWs b hb)))
  ·exact fun k hk=>hf' _ (eh _ (eK _ hk))
  ·exact fun b hb=>hf' _ (eK _ (hukeys b hb))
 split at hk
 ·rename_i hm
  simp only[aA,BI,aM] at hm
  refine⟨r',_,u,_,mk _ (((toH h).map (·.1)).filter fun b=>decide (b.1∈ws++ws')) (fun b hb i hl=>?_) (fun b hb=>by simpa using(eL.1 hb).2) (.inl ⟨pM r hm.1,fun p hp=>?_,rfl⟩),Ce hg (fun _=>rfl) hr hnd hcov,hk⟩
  ·refine eL.2 ⟨?_,by simpa using hb⟩
   obtain⟨d,hd⟩:=mq.1 hl
   exact aB.2 ⟨_,di hd,rfl⟩
  obtain⟨x,x1,x2⟩:=BE hp
  exact zR (hm.2 _ (di x1)) _ x2
 ·obtain⟨hk,hnf⟩:=AA hk
  have hW1:∀b∈ws++ws',NT h b:=fun b hb=>(hW b hb).2.elim id fun q=>(hnf b hb q.2).elim
  obtain⟨w1,w2⟩:=GO hW1
  refine⟨r',_,_,_,mk _ ((ws++ws').map fun b=>(b,0)) (fun b hb i hl=>?_) (fun b hb=>by obtain⟨c,hc,rfl⟩:=aB.1 hb;exact hc) (.inr ⟨w2,rfl⟩),?_,hk⟩
  ·have h0:i=0:=by
    unfold Live at hl
    cases i with
    |zero=>rfl
    |succ j=>
     rcases hW1 b hb with⟨E,t,xs,_,hx⟩|⟨t,xs,hx⟩|⟨t,x,hx⟩<;>rw[FK hx rfl (j+1) (by simp)] at hl<;>cases hl
   subst h0
   exact aB.2 ⟨b,hb,rfl⟩
  have hcov':∀k x,look hout k=some x→∀j,x.blks.length≤j→look (toH (puts (yN h (ws++ws')) h)) (gN os n k,j)=none:=by
   intro k x hx j hj
   have h1:=hcov k x hx j hj
   rw[←w1.1,du]
   split
   ·rename_i y hy
    exfalso
    split at hy
    ·obtain⟨⟨z,z1,_⟩,_⟩:=kl hy
     rw[h1] at z1;cases z1
    ·cases hy
   ·exact h1
  obtain⟨q1,q2⟩:=Ce hg w1.1 hr hnd hcov'
  refine⟨fun b=>?_,fun x hx=>?_⟩
  ·rw[bD,bD];exact q1 b
  ·rw[ce]
   rcases bl.1 hx with hx|hx
   ·exact eh _ (w1.2 x hx)
   ·exact eK _ (q2 x hx)
end Go.Proofs.YtpefhoohfkeflacGreatDoor.Am
namespace Go.Proofs.YtpefhoohfkeflacGreatDoor.Am
open Go Go.RowKit
variable {P:Program} {N:Nat} {Θ:TT} {t:VT} {h:VH} {n:Nat}
mutual
theorem vz (g:HL):∀(d:D),∀b∈al (fwd g d),b∈al d∨∃c∈al d,look g c=some (.moved b)
 | .ref c,b,hb=>by
  simp only[fwd] at hb
  split at hb
  ·rename_i c' hc
   simp only[al,aY] at hb
   subst hb
   exact .inr ⟨c,by simp[al],hc⟩
  ·cases hb
  ·exact .inl hb
 | .ptr c o,b,hb=>by
  simp only[fwd] at hb
  split at hb
  ·rename_i c' hc
   simp only[al,aY] at hb
   subst hb
   exact .inr ⟨c,by simp[al],hc⟩
  ·split at hb<;>cases hb
  ·exact .inl hb
 | .eptr c i o,b,hb=>by
  simp only[fwd] at hb
  split at hb
  ·rename_i c' hc
   simp only[al,aY] at hb
   subst hb
   exact .inr ⟨c,by simp[al],hc⟩
  ·exact .inl hb
 | .vref c o q,b,hb=>by
  simp only[fwd] at hb
  split at hb
  ·rename_i c' hc
   simp only[al,aY] at hb
   subst hb
   exact .inr ⟨c,by simp[al],hc⟩
  ·exact .inl hb
 | .ifc T d,b,hb=>by
  simp only[fwd,al] at hb
  rcases vz g d b hb with h1|⟨c,h1,h2⟩
  ·exact .inl (by simpa only[al] using h1)
  ·exact .inr ⟨c,by simpa only[al] using h1,h2⟩
 | .clo f cs,b,hb=>by
  simp only[fwd,al] at hb
  rcases oh g cs b hb with h1|⟨c,h1,h2⟩
  ·exact .inl (by simpa only[al] using h1)
  ·exact .inr ⟨c,by simpa only[al] using h1,h2⟩
 | .agg cs,b,hb=>by
  simp only[fwd,al] at hb
  rcases oh g cs b hb with h1|⟨c,h1,h2⟩
  ·exact .inl (by simpa only[al] using h1)
  ·exact .inr ⟨c,by simpa only[al] using h1,h2⟩
 | .tup cs,b,hb=>by
  simp only[fwd,al] at hb
  rcases oh g cs b hb with h1|⟨c,h1,h2⟩
  ·exact .inl (by simpa only[al] using h1)
  ·exact .inr ⟨c,by simpa only[al] using h1,h2⟩
 | .int ..,b,hb| .bool _,b,hb| .str _,b,hb| .lst _,b,hb| .box _,b,hb| .nilp,b,hb| .nils,b,hb| .nilf,b,hb| .nili,b,hb| .gp _,b,hb| .gv _,b,hb| .iptr ..,b,hb| .undef,b,hb| .junk,b,hb=>by simp[fwd,al] at hb
theorem oh (g:HL):∀(l:List D),∀b∈bB (lc g l),b∈bB l∨∃c∈bB l,look g c=some (.moved b)
 |[],b,hb=>by simp[lc,bB] at hb
 |d::l,b,hb=>by
  simp only[lc,bB,bl] at hb⊢
  rcases hb with hb|hb
  ·rcases vz g d b hb with h1|⟨c,h1,h2⟩
   ·exact .inl (.inl h1)
   ·exact .inr ⟨c,.inl h1,h2⟩
  ·rcases oh g l b hb with h1|⟨c,h1,h2⟩
   ·exact .inl (.inr h1)
   ·exact .inr ⟨c,.inr h1,h2⟩
end
def Fv (h:VH):List Nat→List Nat
 |[]=>[]
 |b::l=>match aU h b with
  |some (.moved k _)=>k::Fv h l
  |_=>Fv h l
theorem BG:∀{l:List Nat} {b k i:Nat},b∈l→look h b=some (.moved k i)→k∈Fv h l
 |c::l,b,k,i,hb,hl=>by
  simp only[Fv]
  rcases aJ.1 hb with rfl|hb
  ·rw[aS,hl];simp
  ·have:=BG hb hl
   split
   ·exact bA _ this
   ·exact this
theorem Fw {c b:Id}(hc:look (toH h) c=some (.moved b)):look h c.1=some (.moved b.1 b.2):=by
 rw[ap] at hc
 obtain⟨x,h1,h2⟩:=bE.1 hc
 rw[h1]
 have hm:=br h2
 cases x<;>simp only[VB.blks,aY,aB,reduceCtorEq,and_false,exists_false,Blk.moved.injEq] at hm
 case frowx=>
  obtain⟨y,_,e⟩:=hm
  cases y<;>cases e
 rw[hm]
def Gm (t:VT)(h:VH)(x:Operand):List Nat:=match x with
 | .tmp k=>(match aU t k with|some v=>gq v++Fv h (gq v)|none=>[])
 |_=>[]
def dO (t:VT)(h:VH):List Operand→List Nat
 |[]=>[]
 |x::l=>Gm t h x++dO t h l
theorem zT {v:Value}{d:D}(h:jL v=some d)(g:HL):al d=[]∧al (fwd g d)=[]:=by
 unfold jL at h
 split at h<;>first|(simp only[aw] at h;subst h;exact⟨by simp[al],by simp[fwd,al]⟩)|cases h
theorem Gn (x:Operand):∀k∈oU (fL t) (toH h) x,k∈Gm t h x:=by
 intro k hk
 unfold oU at hk
 cases x with
 |tmp j=>
  simp only[aX,dj] at hk
  simp only[Gm,aS]
  cases hl:look t j with
  |none=>rw[hl] at hk;cases hk
  |some v=>
   rw[hl] at hk
   simp only[aI] at hk
   rcases bl.1 hk with hk|hk
   ·obtain⟨b,hb,rfl⟩:=aB.1 hk
    exact eh _ (kq v b hb)
   ·obtain⟨b,hb,rfl⟩:=aB.1 hk
    rcases vz _ _ b hb with h1|⟨c,h1,h2⟩
    ·exact eh _ (kq v b h1)
    ·exact eK _ (BG (kq v c h1) (Fw h2))
 |const v=>
  simp only[aX] at hk
  cases hv:jL v with
  |none=>rw[hv] at hk;cases hk
  |some d=>
   rw[hv] at hk
   obtain⟨e1,e2⟩:=zT hv (toH h)
   simp[e1,e2,mQ] at hk
 |global g=>
  simp only[aX] at hk
  by_cases hg:(look Gl g).isSome=true
  ·rw[if_pos hg] at hk
   simp[al,fwd,mQ] at hk
  ·rw[if_neg hg] at hk
   simp at hk
 |_=>simp[aX] at hk
theorem tc:∀(l:List Operand),∀k∈uF (fL t) (toH h) l,k∈dO t h l
 |[],k,hk=>by cases hk
 |x::l,k,hk=>by
  simp only[uF,gt,bl] at hk
  simp only[dO,bl]
  rcases hk with hk|hk
  ·exact .inl (Gn x k hk)
  ·exact .inr (tc l k hk)
def qN (t:VT)(h:VH)(op:Op):List Nat:=match lZ op with|true=>dO t h op.operands.toList|false=>[]
theorem B6 (op:Op):∀k∈Ae (fL t) (toH h) op,k∈qN t h op:=by
 intro k hk
 unfold Ae at hk
 unfold qN
 cases hl:lZ op with
 |false=>rw[hl] at hk;cases hk
 |true=>rw[hl] at hk;exact tc _ k hk
def StepOK (P:Program)(N:Nat)(o:Oper)(t:VT)(h:VH)(r:V)(vu:VH)(gl:List Nat):Prop:=∃u,cS h u vu∧∀f:List Nat,(∀k∈gl,k∈f)→OpS P N o (fL t) (toH h) r.toD u f
theorem Ev (g:HL):∃n:Nat,look g (n,0)=none:=by
 have key:∀(l:HL),∃m,∀p∈l,p.1.1<m:=by
  intro l
  induction l with
  |nil=>exact⟨0,by simp⟩
  |cons p l ih=>
   obtain⟨m,hm⟩:=ih
   refine⟨max m (p.1.1+1),fun q hq=>?_⟩
   rcases aJ.1 hq with rfl|hq
   ·omega
   ·have:=hm q hq;omega
 obtain⟨m,hm⟩:=key g
 refine⟨m,?_⟩
 cases hl:look g (m,0) with
 |none=>rfl
 |some x=>have:=hm _ (di hl);simp only at this;omega
theorem FL {t:List (Nat×D)}{h:HL}{m:Bool}{o:Oper}{d:D}{u:HL}{f:List Nat}(hd:∀n,dL P m o.op t h n=some (d,u))(hf:∀k∈Ae t h o.op,k∈f):OpS P N o t h d u f:=by
 intro t' h' ht ha w0 S A ρ a w s
 obtain⟨n,hn⟩:=Ev h'
 refine s.op (m:=m) (n:=n) ?_ hn
 rw[←JE (t:=t') (h:=h) (fs:=f) ?_ ha,←JF ht]
 ·exact hd n
 ·have:Ae t' h o.op=Ae t h o.op:=by
   unfold Ae
   cases hl:lZ o.op with
   |false=>rfl
   |true=>
    simp only[cond_true,uF]
    have hx:∀x∈o.op.operands.toList,oU t' h x=oU t h x:=fun x hx=>by unfold oU;rw[ht x (ly.1 hx)]
    generalize o.op.operands.toList=l at hx
    induction l with
    |nil=>rfl
    |cons x l ih=>rw[gt,gt,hx x (bk ..),ih fun y hy=>hx y (bA _ hy)]
  rw[this]
  exact hf
theorem J3 {m:Bool}{o:Oper}{r:V}{u:HL}{vu:VH}(hd:∀n,dL P m o.op (fL t) (toH h) n=some (r.toD,u))(hu:cS h u vu):StepOK P N o t h r vu (qN t h o.op):=
 ⟨u,hu,fun f hf=>FL hd fun k hk=>hf k (B6 _ k hk)⟩
theorem J4 {m:Bool}{o:Oper}{r:V}{u:HL}{vu:VH}(hn:∀c:Id,n≤c.1→look (toH h) c=none)(hd:dL P m o.op (fL t) (toH h) n=some (r.toD,u))(hu:cS h u vu):StepOK P N o t h r vu (n::qN t h o.op):=
 ⟨u,hu,fun f hf=>IC (hn (n,0) (ax _)) hd (fun k hk=>hf k (bA _ (B6 _ k hk))) (hf n (bk ..))⟩
theorem yv {o:Oper}{r:V}{u1:HL}{v1 v2:VH}{g1 g2:List Nat}(hp:∀f:List Nat,(∀k∈g1,k∈f)→fC P N h u1 v1 f)(hs:StepOK P N o t (puts v1 h) r v2 g2):StepOK P N o t h r (v1++v2) (g1++g2):=by
 obtain⟨u,h1,h2⟩:=hs
 have p0:=hp g1 fun k hk=>hk
 refine⟨u1++u,rK p0.1 h1,fun f hf=>(hp f fun k hk=>hf k (eh _ hk)).2 _ _ _ _ (pQ (fun b=>(p0.1.1 b).symm) (h2 f fun k hk=>hf k (eK _ hk)))⟩
theorem fI {o:Oper}{r:V}{vu:VH}{g g':List Nat}(hs:StepOK P N o t h r vu g)(hg:∀k∈g,k∈g'):StepOK P N o t h r vu g':=by
 obtain⟨u,h1,h2⟩:=hs
 exact⟨u,h1,fun f hf=>h2 f fun k hk=>hf k (hg k hk)⟩
theorem p8 {o:Oper}{f:FuncId}{vs:List V}{os fs:List Nat}{K:V→VH→List Nat→Prop}(hn:∀c:Id,n≤c.1→look (toH h) c=none)(hc:qo P (fL t) (toH h) o f (ak vs))(hk:n3 P h n f vs os fs K):
  ∃r vu gl,StepOK P N o t h r vu (dO t h o.op.operands.toList++gl)∧K r vu gl:=by
 obtain⟨r,u,vu,gl,h1,h2,h3⟩:=DJ hn hk
 refine⟨r,vu,gl,⟨u,h2,fun f' hf'=>?_⟩,h3⟩
 obtain⟨c,hc'⟩:=h1 f' fun k hk=>hf' k (eK _ hk)
 exact FM hn hc c (fun k hk=>hf' k (eh _ (tc _ k hk))) hc'
end Go.Proofs.YtpefhoohfkeflacGreatDoor.Am
namespace Go.Proofs.YtpefhoohfkeflacGreatDoor.Am
open Go Go.RowKit
variable {P:Program} {N:Nat} {Θ:TT} {t:VT} {h:VH} {n:Nat}
mutual
def M8 (own:Bool)(h:VH):V→List Nat
 | .ref b=>(match aU h b with
  |some (.row _ t _)=>bif own|| !t.pure then[b] else[]
  |some (.lit ..)=>[b]
  |_=>[])
 | .ptr b _=>(match aU h b with
  |some (.fvb ..)=>[]
  |_=>[b])
 | .agg cs=>oq own h cs
 | .tup cs=>oq own h cs
 | .clo _ cs=>oq own h cs
 | .ifc _ v=>M8 own h v
 |v=>EM v
def oq (own:Bool)(h:VH):List V→List Nat
 |[]=>[]
 |v::l=>M8 own h v++oq own h l
end
def Ot (own:Bool)(h:VH):VB→List Nat
 | .var _ cs=>oq own h cs
 | .vari _ pre _ t _ post=>oq own h pre++t.fams++oq own h post
 | .lit _ vs=>oq own h vs
 |x=>x.fams
def Kc (l:List Nat)(b:Nat):List Nat:=match l.contains b with|true=>l|false=>l++[b]
def gn:List Nat→List Nat→List Nat
 |l,[]=>l
 |l,b::bs=>gn (Kc l b) bs
def rb (own:Bool)(h:VH):Nat→Nat→List Nat→(List Nat→Prop)→Prop
 |0,_,l,K=>K l
 |k+1,i,l,K=>match l[i]? with
  |none=>K l
  |some b=>fY (gn l (match aU h b with|some x=>Ot own h x|none=>[])) fun l=>rb own h k (i+1) l K
theorem sD {own:Bool}:∀{k i:Nat} {l:List Nat} {K:List Nat→Prop},rb own h k i l K→∃l,K l
 |0,_,l,_,hk=>⟨l,hk⟩
 |k+1,i,l,K,hk=>by
  simp only[rb] at hk
  split at hk
  ·exact⟨_,hk⟩
  ·have hk:=ct hk
   exact sD hk
def EQ (own:Bool)(h:VH)(vs:List V)(K:List Nat→List Nat→Prop):Prop:=
 fY (gn [] (oq own h vs)) fun l=>rb own h 60 0 l fun l=>fY (l.filter fun b=>Nat.ble 4 b) fun os=>fY (l.filter fun b=>Nat.blt b 4) fun fs=>K os fs
theorem rd {own:Bool}{vs:List V}{K:List Nat→List Nat→Prop}(hk:EQ own h vs K):∃os fs,K os fs:=by
 have hk:=ct hk
 obtain⟨l,hk⟩:=sD hk
 have hk:=ct hk
 have hk:=ct hk
 exact⟨_,_,hk⟩
def b9 (P:Program)(h:VH)(n:Nat)(f:FuncId)(vs:List V)(K:V→VH→List Nat→Prop):Prop:=∃os fs,n3 P h n f vs os fs K
theorem ft {f:FuncId}{vs:List V}{K:V→VH→List Nat→Prop}(hk:EQ false h vs fun os fs=>n3 P h n f vs os fs K):b9 P h n f vs K:=rd hk
theorem Kh {f:FuncId}{vs:List V}{K:V→VH→List Nat→Prop}(hk:EQ true h vs fun os fs=>n3 P h n f vs os fs K):b9 P h n f vs K:=rd hk
def Nw (h:VH)(k:Nat):Bool:=match aU h k with
 |some (.frow _ t _)=>t.pure
 |some (.frowx _ t _)=>t.pure
 |_=>false
theorem kT {f:FuncId}{vs:List V}{K:V→VH→List Nat→Prop}(hk:EQ false h vs fun os fs=>fY (fs.filter fun k=>!Nw h k) fun fs=>n3 P h n f vs os fs K):b9 P h n f vs K:=by
 obtain⟨os,fs,hk⟩:=rd hk
 exact⟨_,_,ct hk⟩
theorem N4 {f:FuncId}{vs:List V}{K:V→VH→List Nat→Prop}(hk:n3 P h n f vs [] [] K):b9 P h n f vs K:=⟨_,_,hk⟩
theorem N5 (ex:List Nat){f:FuncId}{vs:List V}{K:V→VH→List Nat→Prop}(hk:EQ true h vs fun os fs=>fY (gn ex fs) fun fs=>n3 P h n f vs os fs K):b9 P h n f vs K:=by
 obtain⟨os,fs,hk⟩:=rd hk
 exact⟨_,_,ct hk⟩
def pp (Θ:TT)(b:Builtin)(vs:List V)(Ts:List TypeId)(h:VH)(K:V→VH→Prop):Prop:=
 match b,vs,Ts with
 | .len,[v],[T]=>bI Θ T fun ti=>LC ti h v fun r=>K r []
 | .copy,[d,e],[T,_]=>bI Θ T fun ti=>DZ Θ ti h d e K
 | .min,[.int k x,.int k' y],_=>Chk (decide (k=k')) (K (.int k (if y<x then y else x)) [])
 | .max,[.int k x,.int k' y],_=>Chk (decide (k=k')) (K (.int k (if x<y then y else x)) [])
 |_,_,_=>False
theorem uY (hΘ:Θ.ok P){b:Builtin}{vs:List V}{Ts:List TypeId}{m:Bool}{K:V→VH→Prop}(hk:pp Θ b vs Ts h K):∃r u vu,(∀n,ew P m b (ak vs) Ts (toH h) n=some (r.toD,u))∧cS h u vu∧K r vu:=by
 unfold pp at hk
 split at hk
 ·obtain⟨ti,l1,hk⟩:=aD hk
  obtain⟨r,h1,h2⟩:=It (hΘ _ _ l1) hk
  exact⟨r,[],[],fun n=>by simp only[ew,ak,h1,aI],a7,h2⟩
 ·obtain⟨ti,l1,hk⟩:=aD hk
  obtain⟨r,u,vu,h1,h2,h3⟩:=D0 hΘ (hΘ _ _ l1) hk
  exact⟨r,u,vu,fun n=>by simp only[ew,ak,h1],h2,h3⟩
 ·obtain⟨c,hk⟩:=hk.ok
  simp only[decide_eq_true_eq] at c
  exact⟨_,[],[],fun n=>by simp only[ew,ak,V.toD,if_pos c],a7,hk⟩
 ·obtain⟨c,hk⟩:=hk.ok
  simp only[decide_eq_true_eq] at c
  exact⟨_,[],[],fun n=>by simp only[ew,ak,V.toD,if_pos c],a7,hk⟩
 ·exact hk.elim
def Eo (h:VH)(τ:Ty):List V→(VH→VH→List Nat→Prop)→Prop
 |[],K=>K h [] []
 |v::l,K=>Be h τ.shs v.cells fun h1 vu g=>Eo h1 τ l fun h2 vu2 g2=>K h2 (vu++vu2) (g++g2)
theorem xn {τ:Ty}:∀{l:List V} {h:VH} {K:VH→VH→List Nat→Prop},Eo h τ l K→∃u vu g,(∀f:List Nat,(∀k∈g,k∈f)→fC P N h u vu f)∧K (puts vu h) vu g
 |[],h,K,hk=>⟨[],[],[],fun f _=>gd,hk⟩
 |v::l,h,K,hk=>by
  obtain⟨u1,v1,g1,p1,hk⟩:=sv (P:=P) (N:=N) hk
  obtain⟨u2,v2,g2,p2,hk⟩:=xn hk
  refine⟨u1++u2,v1++v2,g1++g2,fun f hf=>lh (p1 f fun k hk=>hf k (eh _ hk)) (p2 f fun k hk=>hf k (eK _ hk)),?_⟩
  rw[bD]
  exact hk
def D4 (t:Ty):List V→Option (List t.den)
 |[]=>some []
 |v::l=>match MK t (tK.nzL v),D4 t l with
  |some x,some xs=>some (x::xs)
  |_,_=>none
theorem AX {t:Ty}:∀{l:List V} {xs:List t.den},D4 t l=some xs→(ak l).map nzE=xs.map (ai t)
 |[],xs,h=>by simp only[D4,aw] at h;subst h;rfl
 |v::l,xs,h=>by
  simp only[D4] at h
  split at h
  ·rename_i x xs' h1 h2
   simp only[aw] at h
   subst h
   simp only[ak,bK,AX h2]
   rw[←u7 h1,vR]
  ·cases h
def Au (h:VH)(b:Nat)(τ:Ty)(K:VH→VH→List Nat→Prop):Prop:=
 match aU h b with
 |some (.lit _ vs)=>Eo h τ vs fun h1 vu g=>(match aU h1 b with
  |some (.lit E vs')=>np h1 vs' fun vs2=>(match D4 τ vs2 with
   |some xs=>C7 b (VB.row E τ xs) h1 fun h2=>K h2 (vu++[(b,.row E τ xs)]) (g++b::fU vs')
   |none=>False)
  |_=>False)
 |_=>K h [] []
theorem Dg {b:Nat}{τ:Ty}{K:VH→VH→List Nat→Prop}(hk:Au h b τ K):∃u vu g,(∀f:List Nat,(∀k∈g,k∈f)→fC P N h u vu f)∧K (puts vu h) vu g:=by
 unfold Au at hk
 split at hk
 ·obtain⟨u1,v1,g1,p1,hk⟩:=xn (P:=P) (N:=N) hk
  split at hk
  ·rename_i E vs' hb
   rw[aS] at hb
   obtain⟨vs2,f1,hk⟩:=je hk
   split at hk
   ·rename_i xs hx
    have hk:=rz hk
    have hlast:dE (toH (puts v1 h)) (.row E (ak vs'))= .row E (xs.map (ai τ)):=by
     simp only[dE]
     rw[←AX hx,←f1,fh,ep]
     rfl
    refine⟨u1++[((b,0),dE (toH (puts v1 h)) (.row E (ak vs')))],v1++[(b,.row E τ xs)],g1++b::fU vs',fun f hf=>lh (p1 f fun k hk=>hf k (eh _ hk)) (yf (y:=.row E τ xs) hb rfl (by rw[hlast];rfl) ⟨hf b (by simp),fun c hc=>hf c.1 ?_⟩),?_⟩
    ·refine eK _ (bA _ (d8 vs' c ?_))
     rw[gA]
     exact hc
    ·rw[bD];exact hk
   ·exact hk.elim
  ·exact hk.elim
 ·exact⟨[],[],[],fun f _=>gd,hk⟩
def Fj (h:VH)(d:V)(o:Option Ty)(K:Ty→Prop):Prop:=
 match d with
 | .ref b=>eO h b fun x=>(match x with
  | .row _ t _=>K t
  |_=>False)
 |_=>(match o with|some t=>K t|none=>False)
theorem Fk {d:V}{o:Option Ty}{K:Ty→Prop}(hk:Fj h d o K):∃t,K t:=by
 unfold Fj at hk
 split at hk
 ·obtain⟨x,_,hk⟩:=bh hk
  split at hk
  ·exact⟨_,hk⟩
  ·exact hk.elim
 ·split at hk
  ·exact⟨_,hk⟩
  ·exact hk.elim
def Oy (h:VH)(e:V):Option Nat:=match e with
 | .ref b=>(match aU h b with|some (.lit ..)=>some b|_=>none)
 |_=>none
def rM (s:Nat)(v:V):Bool:=v.whole && sL v.cells s && v.cells.all V.one
def MN:List (Nat×V)→List V
 |[]=>[]
 |(_,v)::l=>tK.nzL v::MN l
theorem FE:∀l:List (Nat×V),((yM l).map fun x=>nzE x.2)=ak (MN l)
 |[]=>rfl
 |(k,v)::l=>by
  have:=FE l
  simp only[yM,bK,ep] at this⊢
  simp only[MN,ak,vR]
  rw[←this]
def BB:List (Nat×V)→Nat→Bool
 |[],0=>true
 |_::l,n+1=>BB l n
 |_,_=>false
theorem xS:∀{l:List (Nat×V)} {n:Nat},BB l n=true→l.length=n
 |[],0,_=>rfl
 |_::l,n+1,h=>by simp[xS (l:=l) (n:=n) h]
 |[],_+1,h=>by cases h
 |_::_,0,h=>by cases h
def uX (ei:TI)(E:TypeId)(vs:List (Nat×V))(n:Nat)(K:V→VH→Prop):Prop:=
 match ei.ty with
 |some τ=>(match tK τ vs with
  |some xs=>Chk (τ.sz==ei.sz) (K (.ref n) [(n,.row E τ xs)])
  |none=>Chk (vs.all fun p=>rM ei.sz p.2) (K (.ref n) [(n,.lit E (MN vs))]))
 |none=>Chk (vs.all fun p=>rM ei.sz p.2) (K (.ref n) [(n,.lit E (MN vs))])
theorem Eh (t:Ty)(x:t.den):MP t.sz (ai t x)=true:=by
 have h1:=fR t x
 have hw:(ai t x).whole=true:=by
  cases t<;>first|rfl|(cases x<;>rfl)
 simp only[MP,hw,h1.1,h1.2,beq_self_eq_true,Bool.and_self]
theorem yZ {T E:TypeId}{ei:TI}{len:Nat}{vs:List (Nat×V)}{K:V→VH→Prop}(hu:P.underlying T=some (.slice E))(he:elemT P E=some (ei.sz,ei.nb))(hkeys:xJ vs 0=true)(hlen:BB vs len=true)(hb:len*ei.sz≤16777216)
  (hn:∀c:Id,n≤c.1→look (toH h) c=none) (hk:uX ei E vs n K):∃r u vu,eu P (n,0) T len ((yM vs).map fun x=>(x.1,nzE x.2))=some (V.toD r,u)∧cS h u vu∧K r vu:=by
 have hmap1:((yM vs).map fun x=>(x.1,nzE x.2)).map (·.1)=List.range' 0 len:=by
  rw[ep]
  have:=xK hkeys
  rw[xS hlen] at this
  exact this
 have hmap2:((yM vs).map fun x=>(x.1,nzE x.2)).map (·.2)=(yM vs).map fun x=>nzE x.2:=by
  rw[ep];rfl
 have lit:(vs.all fun p=>rM ei.sz p.2)=true→eu P (n,0) T len ((yM vs).map fun x=>(x.1,nzE x.2))=some ((V.ref n).toD,[((n,0),.row E (ak (MN vs)))]):=by
  intro hw
  unfold eu
  simp only[hu,he]
  rw[if_pos,hmap2,FE]
  ·rfl
  ·refine⟨hmap1,hb,?_⟩
   rw[hmap2,aM]
   intro e hx
   obtain⟨p,hp,rfl⟩:=aB.1 hx
   obtain⟨q,hq,rfl⟩:=aB.1 hp
   rw[aM] at hw
   have:=hw q hq
   simp only[rM,aA] at this
   obtain⟨⟨w1,w2⟩,w3⟩:=this
   simp only[MP,aA,beq_iff_eq]
   refine⟨by rw[uv,gM];exact w1,?_,FG w3⟩
   rw[qy,aL,x9,jg w2]
 unfold uX at hk
 split at hk
 ·rename_i τ hτ
  split at hk
  ·rename_i xs hx
   obtain⟨c,hk⟩:=hk.ok
   simp only[beq_iff_eq] at c
   have hd:=AY hx
   refine⟨.ref n,[((n,0),.row E (xs.map (ai τ)))],_,?_,lu hn rfl,hk⟩
   unfold eu
   simp only[hu,he]
   rw[if_pos,hmap2,hd]
   ·rfl
   ·refine⟨hmap1,hb,?_⟩
    rw[hmap2,hd,aM]
    intro e hx
    obtain⟨x,_,rfl⟩:=aB.1 hx
    rw[←c]
    exact Eh τ x
  ·obtain⟨c,hk⟩:=hk.ok
   exact⟨_,_,_,lit c,lu hn rfl,hk⟩
 ·obtain⟨c,hk⟩:=hk.ok
  exact⟨_,_,_,lit c,lu hn rfl,hk⟩
def Gx (k:TK):Bool:=match k with| .ifc| .func=>false|_=>true
theorem yt {T:TypeId}{k:TK}(h:k.ok P T)(hs:Gx k=true):Cq P T=true:=by
 unfold Cq
 cases k with
 |struct fs=>
  have:=h.2
  unfold lg at this
  cases hu:P.underlying T with
  |none=>rw[hu] at this;simp at this
  |some d=>
   rw[hu] at this
   cases d<;>first|rfl|(simp at this)
 |ifc=>cases hs
 |func=>cases hs
 |int k=>rw[show P.underlying T=some (.int k) from h]
 |bool=>rw[show P.underlying T=some .bool from h]
 |str=>rw[show P.underlying T=some .string from h]
 |slice E=>rw[show P.underlying T=some (.slice E) from h]
 |ptr E=>rw[show P.underlying T=some (.pointer E) from h]
 |arr m E=>rw[show P.underlying T=some (.array m E) from h]
def AH (T:TypeId)(ti:TI)(ok:Bool)(v:V)(K:V→Prop):Prop:=
 Chk (Gx ti.k) (match v with
  | .ifc T' e=>(match Nat.beq T' T with
   |true=>(match ok with|true=>K (.tup [e,.tt])|false=>K e)
   |false=>Chk ok (match ti.z with|some z=>K (.tup [z,.ff])|none=>False))
  | .nili=>Chk ok (match ti.z with|some z=>K (.tup [z,.ff])|none=>False)
  |_=>False)
theorem yS {T:TypeId}{ti:TI}(ht:ti.ok P T){ok:Bool}{v:V}{K:V→Prop}(hk:AH T ti ok v K):∃r,nT P T ok v.toD=some (V.toD r)∧K r:=by
 obtain⟨c,hk⟩:=Chk.ok hk
 have hi:=yt ht.und c
 unfold nT
 rw[if_pos hi]
 split at hk
 ·rename_i T' e
  simp only[V.toD]
  split at hk
  ·rename_i hb
   rw[if_pos (cq hb)]
   cases ok with
   |true=>exact⟨_,by simp[V.toD,ak],hk⟩
   |false=>exact⟨_,by simp,hk⟩
  ·rename_i hb
   obtain⟨c2,hk⟩:=hk.ok
   rw[if_neg (by rintro rfl;simp at hb)]
   split at hk
   ·rename_i z hz
    refine⟨_,?_,hk⟩
    rw[if_pos c2,ht.zero z hz]
    simp[V.toD,ak]
   ·exact hk.elim
 ·obtain⟨c2,hk⟩:=hk.ok
  split at hk
  ·rename_i z hz
   refine⟨_,?_,hk⟩
   simp only[V.toD]
   rw[if_pos c2,ht.zero z hz]
   simp[V.toD,ak]
  ·exact hk.elim
 ·exact hk.elim
theorem Dv {q:Bool}(hq:q=false){T:TypeId}{H:HL}{m m':Id}{d:D}{lo hi:Option D}:fN P H q m T d lo hi=fN P H q m' T d lo hi:=by
 subst hq
 unfold fN
 simp only[eW,if_false]
end Go.Proofs.YtpefhoohfkeflacGreatDoor.Am
namespace Go.Proofs.YtpefhoohfkeflacGreatDoor.Am
open Go Go.RowKit
variable {P:Program} {N:Nat} {Θ:TT} {t:VT} {h:VH} {n:Nat}
def OQ (τ:Ty)(z:V)(K:τ.den→Prop):Prop:=w6 τ (tK.nzL z) K
theorem LI {τ:Ty}{z:V}{K:τ.den→Prop}(h:OQ τ z K):∃x,nzE z.toD=ai τ x∧K x:=by
 obtain⟨x,h1,h2⟩:=mJ h
 exact⟨x,by rw[←vR];exact h1,h2⟩
def DI (P:Program)(h:VH)(n:Nat)(f:FuncId)(vs:List V)(Ae:List Nat)(K:V→VH→List Nat→Prop):Prop:=b9 P h n f vs fun r vu gl=>K r vu (Ae++gl)
def wB (P:Program)(T:TypeId)(m:String)(K:FuncId→Bool→Prop):Prop:=∃f b,kx P T m=some (f,b)∧K f b
theorem Nr {P:Program}{T:TypeId}{m:String}{K:FuncId→Bool→Prop}{f:FuncId}{b:Bool}(h:kx P T m=some (f,b))(k:K f b):wB P T m K:=⟨f,b,h,k⟩
def F5 (Θ:TT)(h:VH)(T:TypeId)(b:Bool)(v:V)(K:V→Prop):Prop:=
 match b with
 |true=>K v
 |false=>bI Θ T fun ti=>(match ti.k with
  | .ptr E=>bI Θ E fun ei=>xV ei h v K
  |_=>False)
theorem F6 {P:Program}{Θ:TT}{h:VH}(hΘ:Θ.ok P){T:TypeId}{b:Bool}{v:V}{K:V→Prop}(hk:F5 Θ h T b v K):∃r,ma P (toH h) T b v.toD=some (V.toD r)∧K r:=by
 unfold F5 at hk
 split at hk
 ·exact⟨v,by simp[ma],hk⟩
 ·obtain⟨ti,l1,hk⟩:=aD hk
  have hu:=(hΘ _ _ l1).und
  split at hk
  ·rename_i E e
   rw[e] at hu
   have hu:P.underlying T=some (.pointer E):=hu
   obtain⟨ei,l2,hk⟩:=aD hk
   obtain⟨r,h1,h2⟩:=sO (hΘ _ _ l2) hk
   exact⟨r,by simp only[ma,eW,if_false,hu,h1],h2⟩
  ·exact hk.elim
def LV (v:V)(K:V→Prop):Prop:=
 match v with
 | .ptr b o=>K (.ptr b o)
 | .eptr b i o=>K (.eptr b i o)
 | .aptr b p i=>K (.aptr b p i)
 | .iptr t x o=>K (.iptr t x o)
 | .box t x=>K (.box t x)
 | .fptr k i o=>K (.fptr k i o)
 | .feptr k i j o=>K (.feptr k i j o)
 | .faptr k i p j=>K (.faptr k i p j)
 | .hpo k o=>iT o False fun i=>K (.fptr k i 0)
 | .obo t o=>iT o False fun x=>K (.box t x)
 |_=>False
theorem IR {v:V}{K:V→Prop}(hk:LV v K):∃r:V,eS v.toD=true∧r.toD=v.toD∧K r:=by
 unfold LV at hk
 split at hk<;>try exact⟨_,rfl,rfl,hk⟩
 ·rename_i k o
  cases o with
  |none=>exact(hk.1 rfl).elim
  |some i=>exact⟨.fptr k i 0,rfl,rfl,hk.2 i rfl⟩
 ·rename_i t o
  cases o with
  |none=>exact(hk.1 rfl).elim
  |some x=>exact⟨.box t x,rfl,rfl,hk.2 x rfl⟩
 ·exact hk.elim
def zN (n:Nat):VH→Bool
 |[]=>true
 |(x,_)::u=>Nat.blt x n && zN n u
theorem vP:∀{u:VH},zN n u=true→∀k∈u.map (·.1),k<n
 |[],_,k,hk=>by cases hk
 |(a,b)::u,h,k,hk=>by
  simp only[zN,aA] at h
  rcases aJ.1 hk with rfl|hk
  ·simpa[Nat.blt_eq] using h.1
  ·exact vP h.2 k hk
theorem uh {u:HL}{vu:VH}(hn:∀c:Id,n≤c.1→look (toH h) c=none)(hu:cS h u vu)(hl:zN n vu=true):∀c:Id,n≤c.1→look (toH (puts vu h)) c=none:=by
 intro c hc
 rw[←hu.1,aN _ _ _ fun x hx e=>?_]
 ·exact hn c hc
 ·have:=vP hl _ (hu.2 x hx)
  rw[e] at this
  omega
def GA (P:Program)(Θ:TT)(op:Op)(t:VT)(h:VH)(n:Nat)(K:V→VH→List Nat→Prop):Prop:=
 match op with
 | .move x=>qq t x fun v=>K v [] []
 | .assign x=>qq t x fun v=>K v [] []
 | .load T x=>zj t h x fun v=>bI Θ T fun ti=>xV ti h v fun r=>K r [] (dO t h [x])
 | .store T x y=>zj t h x fun d=>zj t h y fun v=>bI Θ T fun ti=>Mt h d fun tg=>(match tg with
  |none=>wd ti h d v fun r u=>K r u (dO t h [x,y])
  |some p=>Be h (p.1.shs.drop p.2) v.cells fun h1 vu g=>zj t h1 x fun d=>zj t h1 y fun v=>Cb ti h1 d v fun r u=>K r (vu++u) (g++dO t h1 [x,y]))
 | .fieldAddr T x f=>qq t x fun v=>bI Θ T fun ti=>(match ti.k with
  | .struct fs=>x7 fs f fun g=>Chk (decide (0<g.2.2)) (Oj g v fun r=>K r [] [])
  |_=>False)
 | .indexAddr T x i=>zj t h x fun v=>qq t i fun ix=>bI Θ T fun ti=>(match ix with
  | .int _ j=>Ou Θ ti h v j fun r=>K r [] (dO t h [x,i])
  |_=>False)
 | .binOp op T x y _=>zj t h x fun d=>zj t h y fun e=>bI Θ T fun ti=>(match ti.k with
  | .ifc=>E3 op (dT x||dT y) d e fun r=>K r [] (dO t h [x,y])
  | .struct _=>Mk (GM P T) (Mq op d e fun r=>K r [] (dO t h [x,y]))
  | .ptr E=>(match d,e with
   | .hpo k o,.hpo k' o'=>LN P T op h k k' o o' fun r=>K r [] (dO t h [x,y])
   |d,e=>pm op (.ptr E) d e fun r=>K r [] (dO t h [x,y]))
  |_=>pm op ti.k d e fun r=>K r [] (dO t h [x,y]))
 | .unOp op _ x=>qq t x fun d=>OH op d fun r=>K r [] []
 | .call ⟨.builtin b,args,Ts⟩=>(match b with
  | .append=>xf t h args.toList fun vs=>(match vs,Ts.toList with
   |[d,e],[T,T']=>(match Nat.beq T T' with
    |false=>bI Θ T fun ti=>bI Θ T' fun ti'=>rU Θ ti ti' h n d e fun r u=>K r u (n::dO t h args.toList)
    |true=>bI Θ T fun ti=>(match Oy h e with
    |none=>qS Θ ti h n d e fun r u=>K r u (n::dO t h args.toList)
    |some b=>(match ti.k with
     | .slice E=>bI Θ E fun ei=>Fj h d ei.ty fun τ=>Au h b τ fun h1 vu g=>Chk (zN n vu) (xf t h1 args.toList fun vs=>(match vs with
      |[d,e]=>qS Θ ti h1 n d e fun r u=>K r (vu++u) (g++n::dO t h1 args.toList)
      |_=>False))
     |_=>False)))
   |_,_=>False)
  |b=>xf t h args.toList fun vs=>pp Θ b vs Ts.toList h fun r u=>K r u (dO t h args.toList))
 | .call ⟨.value (.func f),args,_⟩=>xf t h args.toList fun vs=>DI P h n f vs (dO t h (.func f::args.toList)) K
 | .call ⟨.value (.tmp k),args,_⟩=>zj t h (.tmp k) fun c=>(match c with
  | .clo f cs=>xf t h args.toList fun vs=>DI P h n f (vs++cs) (dO t h (.tmp k::args.toList)) K
  |_=>False)
 | .call ⟨.invoke x m,args,_⟩=>zj t h x fun c=>(match c with
  | .ifc T v=>wB P T m fun f b=>F5 Θ h T b v fun r=>xf t h args.toList fun vs=>DI P h n f (r::vs) (dO t h (x::args.toList)) K
  |_=>False)
 | .pick c x y=>qq t c fun b=>(match b with
  | .tt=>qq t x fun v=>K v [] []
  | .ff=>qq t y fun v=>K v [] []
  | .bool b=>ju b (qq t x fun v=>K v [] []) (qq t y fun v=>K v [] [])
  |_=>False)
 | .alloc T=>bI Θ T fun ti=>(match ti.z with
  |some z=>K (.ptr n 0) [(n,.var T z.cells)] [n]
  |none=>False)
 | .box T x=>qq t x fun v=>Chk v.whole (K (.ptr n 0) [(n,.var T v.cells)] [n])
 | .build T ps=>Kw t ps.toList fun vs=>bI Θ T fun ti=>(match ti.k,ti.z with
  | .struct fs,some (.agg zs)=>En fs zs vs fun cs=>K (.agg cs) [] []
  | .arr _ E,some (.agg zs)=>bI Θ E fun _=>Chk vs.isEmpty (K (.agg zs) [] [])
  |_,_=>False)
 | .buildSlice T len ps=>Ei t h ps.toList fun vs=>bI Θ T fun ti=>(match ti.k with
  | .slice E=>bI Θ E fun ei=>Chk (ei.z.isSome && decide (0<ei.sz) && xJ vs 0 && BB vs len && decide (len*ei.sz≤16777216)) (uX ei E vs n fun r u=>K r u (n::dO t h (ps.toList.map (·.2))))
  |_=>False)
 | .nilCheck x=>qq t x fun v=>LV v fun r=>K r [] []
 | .convert S T x=>zj t h x fun v=>bI Θ T fun ti=>bI Θ S fun si=>DX Θ ti si h v fun r=>K r [] (dO t h [x])
 | .makeInterface T x=>qq t x fun v=>bI Θ T fun ti=>Chk (Gx ti.k) (K (.ifc T v) [] [])
 | .makeFunc (.func f) first captured=>Chk (Nat.beq first.size 0) (Kv t captured.toList fun vs=>K (.clo f vs) [] [])
 | .typeAssert x _ T ok=>qq t x fun v=>bI Θ T fun ti=>AH T ti ok v fun r=>K r [] []
 | .makeSlice T l c=>qq t l fun a=>qq t c fun b=>bI Θ T fun ti=>(match ti.k,a,b with
  | .slice E,.int _ a,.int _ b=>bI Θ E fun ei=>(match ei.z,ei.ty with
   |some z,some τ=>Chk (decide (0<ei.sz) && τ.sz==ei.sz && z.cells.all V.pure0) (OQ τ z fun x=>ci (0≤a∧a=b) (ci (kZ ei.nb a.toNat) (K (.ref n) [(n,.row E τ (List.replicate a.toNat x))] [n])))
   |_,_=>False)
  |_,_,_=>False)
 | .slice T x lo hi none=>zj t h x fun v=>A5 t lo fun l=>A5 t hi fun r=>bI Θ T fun ti=>Af Θ ti h n v l r fun q r u=>(match q with
  |true=>K r u (n::qN t h op)
  |false=>K r u (qN t h op))
 | .field T x f=>qq t x fun v=>bI Θ T fun ti=>(match ti.k,v with
  | .struct fs,.agg cs=>x7 fs f fun g=>bI Θ g.1 fun gi=>iq gi cs g.2.1 fun r=>K r [] []
  |_,_=>False)
 | .index T x i=>qq t x fun v=>qq t i fun i=>bI Θ T fun ti=>(match ti.k,v,i with
  | .str,.str s,.int _ i=>ci (0≤i∧i<(s.size:Nat)) (K (.int .u8 ((s.data.toList.getD i.toNat 0).toNat:Nat)) [] [])
  | .arr m E,.agg cs,.int _ i=>bI Θ E fun ei=>ci (0≤i∧i<(m:Nat)) (iq ei cs (i.toNat * ei.sz) fun r=>K r [] [])
  |_,_,_=>False)
 | .extract x i=>qq t x fun v=>(match v with
  | .tup cs=>x7 cs i fun r=>K r [] []
  |_=>False)
 |_=>False
def yO (P:Program)(N:Nat)(o:Oper)(t:VT)(h:VH)(K:V→VH→List Nat→Prop):Prop:=∃r vu gl,StepOK P N o t h r vu gl∧K r vu gl
theorem oW {m:Bool}{o:Oper}{r:V}{u:HL}{vu:VH}{gl:List Nat}{K:V→VH→List Nat→Prop}(hd:∀n,dL P m o.op (fL t) (toH h) n=some (r.toD,u))(hu:cS h u vu)(hg:∀k∈qN t h o.op,k∈gl)(hk:K r vu gl):yO P N o t h K:=⟨r,vu,gl,fI (J3 hd hu) hg,hk⟩
theorem Mp {m:Bool}{o:Oper}{r:V}{u:HL}{vu:VH}{gl:List Nat}{K:V→VH→List Nat→Prop}(hn:∀c:Id,n≤c.1→look (toH h) c=none)(hd:dL P m o.op (fL t) (toH h) n=some (r.toD,u))(hu:cS h u vu)(hg:∀k∈n::qN t h o.op,k∈gl)(hk:K r vu gl):yO P N o t h K:=⟨r,vu,gl,fI (J4 hn hd hu) hg,hk⟩
theorem fy {op:Op}{l:List Operand}(hl:lZ op=true)(ho:op.operands.toList=l):∀k∈qN t h op,k∈dO t h l:=by
 intro k hk
 unfold qN at hk
 rw[hl] at hk
 rw[ho] at hk
 exact hk
theorem dw {op:Op}(hl:lZ op=false)(gl:List Nat):∀k∈qN t h op,k∈gl:=by
 intro k hk
 unfold qN at hk
 rw[hl] at hk
 cases hk
end Go.Proofs.YtpefhoohfkeflacGreatDoor.Am
namespace Go.Proofs.YtpefhoohfkeflacGreatDoor.Am
open Go Go.RowKit
variable {P:Program} {N:Nat} {Θ:TT} {t:VT} {h:VH} {n:Nat}
set_option maxHeartbeats 1600000 in
theorem GB (hΘ:Θ.ok P){o:Oper}(hn:∀c:Id,n≤c.1→look (toH h) c=none){K:V→VH→List Nat→Prop}(hk:GA P Θ o.op t h n K):yO P N o t h K:=by
 obtain⟨dst,op,ty,pos,after,guard⟩:=o
 simp only at hk
 unfold GA at hk
 split at hk
 ·obtain⟨v,h1,h2⟩:=cL hk
  exact oW (m:=false) (fun n=>by simp only[dL,h1,aI]) a7 (dw rfl _) h2
 ·obtain⟨v,h1,h2⟩:=cL hk
  exact oW (m:=false) (fun n=>by simp only[dL,h1,aI]) a7 (dw rfl _) h2
 ·obtain⟨v,h1,h2⟩:=fS hk
  obtain⟨ti,l1,h2⟩:=aD h2
  obtain⟨r,h3,h4⟩:=sO (hΘ _ _ l1) h2
  exact oW (m:=false) (fun n=>by simp only[dL,h1,ba,h3,aI]) a7 (fy rfl (by simp[Op.operands])) h4
 ·rename_i T x y
  obtain⟨d,h1,h2⟩:=fS hk
  obtain⟨v,h3,h2⟩:=fS h2
  obtain⟨ti,l1,h2⟩:=aD h2
  obtain⟨tg,h2⟩:=Jl h2
  split at h2
  ·obtain⟨u,vu,h5,h6,h7⟩:=Al (hΘ _ _ l1) h2
   exact oW (m:=false) (fun n=>by
    simp only[dL,h1,h3,ba,Bool.not_false,nzM,if_true,h5,aI];rfl) h6 (fy rfl (by simp[Op.operands])) h7
  ·obtain⟨u1,v1,g1,p1,h2⟩:=sv (P:=P) (N:=N) h2
   obtain⟨d,h1,h2⟩:=fS h2
   obtain⟨v,h3,h2⟩:=fS h2
   obtain⟨u,vu,h5,h6,h7⟩:=Ao (hΘ _ _ l1) h2
   refine⟨.undef,_,_,yv p1 (fI (J3 (m:=true) (fun n=>?_) h6) (fy rfl (by simp[Op.operands]))),h7⟩
   simp only[dL,h1,h3,ba,Bool.not_true,nzM,eW,if_false,h5,aI];rfl
 ·rename_i T x f
  obtain⟨v,h1,h2⟩:=cL hk
  obtain⟨ti,l1,h2⟩:=aD h2
  have hu:=(hΘ _ _ l1).und
  split at h2
  ·rename_i fs e
   rw[e] at hu
   obtain⟨g,g1,h2⟩:=le h2
   obtain⟨c,h2⟩:=h2.ok
   simp only[decide_eq_true_eq] at c
   obtain⟨r,h3,h4⟩:=Ky (P:=P) (T:=T) (i:=f) ((hu.1 f g.1 g.2.1 g.2.2 g1).2 c) h2
   exact oW (m:=false) (fun n=>by simp only[dL,h1,ba,h3,aI]) a7 (dw rfl _) h4
  ·exact h2.elim
 ·obtain⟨v,h1,h2⟩:=fS hk
  obtain⟨i,h3,h4⟩:=cL h2
  obtain⟨ti,l1,h4⟩:=aD h4
  split at h4
  ·rename_i k j _
   obtain⟨r,h5,h6⟩:=KM hΘ (hΘ _ _ l1) (k:=k) h4
   exact oW (m:=false) (fun n=>by
    have h3':aX (fL t) _=some (.int k j):=h3
    simp only[dL,h1,h3',ba,h5,aI]) a7 (fy rfl (by simp[Op.operands])) h6
  ·exact h4.elim
 ·rename_i op T x y yT
  obtain⟨d,h1,h2⟩:=fS hk
  obtain⟨e,h3,h4⟩:=fS h2
  obtain⟨ti,l1,h4⟩:=aD h4
  have hu:=(hΘ _ _ l1).und
  have fin:∀{tk:TK},tk.ok P T→pm op tk d e (fun r=>K r [] (dO t h [x,y]))→∃r:V,(∀n,dL P false (.binOp op T x y yT) (fL t) (toH h) n=some (r.toD,[]))∧K r [] (dO t h [x,y]):=fun hu h4=>by
   obtain⟨r,h5,h6⟩:=Hg (P:=P) hu h4
   refine⟨r,fun n=>?_,h6⟩
   simp only[dL,h1,h3,ba]
   unfold dx at h5
   split at h5
   ·rename_i r' hr
    rw[hr]
    simp only[aw] at h5
    rw[h5]
   ·rename_i hr
    rw[hr]
    split at h5
    ·rename_i r' hr'
     simp only[aw] at h5
     simp only[hr',h5]
    ·rename_i hr'
     simp only[hr',h5]
  split at h4
  ·rename_i hi
   rw[hi] at hu
   obtain⟨r,h5,h6,h7,h8,h9⟩:=H6 (P:=P) hu h4
   refine oW (m:=false) (u:=[]) (fun n=>?_) a7 (fy rfl (by simp[Op.operands])) h9
   simp only[dL,h1,h3,ba,h5,h6,h7,h8]
  ·obtain⟨hm,h4⟩:=h4
   obtain⟨r,h5,h6,h7,h8,h9,h10⟩:=Jf (P:=P) hm h4
   refine oW (m:=false) (u:=[]) (fun n=>?_) a7 (fy rfl (by simp[Op.operands])) h10
   simp only[dL,h1,h3,ba,h5,h6,h7,h8,h9]
  ·rename_i E hi
   rw[hi] at hu
   split at h4
   ·obtain⟨r,h5,h6,h7,h8,h9,h10,h11⟩:=IG h4
    refine oW (m:=false) (u:=[]) (fun n=>?_) a7 (fy rfl (by simp[Op.operands])) h11
    simp only[dL,h1,h3,ba,h5,h6,h7,h8,h9,h10,aI]
   ·obtain⟨r,h5,h6⟩:=fin hu h4
    exact oW (m:=false) (u:=[]) h5 a7 (fy rfl (by simp[Op.operands])) h6
  ·obtain⟨r,h5,h6⟩:=fin hu h4
   exact oW (m:=false) (u:=[]) h5 a7 (fy rfl (by simp[Op.operands])) h6
 ·obtain⟨d,h1,h2⟩:=cL hk
  obtain⟨r,h5,h6⟩:=Mv h2
  exact oW (m:=false) (fun n=>by simp only[dL,h1,ba,h5,aI]) a7 (dw rfl _) h6
 ·rename_i b args Ts
  split at hk
  ·obtain⟨vs,h1,h2⟩:=kX hk
   split at h2
   ·rename_i d e T T' eT
    split at h2
    ·rename_i c
     have hne:T≠T':=by rintro rfl;simp at c
     obtain⟨ti,l1,h3⟩:=aD h2
     obtain⟨ti',l1',h3⟩:=aD h3
     obtain⟨r,u,vu,h5,h6,h7⟩:=wJ hΘ (hΘ _ _ l1) (hΘ _ _ l1') hn h3
     refine Mp (m:=false) hn ?_ h6 (fun k hk=>?_) h7
     ·simp only[dL,h1,ba,eT,ak,ew,hne,if_false,h5]
     ·rcases aJ.1 hk with rfl|hk
      ·exact bk ..
      ·refine bA _ (fy (l:=args.toList) rfl (by simp[Op.operands,Call.operands]) k hk)
    ·rename_i c
     obtain rfl:=cq c
     obtain⟨ti,l1,h3⟩:=aD h2
     split at h3
     ·obtain⟨r,u,vu,h5,h6,h7⟩:=rT hΘ (hΘ _ _ l1) hn h3
      refine Mp (m:=false) hn ?_ h6 (fun k hk=>?_) h7
      ·simp only[dL,h1,ba,eT,ak,ew,if_true,h5]
      ·rcases aJ.1 hk with rfl|hk
       ·exact bk ..
       ·refine bA _ (fy (l:=args.toList) rfl (by simp[Op.operands,Call.operands]) k hk)
     ·split at h3
      ·obtain⟨ei,l2,h3⟩:=aD h3
       obtain⟨τ,h3⟩:=Fk h3
       obtain⟨u1,v1,g1,p1,h3⟩:=Dg (P:=P) (N:=N) h3
       obtain⟨cl,h3⟩:=h3.ok
       obtain⟨vs,h1,h3⟩:=kX h3
       split at h3
       ·rename_i d e
        have p0:=(p1 g1 fun k hk=>hk).1
        have hn':=uh hn p0 cl
        obtain⟨r,u,vu,h5,h6,h7⟩:=rT hΘ (hΘ _ _ l1) hn' h3
        refine⟨r,_,_,yv p1 (fI (J4 (m:=false) hn' ?_ h6) (fun k hk=>?_)),h7⟩
        ·simp only[dL,h1,ba,eT,ak,ew,if_true,h5]
        ·rcases aJ.1 hk with rfl|hk
         ·exact bk ..
         ·refine bA _ (fy (l:=args.toList) rfl (by simp[Op.operands,Call.operands]) k hk)
       ·exact h3.elim
      ·exact h3.elim
   ·exact h2.elim
  ·obtain⟨vs,h1,h2⟩:=kX hk
   obtain⟨r,u,vu,h5,h6,h7⟩:=uY (m:=false) hΘ h2
   exact oW (m:=false) (fun n=>by simp only[dL,h1,ba,h5]) h6 (fy rfl (by simp[Op.operands,Call.operands])) h7
 ·rename_i f args Ts
  obtain⟨vs,h1,h2⟩:=kX hk
  obtain⟨os,fs,h2⟩:=h2
  obtain⟨r,vu,gl,h3,h4⟩:=p8 (N:=N) (o:=⟨dst,.call ⟨.value (.func f),args,Ts⟩,ty,pos,after,guard⟩) hn ⟨args,Ts,.inl ⟨rfl,h1⟩⟩ h2
  refine⟨r,vu,_,fI h3 (fun k hk=>?_),h4⟩
  simpa[Op.operands,Call.operands] using hk
 ·rename_i k args Ts
  obtain⟨c,h1,h2⟩:=fS hk
  split at h2
  ·rename_i f cs
   obtain⟨vs,h3,h2⟩:=kX h2
   obtain⟨os,fs,h2⟩:=h2
   obtain⟨r,vu,gl,h3,h4⟩:=p8 (N:=N) (o:=⟨dst,.call ⟨.value (.tmp k),args,Ts⟩,ty,pos,after,guard⟩) hn ⟨args,Ts,.inr (.inl ⟨k,ak cs,ak vs,rfl,h1,h3,by simp[cX]⟩)⟩ h2
   refine⟨r,vu,_,fI h3 (fun k hk=>?_),h4⟩
   simpa[Op.operands,Call.operands] using hk
  ·exact h2.elim
 ·rename_i x m args Ts
  obtain⟨c,h1,h2⟩:=fS hk
  split at h2
  ·rename_i T v
   obtain⟨f,b,hm,h2⟩:=h2
   obtain⟨r0,hr,h2⟩:=F6 hΘ h2
   obtain⟨vs,h3,h2⟩:=kX h2
   obtain⟨os,fs,h2⟩:=h2
   obtain⟨r,vu,gl,h4,h5⟩:=p8 (N:=N) (o:=⟨dst,.call ⟨.invoke x m,args,Ts⟩,ty,pos,after,guard⟩) hn ⟨args,Ts,.inr (.inr ⟨x,m,T,v.toD,r0.toD,b,ak vs,rfl,h1,hm,hr,h3,rfl⟩)⟩ h2
   refine⟨r,vu,_,fI h4 (fun k hk=>?_),h5⟩
   simpa[Op.operands,Call.operands] using hk
  ·exact h2.elim
 ·obtain⟨b,h1,h2⟩:=cL hk
  split at h2
  ·obtain⟨r,h3,h4⟩:=cL h2
   have h1':aX (fL t) _=some (.bool true):=h1
   exact oW (m:=false) (fun n=>by simp only[dL,h1',h3,aI]) a7 (dw rfl _) h4
  ·obtain⟨r,h3,h4⟩:=cL h2
   have h1':aX (fL t) _=some (.bool false):=h1
   exact oW (m:=false) (fun n=>by simp only[dL,h1',h3,aI]) a7 (dw rfl _) h4
  ·rename_i b
   cases b with
   |true=>
    obtain⟨r,h3,h4⟩:=cL (h2.1 rfl)
    have h1':aX (fL t) _=some (.bool true):=h1
    exact oW (m:=false) (fun n=>by simp only[dL,h1',h3,aI]) a7 (dw rfl _) h4
   |false=>
    obtain⟨r,h3,h4⟩:=cL (h2.2 rfl)
    have h1':aX (fL t) _=some (.bool false):=h1
    exact oW (m:=false) (fun n=>by simp only[dL,h1',h3,aI]) a7 (dw rfl _) h4
  ·exact h2.elim
 ·obtain⟨ti,l1,h2⟩:=aD hk
  split at h2
  ·rename_i z hz
   refine Mp (m:=false) (u:=[((n,0),.var _ (ak z.cells))]) hn ?_ (lu hn rfl) (fun k hk=>?_) h2
   ·simp only[dL,(hΘ _ _ l1).zero z hz,aI,bu];rfl
   ·rcases aJ.1 hk with rfl|hk
    ·exact bk ..
    ·exact dw rfl _ k hk
  ·exact h2.elim
 ·obtain⟨v,h1,h2⟩:=cL hk
  obtain⟨c,h3⟩:=h2.ok
  refine Mp (m:=false) (u:=[((n,0),.var _ (ak v.cells))]) hn ?_ (lu hn rfl) (fun k hk=>?_) h3
  ·simp only[dL,h1,ba,gM,c,if_true,bu];rfl
  ·rcases aJ.1 hk with rfl|hk
   ·exact bk ..
   ·exact dw rfl _ k hk
 ·rename_i T ps
  obtain⟨vs,h1,h2⟩:=A7 hk
  obtain⟨ti,l1,h2⟩:=aD h2
  have hu:=(hΘ _ _ l1).und
  have hz:=(hΘ _ _ l1).zero
  split at h2
  ·rename_i fs zs e ez
   rw[e] at hu
   obtain⟨cs,h3,h4⟩:=xl h2
   have hz':=hz _ ez
   simp only[V.toD] at hz'
   exact oW (m:=false) (fun n=>by simp only[dL,h1,ba,rO,hu.2,hz',h3,aI];rfl) a7 (dw rfl _) h4
  ·rename_i M E zs e ez
   rw[e] at hu
   obtain⟨ei,l2,h2⟩:=aD h2
   obtain⟨c,h4⟩:=h2.ok
   have hz':=hz _ ez
   simp only[V.toD] at hz'
   have hv:vs=[]:=List.isEmpty_iff.1 c
   subst hv
   have hpl:lg P T=some []:=by
    have hs:=(hΘ _ _ l2).size
    unfold sizeT at hs
    obtain⟨i,hi,_⟩:=bm.1 hs
    unfold lg
    rw[show P.underlying T=some (.array M E) from hu]
    simp only[hi,aI]
   exact oW (m:=false) (fun n=>by simp only[dL,h1,ba,rO,hpl,hz',yM,jd,aI];rfl) a7 (dw rfl _) h4
  ·exact h2.elim
 ·rename_i T len ps
  obtain⟨vs,h1,h2⟩:=xd hk
  obtain⟨ti,l1,h2⟩:=aD h2
  have hu:=(hΘ _ _ l1).und
  split at h2
  ·rename_i E e
   rw[e] at hu
   obtain⟨ei,l2,h2⟩:=aD h2
   have hei:=hΘ _ _ l2
   obtain⟨c,h2⟩:=h2.ok
   simp only[aA,decide_eq_true_eq] at c
   obtain⟨⟨⟨⟨c1,c2⟩,c3⟩,c4⟩,c5⟩:=c
   obtain⟨r,u,vu,h5,h6,h7⟩:=yZ (show P.underlying T=some (.slice E) from hu) (hei.elem c1 c2) c3 c4 c5 hn h2
   refine Mp (m:=false) hn (by simp only[dL,h1,ba,h5]) h6 (fun k hk=>?_) h7
   rcases aJ.1 hk with rfl|hk
   ·exact bk ..
   ·exact bA _ (fy rfl (by simp[Op.operands]) k hk)
  ·exact h2.elim
 ·obtain⟨v,h1,h2⟩:=cL hk
  obtain⟨r,h3,h4,h5⟩:=IR h2
  exact oW (m:=false) (fun n=>by simp only[dL,h1,ba,h3,if_true,h4]) a7 (dw rfl _) h5
 ·obtain⟨v,h1,h2⟩:=fS hk
  obtain⟨ti,l1,h2⟩:=aD h2
  obtain⟨si,l2,h2⟩:=aD h2
  obtain⟨r,h3,h4⟩:=DY hΘ (hΘ _ _ l1) (hΘ _ _ l2) h2
  exact oW (m:=false) (fun n=>by simp only[dL,h1,ba,h3,aI]) a7 (fy rfl (by simp[Op.operands])) h4
 ·obtain⟨v,h1,h2⟩:=cL hk
  obtain⟨ti,l1,h2⟩:=aD h2
  obtain⟨c,h2⟩:=h2.ok
  exact oW (m:=false) (fun n=>by simp only[dL,h1,ba,yt (hΘ _ _ l1).und c,if_true];rfl) a7 (dw rfl _) h2
 ·rename_i f first captured
  obtain⟨c,h2⟩:=hk.ok
  obtain⟨vs,h1,h2⟩:=A6 h2
  exact oW (m:=false) (fun n=>by simp only[dL,cq c,if_true,h1,aI];rfl) a7 (dw rfl _) h2
 ·obtain⟨v,h1,h2⟩:=cL hk
  obtain⟨ti,l1,h2⟩:=aD h2
  obtain⟨r,h3,h4⟩:=yS (hΘ _ _ l1) h2
  exact oW (m:=false) (fun n=>by simp only[dL,h1,ba,h3,aI]) a7 (dw rfl _) h4
 ·obtain⟨a,h1,h2⟩:=cL hk
  obtain⟨b,h3,h4⟩:=cL h2
  obtain⟨ti,l1,h4⟩:=aD h4
  have hu:=(hΘ _ _ l1).und
  split at h4
  ·rename_i E k1 a k2 b e _
   rw[e] at hu
   obtain⟨ei,l2,h4⟩:=aD h4
   have hei:=hΘ _ _ l2
   split at h4
   ·rename_i z τ hz hτ
    obtain⟨c,h4⟩:=h4.ok
    simp only[aA,beq_iff_eq,decide_eq_true_eq] at c
    obtain⟨⟨c1,c2⟩,c3⟩:=c
    obtain⟨x,hx,h5⟩:=LI h4
    obtain⟨h6,h7,h8⟩:=h5
    refine Mp (m:=false) (u:=[((n,0),.row E ((List.replicate a.toNat x).map (ai τ)))]) hn ?_ (lu hn rfl) (fun k hk=>?_) h8
    ·have h1':aX (fL t) _=some (.int k1 a):=h1
     have h3':aX (fL t) _=some (.int k2 b):=h3
     simp only[dL,h1',h3',ba,AC,show P.underlying _=some (.slice E) from hu,hei.elem (by rw[hz];rfl) c1,hei.zero z hz]
     rw[if_pos]
     ·simp only[nzM,eW,if_false,hx,List.map_replicate];rfl
     ·refine⟨h6.1,h6.2,h7,?_⟩
      simp only[NZ,aA,beq_iff_eq]
      refine⟨?_,by rw[bu];exact mD _ c3⟩
      have h9:=congrArg (fun d:D=>d.cells.length) hx
      simp only[gH,az,(fR τ x).1] at h9
      omega
    ·rcases aJ.1 hk with rfl|hk
     ·exact bk ..
     ·exact dw rfl _ k hk
   ·exact h4.elim
  ·exact h4.elim
 ·rename_i T x lo hi
  obtain⟨v,h1,h2⟩:=fS hk
  obtain⟨lo',h3,h4⟩:=xg h2
  obtain⟨hi',h5,h6⟩:=xg h4
  obtain⟨ti,l1,h6⟩:=aD h6
  obtain⟨q,r,u,vu,h7,h8,h9⟩:=Dd hΘ (hΘ _ _ l1) hn h6
  cases q with
  |true=>
   exact Mp (m:=true) hn (by simp only[dL,h1,h3,h5,ba,h7]) h8 (fun k hk=>hk) h9
  |false=>
   exact oW (m:=false) (fun n'=>by
    simp only[dL,h1,h3,h5,ba]
    rw[Dv rfl (m':=(n,0))]
    exact h7) h8 (fun k hk=>hk) h9
 ·rename_i T x f
  obtain⟨v,h1,h2⟩:=cL hk
  obtain⟨ti,l1,h2⟩:=aD h2
  have hu:=(hΘ _ _ l1).und
  split at h2
  ·rename_i fs cs e _
   rw[e] at hu
   obtain⟨g,g1,h2⟩:=le h2
   obtain⟨gi,l2,h2⟩:=aD h2
   obtain⟨r,h3,h4⟩:=cV (hΘ _ _ l2) h2
   exact oW (m:=false) (fun n=>by
    have h1':aX (fL t) _=some (.agg (ak cs)):=h1
    simp only[dL,h1',ba,AD,(hu.1 f g.1 g.2.1 g.2.2 g1).1,h3,aI]) a7 (dw rfl _) h4
  ·exact h2.elim
 ·obtain⟨v,h1,h2⟩:=cL hk
  obtain⟨i,h3,h4⟩:=cL h2
  obtain⟨ti,l1,h4⟩:=aD h4
  have hu:=(hΘ _ _ l1).und
  split at h4
  ·rename_i s k i e _
   rw[e] at hu
   refine oW (m:=false) (u:=[]) (fun n=>?_) a7 (dw rfl _) h4.2
   have h1':aX (fL t) _=some (.str s):=h1
   have h3':aX (fL t) _=some (.int k i):=h3
   simp only[dL,h1',h3',ba,rQ,show P.underlying _=some .string from hu]
   rw[if_pos h4.1]
   rfl
  ·rename_i m E cs k i e _
   rw[e] at hu
   obtain⟨ei,l2,h4⟩:=aD h4
   obtain⟨r,h5,h6⟩:=cV (hΘ _ _ l2) h4.2
   refine oW (m:=false) (u:=[]) (fun n=>?_) a7 (dw rfl _) h6
   have h1':aX (fL t) _=some (.agg (ak cs)):=h1
   have h3':aX (fL t) _=some (.int k i):=h3
   simp only[dL,h1',h3',ba,rQ,show P.underlying _=some (.array m E) from hu,(hΘ _ _ l2).size]
   rw[if_pos h4.1,h5]
   rfl
  ·exact h4.elim
 ·obtain⟨v,h1,h2⟩:=cL hk
  split at h2
  ·rename_i cs
   obtain⟨r,h3,h4⟩:=le h2
   exact oW (m:=false) (fun n=>by
    have h1':aX (fL t) _=some (.tup (ak cs)):=h1
    simp only[dL,h1',ba,nU,cX,be,h3,aI]) a7 (dw rfl _) h4
  ·exact h2.elim
 ·exact hk.elim

end Go.Proofs.YtpefhoohfkeflacGreatDoor.Am
