/- The plain machine with types: slices, addresses, literals. The plain machine with types: cuts, conversions, builtins. The plain machine with types: calls: names, views. The plain machine with types: calls. The plain machine with types: calls: what comes back. The plain machine with types: a call. The plain machine with types: a call, put together. The plain machine with types: what an operation looks at. The plain machine with types: one operation. The plain machine with types: one operation, put together. -/
import Derived.Test.YtbmnihglaokhmaaLN4
set_option linter.unusedSimpArgs false
set_option linter.unusedVariables false
set_option maxHeartbeats 1000000
namespace Go.Proofs.Ytbmnihglaokhmaa.Am
open Go Go.RowKit
def wB:List V→(List Int→Prop)→Prop
 |[],K=>K []
 | .int .i64 n::l,K=>wB l fun r=>K (n::r)
 |_::_,_=>False
theorem qT:∀{l:List V} {K:List Int→Prop},wB l K→∃ns:List Int,aB l=ns.map (D.int .i64)∧K ns
 |[],K,h=>⟨[],rfl,h⟩
 |v::l,K,h=>by
  cases v<;>try exact h.elim
  rename_i k n
  cases k<;>try exact h.elim
  obtain⟨ns,h1,h2⟩:=qT (l:=l) h
  exact⟨n::ns,by simp[aB,V.toD,h1],h2⟩
def V.pure0:V→Bool
 | .int .. | .bool _| .tt| .ff| .str _| .lst .. | .box .. | .nilp| .nils| .nilf| .nilm| .nili| .val _| .dbox _=>true
 |_=>false
theorem iC (l:List V)(h:l.all V.pure0=true):(aB l).all D.pure0=true:=by
 rw[ci,List.all_map]
 rw[bc] at h⊢
 intro x hx
 have:=h x hx
 cases x<;>first|rfl|cases this
theorem oF {t:Ty}(h:t.sz=1)(hp:t.pure=true)(xs:List t.den):(xs.map (aj t)).all D.pure0=true:=by
 rw[bc]
 intro y hy
 obtain⟨z,_,rfl⟩:=aP.1 hy
 have h1:=iG hp z
 rw[h] at h1
 have h2:=h1.1
 have h3:=h1.2
 match hc:(aj t z).cells,h2 with
 |[c],_=>
  rw[hc] at h3
  simp only[List.all_cons,List.all_nil,Bool.and_true] at h3
  by_cases hag:∃cs,aj t z= .agg cs
  ·obtain⟨cs,he⟩:=hag
   cases t<;>simp[Ty.sz] at h<;>first|(cases he;done)|(cases z<;>simp[aj,jJ,p8] at he;done)
  ·have:=cS fun cs hcs=>hag ⟨cs,hcs⟩
   rw[this] at hc
   simp only[List.cons.injEq,and_true] at hc
   rw[hc];exact h3
def mH (h:VH)(v:V)(K:(t:Ty)→List t.den→Prop):Prop:=
 match v with
 | .lst t xs=>K t xs
 | .nils=>K (.int .i64) []
 | .ref b=>dB h b fun x=>(match x with
  | .row _ t xs=>K t xs
  | .froz t xs=>K t xs
  |_=>False)
 | .fref k i=>dB h k fun x=>(match x with
  | .frow _ t xss=>fF xss i fun xs=>K t xs
  | .frowx _ t xss=>fF xss i fun ox=>jv ox False fun xs=>K t xs
  |_=>False)
 | .hro k o=>jv o (K (.int .i64) []) fun i=>dB h k fun x=>(match x with
  | .frow _ t xss=>fF xss i fun xs=>K t xs
  | .frowx _ t xss=>fF xss i fun ox=>jv ox False fun xs=>K t xs
  |_=>False)
 | .vref b o n=>dB h b fun x=>(match x with
  | .var _ cs=>Chk (cs.all V.pure0) (B2 cs o n fun r=>wB r fun ns=>K (.int .i64) ns)
  | .vari _ pre m t xs post=>Chk (pre.all V.pure0 && post.all V.pure0 && Nat.beq o pre.length && Nat.beq n m && t.sz==1 && t.pure) (ct (xs.length=m) (K t xs))
  |_=>False)
 |_=>False
theorem km {h:VH}{v:V}{K:(t:Ty)→List t.den→Prop}(hk:mH h v K):∃t,∃xs:List (Ty.den t),elems (toH h) v.toD=some (xs.map (aj t))∧K t xs:=by
 unfold mH at hk
 split at hk
 ·exact⟨_,_,rfl,hk⟩
 ·exact⟨_,_,rfl,hk⟩
 ·rename_i b
  obtain⟨x,h1,h3⟩:=bn hk
  split at h3
  ·rename_i E t xs
   have hl:=aI (i:=0) h1 (d:=.row E (xs.map (aj t))) rfl
   exact⟨_,_,by simp[elems,V.toD,hl],h3⟩
  ·rename_i t xs
   have hl:=aI (i:=0) h1 (d:=.froz (xs.map (aj t))) rfl
   exact⟨_,_,by simp[elems,V.toD,hl],h3⟩
  ·exact h3.elim
 ·rename_i k i
  obtain⟨x,h1,h3⟩:=bn hk
  split at h3
  ·rename_i E t xss
   obtain⟨xs,h4,h5⟩:=h3
   have hl:=aI (i:=i) h1 (d:=.row E (xs.map (aj t))) (by simp only[VB.blks,cd,h4,aM])
   exact⟨_,_,by simp[elems,V.toD,hl],h5⟩
  ·rename_i E t xss
   obtain⟨ox,h4,h5⟩:=h3
   cases ox with
   |none=>exact(h5.1 rfl).elim
   |some xs=>
    have hl:=aI (i:=i) h1 (d:=.row E (xs.map (aj t))) (by simp only[VB.blks,cd,h4,aM,rowX])
    exact⟨_,_,by simp[elems,V.toD,hl],h5.2 xs rfl⟩
  ·exact h3.elim
 ·rename_i k o
  cases o with
  |none=>exact⟨.int .i64,[],rfl,hk.1 rfl⟩
  |some i=>
   obtain⟨x,h1,h3⟩:=bn (hk.2 i rfl)
   split at h3
   ·rename_i E t xss
    obtain⟨xs,h4,h5⟩:=h3
    have hl:=aI (i:=i) h1 (d:=.row E (xs.map (aj t))) (by simp only[VB.blks,cd,h4,aM])
    exact⟨_,_,by simp[elems,V.toD,jJ,hl],h5⟩
   ·rename_i E t xss
    obtain⟨ox,h4,h5⟩:=h3
    cases ox with
    |none=>exact(h5.1 rfl).elim
    |some xs=>
     have hl:=aI (i:=i) h1 (d:=.row E (xs.map (aj t))) (by simp only[VB.blks,cd,h4,aM,rowX])
     exact⟨_,_,by simp[elems,V.toD,jJ,hl],h5.2 xs rfl⟩
   ·exact h3.elim
 ·rename_i b o n
  obtain⟨x,h1,h3⟩:=bn hk
  split at h3
  ·rename_i T cs
   have hl:=aI (i:=0) h1 (d:=.var T (aB cs)) rfl
   obtain⟨c1,h4⟩:=h3.ok
   obtain⟨h5,h6⟩:=sP h4
   obtain⟨ns,h7,h8⟩:=qT h6
   refine⟨.int .i64,ns,?_,h8⟩
   simp only[elems,V.toD,hl]
   rw[if_pos ⟨by rw[aR];exact h5,iC _ c1⟩]
   rw[show ns.map (aj (.int .i64))=ns.map (D.int .i64) from rfl,←h7]
   simp only[ci,List.map_take,List.map_drop]
  ·rename_i T pre m t xs post
   have hl:=aI (i:=0) h1 (d:=.var T (aB pre++xs.map (aj t)++aB post)) rfl
   obtain⟨c1,h4⟩:=h3.ok
   simp only[b6,beq_iff_eq] at c1
   obtain⟨⟨⟨⟨⟨c1,c2⟩,c3⟩,c4⟩,c5⟩,c6⟩:=c1
   obtain⟨h5,h6⟩:=h4
   have hp:o=pre.length:=bY c3
   have hn:n=m:=bY c4
   refine⟨t,xs,?_,h6⟩
   simp only[elems,V.toD,hl]
   have hall:(aB pre++xs.map (aj t)++aB post).all D.pure0=true:=by
    rw[List.all_append,List.all_append,iC _ c1,iC _ c2,oF c5 c6]
    rfl
   rw[if_pos ⟨by rw[ck,ck,aR,bH];omega,hall⟩]
   rw[cV,hp,←aR pre,List.drop_left,hn,←h5]
   rw[show xs.length=(xs.map (aj t)).length by rw[bH],List.take_left]
  ·exact h3.elim
 ·exact hk.elim
theorem pN (t:Ty)(xs:List t.den)(s:Nat)(h:t.sz=s):xg s (xs.map (aj t))=s:=Dp fun e he=>by
 obtain⟨x,_,rfl⟩:=aP.1 he
 rw[(d8 t x).1,h]
def Ey (ti:TI)(h:VH)(v:V)(K:V→Prop):Prop:=
 match ti.k with
 | .str=>(match v with| .str s=>K (.int .i64 (s.size:Nat))|_=>False)
 | .slice _=>mH h v fun _ xs=>K (.int .i64 (xs.length:Nat))
 |_=>False
theorem CQ {P:Program}{T:TypeId}{ti:TI}(ht:ti.ok P T){h:VH}{v:V}{K:V→Prop}(hk:Ey ti h v K):∃r,om P (toH h) T v.toD=some r.toD∧K r:=by
 have hu:=ht.und
 unfold Ey at hk
 split at hk
 ·rename_i e
  rw[e] at hu
  split at hk
  ·exact⟨_,by simp only[om,show P.underlying T=some .string from hu,V.toD],hk⟩
  ·exact hk.elim
 ·rename_i E e
  rw[e] at hu
  obtain⟨t,xs,h1,h2⟩:=km hk
  exact⟨_,by simp only[om,show P.underlying T=some (.slice E) from hu,h1,aM,bH,V.toD],h2⟩
 ·exact hk.elim
def nL (Θ:TT)(ti:TI)(h:VH)(n:Nat)(d1 d2:V)(K:V→VH→Prop):Prop:=
 match ti.k with
 | .slice E=>bK Θ E fun ei=>Chk (ei.z.isSome && decide (0<ei.sz)) (mH h d2 fun t ys=>(match d1 with
  | .ref b=>dB h b fun x=>(match x with
   | .row E' t' xs=>Chk (E'==E && t'.sz==ei.sz && !Nat.beq b n) (match kK t' t ys with
    |some ys'=>ct (nG ei.nb (xs.length+ys'.length)) (K (.ref n) [(b,.gone),(n,.row E t' (xs++ys'))])
    |none=>False)
   |_=>False)
  | .nils=>Chk (t.sz==ei.sz) (match ys with
   |[]=>K .nils []
   |y::ys'=>ct (nG ei.nb (ys'.length+1)) (K (.ref n) [(n,.row E t (y::ys'))]))
  |_=>False))
 |_=>False
theorem sW {h:VH}{b n:Nat}{x y:VB}{d:Blk}(hn:∀c:Id,n≤c.1→look (toH h) c=none)(hb:look h b=some x)(hs:x.sgl=true)(hbn:b≠n)(hy:y.blks=[d]):cH h [((b,0),.gone),((n,0),d)] [(b,.gone),(n,y)]:=by
 have h1:cH h [((b,0),.gone)] [(b,.gone)]:=eu hb hs rfl
 have h2:cH (puts [(b,VB.gone)] h) [((n,0),d)] [(n,y)]:=ma (fun i hi=>by
  rw[←h1.1,aS _ _ _ (fun z hz e=>by obtain rfl:=bd.1 hz;simp only[bi] at e;exact hbn e.1)]
  exact hn (n,i) (aN _)) hy
 exact od h1 h2
theorem ot {P:Program}{Θ:TT}(hΘ:Θ.ok P){T:TypeId}{ti:TI}(ht:ti.ok P T){h:VH}{n:Nat}(hn:∀c:Id,n≤c.1→look (toH h) c=none){d1 d2:V}{K:V→VH→Prop}(hk:nL Θ ti h n d1 d2 K):∃r u vu,gQ P (toH h) (n,0) T d1.toD d2.toD=some (r.toD,u)∧cH h u vu∧K r vu:=by
 have hu:=ht.und
 unfold nL at hk
 split at hk
 ·rename_i E e
  rw[e] at hu
  obtain⟨ei,l1,h1⟩:=aQ hk
  have hei:=hΘ _ _ l1
  obtain⟨c,h2⟩:=h1.ok
  simp only[b6,decide_eq_true_eq] at c
  obtain⟨t,ys,h3,h4⟩:=km h2
  have hel:=hei.elem c.1 c.2
  unfold gQ
  simp only[show P.underlying T=some (.slice E) from hu,hel,h3]
  split at h4
  ·rename_i b
   obtain⟨x,b1,h5⟩:=bn h4
   split at h5
   ·rename_i E' t' xs
    obtain⟨c2,h6⟩:=h5.ok
    simp only[b6,beq_iff_eq,iZ] at c2
    obtain⟨⟨rfl,c3⟩,c4⟩:=c2
    have hbn:b≠n:=by rintro rfl;simp at c4
    split at h6
    ·rename_i ys' hc
     have hce:=fH hc
     have hl:=aI (i:=0) b1 (d:=.row E' (xs.map (aj t'))) rfl
     refine⟨.ref n,[((b,0),.gone),((n,0),.row E' ((xs++ys').map (aj t')))],_,?_,sW hn b1 rfl hbn rfl,h6.2⟩
     rw[hce,if_pos (pN _ _ _ c3)]
     simp only[V.toD,hl]
     rw[if_pos ⟨trivial,by simpa using h6.1⟩]
     simp
    ·exact h6.elim
   ·exact h5.elim
  ·obtain⟨c3,h6⟩:=h4.ok
   simp only[beq_iff_eq] at c3
   rw[if_pos (pN _ _ _ c3)]
   split at h6
   ·exact⟨.nils,[],[],rfl,ba,h6⟩
   ·rename_i y ys'
    refine⟨.ref n,[((n,0),.row E ((y::ys').map (aj t)))],_,?_,fE hn rfl,h6.2⟩
    simp only[V.toD,bI]
    rw[if_pos (by simpa using h6.1)]
  ·exact h4.elim
 ·exact hk.elim
def ou (Θ:TT)(ti ti':TI)(h:VH)(n:Nat)(d1 d2:V)(K:V→VH→Prop):Prop:=
 match ti.k,ti'.k,d1,d2 with
 | .slice E,.int _,.ref b,.int _ m=>bK Θ E fun ei=>dB h b fun x=>(match x,ei.z with
  | .row E' (.int k2) xs,some (.int k3 z)=>Chk (E'==E && Nat.beq ei.sz 1 && !Nat.beq b n && decide (k3=k2)) (ct (0<m∧m≤1000000) (ct (nG ei.nb (xs.length+m.toNat)) (K (.ref n) [(b,.gone),(n,.row E (.int k2) (xs++List.replicate m.toNat z))])))
  |_,_=>False)
 |_,_,_,_=>False
theorem tp {P:Program}{Θ:TT}(hΘ:Θ.ok P){T T':TypeId}{ti ti':TI}(ht:ti.ok P T)(ht':ti'.ok P T'){h:VH}{n:Nat}(hn:∀c:Id,n≤c.1→look (toH h) c=none){d1 d2:V}{K:V→VH→Prop}(hk:ou Θ ti ti' h n d1 d2 K):∃r u vu,fG P (toH h) (n,0) T T' d1.toD d2.toD=some (r.toD,u)∧cH h u vu∧K r vu:=by
 have hu:=ht.und
 have hu':=ht'.und
 unfold ou at hk
 split at hk
 ·rename_i E kn b k m e e'
  rw[e] at hu
  rw[e'] at hu'
  obtain⟨ei,l1,h1⟩:=aQ hk
  have hei:=hΘ _ _ l1
  obtain⟨x,b1,h5⟩:=bn h1
  split at h5
  ·rename_i E' k2 xs k3 z hz
   obtain⟨c2,h6⟩:=h5.ok
   simp only[b6,beq_iff_eq,iZ,decide_eq_true_eq] at c2
   obtain⟨⟨⟨rfl,c1⟩,c4⟩,rfl⟩:=c2
   have hs1:ei.sz=1:=bY c1
   have hbn:b≠n:=by rintro rfl;simp at c4
   obtain⟨h7,h8,h9⟩:=h6
   have hl:=aI (i:=0) b1 (d:=.row E' (xs.map (aj (.int k3)))) rfl
   refine⟨.ref n,[((b,0),.gone),((n,0),.row E' ((xs++List.replicate m.toNat z).map (aj (.int k3))))],_,?_,sW hn b1 rfl hbn rfl,h9⟩
   simp only[fG,V.toD,show P.underlying T=some (.slice E') from hu,show P.underlying T'=some (.int _) from hu',hl,hei.elem (by rw[hz];rfl) (by omega),hei.zero _ hz]
   rw[if_pos ⟨trivial,hs1,h7.1,h7.2,by simpa using h8⟩]
   simp[List.map_replicate,aj]
  ·exact h5.elim
 ·exact hk.elim
def xD:List V→Nat→(List V→Prop)→Prop
 |l,0,K=>K l
 |[],_+1,_=>False
 |_::cs,n+1,K=>xD cs n K
theorem tE:∀{l:List V} {n:Nat} {K:List V→Prop},xD l n K→n≤l.length∧K (l.drop n)
 |l,0,K,h=>⟨gJ _,by cases l<;>simpa[xD] using h⟩
 |[],_+1,_,h=>h.elim
 |c::cs,n+1,K,h=>by
  obtain⟨h1,h2⟩:=tE (l:=cs) (n:=n) h
  exact⟨by simpa using h1,by simpa using h2⟩
def Ah (Θ:TT)(ti:TI)(h:VH)(d e:V)(K:V→VH→Prop):Prop:=
 match ti.k,d with
 | .slice E,.vref b o m=>bK Θ E fun ei=>Chk (ei.sz==1) (mH h e fun t ys=>Chk (t.sz==1 && t.pure) (dB h b fun x=>(match x with
  | .var T' cs=>pO cs o fun pre=>xD cs (o+m) fun post=>ct (ys.length=m) (K (.int .i64 (ys.length:Nat)) [(b,.vari T' pre m t ys post)])
  |_=>False)))
 |_,_=>False
theorem Ai {P:Program}{Θ:TT}(hΘ:Θ.ok P){T:TypeId}{ti:TI}(ht:ti.ok P T){h:VH}{d e:V}{K:V→VH→Prop}(hk:Ah Θ ti h d e K):∃r u vu,ng P (toH h) T d.toD e.toD=some (r.toD,u)∧cH h u vu∧K r vu:=by
 have hu:=ht.und
 unfold Ah at hk
 split at hk
 ·rename_i E b o m ek
  rw[ek] at hu
  obtain⟨ei,l1,h1⟩:=aQ hk
  have hei:=hΘ _ _ l1
  obtain⟨c,h2⟩:=h1.ok
  simp only[beq_iff_eq] at c
  obtain⟨t,ys,h3,h4⟩:=km h2
  obtain⟨c2,h4⟩:=h4.ok
  simp only[b6,beq_iff_eq] at c2
  obtain⟨x,b1,h5⟩:=bn h4
  split at h5
  ·rename_i T' cs
   have hl:=aI (i:=0) b1 (d:=.var T' (aB cs)) rfl
   obtain⟨g1,h6⟩:=lX h5
   obtain⟨g2,h7⟩:=tE h6
   obtain⟨h10,h11⟩:=h7
   refine⟨.int .i64 (ys.length:Nat),[((b,0),.var T' (aB (cs.take o)++ys.map (aj t)++aB (cs.drop (o+m))))],_,?_,eu b1 rfl rfl,h11⟩
   unfold ng
   have hsz:sizeT P E=some 1:=by rw[hei.size,c]
   simp only[show P.underlying T=some (.slice E) from hu,V.toD,hsz,h3,hl]
   have hmin:min (ys.map (aj t)).length m=ys.length:=by rw[bH];omega
   have hall:(ys.map (aj t)).all D.pure0=true:=oF c2.1 c2.2 ys
   rw[hmin,if_pos ⟨by rw[aR];omega,hall⟩,ii (by rw[bH];omega)]
   simp only[bk,bH,h10,ci,List.map_take,List.map_drop]
  ·exact h5.elim
 ·exact hk.elim
def F3 (g:Nat×Nat×Nat)(v:V)(K:V→Prop):Prop:=
 match v with
 | .ptr b o=>eQ (o+g.2.1) fun o'=>K (.ptr b o')
 | .eptr b j o=>eQ (o+g.2.1) fun o'=>K (.eptr b j o')
 | .fptr k i o=>eQ (o+g.2.1) fun o'=>K (.fptr k i o')
 | .feptr k i j o=>eQ (o+g.2.1) fun o'=>K (.feptr k i j o')
 | .iptr t e o=>eQ (o+g.2.1) fun o'=>K (.iptr t e o')
 | .hpo k p=>jv p False fun i=>K (.fptr k i g.2.1)
 | .box t e=>(match enc t e with
  | .agg _=>K (.iptr t e g.2.1)
  |_=>False)
 | .obo t p=>jv p False fun e=>(match enc t e with
  | .agg _=>K (.iptr t e g.2.1)
  |_=>False)
 |_=>False
theorem xK {P:Program}{T:TypeId}{i:Nat}{g:Nat×Nat×Nat}(hg:fU P T i=some g.2.1){t:Ty}{e:t.den}{K:V→Prop}(hk:match enc t e with| .agg _=>K (.iptr t e g.2.1)|_=>False):∃r,fj P T i (.box (aj t e).cells)=some r.toD∧K r:=by
 split at hk
 ·rename_i cs hc
  refine⟨_,?_,hk⟩
  simp only[V.toD,fj,hg,aM]
  have:=i4 t e
  rw[hc] at this
  rw[←this]
  rfl
 ·exact hk.elim
theorem Ei {P:Program}{T:TypeId}{i:Nat}{g:Nat×Nat×Nat}(hg:fU P T i=some g.2.1){v:V}{K:V→Prop}(hk:F3 g v K):∃r,fj P T i v.toD=some r.toD∧K r:=by
 unfold F3 at hk
 split at hk
 ·exact⟨_,by simp only[V.toD,fj,hg,aM],bJ hk⟩
 ·exact⟨_,by simp only[V.toD,fj,hg,aM],bJ hk⟩
 ·exact⟨_,by simp only[V.toD,fj,hg,aM],bJ hk⟩
 ·exact⟨_,by simp only[V.toD,fj,hg,aM],bJ hk⟩
 ·exact⟨_,by simp only[V.toD,fj,hg,aM],bJ hk⟩
 ·rename_i k p
  cases p with
  |none=>exact(hk.1 rfl).elim
  |some i=>exact⟨.fptr k i g.2.1,by simp only[V.toD,p8,fj,hg,aM,gM],hk.2 i rfl⟩
 ·exact xK hg hk
 ·rename_i t p
  cases p with
  |none=>exact(hk.1 rfl).elim
  |some e=>exact xK hg (hk.2 e rfl)
 ·exact hk.elim
def zi (i s:Nat)(K:Nat→Prop):Prop:=match s with|1=>K i|s=>K (i*s)
theorem nX {i s:Nat}{K:Nat→Prop}(h:zi i s K):K (i*s):=by
 unfold zi at h
 split at h
 ·rw[Nat.mul_one];exact h
 ·exact h
def Ga (Θ:TT)(ti:TI)(h:VH)(v:V)(i:Int)(K:V→Prop):Prop:=
 match ti.k with
 | .slice E=>bK Θ E fun ei=>(match v with
  | .ref b=>dB h b fun x=>(match x with
   | .row E' t xs=>Chk (E'==E) (ct (0≤i∧i<(xs.length:Nat)) (K (.eptr b i.toNat 0)))
   | .lit E' vs=>Chk (E'==E) (ct (0≤i∧i<(vs.length:Nat)) (eQ i.toNat fun j=>K (.eptr b j 0)))
   | .froz t xs=>Chk (t.sz==ei.sz) (nD xs i fun _ e=>K (.iptr t e 0))
   |_=>False)
  | .fref k j=>dB h k fun x=>(match x with
   | .frow E' t xss=>Chk (E'==E) (fF xss j fun xs=>ct (0≤i∧i<(xs.length:Nat)) (K (.feptr k j i.toNat 0)))
   |_=>False)
  | .hro k p=>jv p False fun j=>dB h k fun x=>(match x with
   | .frow E' t xss=>Chk (E'==E) (fF xss j fun xs=>ct (0≤i∧i<(xs.length:Nat)) (K (.feptr k j i.toNat 0)))
   | .frowx E' t xss=>Chk (E'==E) (fF xss j fun ox=>jv ox False fun xs=>ct (0≤i∧i<(xs.length:Nat)) (K (.feptr k j i.toNat 0)))
   |_=>False)
  | .lst t xs=>Chk (t.sz==ei.sz) (nD xs i fun _ e=>K (.iptr t e 0))
  |_=>False)
 | .arr m E=>bK Θ E fun ei=>ct (0≤i∧i<(m:Nat)) (match v with
  | .ptr b o=>dB h b fun x=>(match x with
   | .vari _ pre _ _ _ _=>(match Nat.beq o pre.length with
    |true=>eQ pre.length fun p=>zi i.toNat ei.sz fun j=>K (.aptr b p j)
    |false=>eQ (o+i.toNat * ei.sz) fun o'=>K (.ptr b o'))
   |_=>eQ (o+i.toNat * ei.sz) fun o'=>K (.ptr b o'))
  | .aptr b p j=>zi i.toNat ei.sz fun j'=>K (.aptr b p (j+j'))
  | .fptr k j o=>dB h k fun x=>(match x with
   | .fvari ..=>Chk (Nat.beq o 0) (zi i.toNat ei.sz fun j'=>K (.faptr k j 0 j'))
   |_=>eQ (o+i.toNat * ei.sz) fun o'=>K (.fptr k j o'))
  | .faptr k j p q=>zi i.toNat ei.sz fun j'=>K (.faptr k j p (q+j'))
  | .eptr b j o=>eQ (o+i.toNat * ei.sz) fun o'=>K (.eptr b j o')
  | .iptr t e o=>eQ (o+i.toNat * ei.sz) fun o'=>K (.iptr t e o')
  |_=>False)
 |_=>False
theorem AX {α:Type}{xs:List α}{i:Int}{x:α}(h0:0≤i)(h:xs[i.toNat]?=some x):i<(xs.length:Nat):=by
 have:=(cz.1 h).1
 omega
theorem xS {P:Program}{T E E':TypeId}{s:Nat}(hu':P.underlying T=some (.slice E))(hs:sizeT P E=some s){h:VH}{k j:Nat}{t:Ty}{xss:List (List t.den)}{xs:List t.den}(b1:look h k=some (.frow E' t xss))(c:E'=E)(hx:xss[j]?=some xs){ik:IntKind}{i:Int}(hi:0≤i∧i<(xs.length:Nat)):
  bL P (toH h) T (.ref (k,j)) (.int ik i)=some (V.feptr k j i.toNat 0).toD:=by
 subst c
 have hl:=aI (i:=j) b1 (d:=.row E' (xs.map (aj t))) (by simp only[VB.blks,cd,hx,aM])
 unfold bL
 simp only[hu',hs,elems,hl,bH]
 rw[if_pos hi]
 simp[V.toD]
theorem AV {P:Program}{T E E':TypeId}{s:Nat}(hu':P.underlying T=some (.slice E))(hs:sizeT P E=some s){h:VH}{k j:Nat}{t:Ty}{xss:List (Option (List t.den))}{xs:List t.den}(b1:look h k=some (.frowx E' t xss))(c:E'=E)(hx:xss[j]?=some (some xs)){ik:IntKind}{i:Int}(hi:0≤i∧i<(xs.length:Nat)):
  bL P (toH h) T (.ref (k,j)) (.int ik i)=some (V.feptr k j i.toNat 0).toD:=by
 subst c
 have hl:=aI (i:=j) b1 (d:=.row E' (xs.map (aj t))) (by simp only[VB.blks,cd,hx,aM,rowX])
 unfold bL
 simp only[hu',hs,elems,hl,bH]
 rw[if_pos hi]
 simp[V.toD]
theorem Eu {P:Program}{Θ:TT}(hΘ:Θ.ok P){T:TypeId}{ti:TI}(ht:ti.ok P T){h:VH}{v:V}{k:IntKind}{i:Int}{K:V→Prop}(hk:Ga Θ ti h v i K):∃r,bL P (toH h) T v.toD (.int k i)=some r.toD∧K r:=by
 have hu:=ht.und
 unfold Ga at hk
 split at hk
 ·rename_i E e
  rw[e] at hu
  have hu':P.underlying T=some (.slice E):=hu
  obtain⟨ei,l1,hk⟩:=aQ hk
  have hs:=(hΘ _ _ l1).size
  split at hk
  ·rename_i b
   obtain⟨x,b1,h5⟩:=bn hk
   split at h5
   ·rename_i E' t xs
    have hl:=aI (i:=0) b1 (d:=.row E' (xs.map (aj t))) rfl
    obtain⟨c,h6⟩:=h5.ok
    simp only[beq_iff_eq] at c
    subst c
    refine⟨_,?_,h6.2⟩
    unfold bL
    simp only[hu',hs,elems,V.toD,hl,bH]
    rw[if_pos h6.1]
    simp
   ·rename_i E' vs
    have hl:=aI (i:=0) b1 (d:=.row E' (aB vs)) rfl
    obtain⟨c,h6⟩:=h5.ok
    simp only[beq_iff_eq] at c
    subst c
    refine⟨_,?_,bJ h6.2⟩
    unfold bL
    simp only[hu',hs,elems,V.toD,hl,aR]
    rw[if_pos h6.1]
    simp
   ·rename_i t xs
    have hl:=aI (i:=0) b1 (d:=.froz (xs.map (aj t))) rfl
    obtain⟨c,h0,x,hx,h7⟩:=h5.ok
    simp only[beq_iff_eq] at c
    refine⟨_,?_,h7⟩
    unfold bL
    simp only[hu',hs,elems,V.toD,hl,bH]
    rw[if_pos ⟨h0,AX h0 hx⟩]
    simp only[cd,hx,aM]
    rw[if_pos (by rw[(d8 t x).1,c])]
   ·exact h5.elim
  ·rename_i k' j
   obtain⟨x,b1,h5⟩:=bn hk
   split at h5
   ·obtain⟨c,h6⟩:=h5.ok
    simp only[beq_iff_eq] at c
    obtain⟨xs,hx,hi,h7⟩:=h6
    exact⟨_,xS hu' hs b1 c hx hi,h7⟩
   ·exact h5.elim
  ·rename_i k' p _
   cases p with
   |none=>exact(hk.1 rfl).elim
   |some j=>
    obtain⟨x,b1,h5⟩:=bn (hk.2 j rfl)
    split at h5
    ·obtain⟨c,h6⟩:=h5.ok
     simp only[beq_iff_eq] at c
     obtain⟨xs,hx,hi,h7⟩:=h6
     exact⟨_,xS hu' hs b1 c hx hi,h7⟩
    ·obtain⟨c,h6⟩:=h5.ok
     simp only[beq_iff_eq] at c
     obtain⟨ox,hx,h7⟩:=h6
     cases ox with
     |none=>exact(h7.1 rfl).elim
     |some xs=>
      obtain⟨hi,h7⟩:=h7.2 xs rfl
      exact⟨_,AV hu' hs b1 c hx hi,h7⟩
    ·exact h5.elim
  ·rename_i t xs _
   obtain⟨c,h0,x,hx,h7⟩:=hk.ok
   simp only[beq_iff_eq] at c
   refine⟨_,?_,h7⟩
   unfold bL
   simp only[hu',hs,elems,V.toD,bH]
   rw[if_pos ⟨h0,AX h0 hx⟩]
   simp only[cd,hx,aM]
   rw[if_pos (by rw[(d8 t x).1,c])]
  ·exact hk.elim
 ·rename_i m E e
  rw[e] at hu
  have hu':P.underlying T=some (.array m E):=hu
  obtain⟨ei,l1,hk⟩:=aQ hk
  have hs:=(hΘ _ _ l1).size
  obtain⟨hc,hk⟩:=hk
  unfold bL
  simp only[hu',hs]
  rw[if_pos hc]
  split at hk
  ·obtain⟨x,b1,h5⟩:=bn hk
   split at h5
   ·split at h5
    ·rename_i ho
     have ho':=bY ho
     exact⟨_,by simp only[V.toD,ho'],nX (bJ h5)⟩
    ·exact⟨_,by simp only[V.toD],bJ h5⟩
   ·exact⟨_,by simp only[V.toD],bJ h5⟩
  ·exact⟨_,by simp only[V.toD,mj],nX hk⟩
  ·obtain⟨x,b1,h5⟩:=bn hk
   split at h5
   ·obtain⟨c,h6⟩:=h5.ok
    have ho:=bY c
    exact⟨_,by simp only[V.toD,ho],nX h6⟩
   ·exact⟨_,by simp only[V.toD],bJ h5⟩
  ·exact⟨_,by simp only[V.toD,mj],nX hk⟩
  ·exact⟨_,by simp only[V.toD],bJ hk⟩
  ·exact⟨_,by simp only[V.toD],bJ hk⟩
  ·exact hk.elim
 ·exact hk.elim
def Ay (fs:List (Nat×Nat×Nat))(cs:List V):List (Nat×V)→(List V→Prop)→Prop
 |[],K=>K cs
 |(i,v)::l,K=>uo fs i fun f=>Chk (v.whole && pg v.cells f.2.2) (qx cs f.2.1 v.cells fun cs'=>Ay fs cs' l K)
theorem tP {fs:List (Nat×Nat×Nat)}:∀{ps:List (Nat×V)} {cs:List V} {K:List V→Prop},Ay fs cs ps K→∃cs',gw (fun i=>(fs.map fun f=>(f.2.1,f.2.2))[i]?) (aB cs) (vA ps)=some (aB cs')∧K cs'
 |[],cs,K,h=>⟨cs,rfl,h⟩
 |(i,v)::l,cs,K,h=>by
  obtain⟨f,h1,h2⟩:=jb h
  obtain⟨c,h3⟩:=h2.ok
  simp only[b6] at c
  obtain⟨h4,h5⟩:=ia h3
  obtain⟨cs',h6,h7⟩:=tP h5
  have hl:=gy c.2
  exact⟨cs',wj (off:=f.2.1) (size:=f.2.2) (by rw[cd,h1];rfl) (by rw[fA];exact c.1) (by rw[bq,aR];exact hl) (by rw[aR];omega) (by rw[bq,j3]) h6,h7⟩
def ub:List (Nat×V)→Nat→Bool
 |[],_=>true
 |(i,_)::l,k=>Nat.beq i k && ub l (k+1)
def qf (t:Ty):List (Nat×V)→Option (List t.den)
 |[]=>some []
 |(_,v)::l=>match E1 t (nzL v),qf t l with
  |some x,some xs=>some (x::xs)
  |_,_=>none
where
 nzL (v:V):V:=match v with
  | .agg cs=>.agg (ir cs)
  |v=>E3 v
theorem sB (v:V):(qf.nzL v).toD=nzE v.toD:=by
 unfold qf.nzL
 split
 ·simp only[V.toD,nzE,lL]
 ·rename_i hne
  rw[Bo]
  cases v
  case hro k o=>cases o<;>rfl
  case hpo k o=>cases o<;>rfl
  case obo t o=>cases o<;>rfl
  case agg cs=>exact absurd rfl (hne _)
  all_goals rfl
theorem xB {t:Ty}:∀{l:List (Nat×V)} {xs:List t.den},qf t l=some xs→((vA l).map fun x=>nzE x.2)=xs.map (aj t)
 |[],xs,h=>by simp only[qf,aK] at h;subst h;rfl
 |(i,v)::l,xs,h=>by
  simp only[qf] at h
  split at h
  ·rename_i x xs' h1 h2
   simp only[aK] at h
   subst h
   have:=xB h2
   simp only[vA,bI,eI] at this⊢
   rw[←rQ h1,sB]
   simp only[List.cons.injEq,true_and]
   exact this
  ·cases h
theorem uc:∀{l:List (Nat×V)} {k:Nat},ub l k=true→(vA l).map (·.1)=List.range' k l.length
 |[],k,_=>rfl
 |(i,v)::l,k,h=>by
  simp only[ub,b6] at h
  have hi:i=k:=bY h.1
  have:=uc h.2
  simp only[vA,bI,eI,dZ,List.range'_succ] at this⊢
  rw[hi]
  exact congrArg (k:: ·) this
def mD (len:Nat)(o:Option V)(dflt:Nat)(K:Nat→Prop):Prop:=
 match o with
 |none=>K dflt
 |some (.int _ i)=>ct (0≤i∧i≤(len:Nat)) (K i.toNat)
 |_=>False
theorem ki {len dflt:Nat}{o:Option V}{K:Nat→Prop}(h:mD len o dflt K):∃k,fS len (o.map V.toD) dflt=some k∧(o=none→k=dflt)∧K k:=by
 unfold mD at h
 split at h
 ·exact⟨dflt,rfl,fun _=>rfl,h⟩
 ·exact⟨_,by simp only[aM,V.toD,fS];rw[if_pos h.1],fun e=>(by cases e),h.2⟩
 ·exact h.elim
def Ea {α:Type}(xs:List α)(lo hi:Option V)(ll hh:Nat):List α:=
 match lo,hi with
 |none,none=>xs
 |none,_=>xs.take hh
 |_,none=>xs.drop ll
 |_,_=>(xs.take hh).drop ll
theorem Cv {α:Type}(xs:List α){lo hi:Option V}{ll hh:Nat}(h1:hi=none→hh=xs.length)(h2:lo=none→ll=0):Ea xs lo hi ll hh=(xs.take hh).drop ll:=by
 unfold Ea
 split
 ·rw[h1 rfl,h2 rfl];simp
 ·rw[h2 rfl];simp
 ·rw[h1 rfl];simp
 ·rfl
def yN (ei:TI){t:Ty}(xs:List t.den)(lo hi:Option V)(K:List t.den→Prop):Prop:=
 Chk (t.sz==ei.sz) (mD xs.length hi xs.length fun hh=>mD hh lo 0 fun ll=>K (Ea xs lo hi ll hh))
def w8 (Θ:TT)(ti:TI)(h:VH)(n:Nat)(v:V)(lo hi:Option V)(K:Bool→V→VH→Prop):Prop:=
 match ti.k with
 | .str=>(match v with
  | .str s=>mD s.size hi s.size fun hh=>mD hh lo 0 fun ll=>K false (.str (s.extract ll hh)) []
  |_=>False)
 | .slice E=>bK Θ E fun ei=>(match v with
  | .lst t xs=>yN ei xs lo hi fun ys=>K false (.lst t ys) []
  | .nils=>yN ei (t:=.int .i64) [] lo hi fun ys=>K false (.lst (.int .i64) ys) []
  | .ref b=>dB h b fun x=>(match x with
   | .row E' t xs=>(match t.pure && !ti.own with
    |true=>Chk t.pure (yN ei xs lo hi fun ys=>K false (.lst t ys) [(b,.froz t xs)])
    |false=>Chk (match lo with|none=>!Nat.beq b n|_=>false) (yN ei xs none hi fun ys=>K true (.ref n) [(b,.gone),(n,.row E' t ys)]))
   | .froz t xs=>yN ei xs lo hi fun ys=>K false (.lst t ys) []
   |_=>False)
  |_=>False)
 | .arr m E=>(match v,lo,hi with
  | .ptr b o,none,none=>bK Θ E fun _=>dB h b fun x=>(match x with
   | .var _ _=>Chk (decide (m≤maxLen)) (K false (.vref b o m) [])
   | .vari _ _ _ _ _ _=>Chk (decide (m≤maxLen)) (K false (.vref b o m) [])
   |_=>False)
  |_,_,_=>False)
 |_=>False
theorem lj {P:Program}{E:TypeId}{ei:TI}(_:ei.ok P E){t:Ty}{xs:List t.den}{lo hi:Option V}{K:List t.den→Prop}(h:yN ei xs lo hi K):
  xg ei.sz (xs.map (aj t))=ei.sz∧∃hh ll ys,fS (xs.map (aj t)).length (hi.map V.toD) (xs.map (aj t)).length=some hh∧fS hh (lo.map V.toD) 0=some ll∧((xs.map (aj t)).take hh).drop ll=ys.map (aj t)∧K ys:=by
 obtain⟨c,h1⟩:=Chk.ok h
 simp only[beq_iff_eq] at c
 obtain⟨hh,b1,b2,h2⟩:=ki h1
 obtain⟨ll,b3,b4,h3⟩:=ki h2
 refine⟨pN _ _ _ c,hh,ll,_,by rw[bH];exact b1,b3,?_,h3⟩
 rw[Cv xs b2 b4,←List.map_take,←List.map_drop]
theorem row_all {t:Ty}(ht:t.pure=true)(xs:List t.den):((xs.map (aj t)).all fun e=>e.cells.all D.pure0)=true:=by
 rw[bc]
 intro e he
 obtain⟨x,_,rfl⟩:=aP.1 he
 exact(iG ht x).2
theorem zK {P:Program}{Θ:TT}(hΘ:Θ.ok P){T:TypeId}{ti:TI}(ht:ti.ok P T){h:VH}{n:Nat}(hn:∀c:Id,n≤c.1→look (toH h) c=none){v:V}{lo hi:Option V}{K:Bool→V→VH→Prop}(hk:w8 Θ ti h n v lo hi K):∃q r u vu,eK P (toH h) q (n,0) T v.toD (lo.map V.toD) (hi.map V.toD)=some (r.toD,u)∧cH h u vu∧K q r vu:=by
 have hu:=ht.und
 unfold w8 at hk
 split at hk
 ·rename_i e
  rw[e] at hu
  split at hk
  ·rename_i s
   obtain⟨hh,b1,b2,h2⟩:=ki hk
   obtain⟨ll,b3,b4,h3⟩:=ki h2
   refine⟨_,_,[],_,?_,ba,h3⟩
   unfold eK
   simp only[show P.underlying T=some .string from hu,V.toD,b1,b3]
  ·exact hk.elim
 ·rename_i E e
  rw[e] at hu
  have hu':P.underlying T=some (.slice E):=hu
  obtain⟨ei,l1,hk⟩:=aQ hk
  have hei:=hΘ _ _ l1
  unfold eK
  simp only[hu',hei.size]
  split at hk
  ·obtain⟨c,hh,ll,ys,b1,b2,b3,h3⟩:=lj hei hk
   exact⟨_,_,[],_,by simp only[V.toD,elems,c,if_true,b1,b2,b3],ba,h3⟩
  ·obtain⟨c,hh,ll,ys,b1,b2,b3,h3⟩:=lj hei hk
   simp only[dt] at c b1 b3
   exact⟨_,_,[],_,by simp only[V.toD,elems,c,if_true,b1,b2,b3],ba,h3⟩
  ·rename_i b _
   obtain⟨x,x1,h2⟩:=bn hk
   split at h2
   ·rename_i E' t xs
    have hl:=aI (i:=0) x1 (d:=.row E' (xs.map (aj t))) rfl
    split at h2
    ·obtain⟨cp,h2⟩:=h2.ok
     obtain⟨c,hh,ll,ys,b1,b2,b3,h3⟩:=lj hei h2
     refine⟨_,_,[((b,0),.froz (xs.map (aj t)))],_,?_,eu x1 rfl rfl,h3⟩
     simp only[V.toD,elems,hl,c,if_true,b1,b2,b3,eZ,if_false,row_all cp]
    ·obtain⟨c0,h9⟩:=h2.ok
     clear h2
     cases lo with
     |some l=>cases c0
     |none=>
      have hbn:b≠n:=by rintro rfl;simp at c0
      obtain⟨c,hh,ll,ys,b1,b2,b3,h3⟩:=lj hei h9
      simp only[Option.map_none,fS,aK] at b2
      subst b2
      refine⟨_,.ref n,[((b,0),.gone),((n,0),.row E' (ys.map (aj t)))],_,?_,sW hn x1 rfl hbn rfl,h3⟩
      rw[List.drop_zero] at b3
      have e0:∀q:Nat,fS q (none:Option D) 0=some 0:=fun _=>rfl
      simp only[V.toD,elems,hl,c,if_true,b1,Option.map_none,e0,b3]
   ·rename_i t xs
    have hl:=aI (i:=0) x1 (d:=.froz (xs.map (aj t))) rfl
    obtain⟨c,hh,ll,ys,b1,b2,b3,h3⟩:=lj hei h2
    exact⟨false,_,[],_,by simp only[V.toD,elems,hl,c,if_true,b1,b2,b3],ba,h3⟩
   ·exact h2.elim
  ·exact hk.elim
 ·rename_i m E e
  rw[e] at hu
  split at hk
  ·obtain⟨ei,l1,hk⟩:=aQ hk
   obtain⟨x,x1,h2⟩:=bn hk
   split at h2
   ·rename_i T' cs
    have hl:=aI (i:=0) x1 (d:=.var T' (aB cs)) rfl
    obtain⟨c,h3⟩:=h2.ok
    simp only[decide_eq_true_eq] at c
    refine⟨_,_,[],_,?_,ba,h3⟩
    unfold eK
    simp only[show P.underlying T=some (.array m E) from hu,V.toD,(hΘ _ _ l1).size,Option.map_none,hl,if_pos c]
   ·rename_i T' pre m' t xs post
    have hl:=aI (i:=0) x1 (d:=.var T' (aB pre++xs.map (aj t)++aB post)) rfl
    obtain⟨c,h3⟩:=h2.ok
    simp only[decide_eq_true_eq] at c
    refine⟨_,_,[],_,?_,ba,h3⟩
    unfold eK
    simp only[show P.underlying T=some (.array m E) from hu,V.toD,(hΘ _ _ l1).size,Option.map_none,hl,if_pos c]
   ·exact h2.elim
  ·exact hk.elim
 ·exact hk.elim
def rM (t:Ty)(xs:List t.den)(K:ByteArray→Prop):Prop:=
 match t,xs with
 | .int .u8,xs=>K ⟨(xs.map fun n:Int=>UInt8.ofNat n.toNat).toArray⟩
 |_,_=>False
theorem vT {t:Ty}{xs:List t.den}{K:ByteArray→Prop}(h:rM t xs K):∃bs,(xs.map (aj t)).mapM kj=some bs∧K ⟨bs.toArray⟩:=by
 unfold rM at h
 split at h
 ·rename_i xs
  refine⟨_,?_,h⟩
  rw[show xs.map (aj (.int .u8))=xs.map (D.int .u8) from rfl,List.mapM_map]
  exact q9 (f:=kj∘D.int .u8) fun x _=>rfl
 ·exact h.elim
def Af (Θ:TT)(ti si:TI)(h:VH)(v:V)(K:V→Prop):Prop:=
 match ti.k with
 | .int k=>(match v,si.k with
  | .int _ n,.int _=>Ari k n fun z=>K (.int k z)
  |_,_=>False)
 | .str=>(match si.k with
  | .str=>(match v with
   | .str s=>K (.str s)
   |_=>False)
  | .slice E=>bK Θ E fun ei=>(match ei.k with
   | .int .u8=>Chk (ei.sz==1) (mH h v fun t xs=>rM t xs fun s=>K (.str s))
   |_=>False)
  |_=>False)
 |_=>False
theorem Ag {P:Program}{Θ:TT}(hΘ:Θ.ok P){S T:TypeId}{ti si:TI}(ht:ti.ok P T)(hs:si.ok P S){h:VH}{v:V}{K:V→Prop}(hk:Af Θ ti si h v K):∃r,jl P (toH h) S T v.toD=some r.toD∧K r:=by
 have hu:=ht.und
 have hv:=hs.und
 unfold Af at hk
 split at hk
 ·rename_i k e
  rw[e] at hu
  split at hk
  ·rename_i k1 n1 k2 e2
   rw[e2] at hv
   refine⟨_,?_,hk.ok⟩
   unfold jl
   simp only[show P.underlying T=some (.int k) from hu,show P.underlying S=some (.int k2) from hv,V.toD]
  ·exact hk.elim
 ·rename_i e
  rw[e] at hu
  split at hk
  ·rename_i e2
   rw[e2] at hv
   split at hk
   ·refine⟨_,?_,hk⟩
    unfold jl
    simp only[show P.underlying T=some .string from hu,show P.underlying S=some .string from hv,V.toD]
   ·exact hk.elim
  ·rename_i E e2
   rw[e2] at hv
   obtain⟨ei,l1,hk⟩:=aQ hk
   have hei:=hΘ _ _ l1
   have hek:=hei.und
   split at hk
   ·rename_i e3
    rw[e3] at hek
    obtain⟨c,hk⟩:=hk.ok
    simp only[beq_iff_eq] at c
    obtain⟨t,xs,h1,h2⟩:=km hk
    obtain⟨bs,h3,h4⟩:=vT h2
    refine⟨_,?_,h4⟩
    unfold jl
    have hsz:sizeT P E=some 1:=by rw[hei.size,c]
    simp only[show P.underlying T=some .string from hu,show P.underlying S=some (.slice E) from hv,show P.underlying E=some (.int .u8) from hek,hsz,h1,h3,V.toD]
   ·exact hk.elim
  ·exact hk.elim
 ·exact hk.elim
def xH (t:VT)(x:Option Operand)(K:Option V→Prop):Prop:=
 match x with
 |none=>K none
 |some x=>ml t x fun v=>K (some v)
theorem tK {t:VT}{x:Option Operand}{K:Option V→Prop}(h:xH t x K):∃v,iH (toT t) x=some (v.map V.toD)∧K v:=by
 unfold xH at h
 split at h
 ·exact⟨none,rfl,h⟩
 ·obtain⟨v,h1,h2⟩:=ce h
  exact⟨some v,by simp only[iH,h1,aM],h2⟩
def bt (P:Program)[PhC P](f:FuncId)(vs:List V)(hin:VH)(r:V)(hout:VH):Prop:=Con P f (aB vs) (toH hin) r.toD (toH hout)
def dR (P:Program)[PhC P](f:FuncId)(vs:List V)(hin:VH)(K:V→VH→Prop):Prop:=∃r hout,bt P f vs hin r hout∧K r hout
def lK (n:Nat):List Nat→Nat→Nat
 |[],i=>n+i
 |o::_,0=>o
 |_::os,i+1=>lK n os i
def gN (os:List Nat)(n k:Nat):Nat:=match k with
 |0=>0
 |1=>1
 |2=>2
 |3=>3
 |k+4=>lK n os k
abbrev gI (g:Nat→Nat):Id→Id:=fun b=>(g b.1,b.2)
def zo (os:List Nat)(n:Nat):Bool:=jS os && (os.all fun o=>Nat.ble 4 o && Nat.blt o n) && Nat.ble 4 n
theorem db {n:Nat}:∀{os:List Nat} {i b:Nat},os[i]?=some b→lK n os i=b
 |[],i,b,h=>by simp at h
 |o::os,0,b,h=>by simpa[lK] using h
 |o::os,i+1,b,h=>by simpa[lK] using db (os:=os) (i:=i) (by simpa using h)
theorem um {n:Nat}:∀{os:List Nat} {i:Nat},os.length≤i→lK n os i=n+(i-os.length)
 |[],i,_=>by simp[lK]
 |o::os,0,h=>by simp at h
 |o::os,i+1,h=>by
  have:=um (n:=n) (os:=os) (i:=i) (by simpa using h)
  simp only[lK,this,dZ]
  omega
theorem mN (os:List Nat)(n:Nat){k:Nat}(hk:k<4):gN os n k=k:=by
 match k,hk with
 |0,_|1,_|2,_|3,_=>rfl
theorem ee (os:List Nat)(n m:Nat):gN os n (4+m)=lK n os m:=by rw[Nat.add_comm];rfl
theorem yg {os:List Nat}{n:Nat}(h:zo os n=true):os.Nodup∧(∀o∈os,4≤o∧o<n)∧4≤n:=by
 unfold zo at h
 simp only[b6,bc] at h
 obtain⟨⟨h1,h2⟩,h3⟩:=h
 exact⟨iO h1,fun o ho=>⟨Nat.le_of_ble_eq_true (h2 o ho).1,by have:=(h2 o ho).2;simpa[Nat.blt_eq] using this⟩,Nat.le_of_ble_eq_true h3⟩
theorem nS (os:List Nat)(n k:Nat):(k<4∧gN os n k=k)∨(∃m b,k=4+m∧os[m]?=some b∧gN os n k=b)∨(∃m,k=4+m∧os.length≤m∧gN os n k=n+(m-os.length)):=by
 by_cases hk:k<4
 ·exact .inl ⟨hk,mN os n hk⟩
 ·obtain⟨m,rfl⟩:∃m,k=4+m:=⟨k-4,by omega⟩
  rw[ee]
  by_cases hm:m<os.length
  ·exact .inr (.inl ⟨m,os[m],rfl,a6 hm,db (a6 hm)⟩)
  ·exact .inr (.inr ⟨m,rfl,by omega,um (by omega)⟩)
theorem AJ {os:List Nat}{n:Nat}(h:zo os n=true){a b:Nat}(he:gN os n a=gN os n b):a=b:=by
 obtain⟨h1,h2,h3⟩:=yg h
 rcases nS os n a with⟨a1,a2⟩|⟨m,x,rfl,a1,a2⟩|⟨m,rfl,a1,a2⟩<;>rcases nS os n b with⟨b1,b2⟩|⟨m',y,rfl,b1,b2⟩|⟨m',rfl,b1,b2⟩<;>rw[a2,b2] at he
 ·exact he
 ·have:=h2 y (dm b1);omega
 ·omega
 ·have:=h2 x (dm a1);omega
 ·subst he
  have e1:=(cz.1 a1).1
  have:=(List.getElem?_inj e1 h1).1 (a1.trans b1.symm)
  omega
 ·have:=h2 x (dm a1);omega
 ·omega
 ·have:=h2 y (dm b1);omega
 ·omega
theorem AI {os:List Nat}{n:Nat}(h:zo os n=true){a b:Id}(he:gI (gN os n) a=gI (gN os n) b):a=b:=by
 obtain⟨a1,a2⟩:=a
 obtain⟨b1,b2⟩:=b
 simp only[gI,bi] at he⊢
 exact⟨AJ h he.1,he.2⟩
def kZ (b:Nat):List Nat→Nat→(Option Nat→Prop)→Prop
 |[],_,K=>K none
 |o::os,i,K=>bif Nat.beq o b then K (some i) else eQ (i+1) fun i=>kZ b os i K
theorem dP {b:Nat}:∀{os:List Nat} {i:Nat} {K:Option Nat→Prop},kZ b os i K→∃r,(r=none→b∉os)∧(∀j,r=some j→∃m,j=i+m∧os[m]?=some b)∧K r
 |[],i,K,hk=>⟨none,by simp,by simp,hk⟩
 |o::os,i,K,hk=>by
  simp only[kZ] at hk
  cases hb:Nat.beq o b with
  |true=>
   rw[hb] at hk
   obtain rfl:=bY hb
   exact⟨some i,by simp,fun j hj=>⟨0,by simpa using hj.symm,rfl⟩,hk⟩
  |false=>
   rw[hb] at hk
   simp only[cond_false] at hk
   have hk:=bJ hk
   obtain⟨r,h1,h2,h3⟩:=dP hk
   refine⟨r,fun hr hm=>?_,fun j hj=>?_,h3⟩
   ·rcases a9.1 hm with rfl|hm
    ·simp at hb
    ·exact h1 hr hm
   ·obtain⟨m,e1,e2⟩:=h2 j hj
    exact⟨m+1,by omega,by simpa using e2⟩
def Ty.fams:Ty→List Nat
 | .hr k| .hp k| .vtxo k| .pplm k| .nod k| .evto k=>[k]
 | .pplo k k'| .lres k k'=>[k,k']
 |_=>[]
def B3 (a b:List Nat):Bool:=a.all fun x=>b.contains x
theorem sQ {a b:List Nat}(h:B3 a b=true):∀x∈a,x∈b:=by
 unfold B3 at h
 rw[bc] at h
 intro x hx
 simpa using h x hx
def FY (pss:List (List Int)):Option Nat→Option (List Int)
 |some i=>pss[i]?
 |none=>some []
def Fe (pss:List (List Int))(x:VtxO):Option Vtx:=(FY pss x.parents).map fun ps=>⟨x.round,x.author,ps,x.digest⟩
def GA (pss mss:List (List Int))(x:PplO):Option Ppl:=(Fe pss x.v).bind fun v=>(FY mss x.members).map fun ms=>⟨v,ms⟩
def Gy (pss:List (List Int))(x:EvtO):Option Evt:=(Fe pss x.v).map fun v=>⟨x.kind,x.a,x.b,v⟩
def Gz (pss:List (List Int))(vss:List (List VtxO)):Option Nat→Option (List Vtx)
 |some i=>vss[i]?.bind fun vs=>vs.mapM (Fe pss)
 |none=>some []
def F0 (pss:List (List Int))(xs:List VtxO):List (List Vtx):=(xs.mapM (Fe pss)).toList
def FZ (pss mss:List (List Int))(xs:List PplO):List (List Ppl):=(xs.mapM (GA pss mss)).toList
def FW (pss:List (List Int))(xs:List EvtO):List (List Evt):=(xs.mapM (Gy pss)).toList
def FX (pss:List (List Int))(vss:List (List VtxO))(xs:List (Option Nat)):List (List (List Vtx)):=(xs.mapM (Gz pss vss)).toList
def Al (h:VH)(b:Nat)(t:Ty)(xs:List t.den)(K:V→List Nat→Prop):Prop:=
 match t,xs with
 | .vtxo k,xs=>(match a7 h k with
  |some (.frow _ (.int .i64) pss)=>fF (F0 pss xs) 0 fun ys=>K (.lst .vtx ys) [b,k]
  |_=>False)
 | .pplo k k',xs=>(match a7 h k,a7 h k' with
  |some (.frow _ (.int .i64) pss),some (.frow _ (.int .i64) mss)=>fF (FZ pss mss xs) 0 fun ys=>K (.lst .ppl ys) [b,k,k']
  |_,_=>False)
 | .evto k,xs=>(match a7 h k with
  |some (.frow _ (.int .i64) pss)=>fF (FW pss xs) 0 fun ys=>K (.lst .evt ys) [b,k]
  |_=>False)
 | .hr k,xs=>(match a7 h k with
  |some (.frow _ (.vtxo k') vss)=>(match a7 h k' with
   |some (.frow _ (.int .i64) pss)=>fF (FX pss vss xs) 0 fun ys=>K (.lst (.lst .vtx) ys) [b,k,k']
   |_=>False)
  |_=>False)
 |_,_=>False
mutual
def b8 (os fs:List Nat)(h:VH)(v:V)(K:V→List Nat→Prop):Prop:=
 match v with
 | .ref b=>kZ b os 4 fun r=>(match r with
  |some i=>K (.ref i) []
  |none=>(match a7 h b with
   |some (.row _ t xs)=>(match t.pure with
    |true=>K (.lst t xs) [b]
    |false=>Chk (os.isEmpty && fs.isEmpty) (Al h b t xs K))
   |some (.froz t xs)=>K (.lst t xs) [b]
   |_=>False))
 | .ptr b o=>kZ b os 4 fun r=>(match r with
  |some i=>K (.ptr i o) []
  |none=>(match a7 h b,o with
   |some (.fvb t x),0=>K (.box t x) [b]
   |_,_=>False))
 | .eptr b j o=>kZ b os 4 fun r=>(match r with|some i=>K (.eptr i j o) []|none=>False)
 | .vref b o m=>kZ b os 4 fun r=>(match r with|some i=>K (.vref i o m) []|none=>False)
 | .aptr b p j=>kZ b os 4 fun r=>(match r with|some i=>K (.aptr i p j) []|none=>False)
 | .fref k i=>Chk (fs.contains k) (K (.fref k i) [])
 | .fptr k i o=>Chk (fs.contains k) (K (.fptr k i o) [])
 | .feptr k i j o=>Chk (fs.contains k) (K (.feptr k i j o) [])
 | .faptr k i p j=>Chk (fs.contains k) (K (.faptr k i p j) [])
 | .hro k o=>(match fs.contains k with
  |true=>K (.hro k o) []
  |false=>jv o False fun i=>(match a7 h k with
   |some (.frow _ t xss)=>Chk (t.pure && !os.contains k) (fF xss i fun xs=>K (.lst t xs) [k])
   |some (.frowx _ t xss)=>Chk (t.pure && !os.contains k) (fF xss i fun ox=>jv ox False fun xs=>K (.lst t xs) [k])
   |_=>False))
 | .hpo k o=>Chk (fs.contains k) (K (.hpo k o) [])
 | .agg cs=>j4 os fs h cs fun cs ws=>K (.agg cs) ws
 | .clo f cs=>j4 os fs h cs fun cs ws=>K (.clo f cs) ws
 | .ifc T v=>b8 os fs h v fun v ws=>K (.ifc T v) ws
 | .nils=>K (.lst (.int .i64) []) []
 | .int k n=>K (.int k n) []
 | .bool b=>K (.bool b) []
 | .tt=>K .tt []
 | .ff=>K .ff []
 | .str s=>K (.str s) []
 | .lst t xs=>K (.lst t xs) []
 | .box t x=>K (.box t x) []
 | .nilp=>K .nilp []
 | .nilf=>K .nilf []
 | .nilm=>K .nilm []
 | .val v=>K (.val v) []
 | .nili=>K .nili []
 | .gv g=>K (.gv g) []
 | .obo t o=>K (.obo t o) []
 | .junk=>K .junk []
 |_=>False
def j4 (os fs:List Nat)(h:VH)(l:List V)(K:List V→List Nat→Prop):Prop:=
 match l with
 |[]=>K [] []
 |v::l=>b8 os fs h v fun v ws=>j4 os fs h l fun l ws'=>K (v::l) (ws++ws')
end
def FI (h:VH)(b:Nat):Prop:=(∃E t,∃xs:List (Ty.den t),t.pure=true∧look h b=some (.row E t xs))∨(∃t,∃xs:List (Ty.den t),look h b=some (.froz t xs))∨∃t,∃x:Ty.den t,look h b=some (.fvb t x)
def FJ (h:VH)(b:Nat):Prop:=(∃E t,∃xs:List (List (Ty.den t)),look h b=some (.frow E t xs))∨(∃E t,∃xs:List (Option (List (Ty.den t))),look h b=some (.frowx E t xs))∨∃E t,∃xs:List (Ty.den t),t.pure=false∧look h b=some (.row E t xs)
def p9 (h:VH)(os fs:List Nat)(b:Nat):Prop:=b∉os∧(FI h b∨(b∉fs∧FJ h b))
def EZ (h:VH)(ws:List Nat)(W:List Id):Prop:=∀b∈ws,∀i,Live (toH h) (b,i)→(b,i)∈W
structure HinOK (os fs:List Nat)(h:VH)(hin:HL):Prop where
 low:∀k∈fs,k<4
 sgl:∀m b,os[m]?=some b→Live hin (4+m,0)
 fam:∀k∈fs,∀i,Live (toH h) (k,i)→Live hin (k,i)
theorem kH {os fs:List Nat}{n:Nat}{h:VH}{hin:HL}(H:HinOK os fs h hin){m b:Nat}(hb:os[m]?=some b):VLive (toH h) (gI (gN os n)) hin fs (4+m,0)∧gI (gN os n) (4+m,0)=(b,0):=
 ⟨.inl (H.sgl m b hb),by simp only[gI,ee,db hb]⟩
theorem kG {os fs:List Nat}{n:Nat}{h:VH}{hin:HL}(H:HinOK os fs h hin){k:Nat}(hk:k∈fs)(i:Nat):VLive (toH h) (gI (gN os n)) hin fs (k,i)∧gI (gN os n) (k,i)=(k,i):=by
 have e:gI (gN os n) (k,i)=(k,i):=by simp only[gI,mN os n (H.low k hk)]
 exact⟨.inr ⟨by rw[e];exact hk,fun hl=>H.fam k hk i (by rw[e] at hl;exact hl)⟩,e⟩
section
variable {os fs:List Nat} {n:Nat} {h:VH} {hin:HL} {W:List Id}
theorem Cf (H:HinOK os fs h hin){m b:Nat}(hb:os[m]?=some b):View (toH h) (gI (gN os n)) hin W fs (.ref (b,0)) (.ref (4+m,0)):=by
 obtain⟨h1,h2⟩:=kH (n:=n) H hb
 have:=View.ref (W:=W) _ h1
 rwa [h2] at this
theorem vn (H:HinOK os fs h hin){m b:Nat}(hb:os[m]?=some b)(o:Nat):View (toH h) (gI (gN os n)) hin W fs (.ptr (b,0) o) (.ptr (4+m,0) o):=by
 obtain⟨h1,h2⟩:=kH (n:=n) H hb
 have:=View.ptr (W:=W) _ o h1
 rwa [h2] at this
theorem zP (H:HinOK os fs h hin){m b:Nat}(hb:os[m]?=some b)(j o:Nat):View (toH h) (gI (gN os n)) hin W fs (.eptr (b,0) j o) (.eptr (4+m,0) j o):=by
 obtain⟨h1,h2⟩:=kH (n:=n) H hb
 have:=View.eptr (W:=W) _ j o h1
 rwa [h2] at this
theorem zQ (H:HinOK os fs h hin){m b:Nat}(hb:os[m]?=some b)(o q:Nat):View (toH h) (gI (gN os n)) hin W fs (.vref (b,0) o q) (.vref (4+m,0) o q):=by
 obtain⟨h1,h2⟩:=kH (n:=n) H hb
 have:=View.vref (W:=W) _ o q h1
 rwa [h2] at this
theorem rx (H:HinOK os fs h hin){k:Nat}(hk:k∈fs)(i:Nat):View (toH h) (gI (gN os n)) hin W fs (.ref (k,i)) (.ref (k,i)):=by
 obtain⟨h1,h2⟩:=kG (n:=n) H hk i
 have:=View.ref (W:=W) _ h1
 rwa [h2] at this
theorem nc (H:HinOK os fs h hin){k:Nat}(hk:k∈fs)(i o:Nat):View (toH h) (gI (gN os n)) hin W fs (.ptr (k,i) o) (.ptr (k,i) o):=by
 obtain⟨h1,h2⟩:=kG (n:=n) H hk i
 have:=View.ptr (W:=W) _ o h1
 rwa [h2] at this
theorem xj (H:HinOK os fs h hin){k:Nat}(hk:k∈fs)(i j o:Nat):View (toH h) (gI (gN os n)) hin W fs (.eptr (k,i) j o) (.eptr (k,i) j o):=by
 obtain⟨h1,h2⟩:=kG (n:=n) H hk i
 have:=View.eptr (W:=W) _ j o h1
 rwa [h2] at this
theorem Ce (H:HinOK os fs h hin){k:Nat}(hk:k∈fs)(i:Nat):View (toH h) (gI (gN os n)) hin W fs (.mp (k,i)) (.mp (k,i)):=by
 obtain⟨h1,h2⟩:=kG (n:=n) H hk i
 have:=View.mp (W:=W) _ h1
 rwa [h2] at this
theorem gm (H:HinOK os fs h hin){k:Nat}(hk:k∈fs)(o:Option Nat):View (toH h) (gI (gN os n)) hin W fs (jJ k o) (jJ k o):=by
 cases o with
 |none=>exact .pure 0 _ _ rfl (fun b hb=>by cases hb)
 |some i=>exact rx H hk i
theorem yw (H:HinOK os fs h hin){k:Nat}(hk:k∈fs)(o:Option Nat):View (toH h) (gI (gN os n)) hin W fs (p8 k o) (p8 k o):=by
 cases o with
 |none=>exact .pure 0 _ _ rfl (fun b hb=>by cases hb)
 |some i=>exact nc H hk i 0
theorem kF {d d':D}{g:Id→Id}{hh:HL}(hd:leaf d=some d'):View hh g hin W fs d d':=.pure 0 _ _ hd (fun b hb=>by cases hb)
theorem gH {cs:List D}{g:Id→Id}{hh:HL}(hc:∀c∈cs,View hh g hin W fs c c):View hh g hin W fs (.agg cs) (.agg cs):=.agg cs cs rfl fun i hi=>hc _ (br hi)
theorem me (H:HinOK os fs h hin){t:Ty}(ht:∀k∈t.fams,k∈fs)(x:t.den):View (toH h) (gI (gN os n)) hin W fs (aj t x) (aj t x):=by
 by_cases hp:t.pure=true
 ·by_cases hag:∃cs,aj t x= .agg cs
  ·obtain⟨cs,he⟩:=hag
   have:=iQ hp x
   rw[he] at this⊢
   exact gH fun c hc=>kF (this c hc)
  ·have hc:(aj t x).cells=[aj t x]:=cS fun cs hcs=>hag ⟨cs,hcs⟩
   exact kF (iQ hp x _ (by rw[hc];exact bd.2 rfl))
 ·have lf:∀d:D,leaf d=some d→View (toH h) (gI (gN os n)) hin W fs d d:=fun d hd=>kF hd
  cases t<;>simp only[Ty.pure,not_true_eq_false] at hp
  case hr k=>exact gm H (ht k (by simp[Ty.fams])) x
  case hp k=>exact yw H (ht k (by simp[Ty.fams])) x
  case vtxo k=>
   refine gH fun c hc=>?_
   simp only[a9,d6,or_false] at hc
   rcases hc with rfl|rfl|rfl|rfl
   ·exact lf _ rfl
   ·exact lf _ rfl
   ·exact gm H (ht k (by simp[Ty.fams])) _
   ·exact lf _ rfl
  case pplm k=>
   refine gH fun c hc=>?_
   simp only[fX,fR,d5,a9,d6,or_false] at hc
   rcases hc with rfl|rfl|rfl|rfl|rfl
   ·exact lf _ rfl
   ·exact lf _ rfl
   ·exact lf _ rfl
   ·exact lf _ rfl
   ·exact gm H (ht k (by simp[Ty.fams])) _
  case pplo k k'=>
   refine gH fun c hc=>?_
   simp only[a9,d6,or_false] at hc
   rcases hc with rfl|rfl|rfl|rfl|rfl
   ·exact lf _ rfl
   ·exact lf _ rfl
   ·exact gm H (ht k (by simp[Ty.fams])) _
   ·exact lf _ rfl
   ·exact gm H (ht k' (by simp[Ty.fams])) _
  case evto k=>
   refine gH fun c hc=>?_
   simp only[a9,d6,or_false] at hc
   rcases hc with rfl|rfl|rfl|rfl|rfl|rfl|rfl
   ·exact lf _ rfl
   ·exact lf _ rfl
   ·exact lf _ rfl
   ·exact lf _ rfl
   ·exact lf _ rfl
   ·exact gm H (ht k (by simp[Ty.fams])) _
   ·exact lf _ rfl
  case lres k k'=>
   refine gH fun c hc=>?_
   simp only[a9,d6,or_false] at hc
   rcases hc with rfl|rfl|rfl
   ·exact Ce H (ht k (by simp[Ty.fams])) _
   ·exact lf _ rfl
   ·exact gm H (ht k' (by simp[Ty.fams])) _
  case nod k=>
   refine gH fun c hc=>?_
   simp only[fX,fR,d5,a9,d6,or_false] at hc
   rcases hc with rfl|rfl|rfl|rfl|rfl|rfl
   ·exact lf _ rfl
   ·exact lf _ rfl
   ·exact lf _ rfl
   ·exact lf _ rfl
   ·exact lf _ rfl
   ·exact gm H (ht k (by simp[Ty.fams])) _
theorem yx {b:Nat}(hw:(b,0)∈W){t:Ty}{xs:List t.den}{g:Id→Id}(hb:(∃E,t.pure=true∧look h b=some (.row E t xs))∨look h b=some (.froz t xs)):View (toH h) g hin W fs (.ref (b,0)) (.lst (xs.map (aj t))):=by
 refine .pure 1 _ _ ?_ fun c hc=>?_
 ·rcases hb with⟨E,hp,hb⟩|hb
  ·have hl:=aI (i:=0) hb (d:=.row E (xs.map (aj t))) rfl
   simp only[purD,hl]
   rw[show (fun x=>leaf x)=leaf from rfl,row_pure hp]
   rfl
  ·have hl:=aI (i:=0) hb (d:=.froz (xs.map (aj t))) rfl
   simp only[purD,hl]
 ·unfold idsD at hc
  rcases a9.1 hc with rfl|hc
  ·exact hw
  ·exfalso
   split at hc
   ·rw[dM] at hc
    obtain⟨e,_,hc⟩:=hc
    rw[dM] at hc
    obtain⟨d,_,hc⟩:=hc
    cases hc
   ·cases hc
theorem vo {b i:Nat}(hw:(b,i)∈W){E:TypeId}{t:Ty}{xs:List t.den}{g:Id→Id}(hp:t.pure=true)(hl:look (toH h) (b,i)=some (.row E (xs.map (aj t)))):View (toH h) g hin W fs (.ref (b,i)) (.lst (xs.map (aj t))):=by
 refine .pure 1 _ _ ?_ fun c hc=>?_
 ·simp only[purD,hl]
  rw[show (fun x=>leaf x)=leaf from rfl,row_pure hp]
  rfl
 ·unfold idsD at hc
  rcases a9.1 hc with rfl|hc
  ·exact hw
  ·exfalso
   split at hc
   ·rw[dM] at hc
    obtain⟨e,_,hc⟩:=hc
    rw[dM] at hc
    obtain⟨d,_,hc⟩:=hc
    cases hc
   ·cases hc
theorem lG {α β:Type}{f:α→Option β}{l:List α}{l':List β}(h:l.mapM f=some l'):l.length=l'.length∧∀(i:Nat) x,l[i]?=some x→∃y,l'[i]?=some y∧f x=some y:=by
 induction l generalizing l' with
 |nil=>simp at h;subst h;exact⟨rfl,fun i x hx=>by simp at hx⟩
 |cons a l ih=>
  simp only[gh,rC,Option.pure_def] at h
  obtain⟨y,h1,h⟩:=bu.1 h
  obtain⟨l2,h2,h⟩:=bu.1 h
  obtain rfl:=bm h
  obtain⟨h3,h4⟩:=ih h2
  refine⟨by simp[h3],fun i x hx=>?_⟩
  cases i with
  |zero=>simp at hx;subst hx;exact⟨y,rfl,h1⟩
  |succ i=>simpa using h4 i x (by simpa using hx)
theorem pk {α β γ δ:Type}{f:α→Option β}{p:γ→α}{q:δ→β}:∀{l:List γ} {l':List δ},l.length=l'.length→(∀(i:Nat) x y,l[i]?=some x→l'[i]?=some y→f (p x)=some (q y))→(l.map p).mapM f=some (l'.map q)
 |[],[],_,_=>rfl
 |[],_::_,h,_=>by cases h
 |_::_,[],h,_=>by cases h
 |x::l,y::l',hl,h=>by simp[gh,h 0 x y rfl rfl,pk (l:=l) (l':=l') (by simpa using hl) fun i a b ha hb=>h (i+1) a b (by simpa using ha) (by simpa using hb)]
structure DpE (h:VH)(n:Nat)(g:List Nat)(d d':D):Prop where
 pur:purE (purD (toH h) n) d=some d'
 ids:∀c∈d.cells,∀b∈idsD (toH h) n c,b.1∈g∧Live (toH h) b
theorem wm {h:VH}{n:Nat}{g:List Nat}{k i:Nat}{E:TypeId}{ds ds':List D}(hl:look (toH h) (k,i)=some (.row E ds))(hk:k∈g)(hlen:ds.length=ds'.length)(hd:∀(j:Nat) x y,ds[j]?=some x→ds'[j]?=some y→DpE h n g x y):
  purD (toH h) (n+1) (.ref (k,i))=some (.lst ds')∧∀b∈idsD (toH h) (n+1) (.ref (k,i)),b.1∈g∧Live (toH h) b:=by
 constructor
 ·have:=pk (f:=purE (purD (toH h) n)) (p:=id) (q:=id) hlen fun j x y hx hy=>(hd j x y hx hy).pur
  simp only[List.map_id] at this
  simp only[purD,hl,this,aM]
 ·intro b hb
  simp only[idsD,hl] at hb
  rcases a9.1 hb with rfl|hb
  ·exact⟨hk,Live.of_look hl⟩
  ·obtain⟨e,he,hb⟩:=dM.1 hb
   obtain⟨c,hc,hb⟩:=dM.1 hb
   obtain⟨j,hj⟩:=List.getElem?_of_mem he
   have hj2:j<ds'.length:=by rw[←hlen];exact(cz.1 hj).1
   exact(hd j e _ hj (a6 hj2)).ids c hc b hb
theorem Cy {h:VH}{n:Nat}{g:List Nat}{t:Ty}(ht:t.pure=true)(x:t.den)(hn:n=0):DpE h n g (aj t x) (aj t x):=by
 subst hn
 exact⟨rk ht x,fun c hc b hb=>by cases hb⟩
theorem xC {h:VH}{g:List Nat}{k:Nat}{E:TypeId}{pss:List (List Int)}(hk:look h k=some (.frow E (.int .i64) pss))(hg:k∈g){o:Option Nat}{ps:List Int}(hp:FY pss o=some ps):
  purD (toH h) 1 (jJ k o)=some (fI ps)∧∀b∈idsD (toH h) 1 (jJ k o),b.1∈g∧Live (toH h) b:=by
 cases o with
 |none=>
  obtain rfl:=bm hp
  exact⟨rfl,fun b hb=>by simp[jJ,idsD] at hb⟩
 |some i=>
  have hl:=aI (i:=i) hk (d:=.row E (ps.map (aj (.int .i64)))) (by simp only[VB.blks,cd];rw[show pss[i]?=some ps from hp];rfl)
  refine wm hl hg rfl fun j x y hx hy=>?_
  rw[jL] at hx
  rw[hx] at hy
  obtain rfl:=bm hy
  obtain⟨e,_,rfl⟩:=aP.1 (dm hx)
  exact Cy (t:=.int .i64) rfl e rfl
theorem fT {h:VH}{n:Nat}{g:List Nat}(x:Int):purD (toH h) n (.int .i64 x)=some (.int .i64 x)∧∀b∈idsD (toH h) n (.int .i64 x),b.1∈g∧Live (toH h) b:=by
 cases n<;>exact⟨rfl,fun b hb=>by simp[idsD] at hb⟩
theorem wl {h:VH}{n:Nat}{g:List Nat}:∀{cs cs':List D},cs.length=cs'.length→(∀(i:Nat) c c',cs[i]?=some c→cs'[i]?=some c'→purD (toH h) n c=some c'∧∀b∈idsD (toH h) n c,b.1∈g∧Live (toH h) b)→DpE h n g (.agg cs) (.agg cs'):=by
 intro cs cs' hl hc
 constructor
 ·have:=pk (f:=purD (toH h) n) (p:=id) (q:=id) hl fun i x y hx hy=>(hc i x y hx hy).1
  simp only[List.map_id] at this
  simp only[purE,this,aM]
 ·intro c hm b hb
  obtain⟨i,hi⟩:=List.getElem?_of_mem (show c∈cs from hm)
  have hi2:i<cs'.length:=by rw[←hl];exact(cz.1 hi).1
  exact(hc i c _ hi (a6 hi2)).2 b hb
theorem Ap {h:VH}{g:List Nat}{k:Nat}{E:TypeId}{pss:List (List Int)}(hk:look h k=some (.frow E (.int .i64) pss))(hg:k∈g){x:VtxO}{y:Vtx}(hp:Fe pss x=some y):DpE h 1 g (aj (.vtxo k) x) (aj .vtx y):=by
 obtain⟨ps,h1,rfl⟩:=bj.1 hp
 refine wl rfl fun i c c' hc hc'=>?_
 match i with
 |0=>obtain rfl:=bm hc;obtain rfl:=bm hc';exact fT _
 |1=>obtain rfl:=bm hc;obtain rfl:=bm hc';exact fT _
 |2=>obtain rfl:=bm hc;obtain rfl:=bm hc';exact xC hk hg h1
 |3=>obtain rfl:=bm hc;obtain rfl:=bm hc';exact fT _
 |i+4=>cases hc
theorem Ef {h:VH}{g:List Nat}{k k':Nat}{E E':TypeId}{pss mss:List (List Int)}(hk:look h k=some (.frow E (.int .i64) pss))(hk':look h k'=some (.frow E' (.int .i64) mss))(hg:k∈g)(hg':k'∈g){x:PplO}{y:Ppl}(hp:GA pss mss x=some y):DpE h 1 g (aj (.pplo k k') x) (aj .ppl y):=by
 obtain⟨v,h1,h2⟩:=bu.1 hp
 obtain⟨ms,h3,rfl⟩:=bj.1 h2
 obtain⟨ps,h4,rfl⟩:=bj.1 h1
 refine wl rfl fun i c c' hc hc'=>?_
 match i with
 |0=>obtain rfl:=bm hc;obtain rfl:=bm hc';exact fT _
 |1=>obtain rfl:=bm hc;obtain rfl:=bm hc';exact fT _
 |2=>obtain rfl:=bm hc;obtain rfl:=bm hc';exact xC hk hg h4
 |3=>obtain rfl:=bm hc;obtain rfl:=bm hc';exact fT _
 |4=>obtain rfl:=bm hc;obtain rfl:=bm hc';exact xC hk' hg' h3
 |i+5=>cases hc
theorem Ed {h:VH}{g:List Nat}{k:Nat}{E:TypeId}{pss:List (List Int)}(hk:look h k=some (.frow E (.int .i64) pss))(hg:k∈g){x:EvtO}{y:Evt}(hp:Gy pss x=some y):DpE h 1 g (aj (.evto k) x) (aj .evt y):=by
 obtain⟨v,h1,rfl⟩:=bj.1 hp
 obtain⟨ps,h2,rfl⟩:=bj.1 h1
 refine wl rfl fun i c c' hc hc'=>?_
 match i with
 |0=>obtain rfl:=bm hc;obtain rfl:=bm hc';exact fT _
 |1=>obtain rfl:=bm hc;obtain rfl:=bm hc';exact fT _
 |2=>obtain rfl:=bm hc;obtain rfl:=bm hc';exact fT _
 |3=>obtain rfl:=bm hc;obtain rfl:=bm hc';exact fT _
 |4=>obtain rfl:=bm hc;obtain rfl:=bm hc';exact fT _
 |5=>obtain rfl:=bm hc;obtain rfl:=bm hc';exact xC hk hg h2
 |6=>obtain rfl:=bm hc;obtain rfl:=bm hc';exact fT _
 |i+7=>cases hc
theorem Ee {h:VH}{g:List Nat}{k k':Nat}{E E':TypeId}{pss:List (List Int)}{vss:List (List VtxO)}(hk:look h k=some (.frow E (.vtxo k') vss))(hk':look h k'=some (.frow E' (.int .i64) pss))(hg:k∈g)(hg':k'∈g){o:Option Nat}{y:List Vtx}(hp:Gz pss vss o=some y):DpE h 2 g (aj (.hr k) o) (aj (.lst .vtx) y):=by
 cases o with
 |none=>
  obtain rfl:=bm hp
  exact⟨rfl,fun c hc b hb=>by simp[aj,jJ,D.cells] at hc;subst hc;simp[idsD] at hb⟩
 |some i=>
  obtain⟨vs,h1,h2⟩:=bu.1 hp
  have hl:=aI (i:=i) hk (d:=.row E (vs.map (aj (.vtxo k')))) (by simp only[VB.blks,cd,h1,aM])
  obtain⟨h3,h4⟩:=lG h2
  obtain⟨q1,q2⟩:=wm (n:=1) (g:=g) (ds':=y.map (aj .vtx)) hl hg (by simp[h3]) fun j x z hx hz=>by
   rw[cd] at hx hz
   obtain⟨a,ha,rfl⟩:=bj.1 hx
   obtain⟨c,hc,rfl⟩:=bj.1 hz
   obtain⟨c2,hc2,hf⟩:=h4 j a ha
   rw[hc] at hc2
   obtain rfl:=bm hc2
   exact Ap hk' hg' hf
  refine⟨q1,fun c hc b hb=>?_⟩
  simp only[aj,jJ,D.cells,bd] at hc
  subst hc
  exact q2 b hb
theorem kE {hin:HL}{W:List Id}{g:Id→Id}{fs:List Nat}{h:VH}{b n:Nat}{E:TypeId}{t t':Ty}{xs:List t.den}{ys:List t'.den}{ws:List Nat}(hb:look h b=some (.row E t xs))(hw:b∈ws)(hW:EZ h ws W)(hl:xs.length=ys.length)(hd:∀(i:Nat) x y,xs[i]?=some x→ys[i]?=some y→DpE h n ws (aj t x) (aj t' y)):View (toH h) g hin W fs (.ref (b,0)) (.lst (ys.map (aj t'))):=by
 obtain⟨q1,q2⟩:=wm (n:=n) (g:=ws) (ds':=ys.map (aj t')) (aI (i:=0) hb (d:=.row E (xs.map (aj t))) rfl) hw (by simp[hl]) fun j x z hx hz=>by
  rw[cd] at hx hz
  obtain⟨a,ha,rfl⟩:=bj.1 hx
  obtain⟨c,hc,rfl⟩:=bj.1 hz
  exact hd j a c ha hc
 exact .pure _ _ _ q1 fun c hc=>hW c.1 (q2 c hc).1 c.2 (q2 c hc).2
theorem lZ {α:Type}{o:Option α}{x:α}(h:o.toList[0]?=some x):o=some x:=by cases o<;>simp at h;rw[h]
theorem Ao {os fs:List Nat}{h:VH}{b:Nat}{E:TypeId}{t:Ty}{xs:List t.den}{K:V→List Nat→Prop}(hos:os=[])(hfs:fs=[])(hp:t.pure=false)(hb:look h b=some (.row E t xs))(hk:Al h b t xs K):
  ∃v' ws,(∀(g:Id→Id) (hin:HL) (W:List Id) (F:List Nat),EZ h ws W→View (toH h) g hin W F (.ref (b,0)) v'.toD)∧(∀b∈ws,p9 h os fs b)∧K v' ws:=by
 subst hos hfs
 have r0:p9 h [] [] b:=⟨by simp,.inr ⟨by simp,.inr (.inr ⟨E,t,xs,hp,hb⟩)⟩⟩
 have rf:∀k E' t',∀yss:List (List (Ty.den t')),look h k=some (.frow E' t' yss)→p9 h [] [] k:=fun k E' t' yss hk=>⟨by simp,.inr ⟨by simp,.inl ⟨E',t',yss,hk⟩⟩⟩
 unfold Al at hk
 split at hk
 ·rename_i k xs
  split at hk
  ·rename_i E' pss hl
   rw[a8] at hl
   obtain⟨ys,hy,hk⟩:=hk
   have hy:=lG (lZ hy)
   refine⟨_,_,fun g hin W F hW=>kE (n:=1) hb (by simp) hW hy.1 fun i x y hx hz=>?_,fun c hc=>?_,hk⟩
   ·obtain⟨z,z1,z2⟩:=hy.2 i x hx
    rw[hz] at z1
    obtain rfl:=bm z1
    exact Ap hl (by simp) z2
   ·rcases a9.1 hc with rfl|hc
    ·exact r0
    ·obtain rfl:=bd.1 hc
     exact rf _ _ _ _ hl
  ·exact hk.elim
 ·rename_i k k' xs
  split at hk
  ·rename_i E' pss E'' mss hl hl'
   rw[a8] at hl hl'
   obtain⟨ys,hy,hk⟩:=hk
   have hy:=lG (lZ hy)
   refine⟨_,_,fun g hin W F hW=>kE (n:=1) hb (by simp) hW hy.1 fun i x y hx hz=>?_,fun c hc=>?_,hk⟩
   ·obtain⟨z,z1,z2⟩:=hy.2 i x hx
    rw[hz] at z1
    obtain rfl:=bm z1
    exact Ef hl hl' (by simp) (by simp) z2
   ·rcases a9.1 hc with rfl|hc
    ·exact r0
    ·rcases a9.1 hc with rfl|hc
     ·exact rf _ _ _ _ hl
     ·obtain rfl:=bd.1 hc
      exact rf _ _ _ _ hl'
  ·exact hk.elim
 ·rename_i k xs
  split at hk
  ·rename_i E' pss hl
   rw[a8] at hl
   obtain⟨ys,hy,hk⟩:=hk
   have hy:=lG (lZ hy)
   refine⟨_,_,fun g hin W F hW=>kE (n:=1) hb (by simp) hW hy.1 fun i x y hx hz=>?_,fun c hc=>?_,hk⟩
   ·obtain⟨z,z1,z2⟩:=hy.2 i x hx
    rw[hz] at z1
    obtain rfl:=bm z1
    exact Ed hl (by simp) z2
   ·rcases a9.1 hc with rfl|hc
    ·exact r0
    ·obtain rfl:=bd.1 hc
     exact rf _ _ _ _ hl
  ·exact hk.elim
 ·rename_i k xs
  split at hk
  ·rename_i E' k' vss hl
   split at hk
   ·rename_i E'' pss hl'
    rw[a8] at hl hl'
    obtain⟨ys,hy,hk⟩:=hk
    have hy:=lG (lZ hy)
    refine⟨_,_,fun g hin W F hW=>kE (n:=2) hb (by simp) hW hy.1 fun i x y hx hz=>?_,fun c hc=>?_,hk⟩
    ·obtain⟨z,z1,z2⟩:=hy.2 i x hx
     rw[hz] at z1
     obtain rfl:=bm z1
     exact Ee hl hl' (by simp) (by simp) z2
    ·rcases a9.1 hc with rfl|hc
     ·exact r0
     ·rcases a9.1 hc with rfl|hc
      ·exact rf _ _ _ _ hl
      ·obtain rfl:=bd.1 hc
       exact rf _ _ _ _ hl'
   ·exact hk.elim
  ·exact hk.elim
 ·exact hk.elim
end
end Go.Proofs.Ytbmnihglaokhmaa.Am
namespace Go.Proofs.Ytbmnihglaokhmaa.Am
open Go Go.RowKit
variable {P:Program} {os fs:List Nat} {n:Nat} {h:VH}
def Vw (os fs:List Nat)(n:Nat)(h:VH)(ws:List Nat)(v v':V):Prop:=∀hin,HinOK os fs h hin→∀W:List Id,EZ h ws W→View (toH h) (gI (gN os n)) hin W fs v.toD v'.toD
def Gu (os fs:List Nat)(n:Nat)(h:VH)(ws:List Nat)(l l':List V):Prop:=(aB l).length=(aB l').length∧∀hin,HinOK os fs h hin→∀W:List Id,EZ h ws W→∀i,i<(aB l).length→View (toH h) (gI (gN os n)) hin W fs ((aB l).getD i .undef) ((aB l').getD i .undef)
theorem dz {v v':V}{ws:List Nat}(hd:leaf v.toD=some v'.toD):Vw os fs n h ws v v':=fun _ _ _ _=>kF hd
mutual
theorem pT:∀{v:V} {K:V→List Nat→Prop},b8 os fs h v K→∃v' ws,Vw os fs n h ws v v'∧(∀b∈ws,p9 h os fs b)∧K v' ws
 | .ref b,K,hk=>by
  simp only[b8] at hk
  obtain⟨r,r1,r2,hk⟩:=dP hk
  split at hk
  ·obtain⟨m,rfl,hm⟩:=r2 _ rfl
   exact⟨_,_,fun hin H W _=>Cf H hm,by simp,hk⟩
  ·split at hk
   ·rename_i E t xs hb
    rw[a8] at hb
    split at hk
    ·rename_i c
     exact⟨_,_,fun hin H W hW=>yx (hW b (by simp) 0 (Live.of_look (aI (i:=0) hb rfl))) (.inl ⟨E,c,hb⟩),fun b' hb'=>by simp at hb';subst hb';exact⟨r1 rfl,.inl (.inl ⟨E,t,xs,c,hb⟩)⟩,hk⟩
    ·rename_i c
     obtain⟨c2,hk⟩:=hk.ok
     simp only[b6,List.isEmpty_iff] at c2
     obtain⟨v',ws,d1,d2,d3⟩:=Ao c2.1 c2.2 c hb hk
     exact⟨v',ws,fun hin H W hW=>d1 _ _ _ _ hW,d2,d3⟩
   ·rename_i t xs hb
    rw[a8] at hb
    exact⟨_,_,fun hin H W hW=>yx (hW b (by simp) 0 (Live.of_look (aI (i:=0) hb rfl))) (.inr hb),fun b' hb'=>by simp at hb';subst hb';exact⟨r1 rfl,.inl (.inr (.inl ⟨t,xs,hb⟩))⟩,hk⟩
   ·exact hk.elim
 | .ptr b o,K,hk=>by
  simp only[b8] at hk
  obtain⟨r,r1,r2,hk⟩:=dP hk
  split at hk
  ·obtain⟨m,rfl,hm⟩:=r2 _ rfl
   exact⟨_,_,fun hin H W _=>vn H hm o,by simp,hk⟩
  ·split at hk
   ·rename_i t x hb _
    rw[a8] at hb
    have hl:=aI (i:=0) hb (d:=.fvar (aj t x).cells) rfl
    refine⟨_,_,fun hin H W hW=>.pure 1 _ _ (by simp only[V.toD,purD,hl]) fun c hc=>?_,fun b' hb'=>by simp at hb';subst hb';exact⟨r1 rfl,.inl (.inr (.inr ⟨t,x,hb⟩))⟩,hk⟩
    simp only[V.toD,idsD,hl,a9,d6,or_false] at hc
    subst hc
    exact hW b (by simp) 0 (Live.of_look hl)
   ·exact hk.elim
 | .eptr b j o,K,hk=>by
  simp only[b8] at hk
  obtain⟨r,r1,r2,hk⟩:=dP hk
  split at hk
  ·obtain⟨m,rfl,hm⟩:=r2 _ rfl
   exact⟨_,_,fun hin H W _=>zP H hm j o,by simp,hk⟩
  ·exact hk.elim
 | .vref b o q,K,hk=>by
  simp only[b8] at hk
  obtain⟨r,r1,r2,hk⟩:=dP hk
  split at hk
  ·obtain⟨m,rfl,hm⟩:=r2 _ rfl
   exact⟨_,_,fun hin H W _=>zQ H hm o q,by simp,hk⟩
  ·exact hk.elim
 | .aptr b p j,K,hk=>by
  simp only[b8] at hk
  obtain⟨r,r1,r2,hk⟩:=dP hk
  split at hk
  ·obtain⟨m,rfl,hm⟩:=r2 _ rfl
   exact⟨_,_,fun hin H W _=>vn H hm (p+j),by simp,hk⟩
  ·exact hk.elim
 | .fref k i,K,hk=>by
  simp only[b8] at hk
  obtain⟨c,hk⟩:=hk.ok
  exact⟨_,_,fun hin H W _=>rx H (by simpa using c) i,by simp,hk⟩
 | .fptr k i o,K,hk=>by
  simp only[b8] at hk
  obtain⟨c,hk⟩:=hk.ok
  exact⟨_,_,fun hin H W _=>nc H (by simpa using c) i o,by simp,hk⟩
 | .feptr k i j o,K,hk=>by
  simp only[b8] at hk
  obtain⟨c,hk⟩:=hk.ok
  exact⟨_,_,fun hin H W _=>xj H (by simpa using c) i j o,by simp,hk⟩
 | .faptr k i p j,K,hk=>by
  simp only[b8] at hk
  obtain⟨c,hk⟩:=hk.ok
  exact⟨_,_,fun hin H W _=>nc H (by simpa using c) i (p+j),by simp,hk⟩
 | .hro k o,K,hk=>by
  simp only[b8] at hk
  split at hk
  ·rename_i c
   exact⟨_,_,fun hin H W _=>gm H (by simpa using c) o,by simp,hk⟩
  ·rename_i c
   have c:k∉fs:=by simpa using c
   cases o with
   |none=>exact(hk.1 rfl).elim
   |some i=>
    have hk:=hk.2 i rfl
    split at hk
    ·rename_i E t xss hb
     rw[a8] at hb
     obtain⟨c2,xs,hxs,hk⟩:=hk.ok
     simp only[b6,iZ,List.contains_eq_mem,decide_eq_false_iff_not] at c2
     have hl:=aI (i:=i) hb (d:=.row E (xs.map (aj t))) (by simp only[VB.blks,cd,hxs,aM])
     exact⟨_,_,fun hin H W hW=>vo (hW k (by simp) i (Live.of_look hl)) c2.1 hl,fun b' hb'=>by simp at hb';subst hb';exact⟨c2.2,.inr ⟨c,.inl ⟨E,t,xss,hb⟩⟩⟩,hk⟩
    ·rename_i E t xss hb
     rw[a8] at hb
     obtain⟨c2,ox,hxs,hk⟩:=hk.ok
     simp only[b6,iZ,List.contains_eq_mem,decide_eq_false_iff_not] at c2
     cases ox with
     |none=>exact(hk.1 rfl).elim
     |some xs=>
      have hk:=hk.2 xs rfl
      have hl:=aI (i:=i) hb (d:=.row E (xs.map (aj t))) (by simp only[VB.blks,cd,hxs,aM,rowX])
      exact⟨_,_,fun hin H W hW=>vo (hW k (by simp) i (Live.of_look hl)) c2.1 hl,fun b' hb'=>by simp at hb';subst hb';exact⟨c2.2,.inr ⟨c,.inr (.inl ⟨E,t,xss,hb⟩)⟩⟩,hk⟩
    ·exact hk.elim
 | .hpo k o,K,hk=>by
  simp only[b8] at hk
  obtain⟨c,hk⟩:=hk.ok
  exact⟨_,_,fun hin H W _=>yw H (by simpa using c) o,by simp,hk⟩
 | .agg cs,K,hk=>by
  simp only[b8] at hk
  obtain⟨cs',ws,h1,h2,h3⟩:=iX hk
  exact⟨_,ws,fun hin H W hW=>by simp only[V.toD];exact .agg _ _ h1.1 (h1.2 hin H W hW),h2,h3⟩
 | .clo f cs,K,hk=>by
  simp only[b8] at hk
  obtain⟨cs',ws,h1,h2,h3⟩:=iX hk
  exact⟨_,ws,fun hin H W hW=>by simp only[V.toD];exact .clo f _ _ h1.1 (h1.2 hin H W hW),h2,h3⟩
 | .ifc T v,K,hk=>by
  simp only[b8] at hk
  obtain⟨v',ws,h1,h2,h3⟩:=pT hk
  exact⟨_,ws,fun hin H W hW=>by simp only[V.toD];exact .ifc T _ _ (h1 hin H W hW),h2,h3⟩
 | .nils,K,hk=>⟨_,[],dz (v':=.lst (.int .i64) []) rfl,by simp,by simpa only[b8] using hk⟩
 | .int k m,K,hk=>⟨_,[],dz (v':=.int k m) rfl,by simp,by simpa only[b8] using hk⟩
 | .bool b,K,hk=>⟨_,[],dz (v':=.bool b) rfl,by simp,by simpa only[b8] using hk⟩
 | .tt,K,hk=>⟨_,[],dz (v':=.tt) rfl,by simp,by simpa only[b8] using hk⟩
 | .ff,K,hk=>⟨_,[],dz (v':=.ff) rfl,by simp,by simpa only[b8] using hk⟩
 | .str s,K,hk=>⟨_,[],dz (v':=.str s) rfl,by simp,by simpa only[b8] using hk⟩
 | .lst t xs,K,hk=>⟨_,[],dz (v':=.lst t xs) rfl,by simp,by simpa only[b8] using hk⟩
 | .box t x,K,hk=>⟨_,[],dz (v':=.box t x) rfl,by simp,by simpa only[b8] using hk⟩
 | .nilp,K,hk=>⟨_,[],dz (v':=.nilp) rfl,by simp,by simpa only[b8] using hk⟩
 | .nilf,K,hk=>⟨_,[],dz (v':=.nilf) rfl,by simp,by simpa only[b8] using hk⟩
 | .nilm,K,hk=>⟨_,[],dz (v':=.nilm) rfl,by simp,by simpa only[b8] using hk⟩
 | .val v,K,hk=>⟨_,[],dz (v':=.val v) rfl,by simp,by simpa only[b8] using hk⟩
 | .nili,K,hk=>⟨_,[],dz (v':=.nili) rfl,by simp,by simpa only[b8] using hk⟩
 | .obo t o,K,hk=>⟨_,[],dz (v':=.obo t o) (by cases o<;>rfl),by simp,by simpa only[b8] using hk⟩
 | .junk,K,hk=>⟨_,[],fun _ _ _ _=>.junk,by simp,by simpa only[b8] using hk⟩
 | .gv g,K,hk=>⟨.gv g,[],fun _ _ _ _=>.gv g,by simp,by simpa only[b8] using hk⟩
 | .tup _,K,hk| .gp _,K,hk| .iptr ..,K,hk| .undef,K,hk=>by simp only[b8] at hk
theorem iX:∀{l:List V} {K:List V→List Nat→Prop},j4 os fs h l K→∃l' ws,Gu os fs n h ws l l'∧(∀b∈ws,p9 h os fs b)∧K l' ws
 |[],K,hk=>⟨[],[],⟨rfl,fun hin H W _ i hi=>by simp[aB] at hi⟩,by simp,by simpa only[j4] using hk⟩
 |v::l,K,hk=>by
  simp only[j4] at hk
  obtain⟨v',ws,h1,h2,hk⟩:=pT hk
  obtain⟨l',ws',h3,h4,hk⟩:=iX hk
  refine⟨v'::l',ws++ws',⟨by simp only[aB,dZ,h3.1],fun hin H W hW i hi=>?_⟩,fun b hb=>?_,hk⟩
  ·cases i with
   |zero=>simpa[aB] using h1 hin H W fun b hb=>hW b (dK _ hb)
   |succ i=>
    have:=h3.2 hin H W (fun b hb=>hW b (dA _ hb)) i (by simpa[aB] using hi)
    simpa[aB] using this
  ·rcases cm.1 hb with hb|hb
   ·exact h2 b hb
   ·exact h4 b hb
end
def iz (os fs:List Nat)(h:VH):List V→(List V→List Nat→Prop)→Prop
 |[],K=>K [] []
 | .nils::l,K=>iz os fs h l fun l ws=>K (.nils::l) ws
 |v::l,K=>b8 os fs h v fun v' ws=>iz os fs h l fun l' ws'=>K (v'::l') (ws++ws')
theorem kD:∀{l:List V} {K:List V→List Nat→Prop},iz os fs h l K→∃l' ws,Gu os fs n h ws l l'∧(∀b∈ws,p9 h os fs b)∧K l' ws
 |[],K,hk=>⟨[],[],⟨rfl,fun hin H W _ i hi=>by simp[aB] at hi⟩,by simp,by simpa only[iz] using hk⟩
 |v::l,K,hk=>by
  have key:∃v' ws,Vw os fs n h ws v v'∧(∀b∈ws,p9 h os fs b)∧iz os fs h l fun l' ws'=>K (v'::l') (ws++ws'):=by
   by_cases e:v= .nils
   ·subst e
    exact⟨.nils,[],fun hin H W _=>.nils,by simp,by simpa only[iz,d5] using hk⟩
   ·have hk':b8 os fs h v fun v' ws=>iz os fs h l fun l' ws'=>K (v'::l') (ws++ws'):=by
     cases v<;>first|exact hk|exact absurd rfl e
    obtain⟨v',ws,h1,h2,hk⟩:=pT (n:=n) hk'
    exact⟨v',ws,h1,h2,hk⟩
  obtain⟨v',ws,h1,h2,hk⟩:=key
  obtain⟨l',ws',h3,h4,hk⟩:=kD hk
  refine⟨v'::l',ws++ws',⟨by simp only[aB,dZ,h3.1],fun hin H W hW i hi=>?_⟩,fun b hb=>?_,hk⟩
  ·cases i with
   |zero=>simpa[aB] using h1 hin H W fun b hb=>hW b (dK _ hb)
   |succ i=>
    have:=h3.2 hin H W (fun b hb=>hW b (dA _ hb)) i (by simpa[aB] using hi)
    simpa[aB] using this
  ·rcases cm.1 hb with hb|hb
   ·exact h2 b hb
   ·exact h4 b hb
def xi (os fs:List Nat)(h:VH)(x:VB)(K:VB→List Nat→Prop):Prop:=
 match x with
 | .var T cs=>iz os fs h cs fun cs ws=>K (.var T cs) ws
 | .vari T pre m t xs post=>Chk (B3 t.fams fs) (iz os fs h pre fun pre ws=>iz os fs h post fun post ws'=>K (.vari T pre m t xs post) (ws++ws'))
 | .row E t xs=>Chk (B3 t.fams fs) (K (.row E t xs) [])
 | .lit E vs=>j4 os fs h vs fun vs ws=>K (.lit E vs) ws
 |_=>False
def FO (os fs:List Nat)(n:Nat)(h:VH)(ws:List Nat)(x x':VB):Prop:=∃d d',x.blks=[d]∧x'.blks=[d']∧∀hin,HinOK os fs h hin→∀W:List Id,EZ h ws W→ViewB (toH h) (gI (gN os n)) hin W fs d d'
theorem eE {A B:List D}{i:Nat}(hi:i<A.length):(A++B).getD i .undef=A.getD i .undef:=by simp[aX,gg hi]
theorem eF {A B:List D}{i:Nat}(hi:A.length≤i):(A++B).getD i .undef=B.getD (i-A.length) .undef:=by simp[aX,jq hi]
theorem zO {x:VB}{K:VB→List Nat→Prop}(hk:xi os fs h x K):∃x' ws,FO os fs n h ws x x'∧(∀b∈ws,p9 h os fs b)∧K x' ws:=by
 unfold xi at hk
 split at hk
 ·rename_i T cs
  obtain⟨cs',ws,h1,h2,hk⟩:=kD (n:=n) hk
  exact⟨_,ws,⟨_,_,rfl,rfl,fun hin H W hW=>.var T _ _ h1.1 (h1.2 hin H W hW)⟩,h2,hk⟩
 ·rename_i T pre m t xs post
  obtain⟨c,hk⟩:=hk.ok
  obtain⟨pre',ws,h1,h2,hk⟩:=kD (n:=n) hk
  obtain⟨post',ws',h3,h4,hk⟩:=kD (n:=n) hk
  refine⟨_,ws++ws',⟨_,_,rfl,rfl,fun hin H W hW=>.var T _ _ ?_ fun i hi=>?_⟩,fun b hb=>(cm.1 hb).elim (h2 b) (h4 b),hk⟩
  ·simp only[ck,h1.1,h3.1]
  ·have g1:=h1.2 hin H W (fun b hb=>hW b (dK _ hb))
   have g3:=h3.2 hin H W (fun b hb=>hW b (dA _ hb))
   by_cases c1:i<(aB pre).length
   ·rw[cV,cV,eE (A:=aB pre) c1,eE (A:=aB pre') (by rw[←h1.1];exact c1)]
    exact g1 i c1
   ·rw[cV,cV,eF (A:=aB pre) (by omega),eF (A:=aB pre') (by rw[←h1.1];omega),←h1.1]
    simp only[ck] at hi
    by_cases c2:i-(aB pre).length<(xs.map (aj t)).length
    ·rw[eE c2,eE c2]
     obtain⟨e,he,hee⟩:=aP.1 (br c2)
     rw[←hee]
     exact me H (sQ c) e
    ·rw[eF (by omega),eF (by omega)]
     exact g3 _ (by omega)
 ·rename_i E t xs
  obtain⟨c,hk⟩:=hk.ok
  refine⟨_,[],⟨_,_,rfl,rfl,fun hin H W hW=>.row E _ _ rfl fun i hi=>?_⟩,by simp,hk⟩
  obtain⟨e,he,hee⟩:=aP.1 (br hi)
  rw[←hee]
  exact me H (sQ c) e
 ·rename_i E cs
  obtain⟨cs',ws,h1,h2,hk⟩:=iX (n:=n) hk
  exact⟨_,ws,⟨_,_,rfl,rfl,fun hin H W hW=>.row E _ _ h1.1 (h1.2 hin H W hW)⟩,h2,hk⟩
 ·exact hk.elim
def BU (os fs:List Nat)(h:VH):List Nat→Nat→(VH→List Nat→Prop)→Prop
 |[],_,K=>K [] []
 |b::l,i,K=>dB h b fun x=>xi os fs h x fun x' ws=>eQ (i+1) fun j=>BU os fs h l j fun r ws'=>K ((i,x')::r) (ws++ws')
theorem u6:∀{l:List Nat} {i:Nat} {K:VH→List Nat→Prop},BU os fs h l i K→∃hs ws,(∀k x,look hs k=some x→∃m,k=i+m∧m<l.length)∧(∀m b,l[m]?=some b→∃x x',look h b=some x∧look hs (i+m)=some x'∧FO os fs n h ws x x')∧(∀b∈ws,p9 h os fs b)∧K hs ws
 |[],i,K,hk=>⟨[],[],(fun k x hx=>by cases hx),by simp,by simp,hk⟩
 |b::l,i,K,hk=>by
  obtain⟨x,hx,hk⟩:=bn hk
  obtain⟨x',ws,h1,h2,hk⟩:=zO (n:=n) hk
  obtain⟨hs,ws',h3,h4,h5,hk⟩:=u6 (bJ hk)
  refine⟨(i,x')::hs,ws++ws',fun k y hy=>?_,fun m b' hm=>?_,fun b hb=>(cm.1 hb).elim (h2 b) (h5 b),hk⟩
  ·simp only[look] at hy
   split at hy
   ·rename_i e;exact⟨0,by omega,by simp⟩
   ·obtain⟨m,e1,e2⟩:=h3 k y hy
    exact⟨m+1,by omega,by simpa using e2⟩
  ·cases m with
   |zero=>
    simp only[fi,aK] at hm
    subst hm
    obtain⟨d,d',e1,e2,e3⟩:=h1
    exact⟨x,x',hx,by simp[look],d,d',e1,e2,fun hin H W hW=>e3 hin H W fun b hb=>hW b (dK _ hb)⟩
   |succ m=>
    obtain⟨y,y',q1,q2,d,d',e1,e2,e3⟩:=h4 m b' (by simpa using hm)
    refine⟨y,y',q1,?_,d,d',e1,e2,fun hin H W hW=>e3 hin H W fun b hb=>hW b (dA _ hb)⟩
    simp only[look]
    rw[if_neg (by omega),show i+(m+1)=i+1+m by omega]
    exact q2
def VB.fams:VB→List Nat
 | .vari _ _ _ t _ _=>t.fams
 | .row _ t _=>t.fams
 | .fvar _ t _=>t.fams
 | .fvari _ _ t _=>t.fams
 | .frow _ t _=>t.fams
 | .frowx _ t _=>t.fams
 |_=>[]
def Ax (fs:List Nat)(h:VH):List Nat→(VH→Prop)→Prop
 |[],K=>K []
 |k::l,K=>dB h k fun x=>Chk (!x.sgl && B3 x.fams fs) (Ax fs h l fun r=>K ((k,x)::r))
theorem tO:∀{l:List Nat} {K:VH→Prop},Ax fs h l K→∃hf,(∀k x,look hf k=some x→k∈l∧look h k=some x∧x.sgl=false∧∀j∈x.fams,j∈fs)∧(∀k∈l,∃x,look hf k=some x)∧K hf
 |[],K,hk=>⟨[],(fun k x hx=>by cases hx),by simp,hk⟩
 |k::l,K,hk=>by
  obtain⟨x,hx,hk⟩:=bn hk
  obtain⟨c,hk⟩:=hk.ok
  simp only[b6,iZ] at c
  obtain⟨hf,h1,h2,hk⟩:=tO hk
  refine⟨(k,x)::hf,fun j y hy=>?_,fun j hj=>?_,hk⟩
  ·simp only[look] at hy
   split at hy
   ·rename_i e
    simp only[aK] at hy
    subst hy e
    exact⟨bh ..,hx,c.1,sQ c.2⟩
   ·obtain⟨q1,q2⟩:=h1 j y hy
    exact⟨bl _ q1,q2⟩
  ·simp only[look]
   by_cases e:j=k
   ·exact⟨x,by rw[if_pos e]⟩
   ·rw[if_neg e]
    rcases a9.1 hj with rfl|hj
    ·exact absurd rfl e
    ·exact h2 j hj
theorem Cd {x:VB}{hin:HL}{W:List Id}(H:HinOK os fs h hin)(hs:x.sgl=false)(hf:∀j∈x.fams,j∈fs):∀d∈x.blks,ViewB (toH h) (gI (gN os n)) hin W fs d d:=by
 intro d hd
 have key:∀(t:Ty) (xs:List t.den),(∀k∈t.fams,k∈fs)→∀i,i<(xs.map (aj t)).length→View (toH h) (gI (gN os n)) hin W fs ((xs.map (aj t)).getD i .undef) ((xs.map (aj t)).getD i .undef):=by
  intro t xs ht i hi
  obtain⟨e,he,hee⟩:=aP.1 (br hi)
  rw[←hee]
  exact me H ht e
 cases x<;>simp[VB.sgl] at hs
 ·rename_i T t xs
  obtain⟨e,_,rfl⟩:=aP.1 hd
  refine .var T _ _ rfl fun i hi=>?_
  have hv:View (toH h) (gI (gN os n)) hin W fs (aj t e) (aj t e):=me H hf e
  exact(hv.wf (d8 t e)).2 i (by rw[←(d8 t e).1];exact hi)
 ·rename_i T m t xss
  obtain⟨xs,_,rfl⟩:=aP.1 hd
  exact .var T _ _ rfl (key t xs hf)
 ·rename_i E t xss
  obtain⟨xs,_,rfl⟩:=aP.1 hd
  exact .row E _ _ rfl (key t xs hf)
 ·rename_i E t xss
  obtain⟨xs,_,rfl⟩:=aP.1 hd
  cases xs with
  |none=>exact .gone
  |some xs=>exact .row E _ _ rfl (key t xs hf)
 ·obtain⟨l,_,rfl⟩:=aP.1 hd
  exact .obj _
end Go.Proofs.Ytbmnihglaokhmaa.Am
namespace Go.Proofs.Ytbmnihglaokhmaa.Am
open Go Go.RowKit
variable {P:Program} {os fs:List Nat} {n:Nat} {h:VH}
mutual
def ja:V→Bool
 | .lst .. | .box .. | .dbox .. | .iptr .. | .obo .. | .gp _| .gv _=>false
 | .agg cs=>fC cs
 | .tup cs=>fC cs
 | .clo _ cs=>fC cs
 | .ifc _ v=>ja v
 |_=>true
def fC:List V→Bool
 |[]=>true
 |v::l=>ja v && fC l
end
theorem dI (k:Nat)(o:Option Nat):noMem (jJ k o)=true:=by cases o<;>rfl
theorem pp (k:Nat)(o:Option Nat):noMem (p8 k o)=true:=by cases o<;>rfl
mutual
theorem mT:∀v:V,ja v=true→noMem v.toD=true
 | .agg cs,hv=>by simp only[ja] at hv;simp only[V.toD,noMem,dH cs hv]
 | .tup cs,hv=>by simp only[ja] at hv;simp only[V.toD,noMem,dH cs hv]
 | .clo f cs,hv=>by simp only[ja] at hv;simp only[V.toD,noMem,dH cs hv]
 | .ifc T v,hv=>by simp only[ja] at hv;simp only[V.toD,noMem,mT v hv]
 | .hro k o,_=>dI k o
 | .hpo k o,_=>pp k o
 | .lst ..,hv| .box ..,hv| .dbox ..,hv| .iptr ..,hv| .obo ..,hv| .gp _,hv| .gv _,hv=>by simp only[ja] at hv;cases hv
 | .int ..,_| .bool _,_| .tt,_| .ff,_| .str _,_| .nilp,_| .nils,_| .nilf,_| .nilm,_| .val _,_| .nili,_| .ref _,_| .ptr ..,_| .eptr ..,_| .vref ..,_| .aptr ..,_| .fref ..,_| .fptr ..,_| .feptr ..,_| .faptr ..,_| .mp ..,_| .fmp ..,_| .undef,_| .junk,_=>by simp only[V.toD,noMem]
theorem dH:∀l:List V,fC l=true→ew (aB l)=true
 |[],_=>rfl
 |v::l,hv=>by
  simp only[fC,b6] at hv
  simp only[aB,ew,mT v hv.1,dH l hv.2,Bool.and_self]
end
def Ty.flat:Ty→Bool
 | .int _| .bool| .str| .txn| .slt| .hr _| .hp _| .vtxo _| .pplo _ _| .evto _| .lres _ _=>true
 |_=>false
theorem oN {t:Ty}(h:t.flat=true)(x:t.den):(aj t x).cells.all noMem=true:=by
 cases t<;>first|(cases h;done)|rfl|skip
 ·simp only[aj,(ly _ x).2];simp[dI]
 ·simp only[aj,(lx _ x).2];simp[pp]
 ·simp[aj,D.cells,noMem,dI]
 ·simp[aj,D.cells,noMem,dI]
 ·simp[aj,D.cells,noMem,dI]
 ·simp[aj,D.cells,noMem,dI]
theorem tU {t:Ty}(h:t.flat=true)(x:t.den):noMem (aj t x)=true:=by
 cases t<;>first|(cases h;done)|rfl|skip
 ·exact dI _ x
 ·exact pp _ x
 ·simp[aj,noMem,ew,dI]
 ·simp[aj,noMem,ew,dI]
 ·simp[aj,noMem,ew,dI]
 ·simp[aj,noMem,ew,dI]
def nY:VB→Bool
 | .var _ cs=>fC cs
 | .vari _ pre _ t _ post=>fC pre && fC post && t.flat
 | .row _ t _=>t.flat
 | .lit _ vs=>vs.all fun v=>fC v.cells
 | .froz _ _| .fvb _ _=>false
 | .fvar _ t _=>t.flat
 | .fvari _ _ t _=>t.flat
 | .frow _ t _=>t.flat
 | .frowx _ t _=>t.flat
 | .moved .. | .gone| .map .. | .maps .. | .it ..=>true
theorem wK (l:List D):ew l=true↔∀d∈l,noMem d=true:=by rw[fu,bc]
theorem wL {x:VB}(h:nY x=true):∀d∈x.blks,noMemB d=true:=by
 intro d hd
 have kc:∀(t:Ty) (xs:List t.den),t.flat=true→∀e∈xs.map (aj t),e.cells.all noMem=true:=by
  intro t xs ht e he
  obtain⟨x,_,rfl⟩:=aP.1 he
  exact oN ht x
 have kd:∀(t:Ty) (xs:List t.den),t.flat=true→∀e∈xs.map (aj t),noMem e=true:=by
  intro t xs ht e he
  obtain⟨x,_,rfl⟩:=aP.1 he
  exact tU ht x
 cases x with
 |var T cs=>
  obtain rfl:=bd.1 hd
  simp only[noMemB,←fu]
  exact dH cs h
 |vari T pre m t xs post=>
  obtain rfl:=bd.1 hd
  simp only[nY,b6] at h
  simp only[noMemB,List.all_append,←fu,dH _ h.1.1,dH _ h.1.2,Bool.true_and,Bool.and_true]
  rw[wK]
  exact kd t xs h.2
 |row E t xs=>
  obtain rfl:=bd.1 hd
  simp only[noMemB,bc]
  intro e he
  exact bc.1 (kc t xs h e he)
 |lit E vs=>
  obtain rfl:=bd.1 hd
  simp only[nY,bc] at h
  simp only[noMemB,ci,List.all_map,bc]
  intro v hv
  have:=dH _ (h v hv)
  rw[fu] at this
  simp only[Function.comp,bq]
  exact this
 |froz t xs=>cases h
 |fvb t x=>cases h
 |fvar T t xs=>
  obtain⟨e,_,rfl⟩:=aP.1 hd
  exact oN h e
 |fvari T m t xss=>
  obtain⟨xs,_,rfl⟩:=aP.1 hd
  simp only[noMemB,bc]
  exact kd t xs h
 |frow E t xss=>
  obtain⟨xs,_,rfl⟩:=aP.1 hd
  simp only[noMemB,bc]
  intro e he
  exact bc.1 (kc t xs h e he)
 |frowx E t xss=>
  obtain⟨xs,_,rfl⟩:=aP.1 hd
  cases xs with
  |none=>rfl
  |some xs=>
   simp only[rowX,noMemB,bc]
   intro e he
   exact bc.1 (kc t xs h e he)
 |moved k i=>obtain rfl:=bd.1 hd;rfl
 |map l=>obtain rfl:=bd.1 hd;rfl
 |maps ls=>obtain⟨l,_,rfl⟩:=aP.1 hd;rfl
 |it k i n left cur=>obtain rfl:=bd.1 hd;rfl
 |gone=>obtain rfl:=bd.1 hd;rfl
mutual
def de (g:Nat→Nat)(v:V)(K:V→Prop):Prop:=
 match v with
 | .ref b=>eQ (g b) fun b=>K (.ref b)
 | .vref b o n=>eQ (g b) fun b=>K (.vref b o n)
 | .ptr b o=>eQ (g b) fun b=>K (.ptr b o)
 | .eptr b i o=>eQ (g b) fun b=>K (.eptr b i o)
 | .aptr b p i=>eQ (g b) fun b=>K (.aptr b p i)
 | .mp b=>eQ (g b) fun b=>K (.mp b)
 | .fmp k i=>Chk (Nat.beq (g k) k) (K (.fmp k i))
 | .fref k i=>Chk (Nat.beq (g k) k) (K (.fref k i))
 | .fptr k i o=>Chk (Nat.beq (g k) k) (K (.fptr k i o))
 | .feptr k i j o=>Chk (Nat.beq (g k) k) (K (.feptr k i j o))
 | .faptr k i p j=>Chk (Nat.beq (g k) k) (K (.faptr k i p j))
 | .hro k o=>Chk (Nat.beq (g k) k) (K (.hro k o))
 | .hpo k o=>Chk (Nat.beq (g k) k) (K (.hpo k o))
 | .agg cs=>jV g cs fun cs=>K (.agg cs)
 | .tup cs=>jV g cs fun cs=>K (.tup cs)
 | .clo f cs=>jV g cs fun cs=>K (.clo f cs)
 | .ifc T v=>de g v fun v=>K (.ifc T v)
 | .int k n=>K (.int k n)
 | .bool b=>K (.bool b)
 | .tt=>K .tt
 | .ff=>K .ff
 | .str s=>K (.str s)
 | .lst t xs=>K (.lst t xs)
 | .box t x=>K (.box t x)
 | .nilp=>K .nilp
 | .nils=>K .nils
 | .nilf=>K .nilf
 | .nilm=>K .nilm
 | .val v=>K (.val v)
 | .dbox cs=>K (.dbox cs)
 | .nili=>K .nili
 | .gp g=>K (.gp g)
 | .gv g=>K (.gv g)
 | .iptr t x o=>K (.iptr t x o)
 | .obo t o=>K (.obo t o)
 | .undef=>K .undef
 | .junk=>K .junk
def jV (g:Nat→Nat)(l:List V)(K:List V→Prop):Prop:=
 match l with
 |[]=>K []
 |v::l=>de g v fun v=>jV g l fun l=>K (v::l)
end
theorem je {g:Nat→Nat}{k:Nat}(hk:g k=k)(o:Option Nat):renD (gI g) (jJ k o)=jJ k o:=by
 cases o with
 |none=>rfl
 |some i=>simp[jJ,renD,hk]
theorem BJ {g:Nat→Nat}{k:Nat}(hk:g k=k)(o:Option Nat):renD (gI g) (p8 k o)=p8 k o:=by
 cases o with
 |none=>rfl
 |some i=>simp[p8,renD,hk]
mutual
theorem sI {g:Nat→Nat}:∀{v:V} {K:V→Prop},de g v K→∃r,renD (gI g) v.toD=r.toD∧K r
 | .ref b,K,h=>⟨.ref (g b),rfl,bJ (by simpa only[de] using h)⟩
 | .vref b o n,K,h=>⟨.vref (g b) o n,rfl,bJ (by simpa only[de] using h)⟩
 | .ptr b o,K,h=>⟨.ptr (g b) o,rfl,bJ (by simpa only[de] using h)⟩
 | .eptr b i o,K,h=>⟨.eptr (g b) i o,rfl,bJ (by simpa only[de] using h)⟩
 | .aptr b p i,K,h=>⟨.aptr (g b) p i,rfl,bJ (by simpa only[de] using h)⟩
 | .mp b,K,h=>⟨.mp (g b),rfl,bJ (by simpa only[de] using h)⟩
 | .fmp k i,K,h=>by simp only[de] at h;obtain⟨c,h⟩:=h.ok;exact⟨.fmp k i,by simp[V.toD,renD,bY c],h⟩
 | .fref k i,K,h=>by simp only[de] at h;obtain⟨c,h⟩:=h.ok;exact⟨.fref k i,by simp[V.toD,renD,bY c],h⟩
 | .fptr k i o,K,h=>by simp only[de] at h;obtain⟨c,h⟩:=h.ok;exact⟨.fptr k i o,by simp[V.toD,renD,bY c],h⟩
 | .feptr k i j o,K,h=>by simp only[de] at h;obtain⟨c,h⟩:=h.ok;exact⟨.feptr k i j o,by simp[V.toD,renD,bY c],h⟩
 | .faptr k i p j,K,h=>by simp only[de] at h;obtain⟨c,h⟩:=h.ok;exact⟨.faptr k i p j,by simp[V.toD,renD,bY c],h⟩
 | .hro k o,K,h=>by simp only[de] at h;obtain⟨c,h⟩:=h.ok;exact⟨.hro k o,je (bY c) o,h⟩
 | .hpo k o,K,h=>by simp only[de] at h;obtain⟨c,h⟩:=h.ok;exact⟨.hpo k o,BJ (bY c) o,h⟩
 | .agg cs,K,h=>by
  simp only[de] at h
  obtain⟨r,h1,h2⟩:=fO h
  exact⟨.agg r,by simp only[V.toD,renD,h1],h2⟩
 | .tup cs,K,h=>by
  simp only[de] at h
  obtain⟨r,h1,h2⟩:=fO h
  exact⟨.tup r,by simp only[V.toD,renD,h1],h2⟩
 | .clo f cs,K,h=>by
  simp only[de] at h
  obtain⟨r,h1,h2⟩:=fO h
  exact⟨.clo f r,by simp only[V.toD,renD,h1],h2⟩
 | .ifc T v,K,h=>by
  simp only[de] at h
  obtain⟨r,h1,h2⟩:=sI h
  exact⟨.ifc T r,by simp only[V.toD,renD,h1],h2⟩
 | .int k n,K,h=>⟨.int k n,rfl,by simpa only[de] using h⟩
 | .bool b,K,h=>⟨.bool b,rfl,by simpa only[de] using h⟩
 | .tt,K,h=>⟨.tt,rfl,by simpa only[de] using h⟩
 | .ff,K,h=>⟨.ff,rfl,by simpa only[de] using h⟩
 | .str s,K,h=>⟨.str s,rfl,by simpa only[de] using h⟩
 | .lst t xs,K,h=>⟨.lst t xs,rfl,by simpa only[de] using h⟩
 | .box t x,K,h=>⟨.box t x,rfl,by simpa only[de] using h⟩
 | .nilp,K,h=>⟨.nilp,rfl,by simpa only[de] using h⟩
 | .nils,K,h=>⟨.nils,rfl,by simpa only[de] using h⟩
 | .nilf,K,h=>⟨.nilf,rfl,by simpa only[de] using h⟩
 | .nilm,K,h=>⟨.nilm,rfl,by simpa only[de] using h⟩
 | .val v,K,h=>⟨.val v,rfl,by simpa only[de] using h⟩
 | .dbox cs,K,h=>⟨.dbox cs,rfl,by simpa only[de] using h⟩
 | .nili,K,h=>⟨.nili,rfl,by simpa only[de] using h⟩
 | .gp g,K,h=>⟨.gp g,rfl,by simpa only[de] using h⟩
 | .gv g,K,h=>⟨.gv g,rfl,by simpa only[de] using h⟩
 | .iptr t x o,K,h=>⟨.iptr t x o,rfl,by simpa only[de] using h⟩
 | .obo t o,K,h=>⟨.obo t o,by cases o<;>rfl,by simpa only[de] using h⟩
 | .undef,K,h=>⟨.undef,rfl,by simpa only[de] using h⟩
 | .junk,K,h=>⟨.junk,rfl,by simpa only[de] using h⟩
theorem fO {g:Nat→Nat}:∀{l:List V} {K:List V→Prop},jV g l K→∃r,k6 (gI g) (aB l)=aB r∧K r
 |[],K,h=>⟨[],rfl,by simpa only[jV] using h⟩
 |v::l,K,h=>by
  simp only[jV] at h
  obtain⟨v',h1,h2⟩:=sI h
  obtain⟨l',h3,h4⟩:=fO h2
  exact⟨v'::l',by simp only[aB,k6,h1,h3],h4⟩
end
def tT (g:Nat→Nat)(l:List Nat):Bool:=l.all fun k=>Nat.beq (g k) k
theorem kq {g:Nat→Nat}{l:List Nat}(h:tT g l=true):∀k∈l,g k=k:=by
 unfold tT at h
 rw[bc] at h
 exact fun k hk=>bY (h k hk)
theorem yj {g:Nat→Nat}{t:Ty}(ht:∀k∈t.fams,g k=k)(x:t.den):renD (gI g) (aj t x)=aj t x:=by
 cases t<;>try rfl
 case ob t=>cases x<;>rfl
 case hr k=>exact je (ht k (by simp[Ty.fams])) x
 case hp k=>exact BJ (ht k (by simp[Ty.fams])) x
 case vtxo k=>simp only[aj,renD,k6,je (ht k (by simp[Ty.fams]))]
 case pplm k=>simp only[aj,fX,fR,d5,renD,k6,je (ht k (by simp[Ty.fams])),fI]
 case pplo k k'=>simp only[aj,renD,k6,je (ht k (by simp[Ty.fams])),je (ht k' (by simp[Ty.fams]))]
 case evto k=>simp only[aj,renD,k6,je (ht k (by simp[Ty.fams]))]
 case lres k k'=>simp[aj,renD,k6,je (ht k' (by simp[Ty.fams])),ht k (by simp[Ty.fams])]
 case nod k=>simp only[aj,fX,fR,d5,renD,k6,je (ht k (by simp[Ty.fams])),fI]
def BG (g:Nat→Nat)(x:VB)(K:VB→Prop):Prop:=
 match x with
 | .var T cs=>jV g cs fun cs=>K (.var T cs)
 | .vari T pre m t xs post=>Chk (tT g t.fams) (jV g pre fun pre=>jV g post fun post=>K (.vari T pre m t xs post))
 | .row E t xs=>Chk (tT g t.fams) (K (.row E t xs))
 | .lit E vs=>jV g vs fun vs=>K (.lit E vs)
 | .froz t xs=>K (.froz t xs)
 | .fvb t x=>K (.fvb t x)
 | .fvar T t xs=>Chk (tT g t.fams) (K (.fvar T t xs))
 | .fvari T m t xss=>Chk (tT g t.fams) (K (.fvari T m t xss))
 | .frow E t xss=>Chk (tT g t.fams) (K (.frow E t xss))
 | .frowx E t xss=>Chk (tT g t.fams) (K (.frowx E t xss))
 | .map l=>K (.map l)
 | .maps ls=>K (.maps ls)
 | .it k i n left cur=>eQ (g k) fun k=>K (.it k i n left cur)
 | .moved k i=>eQ (g k) fun k=>K (.moved k i)
 | .gone=>K .gone
theorem lQ {g:Nat→Nat}{t:Ty}(ht:∀k∈t.fams,g k=k)(xs:List t.den):(xs.map (aj t)).map (renD (gI g))=xs.map (aj t):=by
 rw[eI]
 exact rB fun x _=>yj ht x
theorem BH {g:Nat→Nat}{x:VB}{K:VB→Prop}(h:BG g x K):∃y,y.blks=x.blks.map (renB (gI g))∧K y:=by
 unfold BG at h
 split at h
 ·obtain⟨r,h1,h2⟩:=fO h
  exact⟨_,by simp only[VB.blks,bI,dt,renB,←fD,h1],h2⟩
 ·rename_i T pre m t xs post
  obtain⟨c,h⟩:=h.ok
  obtain⟨r,h1,h2⟩:=fO h
  obtain⟨r2,h3,h4⟩:=fO h2
  refine⟨_,?_,h4⟩
  rw[fD] at h1 h3
  simp only[VB.blks,bI,dt,renB,jr,h1,h3,lQ (kq c)]
 ·rename_i E t xs
  obtain⟨c,h⟩:=h.ok
  exact⟨_,by simp only[VB.blks,bI,dt,renB,lQ (kq c)],h⟩
 ·obtain⟨r,h1,h2⟩:=fO h
  exact⟨_,by simp only[VB.blks,bI,dt,renB,←fD,h1],h2⟩
 ·exact⟨_,rfl,h⟩
 ·exact⟨_,rfl,h⟩
 ·rename_i T t xs
  obtain⟨c,h⟩:=h.ok
  refine⟨_,?_,h⟩
  simp only[VB.blks,eI]
  refine rB fun x _=>?_
  simp only[Function.comp,renB]
  rw[←jd,yj (kq c)]
 ·rename_i T m t xss
  obtain⟨c,h⟩:=h.ok
  refine⟨_,?_,h⟩
  simp only[VB.blks,eI]
  refine rB fun xs _=>?_
  simp only[Function.comp,renB,lQ (kq c)]
 ·rename_i E t xss
  obtain⟨c,h⟩:=h.ok
  refine⟨_,?_,h⟩
  simp only[VB.blks,eI]
  refine rB fun xs _=>?_
  simp only[Function.comp,renB,lQ (kq c)]
 ·rename_i E t xss
  obtain⟨c,h⟩:=h.ok
  refine⟨_,?_,h⟩
  simp only[VB.blks,eI]
  refine rB fun xs _=>?_
  cases xs with
  |none=>rfl
  |some xs=>simp only[Function.comp,rowX,renB,lQ (kq c)]
 ·exact⟨_,rfl,h⟩
 ·rename_i ls
  refine⟨.maps ls,?_,h⟩
  simp only[VB.blks,eI]
  exact rB fun x _=>rfl
 ·exact⟨_,rfl,bJ h⟩
 ·exact⟨_,rfl,bJ h⟩
 ·exact⟨_,rfl,h⟩
def Bl (g:Nat→Nat):VH→(VH→Prop)→Prop
 |[],K=>K []
 |(k,x)::l,K=>BG g x fun y=>eQ (g k) fun b=>Bl g l fun u=>K ((b,y)::u)
inductive RenVH (g:Nat→Nat):VH→VH→Prop where
 |nil:RenVH g [] []
 |cons {k:Nat} {x y:VB} {l u:VH} (hy:y.blks=x.blks.map (renB (gI g))) (hl:RenVH g l u):RenVH g ((k,x)::l) ((g k,y)::u)
theorem un {g:Nat→Nat}:∀{l:VH} {K:VH→Prop},Bl g l K→∃u,RenVH g l u∧K u
 |[],K,h=>⟨[],.nil,h⟩
 |(k,x)::l,K,h=>by
  obtain⟨y,h1,h2⟩:=BH h
  obtain⟨u,h3,h4⟩:=un (bJ h2)
  exact⟨(g k,y)::u,.cons h1 h3,h4⟩
theorem RenVH.look {g:Nat→Nat}(hg:∀a b,g a=g b→a=b){l u:VH}(hr:RenVH g l u):(∀k,(Am.look l k=none→Am.look u (g k)=none)∧∀x,Am.look l k=some x→∃y,Am.look u (g k)=some y∧y.blks=x.blks.map (renB (gI g)))∧∀b,(∀k,Am.look l k≠none→g k≠b)→Am.look u b=none:=by
 induction hr with
 |nil=>exact⟨fun k=>⟨fun _=>rfl,fun x hx=>by cases hx⟩,fun b _=>rfl⟩
 | @cons k0 x0 y0 l u hy hl ih=>
  refine⟨fun k=>?_,fun b hb=>?_⟩
  ·by_cases e:k=k0
   ·subst e
    refine⟨fun hn=>by simp[Am.look] at hn,fun x hx=>⟨y0,by simp[Am.look],?_⟩⟩
    simp[Am.look] at hx
    subst hx
    exact hy
   ·have e':¬g k=g k0:=fun he=>e (hg _ _ he)
    simp only[Am.look,if_neg e,if_neg e']
    exact ih.1 k
  ·have e':¬b=g k0:=fun he=>hb k0 (by simp[Am.look]) he.symm
   simp only[Am.look,if_neg e']
   refine ih.2 b fun k hk=>hb k ?_
   simp only[Am.look]
   split
   ·simp
   ·exact hk
theorem RenVH.keys {g:Nat→Nat}{l u:VH}(hr:RenVH g l u):u.map (·.1)=l.map (fun p=>g p.1):=by
 induction hr with
 |nil=>rfl
 |cons hy hl ih=>simp[ih]
end Go.Proofs.Ytbmnihglaokhmaa.Am
namespace Go.Proofs.Ytbmnihglaokhmaa.Am
open Go Go.RowKit
variable {P:Program} {os fs:List Nat} {n:Nat} {h:VH}
theorem mU {α β:Type}{f:α→β}{l:List α}(hf:∀a b,f a=f b→a=b)(h:l.Nodup):(l.map f).Nodup:=List.pairwise_map.2 (List.Pairwise.imp (fun hne e=>hne (hf _ _ e)) h)
theorem lE {κ α:Type}[DecidableEq κ]{us g:List (κ×α)}(hn:(us.map (·.1)).Nodup)(b:κ):look (puts us g) b=match look us b with|some y=>some y|none=>look g b:=by
 cases hl:look us b with
 |some y=>exact iq us g b y hn (dr hl)
 |none=>
  refine aS us g b fun x hx he=>?_
  have:=gC hn (k:=x.1) (a:=x.2) hx
  rw[he,hl] at this
  cases this
theorem mQ {κ α:Type}[DecidableEq κ](us:List (κ×α)){g g':List (κ×α)}(b:κ)(hg:look g b=look g' b):look (puts us g) b=look (puts us g') b:=by
 induction us generalizing g g' with
 |nil=>exact hg
 |cons x us ih=>
  show look (puts us (put x.1 x.2 g)) b=look (puts us (put x.1 x.2 g')) b
  refine ih ?_
  rw[aD,aD,hg]
theorem rv:∀(s:List Nat) (l:VH),(∀p∈qz s l,p.1.1∉s)∧((qz s l).map (·.1)).Nodup
 |s,[]=>⟨by simp[qz],by simp[qz]⟩
 |s,(k,x)::l=>by
  obtain⟨ih1,ih2⟩:=rv (k::s) l
  have hfam:∀p∈fam k x.blks,p.1.1=k:=by
   intro p hp
   obtain⟨q,_,rfl⟩:=aP.1 hp
   rfl
  have hnd:((fam k x.blks).map (·.1)).Nodup:=by
   have e:∀(l:List Blk) (q:Nat),(((l.zipIdx q).map fun p:Blk×Nat=>(((k,p.2),p.1):Id×Blk)).map (·.1))=(List.range' q l.length).map fun i=>((k,i):Id):=by
    intro l
    induction l with
    |nil=>intro q;rfl
    |cons y l ih=>intro q;simp only[pY,bI,dZ,List.range'_succ,ih]
   unfold fam
   rw[e]
   exact mU (fun a b hab=>by simpa using hab) List.nodup_range'
  simp only[qz]
  cases hc:s.contains k with
  |true=>
   simp only[cond_true,d5]
   exact⟨fun p hp hs=>ih1 p hp (bl _ hs),ih2⟩
  |false=>
   have hk:k∉s:=by simpa using hc
   simp only[cond_false,jr]
   refine⟨fun p hp=>?_,List.nodup_append.2 ⟨hnd,ih2,fun a ha b hb he=>?_⟩⟩
   ·rcases cm.1 hp with hp|hp
    ·rw[hfam p hp];exact hk
    ·exact fun hs=>ih1 p hp (bl _ hs)
   ·obtain⟨p,hp,rfl⟩:=aP.1 ha
    obtain⟨q,hq,rfl⟩:=aP.1 hb
    have:=ih1 q hq
    rw[←he,hfam p hp] at this
    exact this (bh ..)
theorem pQ (l:VH):((toH l).map (·.1)).Nodup:=(rv [] l).2
theorem xZ {l:VH}{p:Id×Blk}(hp:p∈toH l):∃x,look l p.1.1=some x∧p.2∈x.blks:=by
 have h1:=gC (pQ l) (k:=p.1) (a:=p.2) hp
 rw[az] at h1
 obtain⟨x,h2,h3⟩:=bu.1 h1
 exact⟨x,h2,dm h3⟩
theorem qZ {g:Id→Id}(hg:∀a b,g a=g b→a=b):∀(l:HL),(∀b,look (renH g l) (g b)=(look l b).map (renB g))∧∀c,(∀b,look l b≠none→g b≠c)→look (renH g l) c=none
 |[]=>⟨fun b=>rfl,fun c _=>rfl⟩
 |(b0,x)::l=>by
  obtain⟨h1,h2⟩:=qZ hg l
  refine⟨fun b=>?_,fun c hc=>?_⟩
  ·show look ((g b0,renB g x)::renH g l) (g b)=_
   simp only[look]
   by_cases e:b=b0
   ·subst e;simp
   ·rw[if_neg fun he=>e (hg _ _ he),if_neg e]
    exact h1 b
  ·show look ((g b0,renB g x)::renH g l) c=none
   simp only[look]
   rw[if_neg fun he=>hc b0 (by simp[look]) he.symm]
   refine h2 c fun b hb=>hc b ?_
   simp only[look]
   split
   ·simp
   ·exact hb
theorem zC {g:Id→Id}(hg:∀a b,g a=g b→a=b){l:HL}(hn:(l.map (·.1)).Nodup):((renH g l).map (·.1)).Nodup:=by
 unfold renH
 rw[eI]
 have:(fun x:Id×Blk=>x.1)∘(fun p:Id×Blk=>(g p.1,renB g p.2))=g∘(fun x:Id×Blk=>x.1):=rfl
 rw[this,←eI]
 exact mU hg hn
theorem yv {g:Nat→Nat}(hg:∀a b,g a=g b→a=b){hout u h0:VH}{H:HL}(hH:∀b,look H b=look (toH h0) b)(hr:RenVH g hout u)(hn:(hout.map (·.1)).Nodup)(hc:∀k x,look hout k=some x→∀j,x.blks.length≤j→look (toH h0) (g k,j)=none):
  (∀b,look (puts (renH (gI g) (toH hout)) H) b=look (toH (puts u h0)) b)∧∀x∈renH (gI g) (toH hout),x.1.1∈u.map (·.1):=by
 have hgI:∀a b:Id,gI g a=gI g b→a=b:=by
  rintro⟨a1,a2⟩ ⟨b1,b2⟩ he
  simp only[gI,bi] at he⊢
  exact⟨hg _ _ he.1,he.2⟩
 have hun:(u.map (·.1)).Nodup:=by
  rw[hr.keys]
  have:(fun p:Nat×VB=>g p.1)=g∘(fun x:Nat×VB=>x.1):=rfl
  rw[this,←eI]
  exact mU hg hn
 obtain⟨q1,q2⟩:=qZ hgI (toH hout)
 obtain⟨r1,r2⟩:=hr.look hg
 refine⟨fun b=>?_,fun x hx=>?_⟩
 ·rw[lE (zC hgI (pQ hout)),az,lE hun,hH]
  by_cases hex:∃k x,look hout k=some x∧g k=b.1
  ·obtain⟨k,x,hk,he⟩:=hex
   obtain⟨y,y1,y2⟩:=(r1 k).2 x hk
   have e1:b=gI g (k,b.2):=by simp[gI,he]
   rw[←he,y1,he]
   have e2:look (renH (gI g) (toH hout)) b=(x.blks[b.2]?).map (renB (gI g)):=by
    rw[e1,q1,az,hk];rfl
   rw[e2]
   simp only[bp,y2,cd]
   cases hx:x.blks[b.2]? with
   |some d=>rfl
   |none=>
    simp only[Option.map_none]
    have:=hc k x hk b.2 (by simpa using hx)
    rw[he] at this
    exact this
  ·have e1:look u b.1=none:=r2 b.1 fun k hk he=>hex (by
    cases hl:look hout k with
    |none=>exact absurd hl hk
    |some x=>exact⟨k,x,hl,he⟩)
   have e2:look (renH (gI g) (toH hout)) b=none:=q2 b fun c hcl he=>hex (by
    rw[az] at hcl
    cases hl:look hout c.1 with
    |none=>rw[hl] at hcl;exact absurd rfl hcl
    |some x=>exact⟨c.1,x,hl,by rw[←he]⟩)
   rw[e1,e2]
   exact az h0 b
 ·obtain⟨p,hp,rfl⟩:=aP.1 hx
  obtain⟨x,h1,_⟩:=xZ hp
  obtain⟨y,h2,_⟩:=(r1 p.1.1).2 x h1
  exact aP.2 ⟨_,dr h2,rfl⟩
def FM (h:VH):List Nat→(VH→Prop)→Prop
 |[],K=>K []
 |b::l,K=>FM h l fun u=>(match a7 h b with
  |some (.row _ t xs)=>Chk t.pure (K ((b,.froz t xs)::u))
  |some (.frow ..)=>False
  |some (.frowx ..)=>False
  |_=>K u)
def vC (h:VH):List Nat→VH
 |[]=>[]
 |b::l=>match a7 h b with
  |some (.row _ t xs)=>(b,.froz t xs)::vC h l
  |_=>vC h l
theorem xn:∀{l:List Nat} {K:VH→Prop},FM h l K→K (vC h l)∧∀b∈l,¬FJ h b
 |[],K,hk=>⟨hk,by simp⟩
 |b::l,K,hk=>by
  obtain⟨this,h2⟩:=xn (l:=l) hk
  simp only[vC]
  have key:K (match a7 h b with
   |some (.row _ t xs)=>(b,.froz t xs)::vC h l
   |_=>vC h l)∧¬FJ h b:=by
   cases hl:a7 h b with
   |none=>
    rw[hl] at this
    rw[a8] at hl
    exact⟨this,fun hf=>by rcases hf with⟨E,t,xs,hf⟩|⟨E,t,xs,hf⟩|⟨E,t,xs,_,hf⟩<;>rw[hl] at hf<;>cases hf⟩
   |some x=>
    rw[hl] at this
    rw[a8] at hl
    have hx:(∀E t xs,x≠ .frow E t xs)→(∀E t xs,x≠ .frowx E t xs)→(∀E t xs,t.pure=false→x≠ .row E t xs)→¬FJ h b:=fun h1 h2 h3 hf=>by
     rcases hf with⟨E,t,xs,hf⟩|⟨E,t,xs,hf⟩|⟨E,t,xs,hp,hf⟩<;>rw[hl] at hf<;>cases hf
     ·exact h1 _ _ _ rfl
     ·exact h2 _ _ _ rfl
     ·exact h3 _ _ _ hp rfl
    cases x<;>first|exact this.elim|exact⟨this.ok.2,hx (fun _ _ _ he=>by cases he) (fun _ _ _ he=>by cases he) (fun _ _ _ hp he=>by cases he;rw[this.ok.1] at hp;cases hp)⟩|exact⟨this,hx (fun _ _ _ he=>by cases he) (fun _ _ _ he=>by cases he) (fun _ _ _ _ he=>by cases he)⟩
  exact⟨key.1,fun c hc=>(a9.1 hc).elim (fun e=>e▸key.2) (h2 c)⟩
theorem lF:∀(ws:List Nat) (g:VH) (b:Nat),look (puts (vC h ws) g) b=if b∈ws then(match look h b with|some (.row _ t xs)=>some (.froz t xs)|_=>look g b) else look g b
 |[],g,b=>by simp[vC,puts]
 |c::ws,g,b=>by
  simp only[vC]
  rw[a8]
  split
  ·rename_i E t xs hc
   show look (puts (vC h ws) (put c (.froz t xs) g)) b=_
   rw[lF ws,aD]
   by_cases hb:b=c
   ·subst hb
    simp only[if_true,a9,true_or,hc]
    split
    ·rfl
    ·rfl
   ·by_cases hm:b∈ws
    ·simp[hm,hb]
    ·simp[hm,hb]
  ·rename_i hc
   rw[lF ws]
   by_cases hb:b=c
   ·subst hb
    have:(match look h b with|some (VB.row _ t xs)=>some (VB.froz t xs)|_=>look g b)=look g b:=by
     split
     ·rename_i e;exact absurd e (hc _ _ _)
     ·rfl
    simp[this]
   ·simp[hb]
theorem Cc {ws:List Nat}(hw:∀b∈ws,FI h b):cH h (frz (toH h) (ws.map fun b=>(b,0))) (vC h ws)∧∀b∈ws.map (fun b=>((b,0):Id)),∀x,look (toH h) b=some x→x.mutable=true→(frzB (toH h) b).isSome=true:=by
 have fz:∀b E t,∀xs:List (Ty.den t),look h b=some (.row E t xs)→t.pure=true→frzB (toH h) (b,0)=some (.froz (xs.map (aj t))):=by
  intro b E t xs hb hp
  have hl:=aI (i:=0) hb (d:=.row E (xs.map (aj t))) rfl
  simp[frzB,hl,row_pure hp]
 refine⟨⟨fun b=>?_,fun x hx=>?_⟩,fun b hb x hx hmu=>?_⟩
 ·obtain⟨b1,b2⟩:=b
  rw[cW,az (puts (vC h ws) h),lF]
  by_cases hm:b1∈ws
  ·rw[if_pos hm]
   rcases hw b1 hm with⟨E,t,xs,hp,hb⟩|⟨t,xs,hb⟩|⟨t,x,hb⟩
   ·rw[hb]
    simp only[bp,VB.blks]
    cases b2 with
    |zero=>
     rw[if_pos (aP.2 ⟨b1,hm,rfl⟩),fz b1 E t xs hb hp]
     rfl
    |succ j=>
     rw[if_neg (by simp)]
     exact Bv hb rfl (j+1) (by simp)
   ·rw[hb]
    have e:frzB (toH h) (b1,b2)=none:=by
     unfold frzB
     rw[az,hb]
     simp only[bp,VB.blks]
     cases b2<;>simp
    rw[e]
    simp only[ite_self]
    rw[az,hb]
   ·rw[hb]
    have e:frzB (toH h) (b1,b2)=none:=by
     unfold frzB
     rw[az,hb]
     simp only[bp,VB.blks]
     cases b2<;>simp
    rw[e]
    simp only[ite_self]
    rw[az,hb]
  ·rw[if_neg (fun hmem=>by obtain⟨c,hc,he⟩:=aP.1 hmem;simp only[bi] at he;exact hm (he.1▸hc)),if_neg hm,az]
 ·obtain⟨c,hc,hcx⟩:=List.mem_filterMap.1 hx
  obtain⟨y,hy,rfl⟩:=bj.1 hcx
  obtain⟨b,hb,rfl⟩:=aP.1 hc
  show b∈(vC h ws).map (·.1)
  rcases hw b hb with⟨E,t,xs,hp,hl⟩|⟨t,xs,hl⟩|⟨t,x,hl⟩
  ·have:look (puts (vC h ws) []) b=some (.froz t xs):=by rw[lF,if_pos hb,hl]
   rcases fa (b∈(vC h ws).map (·.1)) with h1|h1
   ·exact h1
   ·rw[aS _ _ _ fun x hx e=>h1 (aP.2 ⟨x,hx,e⟩)] at this
    cases this
  ·exfalso
   have:=aI (i:=0) hl (d:=.froz (xs.map (aj t))) rfl
   simp[frzB,this] at hy
  ·exfalso
   have:=aI (i:=0) hl (d:=.fvar (aj t x).cells) rfl
   simp[frzB,this] at hy
 ·obtain⟨c,hc,rfl⟩:=aP.1 hb
  rcases hw c hc with⟨E,t,xs,hp,hl⟩|⟨t,xs,hl⟩|⟨t,x',hl⟩
  ·rw[fz c E t xs hl hp];rfl
  ·have:=aI (i:=0) hl (d:=.froz (xs.map (aj t))) rfl
   rw[this] at hx;cases hx;cases hmu
  ·have:=aI (i:=0) hl (d:=.fvar (aj t x').cells) rfl
   rw[this] at hx;cases hx;cases hmu
end Go.Proofs.Ytbmnihglaokhmaa.Am
namespace Go.Proofs.Ytbmnihglaokhmaa.Am
open Go Go.RowKit
variable {P:Program} {os fs:List Nat} {n:Nat} {h:VH}
def jF:VB→Nat
 | .fvar _ _ xs=>xs.length
 | .fvari _ _ _ xss=>xss.length
 | .frow _ _ xss=>xss.length
 | .frowx _ _ xss=>xss.length
 | .maps ls=>ls.length
 |_=>1
theorem kp (x:VB):x.blks.length=jF x:=by cases x<;>simp[VB.blks,jF]
def keysV:VH→List Nat
 |[]=>[]
 |(k,_)::l=>k::keysV l
theorem fJ:∀l:VH,l.map (·.1)=keysV l
 |[]=>rfl
 |(k,x)::l=>by simp[keysV,fJ l]
def we (h:VH)(fs:List Nat):VH→Prop→Prop
 |[],K=>K
 |(k,x)::l,K=>match Nat.blt k 4 with
  |true=>Chk (!x.sgl) (match a7 h k with
   |none=>we h fs l K
   |some y=>Chk (fs.contains k && !y.sgl) (ct (jF y≤jF x) (we h fs l K)))
  |false=>Chk x.sgl (we h fs l K)
theorem xz {K:Prop}:∀{l:VH},we h fs l K→(∀k x,look l k=some x→(k<4∧∀y,look h k=some y→k∈fs∧jF y≤jF x)∨(4≤k∧x.sgl=true))∧K
 |[],hk=>⟨(fun k x hx=>by cases hx),hk⟩
 |(k0,x0)::l,hk=>by
  simp only[we] at hk
  have key:((k0<4∧∀y,look h k0=some y→k0∈fs∧jF y≤jF x0)∨(4≤k0∧x0.sgl=true))∧we h fs l K:=by
   split at hk
   ·rename_i hb
    have hlt:k0<4:=by simpa[Nat.blt_eq] using hb
    obtain⟨c,hk⟩:=hk.ok
    split at hk
    ·rename_i hn
     rw[a8] at hn
     exact⟨.inl ⟨hlt,fun y hy=>by rw[hn] at hy;cases hy⟩,hk⟩
    ·rename_i y hy
     rw[a8] at hy
     obtain⟨c2,hle,hk⟩:=hk.ok
     simp only[b6] at c2
     exact⟨.inl ⟨hlt,fun y' hy'=>by rw[hy] at hy';obtain rfl:=bm hy';exact⟨by simpa using c2.1,hle⟩⟩,hk⟩
   ·rename_i hb
    obtain⟨c,hk⟩:=hk.ok
    have hge:4≤k0:=by
     rcases cY k0 4 with hlt|hge
     ·have:Nat.blt k0 4=true:=by simpa[Nat.blt_eq] using hlt
      rw[hb] at this;cases this
     ·exact hge
    exact⟨.inr ⟨hge,c⟩,hk⟩
  obtain⟨k1,k2⟩:=key
  obtain⟨h1,h2⟩:=xz k2
  refine⟨fun k x hx=>?_,h2⟩
  simp only[look] at hx
  split at hx
  ·rename_i e;cases hx;subst e;exact k1
  ·exact h1 k x hx
def CI (hout:VH):List Nat→Nat→Bool
 |[],_=>true
 |_::l,i=>(a7 hout i).isSome && CI hout l (i+1)
theorem xR {hout:VH}:∀{l:List Nat} {i:Nat},CI hout l i=true→∀m,m<l.length→∃x,look hout (i+m)=some x
 |[],i,_,m,hm=>by simp at hm
 |_::l,i,hb,m,hm=>by
  simp only[CI,b6,a8] at hb
  cases m with
  |zero=>exact mh.1 hb.1
  |succ m=>
   have:=xR hb.2 m (by simpa using hm)
   rwa [show i+1+m=i+(m+1) by omega] at this
def yc (l:VH):Bool:=l.all fun p=>nY p.2
def ni (P:Program)[PhC P](h:VH)(n:Nat)(f:FuncId)(vs:List V)(os fs:List Nat)(K:V→VH→List Nat→Prop):Prop:=
 Chk (zo os n && fs.all (fun k=>Nat.blt k 4)) (j4 os fs h vs fun vs' ws=>Ax fs h fs fun hf=>BU os fs h os 4 fun hs ws'=>Cp hf hs fun hin=>dR P f vs' hin fun r hout=>
  Chk (jS (keysV hout) && fs.all (fun k=>(a7 hout k).isSome) && CI hout os 4) (we h fs hout (de (gN os n) r fun r'=>Bl (gN os n) hout fun u=>
   match ja r && yc hout with
   |true=>K r' u ((ws++ws')++fs++keysV u)
   |false=>FM h (ws++ws') fun u0=>K r' (u0++u) ((ws++ws')++fs++keysV u))))
theorem z9 [PhC P]{f:FuncId}{vs:List V}{K:V→VH→List Nat→Prop}(hfr:∀c:Id,n≤c.1→look (toH h) c=none)(hk:ni P h n f vs os fs K):
  ∃r u vu gl,(∀f':List Nat,(∀k∈gl,k∈f')→∃c:CallOK P f (toH h) n (aB vs) r.toD u f',∀b,Live c.hout b→(c.g b).1∈f')∧cH h u vu∧K r vu gl:=by
 obtain⟨c0,hk⟩:=hk.ok
 simp only[b6,bc] at c0
 obtain⟨c1,c2⟩:=c0
 have hlow:∀k∈fs,k<4:=fun k hk=>by simpa[Nat.blt_eq] using c2 k hk
 obtain⟨o1,o2,o3⟩:=yg c1
 obtain⟨vs',ws,v1,v2,hk⟩:=iX (n:=n) hk
 obtain⟨hf,f1,f2,hk⟩:=tO hk
 obtain⟨hs,ws',s1,s2,s3,hk⟩:=u6 (n:=n) hk
 have hk:=rI hk
 obtain⟨r,hout,hcon,hk⟩:=hk
 obtain⟨c3,hk⟩:=hk.ok
 simp only[b6,bc] at c3
 obtain⟨⟨c3,c4⟩,c5⟩:=c3
 obtain⟨cov,hk⟩:=xz hk
 obtain⟨r',r1,hk⟩:=sI hk
 obtain⟨u,hr,hk⟩:=un hk
 have hg:∀a b,gN os n a=gN os n b→a=b:=fun a b=>AJ c1
 have hgI:∀a b:Id,gI (gN os n) a=gI (gN os n) b→a=b:=fun a b=>AI c1
 have hin_look:∀k x,look (hf++hs) k=some x→(k∈fs∧look hf k=some x)∨(∃m b,k=4+m∧os[m]?=some b∧look hs k=some x):=by
  intro k x hx
  rw[gz] at hx
  cases hl:look hf k with
  |some y=>
   rw[hl] at hx
   obtain rfl:=bm hx
   exact .inl ⟨(f1 k _ hl).1,rfl⟩
  |none=>
   rw[hl] at hx
   obtain⟨m,rfl,hm⟩:=s1 k x hx
   exact .inr ⟨m,os[m],rfl,a6 hm,hx⟩
 have hf_none:∀m,look hf (4+m)=none:=by
  intro m
  cases hl:look hf (4+m) with
  |none=>rfl
  |some y=>have:=hlow _ (f1 _ _ hl).1;omega
 have hin_sgl:∀m b,os[m]?=some b→∃x x',look h b=some x∧look (hf++hs) (4+m)=some x'∧FO os fs n h ws' x x':=by
  intro m b hb
  obtain⟨x,x',q1,q2,q3⟩:=s2 m b hb
  exact⟨x,x',q1,by rw[gz,hf_none];exact q2,q3⟩
 have hin_fam:∀k∈fs,∃x,look (hf++hs) k=some x∧look h k=some x∧x.sgl=false∧∀j∈x.fams,j∈fs:=by
  intro k hk
  obtain⟨x,hx⟩:=f2 k hk
  obtain⟨_,q2,q3,q4⟩:=f1 k x hx
  exact⟨x,by rw[gz,hx],q2,q3,q4⟩
 have H:HinOK os fs h (toH (hf++hs)):=by
  refine⟨hlow,fun m b hb=>?_,fun k hk i hl=>?_⟩
  ·obtain⟨x,x',q1,q2,d,d',e1,e2,e3⟩:=hin_sgl m b hb
   exact Live.of_look (aI q2 (by rw[e2];rfl))
  ·obtain⟨x,q1,q2,q3,q4⟩:=hin_fam k hk
   unfold Live at hl⊢
   rw[az,q2] at hl
   rw[az,q1]
   exact hl
 have live_in:∀b,Live (toH (hf++hs)) b→(b.1∈fs∧∃x,look h b.1=some x∧look (hf++hs) b.1=some x∧b.2<x.blks.length)∨∃m c,b=(4+m,0)∧os[m]?=some c:=by
  intro b hb
  unfold Live at hb
  rw[az] at hb
  cases hl:look (hf++hs) b.1 with
  |none=>rw[hl] at hb;cases hb
  |some x=>
   rw[hl] at hb
   simp only[bp] at hb
   rcases hin_look _ _ hl with⟨g1,g2⟩|⟨m,c,e,g1,g2⟩
   ·obtain⟨_,q2,q3,q4⟩:=f1 _ _ g2
    refine .inl ⟨g1,x,q2,rfl,?_⟩
    rcases cY b.2 x.blks.length with hlt|hge
    ·exact hlt
    ·rw[js hge] at hb;cases hb
   ·obtain⟨y,y',q1,q2,d,d',e1,e2,_⟩:=hin_sgl m c g1
    rw[e,q2] at hl
    obtain rfl:=bm hl
    rw[e2] at hb
    refine .inr ⟨m,c,?_,g1⟩
    obtain⟨b1,b2⟩:=b
    simp only at e hb⊢
    cases b2 with
    |zero=>rw[e]
    |succ j=>simp at hb
 have hcov:∀k x,look hout k=some x→∀j,x.blks.length≤j→look (toH h) (gN os n k,j)=none:=by
  intro k x hx j hj
  rcases nS os n k with⟨a1,a2⟩|⟨m,b,rfl,a1,a2⟩|⟨m,rfl,a1,a2⟩<;>rw[a2]
  ·rcases cov k x hx with⟨_,q⟩|⟨q,_⟩
   ·rw[az]
    cases hl:look h k with
    |none=>rfl
    |some y=>
     simp only[bp]
     rw[js]
     have:=(q y hl).2
     rw[←kp,←kp] at this
     omega
   ·omega
  ·rcases cov _ x hx with⟨q,_⟩|⟨_,q⟩
   ·omega
   ·obtain⟨d,hd⟩:=VB.sgl_ok q
    rw[hd] at hj
    simp only[List.length_singleton] at hj
    obtain⟨y,y',q1,q2,e,e',e1,e2,_⟩:=hin_sgl m b a1
    rw[az,q1]
    simp only[bp,e1]
    rw[js]
    simpa using hj
  ·exact hfr _ (by show n≤n+_;omega)
 have hW:∀b∈ws++ws',p9 h os fs b:=fun b hb=>(cm.1 hb).elim (v2 b) (s3 b)
 have hkeys:=pQ hout
 have hnd:(hout.map (·.1)).Nodup:=by rw[fJ];exact iO c3
 have hukeys:∀b,Live (toH hout) b→(gI (gN os n) b).1∈keysV u:=by
  intro b hb
  unfold Live at hb
  rw[az] at hb
  cases hl:look hout b.1 with
  |none=>rw[hl] at hb;cases hb
  |some x=>
   obtain⟨y,y1,_⟩:=((hr.look hg).1 b.1).2 x hl
   rw[←fJ]
   exact aP.2 ⟨_,dr y1,rfl⟩
 have mk:∀(uu:HL) (W:List Id),EZ h (ws++ws') W→(∀b∈W,b.1∈ws++ws')→((noMem r.toD=true∧(∀p∈toH hout,noMemB p.2=true)∧uu=renH (gI (gN os n)) (toH hout))∨((∀b∈W,∀x,look (toH h) b=some x→x.mutable=true→(frzB (toH h) b).isSome=true)∧uu=frz (toH h) W++renH (gI (gN os n)) (toH hout)))→
   ∀f':List Nat,(∀k∈(ws++ws')++fs++keysV u,k∈f')→∃c:CallOK P f (toH h) n (aB vs) r'.toD uu f',∀b,Live c.hout b→(c.g b).1∈f':=by
  intro uu W hcW hWs hupd f' hf'
  refine⟨⟨gI (gN os n),W,fs,aB vs',toH (hf++hs),r.toD,toH hout,hcon,v1.1,?_,?_,hkeys,fun b b' _ _ he=>hgI b b' he,?_,?_,?_,⟨?_,?_,?_⟩,r1.symm,hupd⟩,?_⟩
  ·exact v1.2 _ H _ fun b hb=>hcW b (dK _ hb)
  ·intro b x' hx
   have hlv:Live (toH (hf++hs)) b:=Live.of_look hx
   rcases live_in b hlv with⟨g1,x,g2,g3,g4⟩|⟨m,c,rfl,g1⟩
   ·rw[az,g3] at hx
    refine⟨x',by simp only[gI,mN os n (hlow _ g1)];rw[az,g2];exact hx,?_⟩
    obtain⟨y,y1,y2,y3,y4⟩:=hin_fam _ g1
    rw[g2] at y2
    obtain rfl:=bm y2
    exact Cd H y3 y4 x' (dm hx)
   ·obtain⟨y,y',q1,q2,d,d',e1,e2,e3⟩:=hin_sgl m c g1
    rw[az,q2] at hx
    simp only[bp,e2,fi,aK] at hx
    subst hx
    refine⟨d,?_,e3 _ H _ fun b hb=>hcW b (dA _ hb)⟩
    simp only[gI,ee,db g1]
    exact aI q1 (by rw[e1];rfl)
  ·intro b hb
   rcases live_in b hb with⟨g1,x,g2,g3,g4⟩|⟨m,c,rfl,g1⟩
   ·have hl:=c4 _ g1
    rw[a8] at hl
    obtain⟨y,hy⟩:=mh.1 hl
    rcases cov _ _ hy with⟨_,q⟩|⟨q,_⟩
    ·have:=(q x g2).2
     rw[←kp,←kp] at this
     unfold Live
     rw[az,hy]
     simp only[bp]
     rw[a6 (by omega)]
     rfl
    ·have:=hlow _ g1;omega
   ·obtain⟨y,hy⟩:=xR c5 m (cz.1 g1).1
    rcases cov _ _ hy with⟨q,_⟩|⟨_,q⟩
    ·omega
    ·obtain⟨d,hd⟩:=VB.sgl_ok q
     exact Live.of_look (aI hy (by rw[hd];rfl))
  ·intro b hb hnb
   have hb':=hb
   unfold Live at hb
   rw[az] at hb
   cases hl:look hout b.1 with
   |none=>rw[hl] at hb;cases hb
   |some x=>
    rw[hl] at hb
    rcases nS os n b.1 with⟨a1,a2⟩|⟨m,c,e,a1,a2⟩|⟨m,e,a1,a2⟩<;>simp only[gI]<;>rw[a2]
    ·cases hh:look h b.1 with
     |none=>rw[az,hh];rfl
     |some y=>
      rcases cov _ _ hl with⟨_,q⟩|⟨q,_⟩
      ·obtain⟨g1,_⟩:=q y hh
       obtain⟨z,z1,z2,_⟩:=hin_fam _ g1
       rw[hh] at z2
       obtain rfl:=bm z2
       unfold Live at hnb
       rw[az,z1] at hnb
       rw[az,hh]
       simpa using hnb
      ·omega
    ·exfalso
     rcases cov _ _ hl with⟨q,_⟩|⟨_,q⟩
     ·omega
     ·obtain⟨d,hd⟩:=VB.sgl_ok q
      simp only[bp,hd] at hb
      obtain⟨b1,b2⟩:=b
      simp only at e hb hnb
      cases b2 with
      |zero=>exact hnb (by rw[e];exact H.sgl m c a1)
      |succ j=>simp at hb
    ·exact hfr _ (by show n≤n+_;omega)
  ·intro b hb b' hb' he
   obtain⟨q1,q2⟩:=hW _ (hWs b hb)
   obtain⟨c,i⟩:=b
   rcases live_in b' hb' with⟨g1,x,g2,g3,g4⟩|⟨m,c',rfl,g1⟩
   ·simp only[gI,mN os n (hlow _ g1),bi] at he
    obtain⟨y,y1,y2,y3,_⟩:=hin_fam _ g1
    rw[he.1] at y2
    rcases q2 with(⟨E,t,xs,_,hb⟩|⟨t,xs,hb⟩|⟨t,x,hb⟩)|⟨q2,_⟩
    ·rw[y2] at hb;cases hb;cases y3
    ·rw[y2] at hb;cases hb;cases y3
    ·rw[y2] at hb;cases hb;cases y3
    ·exact q2 (he.1▸g1)
   ·simp only[gI,ee,db g1,bi] at he
    obtain⟨he,_⟩:=he
    subst he
    exact q1 (dm g1)
  ·exact fun b hb=>.inl (hf' _ (dA _ (hukeys b hb)))
  ·exact fun b hb=>hf' _ (dK _ (dK _ (hWs b hb)))
  ·exact fun k hk=>hf' _ (dK _ (dA _ hk))
  ·exact fun b hb=>hf' _ (dA _ (hukeys b hb))
 split at hk
 ·rename_i hm
  simp only[b6,yc,bc] at hm
  refine⟨r',_,u,_,mk _ (((toH h).map (·.1)).filter fun b=>decide (b.1∈ws++ws')) (fun b hb i hl=>?_) (fun b hb=>by simpa using(kP.1 hb).2) (.inl ⟨mT r hm.1,fun p hp=>?_,rfl⟩),yv hg (fun _=>rfl) hr hnd hcov,hk⟩
  ·refine kP.2 ⟨?_,by simpa using hb⟩
   obtain⟨d,hd⟩:=mh.1 hl
   exact aP.2 ⟨_,dr hd,rfl⟩
  obtain⟨x,x1,x2⟩:=xZ hp
  exact wL (hm.2 _ (dr x1)) _ x2
 ·obtain⟨hk,hnf⟩:=xn hk
  have hW1:∀b∈ws++ws',FI h b:=fun b hb=>(hW b hb).2.elim id fun q=>(hnf b hb q.2).elim
  obtain⟨w1,w2⟩:=Cc hW1
  refine⟨r',_,_,_,mk _ ((ws++ws').map fun b=>(b,0)) (fun b hb i hl=>?_) (fun b hb=>by obtain⟨c,hc,rfl⟩:=aP.1 hb;exact hc) (.inr ⟨w2,rfl⟩),?_,hk⟩
  ·have h0:i=0:=by
    unfold Live at hl
    cases i with
    |zero=>rfl
    |succ j=>
     rcases hW1 b hb with⟨E,t,xs,_,hx⟩|⟨t,xs,hx⟩|⟨t,x,hx⟩<;>rw[Bv hx rfl (j+1) (by simp)] at hl<;>cases hl
   subst h0
   exact aP.2 ⟨b,hb,rfl⟩
  have hcov':∀k x,look hout k=some x→∀j,x.blks.length≤j→look (toH (puts (vC h (ws++ws')) h)) (gN os n k,j)=none:=by
   intro k x hx j hj
   have h1:=hcov k x hx j hj
   rw[←w1.1,cW]
   split
   ·rename_i y hy
    exfalso
    split at hy
    ·obtain⟨⟨z,z1,_⟩,_⟩:=jH hy
     rw[h1] at z1;cases z1
    ·cases hy
   ·exact h1
  obtain⟨q1,q2⟩:=yv hg w1.1 hr hnd hcov'
  refine⟨fun b=>?_,fun x hx=>?_⟩
  ·rw[bG,bG];exact q1 b
  ·rw[jr]
   rcases cm.1 hx with hx|hx
   ·exact dK _ (w1.2 x hx)
   ·exact dA _ (q2 x hx)
end Go.Proofs.Ytbmnihglaokhmaa.Am
namespace Go.Proofs.Ytbmnihglaokhmaa.Am
open Go Go.RowKit Go.Conc
variable {P:Program} {N:Nat} {Θ:TT} {t:VT} {h:VH} {n:Nat}
mutual
theorem so (g:HL):∀(d:D),∀b∈aA (fwd g d),b∈aA d∨∃c∈aA d,look g c=some (.moved b)
 | .ref c,b,hb=>by
  simp only[fwd] at hb
  split at hb
  ·rename_i c' hc
   simp only[aA,bd] at hb
   subst hb
   exact .inr ⟨c,by simp[aA],hc⟩
  ·cases hb
  ·exact .inl hb
 | .ptr c o,b,hb=>by
  simp only[fwd] at hb
  split at hb
  ·rename_i c' hc
   simp only[aA,bd] at hb
   subst hb
   exact .inr ⟨c,by simp[aA],hc⟩
  ·split at hb<;>cases hb
  ·exact .inl hb
 | .eptr c i o,b,hb=>by
  simp only[fwd] at hb
  split at hb
  ·rename_i c' hc
   simp only[aA,bd] at hb
   subst hb
   exact .inr ⟨c,by simp[aA],hc⟩
  ·exact .inl hb
 | .vref c o q,b,hb=>by
  simp only[fwd] at hb
  split at hb
  ·rename_i c' hc
   simp only[aA,bd] at hb
   subst hb
   exact .inr ⟨c,by simp[aA],hc⟩
  ·exact .inl hb
 | .mp c,b,hb=>by
  simp only[fwd] at hb
  split at hb
  ·rename_i c' hc
   simp only[aA,bd] at hb
   subst hb
   exact .inr ⟨c,by simp[aA],hc⟩
  ·exact .inl hb
 | .ifc T d,b,hb=>by
  simp only[fwd,aA] at hb
  rcases so g d b hb with h1|⟨c,h1,h2⟩
  ·exact .inl (by simpa only[aA] using h1)
  ·exact .inr ⟨c,by simpa only[aA] using h1,h2⟩
 | .clo f cs,b,hb=>by
  simp only[fwd,aA] at hb
  rcases lq g cs b hb with h1|⟨c,h1,h2⟩
  ·exact .inl (by simpa only[aA] using h1)
  ·exact .inr ⟨c,by simpa only[aA] using h1,h2⟩
 | .agg cs,b,hb=>by
  simp only[fwd,aA] at hb
  rcases lq g cs b hb with h1|⟨c,h1,h2⟩
  ·exact .inl (by simpa only[aA] using h1)
  ·exact .inr ⟨c,by simpa only[aA] using h1,h2⟩
 | .tup cs,b,hb=>by
  simp only[fwd,aA] at hb
  rcases lq g cs b hb with h1|⟨c,h1,h2⟩
  ·exact .inl (by simpa only[aA] using h1)
  ·exact .inr ⟨c,by simpa only[aA] using h1,h2⟩
 | .int ..,b,hb| .bool _,b,hb| .str _,b,hb| .lst _,b,hb| .box _,b,hb| .nilp,b,hb| .nils,b,hb| .nilf,b,hb| .nilm,b,hb| .val _,b,hb| .nili,b,hb| .gp _,b,hb| .gv _,b,hb| .iptr ..,b,hb| .undef,b,hb| .junk,b,hb=>by simp[fwd,aA] at hb
theorem lq (g:HL):∀(l:List D),∀b∈bE (i5 g l),b∈bE l∨∃c∈bE l,look g c=some (.moved b)
 |[],b,hb=>by simp[i5,bE] at hb
 |d::l,b,hb=>by
  simp only[i5,bE,cm] at hb⊢
  rcases hb with hb|hb
  ·rcases so g d b hb with h1|⟨c,h1,h2⟩
   ·exact .inl (.inl h1)
   ·exact .inr ⟨c,.inl h1,h2⟩
  ·rcases lq g l b hb with h1|⟨c,h1,h2⟩
   ·exact .inl (.inr h1)
   ·exact .inr ⟨c,.inr h1,h2⟩
end
def Bi (h:VH):List Nat→List Nat
 |[]=>[]
 |b::l=>match a7 h b with
  |some (.moved k _)=>k::Bi h l
  |_=>Bi h l
theorem x8:∀{l:List Nat} {b k i:Nat},b∈l→look h b=some (.moved k i)→k∈Bi h l
 |c::l,b,k,i,hb,hl=>by
  simp only[Bi]
  rcases a9.1 hb with rfl|hb
  ·rw[a8,hl];simp
  ·have:=x8 hb hl
   split
   ·exact bl _ this
   ·exact this
theorem Bj {c b:Id}(hc:look (toH h) c=some (.moved b)):look h c.1=some (.moved b.1 b.2):=by
 rw[az] at hc
 obtain⟨x,h1,h2⟩:=bu.1 hc
 rw[h1]
 have hm:=dm h2
 cases x<;>simp only[VB.blks,bd,aP,fK,wD,reduceCtorEq,and_false,exists_false,Blk.moved.injEq] at hm
 case frowx=>
  obtain⟨y,_,e⟩:=hm
  cases y<;>cases e
 rw[hm]
def rr (t:VT)(h:VH)(x:Operand):List Nat:=match x with
 | .tmp k=>(match a7 t k with|some v=>fd v++Bi h (fd v)|none=>[])
 |_=>[]
def dg (t:VT)(h:VH):List Operand→List Nat
 |[]=>[]
 |x::l=>rr t h x++dg t h l
theorem wN {v:Value}{d:D}(h:jn v=some d)(g:HL):aA d=[]∧aA (fwd g d)=[]:=by
 unfold jn at h
 split at h<;>first|(simp only[aK] at h;subst h;exact⟨by simp[aA],by simp[fwd,aA]⟩)|cases h
theorem jX (x:Operand):∀k∈jx (toT t) (toH h) x,k∈rr t h x:=by
 intro k hk
 unfold jx at hk
 cases x with
 |tmp j=>
  simp only[aW,cx] at hk
  simp only[rr,a8]
  cases hl:look t j with
  |none=>rw[hl] at hk;cases hk
  |some v=>
   rw[hl] at hk
   simp only[aM] at hk
   rcases cm.1 hk with hk|hk
   ·obtain⟨b,hb,rfl⟩:=aP.1 hk
    exact dK _ (iK v b hb)
   ·obtain⟨b,hb,rfl⟩:=aP.1 hk
    rcases so _ _ b hb with h1|⟨c,h1,h2⟩
    ·exact dK _ (iK v b h1)
    ·exact dA _ (x8 (iK v c h1) (Bj h2))
 |const v=>
  simp only[aW] at hk
  cases hv:jn v with
  |none=>rw[hv] at hk;cases hk
  |some d=>
   rw[hv] at hk
   obtain⟨e1,e2⟩:=wN hv (toH h)
   simp[e1,e2,kJ] at hk
 |global g=>
  simp only[aW] at hk
  by_cases hg:(look Gl g).isSome=true
  ·rw[if_pos hg] at hk
   simp[aA,fwd,kJ] at hk
  ·rw[if_neg hg] at hk
   simp at hk
 |_=>simp[aW] at hk
theorem pI:∀(l:List Operand),∀k∈rq (toT t) (toH h) l,k∈dg t h l
 |[],k,hk=>by cases hk
 |x::l,k,hk=>by
  simp only[rq,i0,cm] at hk
  simp only[dg,cm]
  rcases hk with hk|hk
  ·exact .inl (jX x k hk)
  ·exact .inr (pI l k hk)
def nJ (t:VT)(h:VH)(op:Op):List Nat:=match iN op with|true=>dg t h op.operands.toList|false=>[]
theorem ym (op:Op):∀k∈vz (toT t) (toH h) op,k∈nJ t h op:=by
 intro k hk
 unfold vz at hk
 unfold nJ
 cases hl:iN op with
 |false=>rw[hl] at hk;cases hk
 |true=>rw[hl] at hk;exact pI _ k hk
def StepOK (P:Program)[PhC P](N:Nat)(o:Oper)(t:VT)(h:VH)(r:V)(vu:VH)(gl:List Nat):Prop:=∃u,cH h u vu∧∀f:List Nat,(∀k∈gl,k∈f)→OpS P N o (toT t) (toH h) r.toD u f
theorem AD (g:HL):∃n:Nat,look g (n,0)=none:=by
 have key:∀(l:HL),∃m,∀p∈l,p.1.1<m:=by
  intro l
  induction l with
  |nil=>exact⟨0,by simp⟩
  |cons p l ih=>
   obtain⟨m,hm⟩:=ih
   refine⟨max m (p.1.1+1),fun q hq=>?_⟩
   rcases a9.1 hq with rfl|hq
   ·omega
   ·have:=hm q hq;omega
 obtain⟨m,hm⟩:=key g
 refine⟨m,?_⟩
 cases hl:look g (m,0) with
 |none=>rfl
 |some x=>have:=hm _ (dr hl);simp only at this;omega
theorem uw [PhC P]{t:List (Nat×D)}{h:HL}{m:Bool}{o:Oper}{d:D}{u:HL}{f:List Nat}(hd:∀n,cQ P m o.op t h n=some (d,u))(hf:∀k∈vz t h o.op,k∈f):OpS P N o t h d u f:=by
 refine⟨1,fun t' h' ht ha main dfs γ ρ a w s=>?_⟩
 obtain⟨n,hn⟩:=AD h'
 have hd':cQ P m o.op t' h' n=some (d,u):=by
  rw[←Dv (t:=t') (h:=h) (fs:=f) ?_ ha,←Dw ht]
  ·exact hd n
  ·have:vz t' h o.op=vz t h o.op:=by
    unfold vz
    cases hl:iN o.op with
    |false=>rfl
    |true=>
     simp only[cond_true,rq]
     have hx:∀x∈o.op.operands.toList,jx t' h x=jx t h x:=fun x hx=>by unfold jx;rw[ht x (j6.1 hx)]
     generalize o.op.operands.toList=l at hx
     induction l with
     |nil=>rfl
     |cons x l ih=>rw[i0,i0,hx x (bh ..),ih fun y hy=>hx y (bl _ hy)]
   rw[this]
   exact hf
 exact re (fun w0 S A ρ a w s=>s.op (m:=m) (n:=n) hd' hn) (fun w0 S A ρ a w s=>uI s hd') s
theorem step0 [PhC P]{m:Bool}{o:Oper}{r:V}{u:HL}{vu:VH}(hd:∀n,cQ P m o.op (toT t) (toH h) n=some (r.toD,u))(hu:cH h u vu):StepOK P N o t h r vu (nJ t h o.op):=
 ⟨u,hu,fun f hf=>uw hd fun k hk=>hf k (ym _ k hk)⟩
theorem DP [PhC P]{m:Bool}{o:Oper}{r:V}{u:HL}{vu:VH}(hn:∀c:Id,n≤c.1→look (toH h) c=none)(hd:cQ P m o.op (toT t) (toH h) n=some (r.toD,u))(hu:cH h u vu):StepOK P N o t h r vu (n::nJ t h o.op):=
 ⟨u,hu,fun f hf=>C3 (hn (n,0) (aN _)) hd (fun k hk=>hf k (bl _ (ym _ k hk))) (hf n (bh ..))⟩
theorem vf [PhC P]{o:Oper}{r:V}{u1:HL}{v1 v2:VH}{g1 g2:List Nat}(hp:∀f:List Nat,(∀k∈g1,k∈f)→eC P N h u1 v1 f)(hs:StepOK P N o t (puts v1 h) r v2 g2):StepOK P N o t h r (v1++v2) (g1++g2):=by
 obtain⟨u,h1,h2⟩:=hs
 have p0:=hp g1 fun k hk=>hk
 refine⟨u1++u,od p0.1 h1,fun f hf=>(hp f fun k hk=>hf k (dK _ hk)).2 _ _ _ _ (mW (fun b=>(p0.1.1 b).symm) (h2 f fun k hk=>hf k (dA _ hk)))⟩
theorem fy [PhC P]{o:Oper}{r:V}{vu:VH}{g g':List Nat}(hs:StepOK P N o t h r vu g)(hg:∀k∈g,k∈g'):StepOK P N o t h r vu g':=by
 obtain⟨u,h1,h2⟩:=hs
 exact⟨u,h1,fun f hf=>h2 f fun k hk=>hf k (hg k hk)⟩
theorem ru [PhC P]{o:Oper}{f:FuncId}{vs:List V}{os fs:List Nat}{K:V→VH→List Nat→Prop}(hn:∀c:Id,n≤c.1→look (toH h) c=none)(hc:oz P (toT t) (toH h) o f (aB vs))(hk:ni P h n f vs os fs K):
  ∃r vu gl,StepOK P N o t h r vu (dg t h o.op.operands.toList++gl)∧K r vu gl:=by
 obtain⟨r,u,vu,gl,h1,h2,h3⟩:=z9 hn hk
 refine⟨r,vu,gl,⟨u,h2,fun f' hf'=>?_⟩,h3⟩
 obtain⟨c,hc'⟩:=h1 f' fun k hk=>hf' k (dA _ hk)
 exact Bx hn hc c (fun k hk=>hf' k (dK _ (pI _ k hk))) hc'
end Go.Proofs.Ytbmnihglaokhmaa.Am
namespace Go.Proofs.Ytbmnihglaokhmaa.Am
open Go Go.RowKit
variable {P:Program} {N:Nat} {Θ:TT} {t:VT} {h:VH} {n:Nat}
mutual
def Fj (own:Bool)(h:VH):V→List Nat
 | .ref b=>(match a7 h b with
  |some (.row _ t _)=>bif own|| !t.pure then[b] else[]
  |some (.lit ..)=>[b]
  |_=>[])
 | .ptr b _=>(match a7 h b with
  |some (.fvb ..)=>[]
  |_=>[b])
 | .agg cs=>lw own h cs
 | .tup cs=>lw own h cs
 | .clo _ cs=>lw own h cs
 | .ifc _ v=>Fj own h v
 |v=>AP v
def lw (own:Bool)(h:VH):List V→List Nat
 |[]=>[]
 |v::l=>Fj own h v++lw own h l
end
def F9 (own:Bool)(h:VH):VB→List Nat
 | .var _ cs=>lw own h cs
 | .vari _ pre _ t _ post=>lw own h pre++t.fams++lw own h post
 | .lit _ vs=>lw own h vs
 |x=>x.fams
def DX (l:List Nat)(b:Nat):List Nat:=match l.contains b with|true=>l|false=>l++[b]
def fb:List Nat→List Nat→List Nat
 |l,[]=>l
 |l,b::bs=>fb (DX l b) bs
def nU (own:Bool)(h:VH):Nat→Nat→List Nat→(List Nat→Prop)→Prop
 |0,_,l,K=>K l
 |k+1,i,l,K=>match l[i]? with
  |none=>K l
  |some b=>eR (fb l (match a7 h b with|some x=>F9 own h x|none=>[])) fun l=>nU own h k (i+1) l K
theorem oT {own:Bool}:∀{k i:Nat} {l:List Nat} {K:List Nat→Prop},nU own h k i l K→∃l,K l
 |0,_,l,_,hk=>⟨l,hk⟩
 |k+1,i,l,K,hk=>by
  simp only[nU] at hk
  split at hk
  ·exact⟨_,hk⟩
  ·have hk:=cg hk
   exact oT hk
def AR (own:Bool)(h:VH)(vs:List V)(K:List Nat→List Nat→Prop):Prop:=
 eR (fb [] (lw own h vs)) fun l=>nU own h 60 0 l fun l=>eR (l.filter fun b=>Nat.ble 4 b) fun os=>eR (l.filter fun b=>Nat.blt b 4) fun fs=>K os fs
theorem nV {own:Bool}{vs:List V}{K:List Nat→List Nat→Prop}(hk:AR own h vs K):∃os fs,K os fs:=by
 have hk:=cg hk
 obtain⟨l,hk⟩:=oT hk
 have hk:=cg hk
 have hk:=cg hk
 exact⟨_,_,hk⟩
def cO (P:Program)[PhC P](h:VH)(n:Nat)(f:FuncId)(vs:List V)(K:V→VH→List Nat→Prop):Prop:=∃os fs,ni P h n f vs os fs K
theorem kS [PhC P]{f:FuncId}{vs:List V}{K:V→VH→List Nat→Prop}(hk:AR false h vs fun os fs=>ni P h n f vs os fs K):cO P h n f vs K:=nV hk
theorem vV [PhC P]{f:FuncId}{vs:List V}{K:V→VH→List Nat→Prop}(hk:AR true h vs fun os fs=>ni P h n f vs os fs K):cO P h n f vs K:=nV hk
def Fz (h:VH)(k:Nat):Bool:=match a7 h k with
 |some (.frow _ t _)=>t.pure
 |some (.frowx _ t _)=>t.pure
 |_=>false
theorem FS [PhC P]{f:FuncId}{vs:List V}{K:V→VH→List Nat→Prop}(hk:AR false h vs fun os fs=>eR (fs.filter fun k=>!Fz h k) fun fs=>ni P h n f vs os fs K):cO P h n f vs K:=by
 obtain⟨os,fs,hk⟩:=nV hk
 exact⟨_,_,cg hk⟩
theorem FR [PhC P]{f:FuncId}{vs:List V}{K:V→VH→List Nat→Prop}(hk:ni P h n f vs [] [] K):cO P h n f vs K:=⟨_,_,hk⟩
theorem FT [PhC P](ex:List Nat){f:FuncId}{vs:List V}{K:V→VH→List Nat→Prop}(hk:AR true h vs fun os fs=>eR (fb ex fs) fun fs=>ni P h n f vs os fs K):cO P h n f vs K:=by
 obtain⟨os,fs,hk⟩:=nV hk
 exact⟨_,_,cg hk⟩
def mE (Θ:TT)(b:Builtin)(vs:List V)(Ts:List TypeId)(h:VH)(K:V→VH→Prop):Prop:=
 match b,vs,Ts with
 | .len,[v],[T]=>bK Θ T fun ti=>Ey ti h v fun r=>K r []
 | .copy,[d,e],[T,_]=>bK Θ T fun ti=>Ah Θ ti h d e K
 | .min,[.int k x,.int k' y],_=>Chk (decide (k=k')) (K (.int k (if y<x then y else x)) [])
 | .max,[.int k x,.int k' y],_=>Chk (decide (k=k')) (K (.int k (if x<y then y else x)) [])
 |_,_,_=>False
theorem rL (hΘ:Θ.ok P){b:Builtin}{vs:List V}{Ts:List TypeId}{m:Bool}{K:V→VH→Prop}(hk:mE Θ b vs Ts h K):∃r u vu,(∀n,dp P m b (aB vs) Ts (toH h) n=some (r.toD,u))∧cH h u vu∧K r vu:=by
 unfold mE at hk
 split at hk
 ·obtain⟨ti,l1,hk⟩:=aQ hk
  obtain⟨r,h1,h2⟩:=CQ (hΘ _ _ l1) hk
  exact⟨r,[],[],fun n=>by simp only[dp,aB,h1,aM],ba,h2⟩
 ·obtain⟨ti,l1,hk⟩:=aQ hk
  obtain⟨r,u,vu,h1,h2,h3⟩:=Ai hΘ (hΘ _ _ l1) hk
  exact⟨r,u,vu,fun n=>by simp only[dp,aB,h1],h2,h3⟩
 ·obtain⟨c,hk⟩:=hk.ok
  simp only[decide_eq_true_eq] at c
  exact⟨_,[],[],fun n=>by simp only[dp,aB,V.toD,if_pos c],ba,hk⟩
 ·obtain⟨c,hk⟩:=hk.ok
  simp only[decide_eq_true_eq] at c
  exact⟨_,[],[],fun n=>by simp only[dp,aB,V.toD,if_pos c],ba,hk⟩
 ·exact hk.elim
def AB (h:VH)(τ:Ty):List V→(VH→VH→List Nat→Prop)→Prop
 |[],K=>K h [] []
 |v::l,K=>xM h τ.shs v.cells fun h1 vu g=>AB h1 τ l fun h2 vu2 g2=>K h2 (vu++vu2) (g++g2)
theorem tR [PhC P]{τ:Ty}:∀{l:List V} {h:VH} {K:VH→VH→List Nat→Prop},AB h τ l K→∃u vu g,(∀f:List Nat,(∀k∈g,k∈f)→eC P N h u vu f)∧K (puts vu h) vu g
 |[],h,K,hk=>⟨[],[],[],fun f _=>eU,hk⟩
 |v::l,h,K,hk=>by
  obtain⟨u1,v1,g1,p1,hk⟩:=oM (P:=P) (N:=N) hk
  obtain⟨u2,v2,g2,p2,hk⟩:=tR hk
  refine⟨u1++u2,v1++v2,g1++g2,fun f hf=>jc (p1 f fun k hk=>hf k (dK _ hk)) (p2 f fun k hk=>hf k (dA _ hk)),?_⟩
  rw[bG]
  exact hk
def Ak (t:Ty):List V→Option (List t.den)
 |[]=>some []
 |v::l=>match E1 t (qf.nzL v),Ak t l with
  |some x,some xs=>some (x::xs)
  |_,_=>none
theorem xA {t:Ty}:∀{l:List V} {xs:List t.den},Ak t l=some xs→(aB l).map nzE=xs.map (aj t)
 |[],xs,h=>by simp only[Ak,aK] at h;subst h;rfl
 |v::l,xs,h=>by
  simp only[Ak] at h
  split at h
  ·rename_i x xs' h1 h2
   simp only[aK] at h
   subst h
   simp only[aB,bI,xA h2]
   rw[←rQ h1,sB]
  ·cases h
def xh (h:VH)(b:Nat)(τ:Ty)(K:VH→VH→List Nat→Prop):Prop:=
 match a7 h b with
 |some (.lit _ vs)=>AB h τ vs fun h1 vu g=>(match a7 h1 b with
  |some (.lit E vs')=>kN h1 vs' fun vs2=>(match Ak τ vs2 with
   |some xs=>zz b (VB.row E τ xs) h1 fun h2=>K h2 (vu++[(b,.row E τ xs)]) (g++b::eN vs')
   |none=>False)
  |_=>False)
 |_=>K h [] []
theorem zN [PhC P]{b:Nat}{τ:Ty}{K:VH→VH→List Nat→Prop}(hk:xh h b τ K):∃u vu g,(∀f:List Nat,(∀k∈g,k∈f)→eC P N h u vu f)∧K (puts vu h) vu g:=by
 unfold xh at hk
 split at hk
 ·obtain⟨u1,v1,g1,p1,hk⟩:=tR (P:=P) (N:=N) hk
  split at hk
  ·rename_i E vs' hb
   rw[a8] at hb
   obtain⟨vs2,f1,hk⟩:=gx hk
   split at hk
   ·rename_i xs hx
    have hk:=n5 hk
    have hlast:dq (toH (puts v1 h)) (.row E (aB vs'))= .row E (xs.map (aj τ)):=by
     simp only[dq]
     rw[←xA hx,←f1,d9,eI]
     rfl
    refine⟨u1++[((b,0),dq (toH (puts v1 h)) (.row E (aB vs')))],v1++[(b,.row E τ xs)],g1++b::eN vs',fun f hf=>jc (p1 f fun k hk=>hf k (dK _ hk)) (uM (y:=.row E τ xs) hb rfl (by rw[hlast];rfl) ⟨hf b (by simp),fun c hc=>hf c.1 ?_⟩),?_⟩
    ·refine dA _ (bl _ (dw vs' c ?_))
     rw[fl]
     exact hc
    ·rw[bG];exact hk
   ·exact hk.elim
  ·exact hk.elim
 ·exact⟨[],[],[],fun f _=>eU,hk⟩
def A5 (h:VH)(d:V)(o:Option Ty)(K:Ty→Prop):Prop:=
 match d with
 | .ref b=>dB h b fun x=>(match x with
  | .row _ t _=>K t
  |_=>False)
 |_=>(match o with|some t=>K t|none=>False)
theorem A6 {d:V}{o:Option Ty}{K:Ty→Prop}(hk:A5 h d o K):∃t,K t:=by
 unfold A5 at hk
 split at hk
 ·obtain⟨x,_,hk⟩:=bn hk
  split at hk
  ·exact⟨_,hk⟩
  ·exact hk.elim
 ·split at hk
  ·exact⟨_,hk⟩
  ·exact hk.elim
def Gd (h:VH)(e:V):Option Nat:=match e with
 | .ref b=>(match a7 h b with|some (.lit ..)=>some b|_=>none)
 |_=>none
def oe (s:Nat)(v:V):Bool:=v.whole && pg v.cells s && v.cells.all V.one
def E2:List (Nat×V)→List V
 |[]=>[]
 |(_,v)::l=>qf.nzL v::E2 l
theorem Bn:∀l:List (Nat×V),((vA l).map fun x=>nzE x.2)=aB (E2 l)
 |[]=>rfl
 |(k,v)::l=>by
  have:=Bn l
  simp only[vA,bI,eI] at this⊢
  simp only[E2,aB,sB]
  rw[←this]
def xW:List (Nat×V)→Nat→Bool
 |[],0=>true
 |_::l,n+1=>xW l n
 |_,_=>false
theorem uf:∀{l:List (Nat×V)} {n:Nat},xW l n=true→l.length=n
 |[],0,_=>rfl
 |_::l,n+1,h=>by simp[uf (l:=l) (n:=n) h]
 |[],_+1,h=>by cases h
 |_::_,0,h=>by cases h
def rK (ei:TI)(E:TypeId)(vs:List (Nat×V))(n:Nat)(K:V→VH→Prop):Prop:=
 match ei.ty with
 |some τ=>(match qf τ vs with
  |some xs=>Chk (τ.sz==ei.sz) (K (.ref n) [(n,.row E τ xs)])
  |none=>Chk (vs.all fun p=>oe ei.sz p.2) (K (.ref n) [(n,.lit E (E2 vs))]))
 |none=>Chk (vs.all fun p=>oe ei.sz p.2) (K (.ref n) [(n,.lit E (E2 vs))])
theorem Ar (t:Ty)(x:t.den):E4 t.sz (aj t x)=true:=by
 have h1:=d8 t x
 have hw:(aj t x).whole=true:=by
  cases t<;>first|rfl|(cases x<;>rfl)
 simp only[E4,hw,h1.1,h1.2,beq_self_eq_true,Bool.and_self]
theorem vS {T E:TypeId}{ei:TI}{len:Nat}{vs:List (Nat×V)}{K:V→VH→Prop}(hu:P.underlying T=some (.slice E))(he:elemT P E=some (ei.sz,ei.nb))(hkeys:ub vs 0=true)(hlen:xW vs len=true)(hb:len*ei.sz≤16777216)
  (hn:∀c:Id,n≤c.1→look (toH h) c=none) (hk:rK ei E vs n K):∃r u vu,dC P (n,0) T len ((vA vs).map fun x=>(x.1,nzE x.2))=some (V.toD r,u)∧cH h u vu∧K r vu:=by
 have hmap1:((vA vs).map fun x=>(x.1,nzE x.2)).map (·.1)=List.range' 0 len:=by
  rw[eI]
  have:=uc hkeys
  rw[uf hlen] at this
  exact this
 have hmap2:((vA vs).map fun x=>(x.1,nzE x.2)).map (·.2)=(vA vs).map fun x=>nzE x.2:=by
  rw[eI];rfl
 have lit:(vs.all fun p=>oe ei.sz p.2)=true→dC P (n,0) T len ((vA vs).map fun x=>(x.1,nzE x.2))=some ((V.ref n).toD,[((n,0),.row E (aB (E2 vs)))]):=by
  intro hw
  unfold dC
  simp only[hu,he]
  rw[if_pos,hmap2,Bn]
  ·rfl
  ·refine⟨hmap1,hb,?_⟩
   rw[hmap2,bc]
   intro e hx
   obtain⟨p,hp,rfl⟩:=aP.1 hx
   obtain⟨q,hq,rfl⟩:=aP.1 hp
   rw[bc] at hw
   have:=hw q hq
   simp only[oe,b6] at this
   obtain⟨⟨w1,w2⟩,w3⟩:=this
   simp only[E4,b6,beq_iff_eq]
   refine⟨by rw[rc,fA];exact w1,?_,Bp w3⟩
   rw[nq,aR,uq,gy w2]
 unfold rK at hk
 split at hk
 ·rename_i τ hτ
  split at hk
  ·rename_i xs hx
   obtain⟨c,hk⟩:=hk.ok
   simp only[beq_iff_eq] at c
   have hd:=xB hx
   refine⟨.ref n,[((n,0),.row E (xs.map (aj τ)))],_,?_,fE hn rfl,hk⟩
   unfold dC
   simp only[hu,he]
   rw[if_pos,hmap2,hd]
   ·rfl
   ·refine⟨hmap1,hb,?_⟩
    rw[hmap2,hd,bc]
    intro e hx
    obtain⟨x,_,rfl⟩:=aP.1 hx
    rw[←c]
    exact Ar τ x
  ·obtain⟨c,hk⟩:=hk.ok
   exact⟨_,_,_,lit c,fE hn rfl,hk⟩
 ·obtain⟨c,hk⟩:=hk.ok
  exact⟨_,_,_,lit c,fE hn rfl,hk⟩
def BV (k:TK):Bool:=match k with| .ifc| .func=>false|_=>true
theorem u7 {T:TypeId}{k:TK}(h:k.ok P T)(hs:BV k=true):yA P T=true:=by
 unfold yA
 cases k with
 |struct fs=>
  have:=h.2
  unfold kv at this
  cases hu:P.underlying T with
  |none=>rw[hu] at this;simp at this
  |some d=>
   rw[hu] at this
   cases d<;>first|rfl|(simp at this)
 |ifc=>cases hs
 |func=>cases hs
 |int k=>rw[show P.underlying T=some (.int k) from h]
 |bool=>rw[show P.underlying T=some .bool from h]
 |str=>rw[show P.underlying T=some .string from h]
 |slice E=>rw[show P.underlying T=some (.slice E) from h]
 |ptr E=>rw[show P.underlying T=some (.pointer E) from h]
 |arr m E=>rw[show P.underlying T=some (.array m E) from h]
 |map k E=>rw[show P.underlying T=some (.map k E) from h]
def xu (T:TypeId)(ti:TI)(ok:Bool)(v:V)(K:V→Prop):Prop:=
 Chk (BV ti.k) (match v with
  | .ifc T' e=>(match Nat.beq T' T with
   |true=>(match ok with|true=>K (.tup [e,.tt])|false=>K e)
   |false=>Chk ok (match ti.z with|some z=>K (.tup [z,.ff])|none=>False))
  | .nili=>Chk ok (match ti.z with|some z=>K (.tup [z,.ff])|none=>False)
  |_=>False)
theorem vK {T:TypeId}{ti:TI}(ht:ti.ok P T){ok:Bool}{v:V}{K:V→Prop}(hk:xu T ti ok v K):∃r,lg P T ok v.toD=some (V.toD r)∧K r:=by
 obtain⟨c,hk⟩:=Chk.ok hk
 have hi:=u7 ht.und c
 unfold lg
 rw[if_pos hi]
 split at hk
 ·rename_i T' e
  simp only[V.toD]
  split at hk
  ·rename_i hb
   rw[if_pos (bY hb)]
   cases ok with
   |true=>exact⟨_,by simp[V.toD,aB],hk⟩
   |false=>exact⟨_,by simp,hk⟩
  ·rename_i hb
   obtain⟨c2,hk⟩:=hk.ok
   rw[if_neg (by rintro rfl;simp at hb)]
   split at hk
   ·rename_i z hz
    refine⟨_,?_,hk⟩
    rw[if_pos c2,ht.zero z hz]
    simp[V.toD,aB]
   ·exact hk.elim
 ·obtain⟨c2,hk⟩:=hk.ok
  split at hk
  ·rename_i z hz
   refine⟨_,?_,hk⟩
   simp only[V.toD]
   rw[if_pos c2,ht.zero z hz]
   simp[V.toD,aB]
  ·exact hk.elim
 ·exact hk.elim
theorem zY {q:Bool}(hq:q=false){T:TypeId}{H:HL}{m m':Id}{d:D}{lo hi:Option D}:eK P H q m T d lo hi=eK P H q m' T d lo hi:=by
 subst hq
 unfold eK
 simp only[eZ,if_false]
end Go.Proofs.Ytbmnihglaokhmaa.Am
namespace Go.Proofs.Ytbmnihglaokhmaa.Am
open Go Go.RowKit
variable {P:Program} {N:Nat} {Θ:TT} {t:VT} {h:VH} {n:Nat}
def GH (τ:Ty)(z:V)(K:τ.den→Prop):Prop:=tC τ (qf.nzL z) K
theorem EE {τ:Ty}{z:V}{K:τ.den→Prop}(h:GH τ z K):∃x,nzE z.toD=aj τ x∧K x:=by
 obtain⟨x,h1,h2⟩:=kl h
 exact⟨x,by rw[←sB];exact h1,h2⟩
def Dy (P:Program)[PhC P](h:VH)(n:Nat)(f:FuncId)(vs:List V)(vz:List Nat)(K:V→VH→List Nat→Prop):Prop:=cO P h n f vs fun r vu gl=>K r vu (vz++gl)
def E7 (P:Program)(T:TypeId)(m:String)(K:FuncId→Bool→Prop):Prop:=∃f b,x7 P T m=some (f,b)∧K f b
theorem Ft {P:Program}{T:TypeId}{m:String}{K:FuncId→Bool→Prop}{f:FuncId}{b:Bool}(h:x7 P T m=some (f,b))(k:K f b):E7 P T m K:=⟨f,b,h,k⟩
def EK (v:V)(K:V→Prop):Prop:=
 match v with
 | .ptr b o=>K (.ptr b o)
 | .eptr b i o=>K (.eptr b i o)
 | .aptr b p i=>K (.aptr b p i)
 | .iptr t x o=>K (.iptr t x o)
 | .box t x=>K (.box t x)
 | .fptr k i o=>K (.fptr k i o)
 | .feptr k i j o=>K (.feptr k i j o)
 | .faptr k i p j=>K (.faptr k i p j)
 | .hpo k o=>jv o False fun i=>K (.fptr k i 0)
 | .obo t o=>jv o False fun x=>K (.box t x)
 |_=>False
theorem C9 {v:V}{K:V→Prop}(hk:EK v K):∃r:V,dU v.toD=true∧r.toD=v.toD∧K r:=by
 unfold EK at hk
 split at hk<;>try exact⟨_,rfl,rfl,hk⟩
 ·rename_i k o
  cases o with
  |none=>exact(hk.1 rfl).elim
  |some i=>exact⟨.fptr k i 0,rfl,rfl,hk.2 i rfl⟩
 ·rename_i t o
  cases o with
  |none=>exact(hk.1 rfl).elim
  |some x=>exact⟨.box t x,rfl,rfl,hk.2 x rfl⟩
 ·exact hk.elim
def ze (n:Nat):VH→Bool
 |[]=>true
 |(x,_)::u=>Nat.blt x n && ze n u
theorem sy:∀{u:VH},ze n u=true→∀k∈u.map (·.1),k<n
 |[],_,k,hk=>by cases hk
 |(a,b)::u,h,k,hk=>by
  simp only[ze,b6] at h
  rcases a9.1 hk with rfl|hk
  ·simpa[Nat.blt_eq] using h.1
  ·exact sy h.2 k hk
theorem qN {u:HL}{vu:VH}(hn:∀c:Id,n≤c.1→look (toH h) c=none)(hu:cH h u vu)(hl:ze n vu=true):∀c:Id,n≤c.1→look (toH (puts vu h)) c=none:=by
 intro c hc
 rw[←hu.1,aS _ _ _ fun x hx e=>?_]
 ·exact hn c hc
 ·have:=sy hl _ (hu.2 x hx)
  rw[e] at this
  omega
def xU (h:VH)(k i:Nat)(K:List (Int×Int)→Prop):Prop:=dB h k fun y=>(match y with
 | .map l=>Chk (Nat.beq i 0) (K l)
 | .maps ls=>fF ls i K
 |_=>False)
theorem oX {h:VH}{k i:Nat}{K:List (Int×Int)→Prop}(hk:xU h k i K):∃l,look (toH h) (k,i)=some (fK l)∧K l:=by
 obtain⟨y,h1,hk⟩:=bn hk
 split at hk
 ·rename_i l
  obtain⟨c,hk⟩:=hk.ok
  obtain rfl:=bY c
  exact⟨l,aI h1 rfl,hk⟩
 ·rename_i ls
  obtain⟨l,h2,hk⟩:=hk
  exact⟨l,aI h1 (by simp only[VB.blks,cd,h2,aM]),hk⟩
 ·exact hk.elim
def Bd (h:VH)(v:V)(K:Nat→Nat→List (Int×Int)→Prop):Prop:=match v with
 | .mp b=>xU h b 0 fun l=>K b 0 l
 | .fmp k i=>xU h k i fun l=>K k i l
 |_=>False
theorem Be {h:VH}{v:V}{K:Nat→Nat→List (Int×Int)→Prop}(hk:Bd h v K):∃k i l,v.toD= .mp (k,i)∧look (toH h) (k,i)=some (fK l)∧K k i l:=by
 unfold Bd at hk
 split at hk
 ·obtain⟨l,h1,h2⟩:=oX hk;exact⟨_,_,l,rfl,h1,h2⟩
 ·obtain⟨l,h1,h2⟩:=oX hk;exact⟨_,_,l,rfl,h1,h2⟩
 ·exact hk.elim
def B0 (P:Program)[PhC P](Θ:TT)(op:Op)(t:VT)(h:VH)(n:Nat)(K:V→VH→List Nat→Prop):Prop:=
 match op with
 | .move x=>ml t x fun v=>K v [] []
 | .assign x=>ml t x fun v=>K v [] []
 | .load T x=>tI t h x fun v=>bK Θ T fun ti=>xY ti h v fun r=>K r [] (dg t h [x])
 | .store T x y=>tI t h x fun d=>tI t h y fun v=>bK Θ T fun ti=>EQ h d fun tg=>(match tg with
  |none=>sN ti h d v fun r u=>K r u (dg t h [x,y])
  |some p=>xM h (p.1.shs.drop p.2) v.cells fun h1 vu g=>tI t h1 x fun d=>tI t h1 y fun v=>yr ti h1 d v fun r u=>K r (vu++u) (g++dg t h1 [x,y]))
 | .fieldAddr T x f=>ml t x fun v=>bK Θ T fun ti=>(match ti.k with
  | .struct fs=>uo fs f fun g=>Chk (decide (0<g.2.2)) (F3 g v fun r=>K r [] [])
  |_=>False)
 | .indexAddr T x i=>tI t h x fun v=>ml t i fun ix=>bK Θ T fun ti=>(match v,ix with
  | .val (.slice (some ⟨B,0,none⟩) m _),.int _ j=>(match ti.k with
   | .slice E=>bK Θ E fun ei=>ct (0≤j∧j<(m:Int)) (K (.val (.pointer (some ⟨B,j.toNat * ei.sz,none⟩))) [] (dg t h [x,i]))
   |_=>False)
  |v,.int _ j=>Ga Θ ti h v j fun r=>K r [] (dg t h [x,i])
  |_,_=>False)
 | .binOp op T x y _=>tI t h x fun d=>tI t h y fun e=>bK Θ T fun ti=>(match ti.k with
  | .ifc=>Fl op (iF x||iF y) d e fun r=>K r [] (dg t h [x,y])
  | .struct _=>Mk (FF P T) (FD op d e fun r=>K r [] (dg t h [x,y]))
  | .ptr E=>(match d,e with
   | .hpo k o,.hpo k' o'=>Fy P T op h k k' o o' fun r=>K r [] (dg t h [x,y])
   |d,e=>mB op (.ptr E) d e fun r=>K r [] (dg t h [x,y]))
  |_=>mB op ti.k d e fun r=>K r [] (dg t h [x,y]))
 | .unOp op _ x=>ml t x fun d=>Gr op d fun r=>K r [] []
 | .call ⟨.builtin b,args,Ts⟩=>(match b with
  | .append=>wn t h args.toList fun vs=>(match vs,Ts.toList with
   |[d,e],[T,T']=>(match Nat.beq T T' with
    |false=>bK Θ T fun ti=>bK Θ T' fun ti'=>ou Θ ti ti' h n d e fun r u=>K r u (n::dg t h args.toList)
    |true=>bK Θ T fun ti=>(match Gd h e with
    |none=>nL Θ ti h n d e fun r u=>K r u (n::dg t h args.toList)
    |some b=>(match ti.k with
     | .slice E=>bK Θ E fun ei=>A5 h d ei.ty fun τ=>xh h b τ fun h1 vu g=>Chk (ze n vu) (wn t h1 args.toList fun vs=>(match vs with
      |[d,e]=>nL Θ ti h1 n d e fun r u=>K r (vu++u) (g++n::dg t h1 args.toList)
      |_=>False))
     |_=>False)))
   |_,_=>False)
  |b=>wn t h args.toList fun vs=>mE Θ b vs Ts.toList h fun r u=>K r u (dg t h args.toList))
 | .call ⟨.value (.func f),args,_⟩=>wn t h args.toList fun vs=>Dy P h n f vs (dg t h (.func f::args.toList)) K
 | .call ⟨.value (.tmp k),args,_⟩=>tI t h (.tmp k) fun c=>(match c with
  | .clo f cs=>wn t h args.toList fun vs=>Dy P h n f (vs++cs) (dg t h (.tmp k::args.toList)) K
  |_=>False)
 | .call ⟨.invoke _ _,_,_⟩=>False
 | .pick c x y=>ml t c fun b=>(match b with
  | .tt=>ml t x fun v=>K v [] []
  | .ff=>ml t y fun v=>K v [] []
  | .bool b=>j7 b (ml t x fun v=>K v [] []) (ml t y fun v=>K v [] [])
  |_=>False)
 | .alloc T=>bK Θ T fun ti=>(match ti.z with
  |some z=>K (.ptr n 0) [(n,.var T z.cells)] [n]
  |none=>False)
 | .box T x=>ml t x fun v=>Chk v.whole (K (.ptr n 0) [(n,.var T v.cells)] [n])
 | .build T ps=>Eh t ps.toList fun vs=>bK Θ T fun ti=>(match ti.k,ti.z with
  | .struct fs,some (.agg zs)=>Ay fs zs vs fun cs=>K (.agg cs) [] []
  | .arr _ E,some (.agg zs)=>bK Θ E fun _=>Chk vs.isEmpty (K (.agg zs) [] [])
  |_,_=>False)
 | .buildSlice T len ps=>Av t h ps.toList fun vs=>bK Θ T fun ti=>(match ti.k with
  | .slice E=>bK Θ E fun ei=>Chk (ei.z.isSome && decide (0<ei.sz) && ub vs 0 && xW vs len && decide (len*ei.sz≤16777216)) (rK ei E vs n fun r u=>K r u (n::dg t h (ps.toList.map (·.2))))
  |_=>False)
 | .nilCheck x=>ml t x fun v=>EK v fun r=>K r [] []
 | .convert S T x=>tI t h x fun v=>bK Θ T fun ti=>bK Θ S fun si=>Af Θ ti si h v fun r=>K r [] (dg t h [x])
 | .makeInterface T x=>ml t x fun v=>bK Θ T fun ti=>Chk (BV ti.k) (K (.ifc T v) [] [])
 | .makeFunc (.func f) first captured=>Chk (Nat.beq first.size 0) (Eg t captured.toList fun vs=>K (.clo f vs) [] [])
 | .typeAssert x _ T ok=>ml t x fun v=>bK Θ T fun ti=>xu T ti ok v fun r=>K r [] []
 | .makeSlice T l c=>ml t l fun a=>ml t c fun b=>bK Θ T fun ti=>(match ti.k,a,b with
  | .slice E,.int _ a,.int _ b=>bK Θ E fun ei=>(match ei.z,ei.ty with
   |some z,some τ=>Chk (decide (0<ei.sz) && τ.sz==ei.sz && z.cells.all V.pure0) (GH τ z fun x=>ct (0≤a∧a=b) (ct (nG ei.nb a.toNat) (K (.ref n) [(n,.row E τ (List.replicate a.toNat x))] [n])))
   |some z,none=>Chk (decide (0<ei.sz) && z.cells.length==ei.sz && z.cells.all V.pure0) (ct (0≤a∧a=b) (ct (nG ei.nb a.toNat) (K (.ref n) [(n,.lit E (List.replicate a.toNat z))] [n])))
   |_,_=>False)
  |_,_,_=>False)
 | .slice T x lo hi none=>tI t h x fun v=>xH t lo fun l=>xH t hi fun r=>bK Θ T fun ti=>w8 Θ ti h n v l r fun q r u=>(match q with
  |true=>K r u (n::nJ t h op)
  |false=>K r u (nJ t h op))
 | .field T x f=>ml t x fun v=>bK Θ T fun ti=>(match ti.k,v with
  | .struct fs,.agg cs=>uo fs f fun g=>bK Θ g.1 fun gi=>fg gi cs g.2.1 fun r=>K r [] []
  |_,_=>False)
 | .index T x i=>ml t x fun v=>ml t i fun i=>bK Θ T fun ti=>(match ti.k,v,i with
  | .str,.str s,.int _ i=>ct (0≤i∧i<(s.size:Nat)) (K (.int .u8 ((s.data.toList.getD i.toNat 0).toNat:Nat)) [] [])
  | .arr m E,.agg cs,.int _ i=>bK Θ E fun ei=>ct (0≤i∧i<(m:Nat)) (fg ei cs (i.toNat * ei.sz) fun r=>K r [] [])
  |_,_,_=>False)
 | .extract x i=>ml t x fun v=>(match v with
  | .tup cs=>uo cs i fun r=>K r [] []
  |_=>False)
 | .makeMap _ none=>K (.mp n) [(n,.map [])] [n]
 | .mapUpdate T m k v=>Mk (nl P T) (tI t h m fun d=>ml t k fun kk=>ml t v fun vv=>(match d,kk,vv with
  | .mp b,.int .i64 a,.int .i64 c=>dB h b fun x=>(match x with
   | .map l=>K .undef [(b,.map (dY l a c))] (b::rr t h m)
   |_=>False)
  |_,_,_=>False))
 | .range T m=>Mk (nl P T) (tI t h m fun d=>Bd h d fun k i l=>K (.ptr n 0) [(n,.it k i l.length (List.range l.length) none)] (n::k::rr t h m))
 | .entry x=>tI t h x fun d=>(match d with
  | .ptr b 0=>dB h b fun y=>(match y with
   | .it k i m _ (some c)=>xU h k i fun l=>ct (l.length=m) (fF l c fun p=>K (.tup [.int .i64 p.1,.int .i64 p.2]) [] (b::k::rr t h x))
   |_=>False)
  |_=>False)
 |_=>False
def vD (P:Program)[PhC P](N:Nat)(o:Oper)(t:VT)(h:VH)(K:V→VH→List Nat→Prop):Prop:=∃r vu gl,StepOK P N o t h r vu gl∧K r vu gl
theorem lV [PhC P]{m:Bool}{o:Oper}{r:V}{u:HL}{vu:VH}{gl:List Nat}{K:V→VH→List Nat→Prop}(hd:∀n,cQ P m o.op (toT t) (toH h) n=some (r.toD,u))(hu:cH h u vu)(hg:∀k∈nJ t h o.op,k∈gl)(hk:K r vu gl):vD P N o t h K:=⟨r,vu,gl,fy (step0 hd hu) hg,hk⟩
theorem DO [PhC P]{m:Bool}{o:Oper}{r:V}{u:HL}{vu:VH}{gl:List Nat}{K:V→VH→List Nat→Prop}(hn:∀c:Id,n≤c.1→look (toH h) c=none)(hd:cQ P m o.op (toT t) (toH h) n=some (r.toD,u))(hu:cH h u vu)(hg:∀k∈n::nJ t h o.op,k∈gl)(hk:K r vu gl):vD P N o t h K:=⟨r,vu,gl,fy (DP hn hd hu) hg,hk⟩
theorem eB {op:Op}{l:List Operand}(hl:iN op=true)(ho:op.operands.toList=l):∀k∈nJ t h op,k∈dg t h l:=by
 intro k hk
 unfold nJ at hk
 rw[hl] at hk
 rw[ho] at hk
 exact hk
theorem cN {op:Op}(hl:iN op=false)(gl:List Nat):∀k∈nJ t h op,k∈gl:=by
 intro k hk
 unfold nJ at hk
 rw[hl] at hk
 cases hk

end Go.Proofs.Ytbmnihglaokhmaa.Am
