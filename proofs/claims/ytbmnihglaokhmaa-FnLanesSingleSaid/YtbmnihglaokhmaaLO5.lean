/- The plain machine with types: slices, addresses, literals. The plain machine with types: cuts, conversions, builtins. The plain machine with types: calls: names, views. The plain machine with types: calls. The plain machine with types: calls: what comes back. The plain machine with types: a call. The plain machine with types: a call, put together. The plain machine with types: what an operation looks at. The plain machine with types: one operation. The plain machine with types: one operation, put together. -/
import Derived.Test.YtbmnihglaokhmaaLO4
set_option linter.unusedSimpArgs false
set_option linter.unusedVariables false
set_option maxHeartbeats 1000000
namespace Go.Proofs.Ytbmnihglaokhmaa.Am
open Go Go.RowKit
def wF:List V→(List Int→Prop)→Prop
 |[],K=>K []
 | .int .i64 n::l,K=>wF l fun r=>K (n::r)
 |_::_,_=>False
theorem q7:∀{l:List V} {K:List Int→Prop},wF l K→∃ns:List Int,aB l=ns.map (D.int .i64)∧K ns
 |[],K,h=>⟨[],rfl,h⟩
 |v::l,K,h=>by
  cases v<;>try exact h.elim
  rename_i k n
  cases k<;>try exact h.elim
  obtain⟨ns,h1,h2⟩:=q7 (l:=l) h
  exact⟨n::ns,by simp[aB,V.toD,h1],h2⟩
def V.pure0:V→Bool
 | .int .. | .bool _| .tt| .ff| .str _| .lst .. | .box .. | .nilp| .nils| .nilf| .nilm| .nili| .val _| .dbox _=>true
 |_=>false
theorem iI (l:List V)(h:l.all V.pure0=true):(aB l).all D.pure0=true:=by
 rw[cu,List.all_map]
 rw[bc] at h⊢
 intro x hx
 have:=h x hx
 cases x<;>first|rfl|cases this
theorem oS {t:Ty}(h:t.sz=1)(hp:t.pure=true)(xs:List t.den):(xs.map (aj t)).all D.pure0=true:=by
 rw[bc]
 intro y hy
 obtain⟨z,_,rfl⟩:=aP.1 hy
 have h1:=iM hp z
 rw[h] at h1
 have h2:=h1.1
 have h3:=h1.2
 match hc:(aj t z).cells,h2 with
 |[c],_=>
  rw[hc] at h3
  simp only[List.all_cons,List.all_nil,Bool.and_true] at h3
  by_cases hag:∃cs,aj t z= .agg cs
  ·obtain⟨cs,he⟩:=hag
   cases t<;>simp[Ty.sz] at h<;>first|(cases he;done)|(cases z<;>simp[aj,jU,qg] at he;done)
  ·have:=cU fun cs hcs=>hag ⟨cs,hcs⟩
   rw[this] at hc
   simp only[List.cons.injEq,and_true] at hc
   rw[hc];exact h3
def mX (h:VH)(v:V)(K:(t:Ty)→List t.den→Prop):Prop:=
 match v with
 | .lst t xs=>K t xs
 | .nils=>K (.int .i64) []
 | .ref b=>dD h b fun x=>(match x with
  | .row _ t xs=>K t xs
  | .froz t xs=>K t xs
  |_=>False)
 | .fref k i=>dD h k fun x=>(match x with
  | .frow _ t xss=>fl xss i fun xs=>K t xs
  | .frowx _ t xss=>fl xss i fun ox=>jb ox False fun xs=>K t xs
  |_=>False)
 | .hro k o=>jb o (K (.int .i64) []) fun i=>dD h k fun x=>(match x with
  | .frow _ t xss=>fl xss i fun xs=>K t xs
  | .frowx _ t xss=>fl xss i fun ox=>jb ox False fun xs=>K t xs
  |_=>False)
 | .vref b o n=>dD h b fun x=>(match x with
  | .var _ cs=>Chk (cs.all V.pure0) (BU cs o n fun r=>wF r fun ns=>K (.int .i64) ns)
  | .vari _ pre m t xs post=>Chk (pre.all V.pure0 && post.all V.pure0 && Nat.beq o pre.length && Nat.beq n m && t.sz==1 && t.pure) (ct (xs.length=m) (K t xs))
  |_=>False)
 |_=>False
theorem kz {h:VH}{v:V}{K:(t:Ty)→List t.den→Prop}(hk:mX h v K):∃t,∃xs:List (Ty.den t),elems (toH h) v.toD=some (xs.map (aj t))∧K t xs:=by
 unfold mX at hk
 split at hk
 ·exact⟨_,_,rfl,hk⟩
 ·exact⟨_,_,rfl,hk⟩
 ·rename_i b
  obtain⟨x,h1,h3⟩:=bk hk
  split at h3
  ·rename_i E t xs
   have hl:=aI (i:=0) h1 (d:=.row E (xs.map (aj t))) rfl
   exact⟨_,_,by simp[elems,V.toD,hl],h3⟩
  ·rename_i t xs
   have hl:=aI (i:=0) h1 (d:=.froz (xs.map (aj t))) rfl
   exact⟨_,_,by simp[elems,V.toD,hl],h3⟩
  ·exact h3.elim
 ·rename_i k i
  obtain⟨x,h1,h3⟩:=bk hk
  split at h3
  ·rename_i E t xss
   obtain⟨xs,h4,h5⟩:=h3
   have hl:=aI (i:=i) h1 (d:=.row E (xs.map (aj t))) (by simp only[VB.blks,b9,h4,aM])
   exact⟨_,_,by simp[elems,V.toD,hl],h5⟩
  ·rename_i E t xss
   obtain⟨ox,h4,h5⟩:=h3
   cases ox with
   |none=>exact(h5.1 rfl).elim
   |some xs=>
    have hl:=aI (i:=i) h1 (d:=.row E (xs.map (aj t))) (by simp only[VB.blks,b9,h4,aM,rowX])
    exact⟨_,_,by simp[elems,V.toD,hl],h5.2 xs rfl⟩
  ·exact h3.elim
 ·rename_i k o
  cases o with
  |none=>exact⟨.int .i64,[],rfl,hk.1 rfl⟩
  |some i=>
   obtain⟨x,h1,h3⟩:=bk (hk.2 i rfl)
   split at h3
   ·rename_i E t xss
    obtain⟨xs,h4,h5⟩:=h3
    have hl:=aI (i:=i) h1 (d:=.row E (xs.map (aj t))) (by simp only[VB.blks,b9,h4,aM])
    exact⟨_,_,by simp[elems,V.toD,jU,hl],h5⟩
   ·rename_i E t xss
    obtain⟨ox,h4,h5⟩:=h3
    cases ox with
    |none=>exact(h5.1 rfl).elim
    |some xs=>
     have hl:=aI (i:=i) h1 (d:=.row E (xs.map (aj t))) (by simp only[VB.blks,b9,h4,aM,rowX])
     exact⟨_,_,by simp[elems,V.toD,jU,hl],h5.2 xs rfl⟩
   ·exact h3.elim
 ·rename_i b o n
  obtain⟨x,h1,h3⟩:=bk hk
  split at h3
  ·rename_i T cs
   have hl:=aI (i:=0) h1 (d:=.var T (aB cs)) rfl
   obtain⟨c1,h4⟩:=h3.ok
   obtain⟨h5,h6⟩:=sY h4
   obtain⟨ns,h7,h8⟩:=q7 h6
   refine⟨.int .i64,ns,?_,h8⟩
   simp only[elems,V.toD,hl]
   rw[if_pos ⟨by rw[aR];exact h5,iI _ c1⟩]
   rw[show ns.map (aj (.int .i64))=ns.map (D.int .i64) from rfl,←h7]
   simp only[cu,List.map_take,List.map_drop]
  ·rename_i T pre m t xs post
   have hl:=aI (i:=0) h1 (d:=.var T (aB pre++xs.map (aj t)++aB post)) rfl
   obtain⟨c1,h4⟩:=h3.ok
   simp only[bT,beq_iff_eq] at c1
   obtain⟨⟨⟨⟨⟨c1,c2⟩,c3⟩,c4⟩,c5⟩,c6⟩:=c1
   obtain⟨h5,h6⟩:=h4
   have hp:o=pre.length:=b8 c3
   have hn:n=m:=b8 c4
   refine⟨t,xs,?_,h6⟩
   simp only[elems,V.toD,hl]
   have hall:(aB pre++xs.map (aj t)++aB post).all D.pure0=true:=by
    rw[List.all_append,List.all_append,iI _ c1,iI _ c2,oS c5 c6]
    rfl
   rw[if_pos ⟨by rw[b7,b7,aR,bG];omega,hall⟩]
   rw[cX,hp,←aR pre,List.drop_left,hn,←h5]
   rw[show xs.length=(xs.map (aj t)).length by rw[bG],List.take_left]
  ·exact h3.elim
 ·exact hk.elim
theorem pW (t:Ty)(xs:List t.den)(s:Nat)(h:t.sz=s):xb s (xs.map (aj t))=s:=Db fun e he=>by
 obtain⟨x,_,rfl⟩:=aP.1 he
 rw[(d6 t x).1,h]
def Em (ti:TI)(h:VH)(v:V)(K:V→Prop):Prop:=
 match ti.k with
 | .str=>(match v with| .str s=>K (.int .i64 (s.size:Nat))|_=>False)
 | .slice _=>mX h v fun _ xs=>K (.int .i64 (xs.length:Nat))
 |_=>False
theorem CG {P:Program}{T:TypeId}{ti:TI}(ht:ti.ok P T){h:VH}{v:V}{K:V→Prop}(hk:Em ti h v K):∃r,oB P (toH h) T v.toD=some r.toD∧K r:=by
 have hu:=ht.und
 unfold Em at hk
 split at hk
 ·rename_i e
  rw[e] at hu
  split at hk
  ·exact⟨_,by simp only[oB,show P.underlying T=some .string from hu,V.toD],hk⟩
  ·exact hk.elim
 ·rename_i E e
  rw[e] at hu
  obtain⟨t,xs,h1,h2⟩:=kz hk
  exact⟨_,by simp only[oB,show P.underlying T=some (.slice E) from hu,h1,aM,bG,V.toD],h2⟩
 ·exact hk.elim
def nT (Θ:TT)(ti:TI)(h:VH)(n:Nat)(d1 d2:V)(K:V→VH→Prop):Prop:=
 match ti.k with
 | .slice E=>bL Θ E fun ei=>Chk (ei.z.isSome && decide (0<ei.sz)) (mX h d2 fun t ys=>(match d1 with
  | .ref b=>dD h b fun x=>(match x with
   | .row E' t' xs=>Chk (E'==E && t'.sz==ei.sz && !Nat.beq b n) (match kX t' t ys with
    |some ys'=>ct (nN ei.nb (xs.length+ys'.length)) (K (.ref n) [(b,.gone),(n,.row E t' (xs++ys'))])
    |none=>False)
   |_=>False)
  | .nils=>Chk (t.sz==ei.sz) (match ys with
   |[]=>K .nils []
   |y::ys'=>ct (nN ei.nb (ys'.length+1)) (K (.ref n) [(n,.row E t (y::ys'))]))
  |_=>False))
 |_=>False
theorem tb {h:VH}{b n:Nat}{x y:VB}{d:Blk}(hn:∀c:Id,n≤c.1→look (toH h) c=none)(hb:look h b=some x)(hs:x.sgl=true)(hbn:b≠n)(hy:y.blks=[d]):cM h [((b,0),.gone),((n,0),d)] [(b,.gone),(n,y)]:=by
 have h1:cM h [((b,0),.gone)] [(b,.gone)]:=eq hb hs rfl
 have h2:cM (puts [(b,VB.gone)] h) [((n,0),d)] [(n,y)]:=mo (fun i hi=>by
  rw[←h1.1,aS _ _ _ (fun z hz e=>by obtain rfl:=bd.1 hz;simp only[bg] at e;exact hbn e.1)]
  exact hn (n,i) (aN _)) hy
 exact ov h1 h2
theorem oF {P:Program}{Θ:TT}(hΘ:Θ.ok P){T:TypeId}{ti:TI}(ht:ti.ok P T){h:VH}{n:Nat}(hn:∀c:Id,n≤c.1→look (toH h) c=none){d1 d2:V}{K:V→VH→Prop}(hk:nT Θ ti h n d1 d2 K):∃r u vu,gW P (toH h) (n,0) T d1.toD d2.toD=some (r.toD,u)∧cM h u vu∧K r vu:=by
 have hu:=ht.und
 unfold nT at hk
 split at hk
 ·rename_i E e
  rw[e] at hu
  obtain⟨ei,l1,h1⟩:=aQ hk
  have hei:=hΘ _ _ l1
  obtain⟨c,h2⟩:=h1.ok
  simp only[bT,decide_eq_true_eq] at c
  obtain⟨t,ys,h3,h4⟩:=kz h2
  have hel:=hei.elem c.1 c.2
  unfold gW
  simp only[show P.underlying T=some (.slice E) from hu,hel,h3]
  split at h4
  ·rename_i b
   obtain⟨x,b1,h5⟩:=bk h4
   split at h5
   ·rename_i E' t' xs
    obtain⟨c2,h6⟩:=h5.ok
    simp only[bT,beq_iff_eq,i9] at c2
    obtain⟨⟨rfl,c3⟩,c4⟩:=c2
    have hbn:b≠n:=by rintro rfl;simp at c4
    split at h6
    ·rename_i ys' hc
     have hce:=fL hc
     have hl:=aI (i:=0) b1 (d:=.row E' (xs.map (aj t'))) rfl
     refine⟨.ref n,[((b,0),.gone),((n,0),.row E' ((xs++ys').map (aj t')))],_,?_,tb hn b1 rfl hbn rfl,h6.2⟩
     rw[hce,if_pos (pW _ _ _ c3)]
     simp only[V.toD,hl]
     rw[if_pos ⟨trivial,by simpa using h6.1⟩]
     simp
    ·exact h6.elim
   ·exact h5.elim
  ·obtain⟨c3,h6⟩:=h4.ok
   simp only[beq_iff_eq] at c3
   rw[if_pos (pW _ _ _ c3)]
   split at h6
   ·exact⟨.nils,[],[],rfl,ba,h6⟩
   ·rename_i y ys'
    refine⟨.ref n,[((n,0),.row E ((y::ys').map (aj t)))],_,?_,fJ hn rfl,h6.2⟩
    simp only[V.toD,bI]
    rw[if_pos (by simpa using h6.1)]
  ·exact h4.elim
 ·exact hk.elim
def oG (Θ:TT)(ti ti':TI)(h:VH)(n:Nat)(d1 d2:V)(K:V→VH→Prop):Prop:=
 match ti.k,ti'.k,d1,d2 with
 | .slice E,.int _,.ref b,.int _ m=>bL Θ E fun ei=>dD h b fun x=>(match x,ei.z with
  | .row E' (.int k2) xs,some (.int k3 z)=>Chk (E'==E && Nat.beq ei.sz 1 && !Nat.beq b n && decide (k3=k2)) (ct (0<m∧m≤1000000) (ct (nN ei.nb (xs.length+m.toNat)) (K (.ref n) [(b,.gone),(n,.row E (.int k2) (xs++List.replicate m.toNat z))])))
  |_,_=>False)
 |_,_,_,_=>False
theorem tA {P:Program}{Θ:TT}(hΘ:Θ.ok P){T T':TypeId}{ti ti':TI}(ht:ti.ok P T)(ht':ti'.ok P T'){h:VH}{n:Nat}(hn:∀c:Id,n≤c.1→look (toH h) c=none){d1 d2:V}{K:V→VH→Prop}(hk:oG Θ ti ti' h n d1 d2 K):∃r u vu,fK P (toH h) (n,0) T T' d1.toD d2.toD=some (r.toD,u)∧cM h u vu∧K r vu:=by
 have hu:=ht.und
 have hu':=ht'.und
 unfold oG at hk
 split at hk
 ·rename_i E kn b k m e e'
  rw[e] at hu
  rw[e'] at hu'
  obtain⟨ei,l1,h1⟩:=aQ hk
  have hei:=hΘ _ _ l1
  obtain⟨x,b1,h5⟩:=bk h1
  split at h5
  ·rename_i E' k2 xs k3 z hz
   obtain⟨c2,h6⟩:=h5.ok
   simp only[bT,beq_iff_eq,i9,decide_eq_true_eq] at c2
   obtain⟨⟨⟨rfl,c1⟩,c4⟩,rfl⟩:=c2
   have hs1:ei.sz=1:=b8 c1
   have hbn:b≠n:=by rintro rfl;simp at c4
   obtain⟨h7,h8,h9⟩:=h6
   have hl:=aI (i:=0) b1 (d:=.row E' (xs.map (aj (.int k3)))) rfl
   refine⟨.ref n,[((b,0),.gone),((n,0),.row E' ((xs++List.replicate m.toNat z).map (aj (.int k3))))],_,?_,tb hn b1 rfl hbn rfl,h9⟩
   simp only[fK,V.toD,show P.underlying T=some (.slice E') from hu,show P.underlying T'=some (.int _) from hu',hl,hei.elem (by rw[hz];rfl) (by omega),hei.zero _ hz]
   rw[if_pos ⟨trivial,hs1,h7.1,h7.2,by simpa using h8⟩]
   simp[List.map_replicate,aj]
  ·exact h5.elim
 ·exact hk.elim
def xB:List V→Nat→(List V→Prop)→Prop
 |l,0,K=>K l
 |[],_+1,_=>False
 |_::cs,n+1,K=>xB cs n K
theorem tN:∀{l:List V} {n:Nat} {K:List V→Prop},xB l n K→n≤l.length∧K (l.drop n)
 |l,0,K,h=>⟨gS _,by cases l<;>simpa[xB] using h⟩
 |[],_+1,_,h=>h.elim
 |c::cs,n+1,K,h=>by
  obtain⟨h1,h2⟩:=tN (l:=cs) (n:=n) h
  exact⟨by simpa using h1,by simpa using h2⟩
def Aa (Θ:TT)(ti:TI)(h:VH)(d e:V)(K:V→VH→Prop):Prop:=
 match ti.k,d with
 | .slice E,.vref b o m=>bL Θ E fun ei=>Chk (ei.sz==1) (mX h e fun t ys=>Chk (t.sz==1 && t.pure) (dD h b fun x=>(match x with
  | .var T' cs=>pX cs o fun pre=>xB cs (o+m) fun post=>ct (ys.length=m) (K (.int .i64 (ys.length:Nat)) [(b,.vari T' pre m t ys post)])
  |_=>False)))
 |_,_=>False
theorem Ab {P:Program}{Θ:TT}(hΘ:Θ.ok P){T:TypeId}{ti:TI}(ht:ti.ok P T){h:VH}{d e:V}{K:V→VH→Prop}(hk:Aa Θ ti h d e K):∃r u vu,nv P (toH h) T d.toD e.toD=some (r.toD,u)∧cM h u vu∧K r vu:=by
 have hu:=ht.und
 unfold Aa at hk
 split at hk
 ·rename_i E b o m ek
  rw[ek] at hu
  obtain⟨ei,l1,h1⟩:=aQ hk
  have hei:=hΘ _ _ l1
  obtain⟨c,h2⟩:=h1.ok
  simp only[beq_iff_eq] at c
  obtain⟨t,ys,h3,h4⟩:=kz h2
  obtain⟨c2,h4⟩:=h4.ok
  simp only[bT,beq_iff_eq] at c2
  obtain⟨x,b1,h5⟩:=bk h4
  split at h5
  ·rename_i T' cs
   have hl:=aI (i:=0) b1 (d:=.var T' (aB cs)) rfl
   obtain⟨g1,h6⟩:=ml h5
   obtain⟨g2,h7⟩:=tN h6
   obtain⟨h10,h11⟩:=h7
   refine⟨.int .i64 (ys.length:Nat),[((b,0),.var T' (aB (cs.take o)++ys.map (aj t)++aB (cs.drop (o+m))))],_,?_,eq b1 rfl rfl,h11⟩
   unfold nv
   have hsz:sizeT P E=some 1:=by rw[hei.size,c]
   simp only[show P.underlying T=some (.slice E) from hu,V.toD,hsz,h3,hl]
   have hmin:min (ys.map (aj t)).length m=ys.length:=by rw[bG];omega
   have hall:(ys.map (aj t)).all D.pure0=true:=oS c2.1 c2.2 ys
   rw[hmin,if_pos ⟨by rw[aR];omega,hall⟩,gj (by rw[bG];omega)]
   simp only[bj,bG,h10,cu,List.map_take,List.map_drop]
  ·exact h5.elim
 ·exact hk.elim
def F0 (g:Nat×Nat×Nat)(v:V)(K:V→Prop):Prop:=
 match v with
 | .ptr b o=>eR (o+g.2.1) fun o'=>K (.ptr b o')
 | .eptr b j o=>eR (o+g.2.1) fun o'=>K (.eptr b j o')
 | .fptr k i o=>eR (o+g.2.1) fun o'=>K (.fptr k i o')
 | .feptr k i j o=>eR (o+g.2.1) fun o'=>K (.feptr k i j o')
 | .iptr t e o=>eR (o+g.2.1) fun o'=>K (.iptr t e o')
 | .hpo k p=>jb p False fun i=>K (.fptr k i g.2.1)
 | .box t e=>(match enc t e with
  | .agg _=>K (.iptr t e g.2.1)
  |_=>False)
 | .obo t p=>jb p False fun e=>(match enc t e with
  | .agg _=>K (.iptr t e g.2.1)
  |_=>False)
 |_=>False
theorem xH {P:Program}{T:TypeId}{i:Nat}{g:Nat×Nat×Nat}(hg:fu P T i=some g.2.1){t:Ty}{e:t.den}{K:V→Prop}(hk:match enc t e with| .agg _=>K (.iptr t e g.2.1)|_=>False):∃r,fm P T i (.box (aj t e).cells)=some r.toD∧K r:=by
 split at hk
 ·rename_i cs hc
  refine⟨_,?_,hk⟩
  simp only[V.toD,fm,hg,aM]
  have:=je t e
  rw[hc] at this
  rw[←this]
  rfl
 ·exact hk.elim
theorem D6 {P:Program}{T:TypeId}{i:Nat}{g:Nat×Nat×Nat}(hg:fu P T i=some g.2.1){v:V}{K:V→Prop}(hk:F0 g v K):∃r,fm P T i v.toD=some r.toD∧K r:=by
 unfold F0 at hk
 split at hk
 ·exact⟨_,by simp only[V.toD,fm,hg,aM],bK hk⟩
 ·exact⟨_,by simp only[V.toD,fm,hg,aM],bK hk⟩
 ·exact⟨_,by simp only[V.toD,fm,hg,aM],bK hk⟩
 ·exact⟨_,by simp only[V.toD,fm,hg,aM],bK hk⟩
 ·exact⟨_,by simp only[V.toD,fm,hg,aM],bK hk⟩
 ·rename_i k p
  cases p with
  |none=>exact(hk.1 rfl).elim
  |some i=>exact⟨.fptr k i g.2.1,by simp only[V.toD,qg,fm,hg,aM,gV],hk.2 i rfl⟩
 ·exact xH hg hk
 ·rename_i t p
  cases p with
  |none=>exact(hk.1 rfl).elim
  |some e=>exact xH hg (hk.2 e rfl)
 ·exact hk.elim
def zc (i s:Nat)(K:Nat→Prop):Prop:=match s with|1=>K i|s=>K (i*s)
theorem oe {i s:Nat}{K:Nat→Prop}(h:zc i s K):K (i*s):=by
 unfold zc at h
 split at h
 ·rw[Nat.mul_one];exact h
 ·exact h
def F7 (Θ:TT)(ti:TI)(h:VH)(v:V)(i:Int)(K:V→Prop):Prop:=
 match ti.k with
 | .slice E=>bL Θ E fun ei=>(match v with
  | .ref b=>dD h b fun x=>(match x with
   | .row E' t xs=>Chk (E'==E) (ct (0≤i∧i<(xs.length:Nat)) (K (.eptr b i.toNat 0)))
   | .lit E' vs=>Chk (E'==E) (ct (0≤i∧i<(vs.length:Nat)) (eR i.toNat fun j=>K (.eptr b j 0)))
   | .froz t xs=>Chk (t.sz==ei.sz) (mJ xs i fun _ e=>K (.iptr t e 0))
   |_=>False)
  | .fref k j=>dD h k fun x=>(match x with
   | .frow E' t xss=>Chk (E'==E) (fl xss j fun xs=>ct (0≤i∧i<(xs.length:Nat)) (K (.feptr k j i.toNat 0)))
   |_=>False)
  | .hro k p=>jb p False fun j=>dD h k fun x=>(match x with
   | .frow E' t xss=>Chk (E'==E) (fl xss j fun xs=>ct (0≤i∧i<(xs.length:Nat)) (K (.feptr k j i.toNat 0)))
   | .frowx E' t xss=>Chk (E'==E) (fl xss j fun ox=>jb ox False fun xs=>ct (0≤i∧i<(xs.length:Nat)) (K (.feptr k j i.toNat 0)))
   |_=>False)
  | .lst t xs=>Chk (t.sz==ei.sz) (mJ xs i fun _ e=>K (.iptr t e 0))
  |_=>False)
 | .arr m E=>bL Θ E fun ei=>ct (0≤i∧i<(m:Nat)) (match v with
  | .ptr b o=>dD h b fun x=>(match x with
   | .vari _ pre _ _ _ _=>(match Nat.beq o pre.length with
    |true=>eR pre.length fun p=>zc i.toNat ei.sz fun j=>K (.aptr b p j)
    |false=>eR (o+i.toNat * ei.sz) fun o'=>K (.ptr b o'))
   |_=>eR (o+i.toNat * ei.sz) fun o'=>K (.ptr b o'))
  | .aptr b p j=>zc i.toNat ei.sz fun j'=>K (.aptr b p (j+j'))
  | .fptr k j o=>dD h k fun x=>(match x with
   | .fvari ..=>Chk (Nat.beq o 0) (zc i.toNat ei.sz fun j'=>K (.faptr k j 0 j'))
   |_=>eR (o+i.toNat * ei.sz) fun o'=>K (.fptr k j o'))
  | .faptr k j p q=>zc i.toNat ei.sz fun j'=>K (.faptr k j p (q+j'))
  | .eptr b j o=>eR (o+i.toNat * ei.sz) fun o'=>K (.eptr b j o')
  | .iptr t e o=>eR (o+i.toNat * ei.sz) fun o'=>K (.iptr t e o')
  |_=>False)
 |_=>False
theorem AM {α:Type}{xs:List α}{i:Int}{x:α}(h0:0≤i)(h:xs[i.toNat]?=some x):i<(xs.length:Nat):=by
 have:=(cq.1 h).1
 omega
theorem xP {P:Program}{T E E':TypeId}{s:Nat}(hu':P.underlying T=some (.slice E))(hs:sizeT P E=some s){h:VH}{k j:Nat}{t:Ty}{xss:List (List t.den)}{xs:List t.den}(b1:look h k=some (.frow E' t xss))(c:E'=E)(hx:xss[j]?=some xs){ik:IntKind}{i:Int}(hi:0≤i∧i<(xs.length:Nat)):
  bM P (toH h) T (.ref (k,j)) (.int ik i)=some (V.feptr k j i.toNat 0).toD:=by
 subst c
 have hl:=aI (i:=j) b1 (d:=.row E' (xs.map (aj t))) (by simp only[VB.blks,b9,hx,aM])
 unfold bM
 simp only[hu',hs,elems,hl,bG]
 rw[if_pos hi]
 simp[V.toD]
theorem AK {P:Program}{T E E':TypeId}{s:Nat}(hu':P.underlying T=some (.slice E))(hs:sizeT P E=some s){h:VH}{k j:Nat}{t:Ty}{xss:List (Option (List t.den))}{xs:List t.den}(b1:look h k=some (.frowx E' t xss))(c:E'=E)(hx:xss[j]?=some (some xs)){ik:IntKind}{i:Int}(hi:0≤i∧i<(xs.length:Nat)):
  bM P (toH h) T (.ref (k,j)) (.int ik i)=some (V.feptr k j i.toNat 0).toD:=by
 subst c
 have hl:=aI (i:=j) b1 (d:=.row E' (xs.map (aj t))) (by simp only[VB.blks,b9,hx,aM,rowX])
 unfold bM
 simp only[hu',hs,elems,hl,bG]
 rw[if_pos hi]
 simp[V.toD]
theorem Eh {P:Program}{Θ:TT}(hΘ:Θ.ok P){T:TypeId}{ti:TI}(ht:ti.ok P T){h:VH}{v:V}{k:IntKind}{i:Int}{K:V→Prop}(hk:F7 Θ ti h v i K):∃r,bM P (toH h) T v.toD (.int k i)=some r.toD∧K r:=by
 have hu:=ht.und
 unfold F7 at hk
 split at hk
 ·rename_i E e
  rw[e] at hu
  have hu':P.underlying T=some (.slice E):=hu
  obtain⟨ei,l1,hk⟩:=aQ hk
  have hs:=(hΘ _ _ l1).size
  split at hk
  ·rename_i b
   obtain⟨x,b1,h5⟩:=bk hk
   split at h5
   ·rename_i E' t xs
    have hl:=aI (i:=0) b1 (d:=.row E' (xs.map (aj t))) rfl
    obtain⟨c,h6⟩:=h5.ok
    simp only[beq_iff_eq] at c
    subst c
    refine⟨_,?_,h6.2⟩
    unfold bM
    simp only[hu',hs,elems,V.toD,hl,bG]
    rw[if_pos h6.1]
    simp
   ·rename_i E' vs
    have hl:=aI (i:=0) b1 (d:=.row E' (aB vs)) rfl
    obtain⟨c,h6⟩:=h5.ok
    simp only[beq_iff_eq] at c
    subst c
    refine⟨_,?_,bK h6.2⟩
    unfold bM
    simp only[hu',hs,elems,V.toD,hl,aR]
    rw[if_pos h6.1]
    simp
   ·rename_i t xs
    have hl:=aI (i:=0) b1 (d:=.froz (xs.map (aj t))) rfl
    obtain⟨c,h0,x,hx,h7⟩:=h5.ok
    simp only[beq_iff_eq] at c
    refine⟨_,?_,h7⟩
    unfold bM
    simp only[hu',hs,elems,V.toD,hl,bG]
    rw[if_pos ⟨h0,AM h0 hx⟩]
    simp only[b9,hx,aM]
    rw[if_pos (by rw[(d6 t x).1,c])]
   ·exact h5.elim
  ·rename_i k' j
   obtain⟨x,b1,h5⟩:=bk hk
   split at h5
   ·obtain⟨c,h6⟩:=h5.ok
    simp only[beq_iff_eq] at c
    obtain⟨xs,hx,hi,h7⟩:=h6
    exact⟨_,xP hu' hs b1 c hx hi,h7⟩
   ·exact h5.elim
  ·rename_i k' p _
   cases p with
   |none=>exact(hk.1 rfl).elim
   |some j=>
    obtain⟨x,b1,h5⟩:=bk (hk.2 j rfl)
    split at h5
    ·obtain⟨c,h6⟩:=h5.ok
     simp only[beq_iff_eq] at c
     obtain⟨xs,hx,hi,h7⟩:=h6
     exact⟨_,xP hu' hs b1 c hx hi,h7⟩
    ·obtain⟨c,h6⟩:=h5.ok
     simp only[beq_iff_eq] at c
     obtain⟨ox,hx,h7⟩:=h6
     cases ox with
     |none=>exact(h7.1 rfl).elim
     |some xs=>
      obtain⟨hi,h7⟩:=h7.2 xs rfl
      exact⟨_,AK hu' hs b1 c hx hi,h7⟩
    ·exact h5.elim
  ·rename_i t xs _
   obtain⟨c,h0,x,hx,h7⟩:=hk.ok
   simp only[beq_iff_eq] at c
   refine⟨_,?_,h7⟩
   unfold bM
   simp only[hu',hs,elems,V.toD,bG]
   rw[if_pos ⟨h0,AM h0 hx⟩]
   simp only[b9,hx,aM]
   rw[if_pos (by rw[(d6 t x).1,c])]
  ·exact hk.elim
 ·rename_i m E e
  rw[e] at hu
  have hu':P.underlying T=some (.array m E):=hu
  obtain⟨ei,l1,hk⟩:=aQ hk
  have hs:=(hΘ _ _ l1).size
  obtain⟨hc,hk⟩:=hk
  unfold bM
  simp only[hu',hs]
  rw[if_pos hc]
  split at hk
  ·obtain⟨x,b1,h5⟩:=bk hk
   split at h5
   ·split at h5
    ·rename_i ho
     have ho':=b8 ho
     exact⟨_,by simp only[V.toD,ho'],oe (bK h5)⟩
    ·exact⟨_,by simp only[V.toD],bK h5⟩
   ·exact⟨_,by simp only[V.toD],bK h5⟩
  ·exact⟨_,by simp only[V.toD,mD],oe hk⟩
  ·obtain⟨x,b1,h5⟩:=bk hk
   split at h5
   ·obtain⟨c,h6⟩:=h5.ok
    have ho:=b8 c
    exact⟨_,by simp only[V.toD,ho],oe h6⟩
   ·exact⟨_,by simp only[V.toD],bK h5⟩
  ·exact⟨_,by simp only[V.toD,mD],oe hk⟩
  ·exact⟨_,by simp only[V.toD],bK hk⟩
  ·exact⟨_,by simp only[V.toD],bK hk⟩
  ·exact hk.elim
 ·exact hk.elim
def Ao (fs:List (Nat×Nat×Nat))(cs:List V):List (Nat×V)→(List V→Prop)→Prop
 |[],K=>K cs
 |(i,v)::l,K=>uA fs i fun f=>Chk (v.whole && pu v.cells f.2.2) (qD cs f.2.1 v.cells fun cs'=>Ao fs cs' l K)
theorem tX {fs:List (Nat×Nat×Nat)}:∀{ps:List (Nat×V)} {cs:List V} {K:List V→Prop},Ao fs cs ps K→∃cs',gD (fun i=>(fs.map fun f=>(f.2.1,f.2.2))[i]?) (aB cs) (vI ps)=some (aB cs')∧K cs'
 |[],cs,K,h=>⟨cs,rfl,h⟩
 |(i,v)::l,cs,K,h=>by
  obtain⟨f,h1,h2⟩:=jk h
  obtain⟨c,h3⟩:=h2.ok
  simp only[bT] at c
  obtain⟨h4,h5⟩:=im h3
  obtain⟨cs',h6,h7⟩:=tX h5
  have hl:=gF c.2
  exact⟨cs',wu (off:=f.2.1) (size:=f.2.2) (by rw[b9,h1];rfl) (by rw[fF];exact c.1) (by rw[bn,aR];exact hl) (by rw[aR];omega) (by rw[bn,kh]) h6,h7⟩
def uk:List (Nat×V)→Nat→Bool
 |[],_=>true
 |(i,_)::l,k=>Nat.beq i k && uk l (k+1)
def qm (t:Ty):List (Nat×V)→Option (List t.den)
 |[]=>some []
 |(_,v)::l=>match ES t (nzL v),qm t l with
  |some x,some xs=>some (x::xs)
  |_,_=>none
where
 nzL (v:V):V:=match v with
  | .agg cs=>.agg (iz cs)
  |v=>EU v
theorem sK (v:V):(qm.nzL v).toD=nzE v.toD:=by
 unfold qm.nzL
 split
 ·simp only[V.toD,nzE,lX]
 ·rename_i hne
  rw[Bf]
  cases v
  case hro k o=>cases o<;>rfl
  case hpo k o=>cases o<;>rfl
  case obo t o=>cases o<;>rfl
  case agg cs=>exact absurd rfl (hne _)
  all_goals rfl
theorem xz {t:Ty}:∀{l:List (Nat×V)} {xs:List t.den},qm t l=some xs→((vI l).map fun x=>nzE x.2)=xs.map (aj t)
 |[],xs,h=>by simp only[qm,aK] at h;subst h;rfl
 |(i,v)::l,xs,h=>by
  simp only[qm] at h
  split at h
  ·rename_i x xs' h1 h2
   simp only[aK] at h
   subst h
   have:=xz h2
   simp only[vI,bI,eI] at this⊢
   rw[←rZ h1,sK]
   simp only[List.cons.injEq,true_and]
   exact this
  ·cases h
theorem ul:∀{l:List (Nat×V)} {k:Nat},uk l k=true→(vI l).map (·.1)=List.range' k l.length
 |[],k,_=>rfl
 |(i,v)::l,k,h=>by
  simp only[uk,bT] at h
  have hi:i=k:=b8 h.1
  have:=ul h.2
  simp only[vI,bI,eI,dY,List.range'_succ] at this⊢
  rw[hi]
  exact congrArg (k:: ·) this
def mS (len:Nat)(o:Option V)(dflt:Nat)(K:Nat→Prop):Prop:=
 match o with
 |none=>K dflt
 |some (.int _ i)=>ct (0≤i∧i≤(len:Nat)) (K i.toNat)
 |_=>False
theorem kw {len dflt:Nat}{o:Option V}{K:Nat→Prop}(h:mS len o dflt K):∃k,fY len (o.map V.toD) dflt=some k∧(o=none→k=dflt)∧K k:=by
 unfold mS at h
 split at h
 ·exact⟨dflt,rfl,fun _=>rfl,h⟩
 ·exact⟨_,by simp only[aM,V.toD,fY];rw[if_pos h.1],fun e=>(by cases e),h.2⟩
 ·exact h.elim
def Cm {α:Type}(xs:List α)(lo hi:Option V)(ll hh:Nat):List α:=
 match lo,hi with
 |none,none=>xs
 |none,_=>xs.take hh
 |_,none=>xs.drop ll
 |_,_=>(xs.take hh).drop ll
theorem Cn {α:Type}(xs:List α){lo hi:Option V}{ll hh:Nat}(h1:hi=none→hh=xs.length)(h2:lo=none→ll=0):Cm xs lo hi ll hh=(xs.take hh).drop ll:=by
 unfold Cm
 split
 ·rw[h1 rfl,h2 rfl];simp
 ·rw[h2 rfl];simp
 ·rw[h1 rfl];simp
 ·rfl
def yH (ei:TI){t:Ty}(xs:List t.den)(lo hi:Option V)(K:List t.den→Prop):Prop:=
 Chk (t.sz==ei.sz) (mS xs.length hi xs.length fun hh=>mS hh lo 0 fun ll=>K (Cm xs lo hi ll hh))
def wZ (Θ:TT)(ti:TI)(h:VH)(n:Nat)(v:V)(lo hi:Option V)(K:Bool→V→VH→Prop):Prop:=
 match ti.k with
 | .str=>(match v with
  | .str s=>mS s.size hi s.size fun hh=>mS hh lo 0 fun ll=>K false (.str (s.extract ll hh)) []
  |_=>False)
 | .slice E=>bL Θ E fun ei=>(match v with
  | .lst t xs=>yH ei xs lo hi fun ys=>K false (.lst t ys) []
  | .nils=>yH ei (t:=.int .i64) [] lo hi fun ys=>K false (.lst (.int .i64) ys) []
  | .ref b=>dD h b fun x=>(match x with
   | .row E' t xs=>(match t.pure && !ti.own with
    |true=>Chk t.pure (yH ei xs lo hi fun ys=>K false (.lst t ys) [(b,.froz t xs)])
    |false=>Chk (match lo with|none=>!Nat.beq b n|_=>false) (yH ei xs none hi fun ys=>K true (.ref n) [(b,.gone),(n,.row E' t ys)]))
   | .froz t xs=>yH ei xs lo hi fun ys=>K false (.lst t ys) []
   |_=>False)
  |_=>False)
 | .arr m E=>(match v,lo,hi with
  | .ptr b o,none,none=>bL Θ E fun _=>dD h b fun x=>(match x with
   | .var _ _=>Chk (decide (m≤maxLen)) (K false (.vref b o m) [])
   | .vari _ _ _ _ _ _=>Chk (decide (m≤maxLen)) (K false (.vref b o m) [])
   |_=>False)
  |_,_,_=>False)
 |_=>False
theorem lC {P:Program}{E:TypeId}{ei:TI}(_:ei.ok P E){t:Ty}{xs:List t.den}{lo hi:Option V}{K:List t.den→Prop}(h:yH ei xs lo hi K):
  xb ei.sz (xs.map (aj t))=ei.sz∧∃hh ll ys,fY (xs.map (aj t)).length (hi.map V.toD) (xs.map (aj t)).length=some hh∧fY hh (lo.map V.toD) 0=some ll∧((xs.map (aj t)).take hh).drop ll=ys.map (aj t)∧K ys:=by
 obtain⟨c,h1⟩:=Chk.ok h
 simp only[beq_iff_eq] at c
 obtain⟨hh,b1,b2,h2⟩:=kw h1
 obtain⟨ll,b3,b4,h3⟩:=kw h2
 refine⟨pW _ _ _ c,hh,ll,_,by rw[bG];exact b1,b3,?_,h3⟩
 rw[Cn xs b2 b4,←List.map_take,←List.map_drop]
theorem row_all {t:Ty}(ht:t.pure=true)(xs:List t.den):((xs.map (aj t)).all fun e=>e.cells.all D.pure0)=true:=by
 rw[bc]
 intro e he
 obtain⟨x,_,rfl⟩:=aP.1 he
 exact(iM ht x).2
theorem zF {P:Program}{Θ:TT}(hΘ:Θ.ok P){T:TypeId}{ti:TI}(ht:ti.ok P T){h:VH}{n:Nat}(hn:∀c:Id,n≤c.1→look (toH h) c=none){v:V}{lo hi:Option V}{K:Bool→V→VH→Prop}(hk:wZ Θ ti h n v lo hi K):∃q r u vu,eK P (toH h) q (n,0) T v.toD (lo.map V.toD) (hi.map V.toD)=some (r.toD,u)∧cM h u vu∧K q r vu:=by
 have hu:=ht.und
 unfold wZ at hk
 split at hk
 ·rename_i e
  rw[e] at hu
  split at hk
  ·rename_i s
   obtain⟨hh,b1,b2,h2⟩:=kw hk
   obtain⟨ll,b3,b4,h3⟩:=kw h2
   refine⟨_,_,[],_,?_,ba,h3⟩
   unfold eK
   simp only[show P.underlying T=some .string from hu,V.toD,b1,b3]
  ·exact hk.elim
 ·rename_i E e
  rw[e] at hu
  have hu':P.underlying T=some (.slice E):=hu
  obtain⟨ei,l1,hk⟩:=aQ hk
  have hei:=hΘ _ _ l1
  unfold eK
  simp only[hu',hei.size]
  split at hk
  ·obtain⟨c,hh,ll,ys,b1,b2,b3,h3⟩:=lC hei hk
   exact⟨_,_,[],_,by simp only[V.toD,elems,c,if_true,b1,b2,b3],ba,h3⟩
  ·obtain⟨c,hh,ll,ys,b1,b2,b3,h3⟩:=lC hei hk
   simp only[du] at c b1 b3
   exact⟨_,_,[],_,by simp only[V.toD,elems,c,if_true,b1,b2,b3],ba,h3⟩
  ·rename_i b _
   obtain⟨x,x1,h2⟩:=bk hk
   split at h2
   ·rename_i E' t xs
    have hl:=aI (i:=0) x1 (d:=.row E' (xs.map (aj t))) rfl
    split at h2
    ·obtain⟨cp,h2⟩:=h2.ok
     obtain⟨c,hh,ll,ys,b1,b2,b3,h3⟩:=lC hei h2
     refine⟨_,_,[((b,0),.froz (xs.map (aj t)))],_,?_,eq x1 rfl rfl,h3⟩
     simp only[V.toD,elems,hl,c,if_true,b1,b2,b3,e9,if_false,row_all cp]
    ·obtain⟨c0,h9⟩:=h2.ok
     clear h2
     cases lo with
     |some l=>cases c0
     |none=>
      have hbn:b≠n:=by rintro rfl;simp at c0
      obtain⟨c,hh,ll,ys,b1,b2,b3,h3⟩:=lC hei h9
      simp only[Option.map_none,fY,aK] at b2
      subst b2
      refine⟨_,.ref n,[((b,0),.gone),((n,0),.row E' (ys.map (aj t)))],_,?_,tb hn x1 rfl hbn rfl,h3⟩
      rw[List.drop_zero] at b3
      have e0:∀q:Nat,fY q (none:Option D) 0=some 0:=fun _=>rfl
      simp only[V.toD,elems,hl,c,if_true,b1,Option.map_none,e0,b3]
   ·rename_i t xs
    have hl:=aI (i:=0) x1 (d:=.froz (xs.map (aj t))) rfl
    obtain⟨c,hh,ll,ys,b1,b2,b3,h3⟩:=lC hei h2
    exact⟨false,_,[],_,by simp only[V.toD,elems,hl,c,if_true,b1,b2,b3],ba,h3⟩
   ·exact h2.elim
  ·exact hk.elim
 ·rename_i m E e
  rw[e] at hu
  split at hk
  ·obtain⟨ei,l1,hk⟩:=aQ hk
   obtain⟨x,x1,h2⟩:=bk hk
   split at h2
   ·rename_i T' cs
    have hl:=aI (i:=0) x1 (d:=.var T' (aB cs)) rfl
    obtain⟨c,h3⟩:=h2.ok
    simp only[decide_eq_true_eq] at c
    refine⟨_,_,[],_,?_,ba,h3⟩
    unfold eK
    simp only[show P.underlying T=some (.array m E) from hu,V.toD,(hΘ _ _ l1).size,Option.map_none,hl,if_pos c]
   ·rename_i T' pre m' t xs post
    have hl:=aI (i:=0) x1 (d:=.var T' (aB pre++xs.map (aj t)++aB post)) rfl
    obtain⟨c,h3⟩:=h2.ok
    simp only[decide_eq_true_eq] at c
    refine⟨_,_,[],_,?_,ba,h3⟩
    unfold eK
    simp only[show P.underlying T=some (.array m E) from hu,V.toD,(hΘ _ _ l1).size,Option.map_none,hl,if_pos c]
   ·exact h2.elim
  ·exact hk.elim
 ·exact hk.elim
def rU (t:Ty)(xs:List t.den)(K:ByteArray→Prop):Prop:=
 match t,xs with
 | .int .u8,xs=>K ⟨(xs.map fun n:Int=>UInt8.ofNat n.toNat).toArray⟩
 |_,_=>False
theorem wd {t:Ty}{xs:List t.den}{K:ByteArray→Prop}(h:rU t xs K):∃bs,(xs.map (aj t)).mapM kx=some bs∧K ⟨bs.toArray⟩:=by
 unfold rU at h
 split at h
 ·rename_i xs
  refine⟨_,?_,h⟩
  rw[show xs.map (aj (.int .u8))=xs.map (D.int .u8) from rfl,List.mapM_map]
  exact rl (f:=kx∘D.int .u8) fun x _=>rfl
 ·exact h.elim
def z8 (Θ:TT)(ti si:TI)(h:VH)(v:V)(K:V→Prop):Prop:=
 match ti.k with
 | .int k=>(match v,si.k with
  | .int _ n,.int _=>Ari k n fun z=>K (.int k z)
  |_,_=>False)
 | .str=>(match si.k with
  | .str=>(match v with
   | .str s=>K (.str s)
   |_=>False)
  | .slice E=>bL Θ E fun ei=>(match ei.k with
   | .int .u8=>Chk (ei.sz==1) (mX h v fun t xs=>rU t xs fun s=>K (.str s))
   |_=>False)
  |_=>False)
 |_=>False
theorem z9 {P:Program}{Θ:TT}(hΘ:Θ.ok P){S T:TypeId}{ti si:TI}(ht:ti.ok P T)(hs:si.ok P S){h:VH}{v:V}{K:V→Prop}(hk:z8 Θ ti si h v K):∃r,jx P (toH h) S T v.toD=some r.toD∧K r:=by
 have hu:=ht.und
 have hv:=hs.und
 unfold z8 at hk
 split at hk
 ·rename_i k e
  rw[e] at hu
  split at hk
  ·rename_i k1 n1 k2 e2
   rw[e2] at hv
   refine⟨_,?_,hk.ok⟩
   unfold jx
   simp only[show P.underlying T=some (.int k) from hu,show P.underlying S=some (.int k2) from hv,V.toD]
  ·exact hk.elim
 ·rename_i e
  rw[e] at hu
  split at hk
  ·rename_i e2
   rw[e2] at hv
   split at hk
   ·refine⟨_,?_,hk⟩
    unfold jx
    simp only[show P.underlying T=some .string from hu,show P.underlying S=some .string from hv,V.toD]
   ·exact hk.elim
  ·rename_i E e2
   rw[e2] at hv
   obtain⟨ei,l1,hk⟩:=aQ hk
   have hei:=hΘ _ _ l1
   have hek:=hei.und
   split at hk
   ·rename_i e3
    rw[e3] at hek
    obtain⟨c,hk⟩:=hk.ok
    simp only[beq_iff_eq] at c
    obtain⟨t,xs,h1,h2⟩:=kz hk
    obtain⟨bs,h3,h4⟩:=wd h2
    refine⟨_,?_,h4⟩
    unfold jx
    have hsz:sizeT P E=some 1:=by rw[hei.size,c]
    simp only[show P.underlying T=some .string from hu,show P.underlying S=some (.slice E) from hv,show P.underlying E=some (.int .u8) from hek,hsz,h1,h3,V.toD]
   ·exact hk.elim
  ·exact hk.elim
 ·exact hk.elim
def xE (t:VT)(x:Option Operand)(K:Option V→Prop):Prop:=
 match x with
 |none=>K none
 |some x=>mE t x fun v=>K (some v)
theorem tS {t:VT}{x:Option Operand}{K:Option V→Prop}(h:xE t x K):∃v,iN (toT t) x=some (v.map V.toD)∧K v:=by
 unfold xE at h
 split at h
 ·exact⟨none,rfl,h⟩
 ·obtain⟨v,h1,h2⟩:=cj h
  exact⟨some v,by simp only[iN,h1,aM],h2⟩
def bz (P:Program)[PhC P](f:FuncId)(vs:List V)(hin:VH)(r:V)(hout:VH):Prop:=Con P f (aB vs) (toH hin) r.toD (toH hout)
def dy (P:Program)[PhC P](f:FuncId)(vs:List V)(hin:VH)(K:V→VH→Prop):Prop:=∃r hout,bz P f vs hin r hout∧K r hout
def lW (n:Nat):List Nat→Nat→Nat
 |[],i=>n+i
 |o::_,0=>o
 |_::os,i+1=>lW n os i
def gN (os:List Nat)(n k:Nat):Nat:=match k with
 |0=>0
 |1=>1
 |2=>2
 |3=>3
 |k+4=>lW n os k
abbrev gI (g:Nat→Nat):Id→Id:=fun b=>(g b.1,b.2)
def zi (os:List Nat)(n:Nat):Bool:=j3 os && (os.all fun o=>Nat.ble 4 o && Nat.blt o n) && Nat.ble 4 n
theorem dh {n:Nat}:∀{os:List Nat} {i b:Nat},os[i]?=some b→lW n os i=b
 |[],i,b,h=>by simp at h
 |o::os,0,b,h=>by simpa[lW] using h
 |o::os,i+1,b,h=>by simpa[lW] using dh (os:=os) (i:=i) (by simpa using h)
theorem uy {n:Nat}:∀{os:List Nat} {i:Nat},os.length≤i→lW n os i=n+(i-os.length)
 |[],i,_=>by simp[lW]
 |o::os,0,h=>by simp at h
 |o::os,i+1,h=>by
  have:=uy (n:=n) (os:=os) (i:=i) (by simpa using h)
  simp only[lW,this,dY]
  omega
theorem m5 (os:List Nat)(n:Nat){k:Nat}(hk:k<4):gN os n k=k:=by
 match k,hk with
 |0,_|1,_|2,_|3,_=>rfl
theorem d9 (os:List Nat)(n m:Nat):gN os n (4+m)=lW n os m:=by rw[Nat.add_comm];rfl
theorem yc {os:List Nat}{n:Nat}(h:zi os n=true):os.Nodup∧(∀o∈os,4≤o∧o<n)∧4≤n:=by
 unfold zi at h
 simp only[bT,bc] at h
 obtain⟨⟨h1,h2⟩,h3⟩:=h
 exact⟨iT h1,fun o ho=>⟨Nat.le_of_ble_eq_true (h2 o ho).1,by have:=(h2 o ho).2;simpa[Nat.blt_eq] using this⟩,Nat.le_of_ble_eq_true h3⟩
theorem n5 (os:List Nat)(n k:Nat):(k<4∧gN os n k=k)∨(∃m b,k=4+m∧os[m]?=some b∧gN os n k=b)∨(∃m,k=4+m∧os.length≤m∧gN os n k=n+(m-os.length)):=by
 by_cases hk:k<4
 ·exact .inl ⟨hk,m5 os n hk⟩
 ·obtain⟨m,rfl⟩:∃m,k=4+m:=⟨k-4,by omega⟩
  rw[d9]
  by_cases hm:m<os.length
  ·exact .inr (.inl ⟨m,os[m],rfl,aZ hm,dh (aZ hm)⟩)
  ·exact .inr (.inr ⟨m,rfl,by omega,uy (by omega)⟩)
theorem AA {os:List Nat}{n:Nat}(h:zi os n=true){a b:Nat}(he:gN os n a=gN os n b):a=b:=by
 obtain⟨h1,h2,h3⟩:=yc h
 rcases n5 os n a with⟨a1,a2⟩|⟨m,x,rfl,a1,a2⟩|⟨m,rfl,a1,a2⟩<;>rcases n5 os n b with⟨b1,b2⟩|⟨m',y,rfl,b1,b2⟩|⟨m',rfl,b1,b2⟩<;>rw[a2,b2] at he
 ·exact he
 ·have:=h2 y (dm b1);omega
 ·omega
 ·have:=h2 x (dm a1);omega
 ·subst he
  have e1:=(cq.1 a1).1
  have:=(List.getElem?_inj e1 h1).1 (a1.trans b1.symm)
  omega
 ·have:=h2 x (dm a1);omega
 ·omega
 ·have:=h2 y (dm b1);omega
 ·omega
theorem Az {os:List Nat}{n:Nat}(h:zi os n=true){a b:Id}(he:gI (gN os n) a=gI (gN os n) b):a=b:=by
 obtain⟨a1,a2⟩:=a
 obtain⟨b1,b2⟩:=b
 simp only[gI,bg] at he⊢
 exact⟨AA h he.1,he.2⟩
def ln (b:Nat):List Nat→Nat→(Option Nat→Prop)→Prop
 |[],_,K=>K none
 |o::os,i,K=>bif Nat.beq o b then K (some i) else eR (i+1) fun i=>ln b os i K
theorem dO {b:Nat}:∀{os:List Nat} {i:Nat} {K:Option Nat→Prop},ln b os i K→∃r,(r=none→b∉os)∧(∀j,r=some j→∃m,j=i+m∧os[m]?=some b)∧K r
 |[],i,K,hk=>⟨none,by simp,by simp,hk⟩
 |o::os,i,K,hk=>by
  simp only[ln] at hk
  cases hb:Nat.beq o b with
  |true=>
   rw[hb] at hk
   obtain rfl:=b8 hb
   exact⟨some i,by simp,fun j hj=>⟨0,by simpa using hj.symm,rfl⟩,hk⟩
  |false=>
   rw[hb] at hk
   simp only[cond_false] at hk
   have hk:=bK hk
   obtain⟨r,h1,h2,h3⟩:=dO hk
   refine⟨r,fun hr hm=>?_,fun j hj=>?_,h3⟩
   ·rcases a9.1 hm with rfl|hm
    ·simp at hb
    ·exact h1 hr hm
   ·obtain⟨m,e1,e2⟩:=h2 j hj
    exact⟨m+1,by omega,by simpa using e2⟩
def Ty.fams:Ty→List Nat
 | .hr k| .hp k| .vtxo k| .pplm k| .nod k| .evto k=>[k]
 | .pplo k k'| .lres k k'=>[k,k']
 |_=>[]
def BV (a b:List Nat):Bool:=a.all fun x=>b.contains x
theorem sZ {a b:List Nat}(h:BV a b=true):∀x∈a,x∈b:=by
 unfold BV at h
 rw[bc] at h
 intro x hx
 simpa using h x hx
def FV (pss:List (List Int)):Option Nat→Option (List Int)
 |some i=>pss[i]?
 |none=>some []
def E5 (pss:List (List Int))(x:VtxO):Option Vtx:=(FV pss x.parents).map fun ps=>⟨x.round,x.author,ps,x.digest⟩
def Gy (pss mss:List (List Int))(x:PplO):Option Ppl:=(E5 pss x.v).bind fun v=>(FV mss x.members).map fun ms=>⟨v,ms⟩
def Gw (pss:List (List Int))(x:EvtO):Option Evt:=(E5 pss x.v).map fun v=>⟨x.kind,x.a,x.b,v⟩
def Gx (pss:List (List Int))(vss:List (List VtxO)):Option Nat→Option (List Vtx)
 |some i=>vss[i]?.bind fun vs=>vs.mapM (E5 pss)
 |none=>some []
def FX (pss:List (List Int))(xs:List VtxO):List (List Vtx):=(xs.mapM (E5 pss)).toList
def FW (pss mss:List (List Int))(xs:List PplO):List (List Ppl):=(xs.mapM (Gy pss mss)).toList
def FT (pss:List (List Int))(xs:List EvtO):List (List Evt):=(xs.mapM (Gw pss)).toList
def FU (pss:List (List Int))(vss:List (List VtxO))(xs:List (Option Nat)):List (List (List Vtx)):=(xs.mapM (Gx pss vss)).toList
def Ae (h:VH)(b:Nat)(t:Ty)(xs:List t.den)(K:V→List Nat→Prop):Prop:=
 match t,xs with
 | .vtxo k,xs=>(match a7 h k with
  |some (.frow _ (.int .i64) pss)=>fl (FX pss xs) 0 fun ys=>K (.lst .vtx ys) [b,k]
  |_=>False)
 | .pplo k k',xs=>(match a7 h k,a7 h k' with
  |some (.frow _ (.int .i64) pss),some (.frow _ (.int .i64) mss)=>fl (FW pss mss xs) 0 fun ys=>K (.lst .ppl ys) [b,k,k']
  |_,_=>False)
 | .evto k,xs=>(match a7 h k with
  |some (.frow _ (.int .i64) pss)=>fl (FT pss xs) 0 fun ys=>K (.lst .evt ys) [b,k]
  |_=>False)
 | .hr k,xs=>(match a7 h k with
  |some (.frow _ (.vtxo k') vss)=>(match a7 h k' with
   |some (.frow _ (.int .i64) pss)=>fl (FU pss vss xs) 0 fun ys=>K (.lst (.lst .vtx) ys) [b,k,k']
   |_=>False)
  |_=>False)
 |_,_=>False
mutual
def cg (os fs:List Nat)(h:VH)(v:V)(K:V→List Nat→Prop):Prop:=
 match v with
 | .ref b=>ln b os 4 fun r=>(match r with
  |some i=>K (.ref i) []
  |none=>(match a7 h b with
   |some (.row _ t xs)=>(match t.pure with
    |true=>K (.lst t xs) [b]
    |false=>Chk (os.isEmpty && fs.isEmpty) (Ae h b t xs K))
   |some (.froz t xs)=>K (.lst t xs) [b]
   |_=>False))
 | .ptr b o=>ln b os 4 fun r=>(match r with
  |some i=>K (.ptr i o) []
  |none=>(match a7 h b,o with
   |some (.fvb t x),0=>K (.box t x) [b]
   |_,_=>False))
 | .eptr b j o=>ln b os 4 fun r=>(match r with|some i=>K (.eptr i j o) []|none=>False)
 | .vref b o m=>ln b os 4 fun r=>(match r with|some i=>K (.vref i o m) []|none=>False)
 | .aptr b p j=>ln b os 4 fun r=>(match r with|some i=>K (.aptr i p j) []|none=>False)
 | .fref k i=>Chk (fs.contains k) (K (.fref k i) [])
 | .fptr k i o=>Chk (fs.contains k) (K (.fptr k i o) [])
 | .feptr k i j o=>Chk (fs.contains k) (K (.feptr k i j o) [])
 | .faptr k i p j=>Chk (fs.contains k) (K (.faptr k i p j) [])
 | .hro k o=>(match fs.contains k with
  |true=>K (.hro k o) []
  |false=>jb o False fun i=>(match a7 h k with
   |some (.frow _ t xss)=>Chk (t.pure && !os.contains k) (fl xss i fun xs=>K (.lst t xs) [k])
   |some (.frowx _ t xss)=>Chk (t.pure && !os.contains k) (fl xss i fun ox=>jb ox False fun xs=>K (.lst t xs) [k])
   |_=>False))
 | .hpo k o=>Chk (fs.contains k) (K (.hpo k o) [])
 | .agg cs=>ki os fs h cs fun cs ws=>K (.agg cs) ws
 | .clo f cs=>ki os fs h cs fun cs ws=>K (.clo f cs) ws
 | .ifc T v=>cg os fs h v fun v ws=>K (.ifc T v) ws
 | .nils=>K (.lst (.int .i64) []) []
 | .int k n=>K (.int k n) []
 | .bool b=>K (.bool b) []
 | .tt=>K .tt []
 | .ff=>K .ff []
 | .str s=>K (.str s) []
 | .lst t xs=>K (.lst t xs) []
 | .box t x=>K (.box t x) []
 | .nilp=>K .nilp []
 | .nilf=>K .nilf []
 | .nilm=>K .nilm []
 | .val v=>K (.val v) []
 | .nili=>K .nili []
 | .gv g=>K (.gv g) []
 | .obo t o=>K (.obo t o) []
 | .junk=>K .junk []
 |_=>False
def ki (os fs:List Nat)(h:VH)(l:List V)(K:List V→List Nat→Prop):Prop:=
 match l with
 |[]=>K [] []
 |v::l=>cg os fs h v fun v ws=>ki os fs h l fun l ws'=>K (v::l) (ws++ws')
end
def FE (h:VH)(b:Nat):Prop:=(∃E t,∃xs:List (Ty.den t),t.pure=true∧look h b=some (.row E t xs))∨(∃t,∃xs:List (Ty.den t),look h b=some (.froz t xs))∨∃t,∃x:Ty.den t,look h b=some (.fvb t x)
def FF (h:VH)(b:Nat):Prop:=(∃E t,∃xs:List (List (Ty.den t)),look h b=some (.frow E t xs))∨(∃E t,∃xs:List (Option (List (Ty.den t))),look h b=some (.frowx E t xs))∨∃E t,∃xs:List (Ty.den t),t.pure=false∧look h b=some (.row E t xs)
def qh (h:VH)(os fs:List Nat)(b:Nat):Prop:=b∉os∧(FE h b∨(b∉fs∧FF h b))
def EQ (h:VH)(ws:List Nat)(W:List Id):Prop:=∀b∈ws,∀i,Live (toH h) (b,i)→(b,i)∈W
structure HinOK (os fs:List Nat)(h:VH)(hin:HL):Prop where
 low:∀k∈fs,k<4
 sgl:∀m b,os[m]?=some b→Live hin (4+m,0)
 fam:∀k∈fs,∀i,Live (toH h) (k,i)→Live hin (k,i)
theorem kT {os fs:List Nat}{n:Nat}{h:VH}{hin:HL}(H:HinOK os fs h hin){m b:Nat}(hb:os[m]?=some b):VLive (toH h) (gI (gN os n)) hin fs (4+m,0)∧gI (gN os n) (4+m,0)=(b,0):=
 ⟨.inl (H.sgl m b hb),by simp only[gI,d9,dh hb]⟩
theorem kS {os fs:List Nat}{n:Nat}{h:VH}{hin:HL}(H:HinOK os fs h hin){k:Nat}(hk:k∈fs)(i:Nat):VLive (toH h) (gI (gN os n)) hin fs (k,i)∧gI (gN os n) (k,i)=(k,i):=by
 have e:gI (gN os n) (k,i)=(k,i):=by simp only[gI,m5 os n (H.low k hk)]
 exact⟨.inr ⟨by rw[e];exact hk,fun hl=>H.fam k hk i (by rw[e] at hl;exact hl)⟩,e⟩
section
variable {os fs:List Nat} {n:Nat} {h:VH} {hin:HL} {W:List Id}
theorem B2 (H:HinOK os fs h hin){m b:Nat}(hb:os[m]?=some b):View (toH h) (gI (gN os n)) hin W fs (.ref (b,0)) (.ref (4+m,0)):=by
 obtain⟨h1,h2⟩:=kT (n:=n) H hb
 have:=View.ref (W:=W) _ h1
 rwa [h2] at this
theorem vz (H:HinOK os fs h hin){m b:Nat}(hb:os[m]?=some b)(o:Nat):View (toH h) (gI (gN os n)) hin W fs (.ptr (b,0) o) (.ptr (4+m,0) o):=by
 obtain⟨h1,h2⟩:=kT (n:=n) H hb
 have:=View.ptr (W:=W) _ o h1
 rwa [h2] at this
theorem zK (H:HinOK os fs h hin){m b:Nat}(hb:os[m]?=some b)(j o:Nat):View (toH h) (gI (gN os n)) hin W fs (.eptr (b,0) j o) (.eptr (4+m,0) j o):=by
 obtain⟨h1,h2⟩:=kT (n:=n) H hb
 have:=View.eptr (W:=W) _ j o h1
 rwa [h2] at this
theorem zL (H:HinOK os fs h hin){m b:Nat}(hb:os[m]?=some b)(o q:Nat):View (toH h) (gI (gN os n)) hin W fs (.vref (b,0) o q) (.vref (4+m,0) o q):=by
 obtain⟨h1,h2⟩:=kT (n:=n) H hb
 have:=View.vref (W:=W) _ o q h1
 rwa [h2] at this
theorem rE (H:HinOK os fs h hin){k:Nat}(hk:k∈fs)(i:Nat):View (toH h) (gI (gN os n)) hin W fs (.ref (k,i)) (.ref (k,i)):=by
 obtain⟨h1,h2⟩:=kS (n:=n) H hk i
 have:=View.ref (W:=W) _ h1
 rwa [h2] at this
theorem nt (H:HinOK os fs h hin){k:Nat}(hk:k∈fs)(i o:Nat):View (toH h) (gI (gN os n)) hin W fs (.ptr (k,i) o) (.ptr (k,i) o):=by
 obtain⟨h1,h2⟩:=kS (n:=n) H hk i
 have:=View.ptr (W:=W) _ o h1
 rwa [h2] at this
theorem xg (H:HinOK os fs h hin){k:Nat}(hk:k∈fs)(i j o:Nat):View (toH h) (gI (gN os n)) hin W fs (.eptr (k,i) j o) (.eptr (k,i) j o):=by
 obtain⟨h1,h2⟩:=kS (n:=n) H hk i
 have:=View.eptr (W:=W) _ j o h1
 rwa [h2] at this
theorem B1 (H:HinOK os fs h hin){k:Nat}(hk:k∈fs)(i:Nat):View (toH h) (gI (gN os n)) hin W fs (.mp (k,i)) (.mp (k,i)):=by
 obtain⟨h1,h2⟩:=kS (n:=n) H hk i
 have:=View.mp (W:=W) _ h1
 rwa [h2] at this
theorem gx (H:HinOK os fs h hin){k:Nat}(hk:k∈fs)(o:Option Nat):View (toH h) (gI (gN os n)) hin W fs (jU k o) (jU k o):=by
 cases o with
 |none=>exact .pure 0 _ _ rfl (fun b hb=>by cases hb)
 |some i=>exact rE H hk i
theorem yq (H:HinOK os fs h hin){k:Nat}(hk:k∈fs)(o:Option Nat):View (toH h) (gI (gN os n)) hin W fs (qg k o) (qg k o):=by
 cases o with
 |none=>exact .pure 0 _ _ rfl (fun b hb=>by cases hb)
 |some i=>exact nt H hk i 0
theorem kR {d d':D}{g:Id→Id}{hh:HL}(hd:leaf d=some d'):View hh g hin W fs d d':=.pure 0 _ _ hd (fun b hb=>by cases hb)
theorem gQ {cs:List D}{g:Id→Id}{hh:HL}(hc:∀c∈cs,View hh g hin W fs c c):View hh g hin W fs (.agg cs) (.agg cs):=.agg cs cs rfl fun i hi=>hc _ (bp hi)
theorem mt (H:HinOK os fs h hin){t:Ty}(ht:∀k∈t.fams,k∈fs)(x:t.den):View (toH h) (gI (gN os n)) hin W fs (aj t x) (aj t x):=by
 by_cases hp:t.pure=true
 ·by_cases hag:∃cs,aj t x= .agg cs
  ·obtain⟨cs,he⟩:=hag
   have:=iV hp x
   rw[he] at this⊢
   exact gQ fun c hc=>kR (this c hc)
  ·have hc:(aj t x).cells=[aj t x]:=cU fun cs hcs=>hag ⟨cs,hcs⟩
   exact kR (iV hp x _ (by rw[hc];exact bd.2 rfl))
 ·have lf:∀d:D,leaf d=some d→View (toH h) (gI (gN os n)) hin W fs d d:=fun d hd=>kR hd
  cases t<;>simp only[Ty.pure,not_true_eq_false] at hp
  case hr k=>exact gx H (ht k (by simp[Ty.fams])) x
  case hp k=>exact yq H (ht k (by simp[Ty.fams])) x
  case vtxo k=>
   refine gQ fun c hc=>?_
   simp only[a9,dU,or_false] at hc
   rcases hc with rfl|rfl|rfl|rfl
   ·exact lf _ rfl
   ·exact lf _ rfl
   ·exact gx H (ht k (by simp[Ty.fams])) _
   ·exact lf _ rfl
  case pplm k=>
   refine gQ fun c hc=>?_
   simp only[f9,fX,dZ,a9,dU,or_false] at hc
   rcases hc with rfl|rfl|rfl|rfl|rfl
   ·exact lf _ rfl
   ·exact lf _ rfl
   ·exact lf _ rfl
   ·exact lf _ rfl
   ·exact gx H (ht k (by simp[Ty.fams])) _
  case pplo k k'=>
   refine gQ fun c hc=>?_
   simp only[a9,dU,or_false] at hc
   rcases hc with rfl|rfl|rfl|rfl|rfl
   ·exact lf _ rfl
   ·exact lf _ rfl
   ·exact gx H (ht k (by simp[Ty.fams])) _
   ·exact lf _ rfl
   ·exact gx H (ht k' (by simp[Ty.fams])) _
  case evto k=>
   refine gQ fun c hc=>?_
   simp only[a9,dU,or_false] at hc
   rcases hc with rfl|rfl|rfl|rfl|rfl|rfl|rfl
   ·exact lf _ rfl
   ·exact lf _ rfl
   ·exact lf _ rfl
   ·exact lf _ rfl
   ·exact lf _ rfl
   ·exact gx H (ht k (by simp[Ty.fams])) _
   ·exact lf _ rfl
  case lres k k'=>
   refine gQ fun c hc=>?_
   simp only[a9,dU,or_false] at hc
   rcases hc with rfl|rfl|rfl
   ·exact B1 H (ht k (by simp[Ty.fams])) _
   ·exact lf _ rfl
   ·exact gx H (ht k' (by simp[Ty.fams])) _
  case nod k=>
   refine gQ fun c hc=>?_
   simp only[f9,fX,dZ,a9,dU,or_false] at hc
   rcases hc with rfl|rfl|rfl|rfl|rfl|rfl
   ·exact lf _ rfl
   ·exact lf _ rfl
   ·exact lf _ rfl
   ·exact lf _ rfl
   ·exact lf _ rfl
   ·exact gx H (ht k (by simp[Ty.fams])) _
theorem yr {b:Nat}(hw:(b,0)∈W){t:Ty}{xs:List t.den}{g:Id→Id}(hb:(∃E,t.pure=true∧look h b=some (.row E t xs))∨look h b=some (.froz t xs)):View (toH h) g hin W fs (.ref (b,0)) (.lst (xs.map (aj t))):=by
 refine .pure 1 _ _ ?_ fun c hc=>?_
 ·rcases hb with⟨E,hp,hb⟩|hb
  ·have hl:=aI (i:=0) hb (d:=.row E (xs.map (aj t))) rfl
   simp only[purD,hl]
   rw[show (fun x=>leaf x)=leaf from rfl,row_pure hp]
   rfl
  ·have hl:=aI (i:=0) hb (d:=.froz (xs.map (aj t))) rfl
   simp only[purD,hl]
 ·unfold idsD at hc
  rcases a9.1 hc with rfl|hc
  ·exact hw
  ·exfalso
   split at hc
   ·rw[dC] at hc
    obtain⟨e,_,hc⟩:=hc
    rw[dC] at hc
    obtain⟨d,_,hc⟩:=hc
    cases hc
   ·cases hc
theorem vA {b i:Nat}(hw:(b,i)∈W){E:TypeId}{t:Ty}{xs:List t.den}{g:Id→Id}(hp:t.pure=true)(hl:look (toH h) (b,i)=some (.row E (xs.map (aj t)))):View (toH h) g hin W fs (.ref (b,i)) (.lst (xs.map (aj t))):=by
 refine .pure 1 _ _ ?_ fun c hc=>?_
 ·simp only[purD,hl]
  rw[show (fun x=>leaf x)=leaf from rfl,row_pure hp]
  rfl
 ·unfold idsD at hc
  rcases a9.1 hc with rfl|hc
  ·exact hw
  ·exfalso
   split at hc
   ·rw[dC] at hc
    obtain⟨e,_,hc⟩:=hc
    rw[dC] at hc
    obtain⟨d,_,hc⟩:=hc
    cases hc
   ·cases hc
theorem lT {α β:Type}{f:α→Option β}{l:List α}{l':List β}(h:l.mapM f=some l'):l.length=l'.length∧∀(i:Nat) x,l[i]?=some x→∃y,l'[i]?=some y∧f x=some y:=by
 induction l generalizing l' with
 |nil=>simp at h;subst h;exact⟨rfl,fun i x hx=>by simp at hx⟩
 |cons a l ih=>
  simp only[fk,rK,Option.pure_def] at h
  obtain⟨y,h1,h⟩:=br.1 h
  obtain⟨l2,h2,h⟩:=br.1 h
  obtain rfl:=bm h
  obtain⟨h3,h4⟩:=ih h2
  refine⟨by simp[h3],fun i x hx=>?_⟩
  cases i with
  |zero=>simp at hx;subst hx;exact⟨y,rfl,h1⟩
  |succ i=>simpa using h4 i x (by simpa using hx)
theorem py {α β γ δ:Type}{f:α→Option β}{p:γ→α}{q:δ→β}:∀{l:List γ} {l':List δ},l.length=l'.length→(∀(i:Nat) x y,l[i]?=some x→l'[i]?=some y→f (p x)=some (q y))→(l.map p).mapM f=some (l'.map q)
 |[],[],_,_=>rfl
 |[],_::_,h,_=>by cases h
 |_::_,[],h,_=>by cases h
 |x::l,y::l',hl,h=>by simp[fk,h 0 x y rfl rfl,py (l:=l) (l':=l') (by simpa using hl) fun i a b ha hb=>h (i+1) a b (by simpa using ha) (by simpa using hb)]
structure DpE (h:VH)(n:Nat)(g:List Nat)(d d':D):Prop where
 pur:purE (purD (toH h) n) d=some d'
 ids:∀c∈d.cells,∀b∈idsD (toH h) n c,b.1∈g∧Live (toH h) b
theorem ww {h:VH}{n:Nat}{g:List Nat}{k i:Nat}{E:TypeId}{ds ds':List D}(hl:look (toH h) (k,i)=some (.row E ds))(hk:k∈g)(hlen:ds.length=ds'.length)(hd:∀(j:Nat) x y,ds[j]?=some x→ds'[j]?=some y→DpE h n g x y):
  purD (toH h) (n+1) (.ref (k,i))=some (.lst ds')∧∀b∈idsD (toH h) (n+1) (.ref (k,i)),b.1∈g∧Live (toH h) b:=by
 constructor
 ·have:=py (f:=purE (purD (toH h) n)) (p:=id) (q:=id) hlen fun j x y hx hy=>(hd j x y hx hy).pur
  simp only[List.map_id] at this
  simp only[purD,hl,this,aM]
 ·intro b hb
  simp only[idsD,hl] at hb
  rcases a9.1 hb with rfl|hb
  ·exact⟨hk,Live.of_look hl⟩
  ·obtain⟨e,he,hb⟩:=dC.1 hb
   obtain⟨c,hc,hb⟩:=dC.1 hb
   obtain⟨j,hj⟩:=List.getElem?_of_mem he
   have hj2:j<ds'.length:=by rw[←hlen];exact(cq.1 hj).1
   exact(hd j e _ hj (aZ hj2)).ids c hc b hb
theorem Cq {h:VH}{n:Nat}{g:List Nat}{t:Ty}(ht:t.pure=true)(x:t.den)(hn:n=0):DpE h n g (aj t x) (aj t x):=by
 subst hn
 exact⟨ru ht x,fun c hc b hb=>by cases hb⟩
theorem xA {h:VH}{g:List Nat}{k:Nat}{E:TypeId}{pss:List (List Int)}(hk:look h k=some (.frow E (.int .i64) pss))(hg:k∈g){o:Option Nat}{ps:List Int}(hp:FV pss o=some ps):
  purD (toH h) 1 (jU k o)=some (fM ps)∧∀b∈idsD (toH h) 1 (jU k o),b.1∈g∧Live (toH h) b:=by
 cases o with
 |none=>
  obtain rfl:=bm hp
  exact⟨rfl,fun b hb=>by simp[jU,idsD] at hb⟩
 |some i=>
  have hl:=aI (i:=i) hk (d:=.row E (ps.map (aj (.int .i64)))) (by simp only[VB.blks,b9];rw[show pss[i]?=some ps from hp];rfl)
  refine ww hl hg rfl fun j x y hx hy=>?_
  rw[jW] at hx
  rw[hx] at hy
  obtain rfl:=bm hy
  obtain⟨e,_,rfl⟩:=aP.1 (dm hx)
  exact Cq (t:=.int .i64) rfl e rfl
theorem fZ {h:VH}{n:Nat}{g:List Nat}(x:Int):purD (toH h) n (.int .i64 x)=some (.int .i64 x)∧∀b∈idsD (toH h) n (.int .i64 x),b.1∈g∧Live (toH h) b:=by
 cases n<;>exact⟨rfl,fun b hb=>by simp[idsD] at hb⟩
theorem wv {h:VH}{n:Nat}{g:List Nat}:∀{cs cs':List D},cs.length=cs'.length→(∀(i:Nat) c c',cs[i]?=some c→cs'[i]?=some c'→purD (toH h) n c=some c'∧∀b∈idsD (toH h) n c,b.1∈g∧Live (toH h) b)→DpE h n g (.agg cs) (.agg cs'):=by
 intro cs cs' hl hc
 constructor
 ·have:=py (f:=purD (toH h) n) (p:=id) (q:=id) hl fun i x y hx hy=>(hc i x y hx hy).1
  simp only[List.map_id] at this
  simp only[purE,this,aM]
 ·intro c hm b hb
  obtain⟨i,hi⟩:=List.getElem?_of_mem (show c∈cs from hm)
  have hi2:i<cs'.length:=by rw[←hl];exact(cq.1 hi).1
  exact(hc i c _ hi (aZ hi2)).2 b hb
theorem Ag {h:VH}{g:List Nat}{k:Nat}{E:TypeId}{pss:List (List Int)}(hk:look h k=some (.frow E (.int .i64) pss))(hg:k∈g){x:VtxO}{y:Vtx}(hp:E5 pss x=some y):DpE h 1 g (aj (.vtxo k) x) (aj .vtx y):=by
 obtain⟨ps,h1,rfl⟩:=bh.1 hp
 refine wv rfl fun i c c' hc hc'=>?_
 match i with
 |0=>obtain rfl:=bm hc;obtain rfl:=bm hc';exact fZ _
 |1=>obtain rfl:=bm hc;obtain rfl:=bm hc';exact fZ _
 |2=>obtain rfl:=bm hc;obtain rfl:=bm hc';exact xA hk hg h1
 |3=>obtain rfl:=bm hc;obtain rfl:=bm hc';exact fZ _
 |i+4=>cases hc
theorem D3 {h:VH}{g:List Nat}{k k':Nat}{E E':TypeId}{pss mss:List (List Int)}(hk:look h k=some (.frow E (.int .i64) pss))(hk':look h k'=some (.frow E' (.int .i64) mss))(hg:k∈g)(hg':k'∈g){x:PplO}{y:Ppl}(hp:Gy pss mss x=some y):DpE h 1 g (aj (.pplo k k') x) (aj .ppl y):=by
 obtain⟨v,h1,h2⟩:=br.1 hp
 obtain⟨ms,h3,rfl⟩:=bh.1 h2
 obtain⟨ps,h4,rfl⟩:=bh.1 h1
 refine wv rfl fun i c c' hc hc'=>?_
 match i with
 |0=>obtain rfl:=bm hc;obtain rfl:=bm hc';exact fZ _
 |1=>obtain rfl:=bm hc;obtain rfl:=bm hc';exact fZ _
 |2=>obtain rfl:=bm hc;obtain rfl:=bm hc';exact xA hk hg h4
 |3=>obtain rfl:=bm hc;obtain rfl:=bm hc';exact fZ _
 |4=>obtain rfl:=bm hc;obtain rfl:=bm hc';exact xA hk' hg' h3
 |i+5=>cases hc
theorem D1 {h:VH}{g:List Nat}{k:Nat}{E:TypeId}{pss:List (List Int)}(hk:look h k=some (.frow E (.int .i64) pss))(hg:k∈g){x:EvtO}{y:Evt}(hp:Gw pss x=some y):DpE h 1 g (aj (.evto k) x) (aj .evt y):=by
 obtain⟨v,h1,rfl⟩:=bh.1 hp
 obtain⟨ps,h2,rfl⟩:=bh.1 h1
 refine wv rfl fun i c c' hc hc'=>?_
 match i with
 |0=>obtain rfl:=bm hc;obtain rfl:=bm hc';exact fZ _
 |1=>obtain rfl:=bm hc;obtain rfl:=bm hc';exact fZ _
 |2=>obtain rfl:=bm hc;obtain rfl:=bm hc';exact fZ _
 |3=>obtain rfl:=bm hc;obtain rfl:=bm hc';exact fZ _
 |4=>obtain rfl:=bm hc;obtain rfl:=bm hc';exact fZ _
 |5=>obtain rfl:=bm hc;obtain rfl:=bm hc';exact xA hk hg h2
 |6=>obtain rfl:=bm hc;obtain rfl:=bm hc';exact fZ _
 |i+7=>cases hc
theorem D2 {h:VH}{g:List Nat}{k k':Nat}{E E':TypeId}{pss:List (List Int)}{vss:List (List VtxO)}(hk:look h k=some (.frow E (.vtxo k') vss))(hk':look h k'=some (.frow E' (.int .i64) pss))(hg:k∈g)(hg':k'∈g){o:Option Nat}{y:List Vtx}(hp:Gx pss vss o=some y):DpE h 2 g (aj (.hr k) o) (aj (.lst .vtx) y):=by
 cases o with
 |none=>
  obtain rfl:=bm hp
  exact⟨rfl,fun c hc b hb=>by simp[aj,jU,D.cells] at hc;subst hc;simp[idsD] at hb⟩
 |some i=>
  obtain⟨vs,h1,h2⟩:=br.1 hp
  have hl:=aI (i:=i) hk (d:=.row E (vs.map (aj (.vtxo k')))) (by simp only[VB.blks,b9,h1,aM])
  obtain⟨h3,h4⟩:=lT h2
  obtain⟨q1,q2⟩:=ww (n:=1) (g:=g) (ds':=y.map (aj .vtx)) hl hg (by simp[h3]) fun j x z hx hz=>by
   rw[b9] at hx hz
   obtain⟨a,ha,rfl⟩:=bh.1 hx
   obtain⟨c,hc,rfl⟩:=bh.1 hz
   obtain⟨c2,hc2,hf⟩:=h4 j a ha
   rw[hc] at hc2
   obtain rfl:=bm hc2
   exact Ag hk' hg' hf
  refine⟨q1,fun c hc b hb=>?_⟩
  simp only[aj,jU,D.cells,bd] at hc
  subst hc
  exact q2 b hb
theorem kQ {hin:HL}{W:List Id}{g:Id→Id}{fs:List Nat}{h:VH}{b n:Nat}{E:TypeId}{t t':Ty}{xs:List t.den}{ys:List t'.den}{ws:List Nat}(hb:look h b=some (.row E t xs))(hw:b∈ws)(hW:EQ h ws W)(hl:xs.length=ys.length)(hd:∀(i:Nat) x y,xs[i]?=some x→ys[i]?=some y→DpE h n ws (aj t x) (aj t' y)):View (toH h) g hin W fs (.ref (b,0)) (.lst (ys.map (aj t'))):=by
 obtain⟨q1,q2⟩:=ww (n:=n) (g:=ws) (ds':=ys.map (aj t')) (aI (i:=0) hb (d:=.row E (xs.map (aj t))) rfl) hw (by simp[hl]) fun j x z hx hz=>by
  rw[b9] at hx hz
  obtain⟨a,ha,rfl⟩:=bh.1 hx
  obtain⟨c,hc,rfl⟩:=bh.1 hz
  exact hd j a c ha hc
 exact .pure _ _ _ q1 fun c hc=>hW c.1 (q2 c hc).1 c.2 (q2 c hc).2
theorem mn {α:Type}{o:Option α}{x:α}(h:o.toList[0]?=some x):o=some x:=by cases o<;>simp at h;rw[h]
theorem Af {os fs:List Nat}{h:VH}{b:Nat}{E:TypeId}{t:Ty}{xs:List t.den}{K:V→List Nat→Prop}(hos:os=[])(hfs:fs=[])(hp:t.pure=false)(hb:look h b=some (.row E t xs))(hk:Ae h b t xs K):
  ∃v' ws,(∀(g:Id→Id) (hin:HL) (W:List Id) (F:List Nat),EQ h ws W→View (toH h) g hin W F (.ref (b,0)) v'.toD)∧(∀b∈ws,qh h os fs b)∧K v' ws:=by
 subst hos hfs
 have r0:qh h [] [] b:=⟨by simp,.inr ⟨by simp,.inr (.inr ⟨E,t,xs,hp,hb⟩)⟩⟩
 have rf:∀k E' t',∀yss:List (List (Ty.den t')),look h k=some (.frow E' t' yss)→qh h [] [] k:=fun k E' t' yss hk=>⟨by simp,.inr ⟨by simp,.inl ⟨E',t',yss,hk⟩⟩⟩
 unfold Ae at hk
 split at hk
 ·rename_i k xs
  split at hk
  ·rename_i E' pss hl
   rw[a8] at hl
   obtain⟨ys,hy,hk⟩:=hk
   have hy:=lT (mn hy)
   refine⟨_,_,fun g hin W F hW=>kQ (n:=1) hb (by simp) hW hy.1 fun i x y hx hz=>?_,fun c hc=>?_,hk⟩
   ·obtain⟨z,z1,z2⟩:=hy.2 i x hx
    rw[hz] at z1
    obtain rfl:=bm z1
    exact Ag hl (by simp) z2
   ·rcases a9.1 hc with rfl|hc
    ·exact r0
    ·obtain rfl:=bd.1 hc
     exact rf _ _ _ _ hl
  ·exact hk.elim
 ·rename_i k k' xs
  split at hk
  ·rename_i E' pss E'' mss hl hl'
   rw[a8] at hl hl'
   obtain⟨ys,hy,hk⟩:=hk
   have hy:=lT (mn hy)
   refine⟨_,_,fun g hin W F hW=>kQ (n:=1) hb (by simp) hW hy.1 fun i x y hx hz=>?_,fun c hc=>?_,hk⟩
   ·obtain⟨z,z1,z2⟩:=hy.2 i x hx
    rw[hz] at z1
    obtain rfl:=bm z1
    exact D3 hl hl' (by simp) (by simp) z2
   ·rcases a9.1 hc with rfl|hc
    ·exact r0
    ·rcases a9.1 hc with rfl|hc
     ·exact rf _ _ _ _ hl
     ·obtain rfl:=bd.1 hc
      exact rf _ _ _ _ hl'
  ·exact hk.elim
 ·rename_i k xs
  split at hk
  ·rename_i E' pss hl
   rw[a8] at hl
   obtain⟨ys,hy,hk⟩:=hk
   have hy:=lT (mn hy)
   refine⟨_,_,fun g hin W F hW=>kQ (n:=1) hb (by simp) hW hy.1 fun i x y hx hz=>?_,fun c hc=>?_,hk⟩
   ·obtain⟨z,z1,z2⟩:=hy.2 i x hx
    rw[hz] at z1
    obtain rfl:=bm z1
    exact D1 hl (by simp) z2
   ·rcases a9.1 hc with rfl|hc
    ·exact r0
    ·obtain rfl:=bd.1 hc
     exact rf _ _ _ _ hl
  ·exact hk.elim
 ·rename_i k xs
  split at hk
  ·rename_i E' k' vss hl
   split at hk
   ·rename_i E'' pss hl'
    rw[a8] at hl hl'
    obtain⟨ys,hy,hk⟩:=hk
    have hy:=lT (mn hy)
    refine⟨_,_,fun g hin W F hW=>kQ (n:=2) hb (by simp) hW hy.1 fun i x y hx hz=>?_,fun c hc=>?_,hk⟩
    ·obtain⟨z,z1,z2⟩:=hy.2 i x hx
     rw[hz] at z1
     obtain rfl:=bm z1
     exact D2 hl hl' (by simp) (by simp) z2
    ·rcases a9.1 hc with rfl|hc
     ·exact r0
     ·rcases a9.1 hc with rfl|hc
      ·exact rf _ _ _ _ hl
      ·obtain rfl:=bd.1 hc
       exact rf _ _ _ _ hl'
   ·exact hk.elim
  ·exact hk.elim
 ·exact hk.elim
end
end Go.Proofs.Ytbmnihglaokhmaa.Am
namespace Go.Proofs.Ytbmnihglaokhmaa.Am
open Go Go.RowKit
variable {P:Program} {os fs:List Nat} {n:Nat} {h:VH}
def Vw (os fs:List Nat)(n:Nat)(h:VH)(ws:List Nat)(v v':V):Prop:=∀hin,HinOK os fs h hin→∀W:List Id,EQ h ws W→View (toH h) (gI (gN os n)) hin W fs v.toD v'.toD
def Gr (os fs:List Nat)(n:Nat)(h:VH)(ws:List Nat)(l l':List V):Prop:=(aB l).length=(aB l').length∧∀hin,HinOK os fs h hin→∀W:List Id,EQ h ws W→∀i,i<(aB l).length→View (toH h) (gI (gN os n)) hin W fs ((aB l).getD i .undef) ((aB l').getD i .undef)
theorem dA {v v':V}{ws:List Nat}(hd:leaf v.toD=some v'.toD):Vw os fs n h ws v v':=fun _ _ _ _=>kR hd
mutual
theorem p8:∀{v:V} {K:V→List Nat→Prop},cg os fs h v K→∃v' ws,Vw os fs n h ws v v'∧(∀b∈ws,qh h os fs b)∧K v' ws
 | .ref b,K,hk=>by
  simp only[cg] at hk
  obtain⟨r,r1,r2,hk⟩:=dO hk
  split at hk
  ·obtain⟨m,rfl,hm⟩:=r2 _ rfl
   exact⟨_,_,fun hin H W _=>B2 H hm,by simp,hk⟩
  ·split at hk
   ·rename_i E t xs hb
    rw[a8] at hb
    split at hk
    ·rename_i c
     exact⟨_,_,fun hin H W hW=>yr (hW b (by simp) 0 (Live.of_look (aI (i:=0) hb rfl))) (.inl ⟨E,c,hb⟩),fun b' hb'=>by simp at hb';subst hb';exact⟨r1 rfl,.inl (.inl ⟨E,t,xs,c,hb⟩)⟩,hk⟩
    ·rename_i c
     obtain⟨c2,hk⟩:=hk.ok
     simp only[bT,List.isEmpty_iff] at c2
     obtain⟨v',ws,d1,d2,d3⟩:=Af c2.1 c2.2 c hb hk
     exact⟨v',ws,fun hin H W hW=>d1 _ _ _ _ hW,d2,d3⟩
   ·rename_i t xs hb
    rw[a8] at hb
    exact⟨_,_,fun hin H W hW=>yr (hW b (by simp) 0 (Live.of_look (aI (i:=0) hb rfl))) (.inr hb),fun b' hb'=>by simp at hb';subst hb';exact⟨r1 rfl,.inl (.inr (.inl ⟨t,xs,hb⟩))⟩,hk⟩
   ·exact hk.elim
 | .ptr b o,K,hk=>by
  simp only[cg] at hk
  obtain⟨r,r1,r2,hk⟩:=dO hk
  split at hk
  ·obtain⟨m,rfl,hm⟩:=r2 _ rfl
   exact⟨_,_,fun hin H W _=>vz H hm o,by simp,hk⟩
  ·split at hk
   ·rename_i t x hb _
    rw[a8] at hb
    have hl:=aI (i:=0) hb (d:=.fvar (aj t x).cells) rfl
    refine⟨_,_,fun hin H W hW=>.pure 1 _ _ (by simp only[V.toD,purD,hl]) fun c hc=>?_,fun b' hb'=>by simp at hb';subst hb';exact⟨r1 rfl,.inl (.inr (.inr ⟨t,x,hb⟩))⟩,hk⟩
    simp only[V.toD,idsD,hl,a9,dU,or_false] at hc
    subst hc
    exact hW b (by simp) 0 (Live.of_look hl)
   ·exact hk.elim
 | .eptr b j o,K,hk=>by
  simp only[cg] at hk
  obtain⟨r,r1,r2,hk⟩:=dO hk
  split at hk
  ·obtain⟨m,rfl,hm⟩:=r2 _ rfl
   exact⟨_,_,fun hin H W _=>zK H hm j o,by simp,hk⟩
  ·exact hk.elim
 | .vref b o q,K,hk=>by
  simp only[cg] at hk
  obtain⟨r,r1,r2,hk⟩:=dO hk
  split at hk
  ·obtain⟨m,rfl,hm⟩:=r2 _ rfl
   exact⟨_,_,fun hin H W _=>zL H hm o q,by simp,hk⟩
  ·exact hk.elim
 | .aptr b p j,K,hk=>by
  simp only[cg] at hk
  obtain⟨r,r1,r2,hk⟩:=dO hk
  split at hk
  ·obtain⟨m,rfl,hm⟩:=r2 _ rfl
   exact⟨_,_,fun hin H W _=>vz H hm (p+j),by simp,hk⟩
  ·exact hk.elim
 | .fref k i,K,hk=>by
  simp only[cg] at hk
  obtain⟨c,hk⟩:=hk.ok
  exact⟨_,_,fun hin H W _=>rE H (by simpa using c) i,by simp,hk⟩
 | .fptr k i o,K,hk=>by
  simp only[cg] at hk
  obtain⟨c,hk⟩:=hk.ok
  exact⟨_,_,fun hin H W _=>nt H (by simpa using c) i o,by simp,hk⟩
 | .feptr k i j o,K,hk=>by
  simp only[cg] at hk
  obtain⟨c,hk⟩:=hk.ok
  exact⟨_,_,fun hin H W _=>xg H (by simpa using c) i j o,by simp,hk⟩
 | .faptr k i p j,K,hk=>by
  simp only[cg] at hk
  obtain⟨c,hk⟩:=hk.ok
  exact⟨_,_,fun hin H W _=>nt H (by simpa using c) i (p+j),by simp,hk⟩
 | .hro k o,K,hk=>by
  simp only[cg] at hk
  split at hk
  ·rename_i c
   exact⟨_,_,fun hin H W _=>gx H (by simpa using c) o,by simp,hk⟩
  ·rename_i c
   have c:k∉fs:=by simpa using c
   cases o with
   |none=>exact(hk.1 rfl).elim
   |some i=>
    have hk:=hk.2 i rfl
    split at hk
    ·rename_i E t xss hb
     rw[a8] at hb
     obtain⟨c2,xs,hxs,hk⟩:=hk.ok
     simp only[bT,i9,List.contains_eq_mem,decide_eq_false_iff_not] at c2
     have hl:=aI (i:=i) hb (d:=.row E (xs.map (aj t))) (by simp only[VB.blks,b9,hxs,aM])
     exact⟨_,_,fun hin H W hW=>vA (hW k (by simp) i (Live.of_look hl)) c2.1 hl,fun b' hb'=>by simp at hb';subst hb';exact⟨c2.2,.inr ⟨c,.inl ⟨E,t,xss,hb⟩⟩⟩,hk⟩
    ·rename_i E t xss hb
     rw[a8] at hb
     obtain⟨c2,ox,hxs,hk⟩:=hk.ok
     simp only[bT,i9,List.contains_eq_mem,decide_eq_false_iff_not] at c2
     cases ox with
     |none=>exact(hk.1 rfl).elim
     |some xs=>
      have hk:=hk.2 xs rfl
      have hl:=aI (i:=i) hb (d:=.row E (xs.map (aj t))) (by simp only[VB.blks,b9,hxs,aM,rowX])
      exact⟨_,_,fun hin H W hW=>vA (hW k (by simp) i (Live.of_look hl)) c2.1 hl,fun b' hb'=>by simp at hb';subst hb';exact⟨c2.2,.inr ⟨c,.inr (.inl ⟨E,t,xss,hb⟩)⟩⟩,hk⟩
    ·exact hk.elim
 | .hpo k o,K,hk=>by
  simp only[cg] at hk
  obtain⟨c,hk⟩:=hk.ok
  exact⟨_,_,fun hin H W _=>yq H (by simpa using c) o,by simp,hk⟩
 | .agg cs,K,hk=>by
  simp only[cg] at hk
  obtain⟨cs',ws,h1,h2,h3⟩:=i5 hk
  exact⟨_,ws,fun hin H W hW=>by simp only[V.toD];exact .agg _ _ h1.1 (h1.2 hin H W hW),h2,h3⟩
 | .clo f cs,K,hk=>by
  simp only[cg] at hk
  obtain⟨cs',ws,h1,h2,h3⟩:=i5 hk
  exact⟨_,ws,fun hin H W hW=>by simp only[V.toD];exact .clo f _ _ h1.1 (h1.2 hin H W hW),h2,h3⟩
 | .ifc T v,K,hk=>by
  simp only[cg] at hk
  obtain⟨v',ws,h1,h2,h3⟩:=p8 hk
  exact⟨_,ws,fun hin H W hW=>by simp only[V.toD];exact .ifc T _ _ (h1 hin H W hW),h2,h3⟩
 | .nils,K,hk=>⟨_,[],dA (v':=.lst (.int .i64) []) rfl,by simp,by simpa only[cg] using hk⟩
 | .int k m,K,hk=>⟨_,[],dA (v':=.int k m) rfl,by simp,by simpa only[cg] using hk⟩
 | .bool b,K,hk=>⟨_,[],dA (v':=.bool b) rfl,by simp,by simpa only[cg] using hk⟩
 | .tt,K,hk=>⟨_,[],dA (v':=.tt) rfl,by simp,by simpa only[cg] using hk⟩
 | .ff,K,hk=>⟨_,[],dA (v':=.ff) rfl,by simp,by simpa only[cg] using hk⟩
 | .str s,K,hk=>⟨_,[],dA (v':=.str s) rfl,by simp,by simpa only[cg] using hk⟩
 | .lst t xs,K,hk=>⟨_,[],dA (v':=.lst t xs) rfl,by simp,by simpa only[cg] using hk⟩
 | .box t x,K,hk=>⟨_,[],dA (v':=.box t x) rfl,by simp,by simpa only[cg] using hk⟩
 | .nilp,K,hk=>⟨_,[],dA (v':=.nilp) rfl,by simp,by simpa only[cg] using hk⟩
 | .nilf,K,hk=>⟨_,[],dA (v':=.nilf) rfl,by simp,by simpa only[cg] using hk⟩
 | .nilm,K,hk=>⟨_,[],dA (v':=.nilm) rfl,by simp,by simpa only[cg] using hk⟩
 | .val v,K,hk=>⟨_,[],dA (v':=.val v) rfl,by simp,by simpa only[cg] using hk⟩
 | .nili,K,hk=>⟨_,[],dA (v':=.nili) rfl,by simp,by simpa only[cg] using hk⟩
 | .obo t o,K,hk=>⟨_,[],dA (v':=.obo t o) (by cases o<;>rfl),by simp,by simpa only[cg] using hk⟩
 | .junk,K,hk=>⟨_,[],fun _ _ _ _=>.junk,by simp,by simpa only[cg] using hk⟩
 | .gv g,K,hk=>⟨.gv g,[],fun _ _ _ _=>.gv g,by simp,by simpa only[cg] using hk⟩
 | .tup _,K,hk| .gp _,K,hk| .iptr ..,K,hk| .undef,K,hk=>by simp only[cg] at hk
theorem i5:∀{l:List V} {K:List V→List Nat→Prop},ki os fs h l K→∃l' ws,Gr os fs n h ws l l'∧(∀b∈ws,qh h os fs b)∧K l' ws
 |[],K,hk=>⟨[],[],⟨rfl,fun hin H W _ i hi=>by simp[aB] at hi⟩,by simp,by simpa only[ki] using hk⟩
 |v::l,K,hk=>by
  simp only[ki] at hk
  obtain⟨v',ws,h1,h2,hk⟩:=p8 hk
  obtain⟨l',ws',h3,h4,hk⟩:=i5 hk
  refine⟨v'::l',ws++ws',⟨by simp only[aB,dY,h3.1],fun hin H W hW i hi=>?_⟩,fun b hb=>?_,hk⟩
  ·cases i with
   |zero=>simpa[aB] using h1 hin H W fun b hb=>hW b (dL _ hb)
   |succ i=>
    have:=h3.2 hin H W (fun b hb=>hW b (dB _ hb)) i (by simpa[aB] using hi)
    simpa[aB] using this
  ·rcases cm.1 hb with hb|hb
   ·exact h2 b hb
   ·exact h4 b hb
end
def iF (os fs:List Nat)(h:VH):List V→(List V→List Nat→Prop)→Prop
 |[],K=>K [] []
 | .nils::l,K=>iF os fs h l fun l ws=>K (.nils::l) ws
 |v::l,K=>cg os fs h v fun v' ws=>iF os fs h l fun l' ws'=>K (v'::l') (ws++ws')
theorem kP:∀{l:List V} {K:List V→List Nat→Prop},iF os fs h l K→∃l' ws,Gr os fs n h ws l l'∧(∀b∈ws,qh h os fs b)∧K l' ws
 |[],K,hk=>⟨[],[],⟨rfl,fun hin H W _ i hi=>by simp[aB] at hi⟩,by simp,by simpa only[iF] using hk⟩
 |v::l,K,hk=>by
  have key:∃v' ws,Vw os fs n h ws v v'∧(∀b∈ws,qh h os fs b)∧iF os fs h l fun l' ws'=>K (v'::l') (ws++ws'):=by
   by_cases e:v= .nils
   ·subst e
    exact⟨.nils,[],fun hin H W _=>.nils,by simp,by simpa only[iF,dZ] using hk⟩
   ·have hk':cg os fs h v fun v' ws=>iF os fs h l fun l' ws'=>K (v'::l') (ws++ws'):=by
     cases v<;>first|exact hk|exact absurd rfl e
    obtain⟨v',ws,h1,h2,hk⟩:=p8 (n:=n) hk'
    exact⟨v',ws,h1,h2,hk⟩
  obtain⟨v',ws,h1,h2,hk⟩:=key
  obtain⟨l',ws',h3,h4,hk⟩:=kP hk
  refine⟨v'::l',ws++ws',⟨by simp only[aB,dY,h3.1],fun hin H W hW i hi=>?_⟩,fun b hb=>?_,hk⟩
  ·cases i with
   |zero=>simpa[aB] using h1 hin H W fun b hb=>hW b (dL _ hb)
   |succ i=>
    have:=h3.2 hin H W (fun b hb=>hW b (dB _ hb)) i (by simpa[aB] using hi)
    simpa[aB] using this
  ·rcases cm.1 hb with hb|hb
   ·exact h2 b hb
   ·exact h4 b hb
def xf (os fs:List Nat)(h:VH)(x:VB)(K:VB→List Nat→Prop):Prop:=
 match x with
 | .var T cs=>iF os fs h cs fun cs ws=>K (.var T cs) ws
 | .vari T pre m t xs post=>Chk (BV t.fams fs) (iF os fs h pre fun pre ws=>iF os fs h post fun post ws'=>K (.vari T pre m t xs post) (ws++ws'))
 | .row E t xs=>Chk (BV t.fams fs) (K (.row E t xs) [])
 | .lit E vs=>ki os fs h vs fun vs ws=>K (.lit E vs) ws
 |_=>False
def FL (os fs:List Nat)(n:Nat)(h:VH)(ws:List Nat)(x x':VB):Prop:=∃d d',x.blks=[d]∧x'.blks=[d']∧∀hin,HinOK os fs h hin→∀W:List Id,EQ h ws W→ViewB (toH h) (gI (gN os n)) hin W fs d d'
theorem eD {A B:List D}{i:Nat}(hi:i<A.length):(A++B).getD i .undef=A.getD i .undef:=by simp[aX,gk hi]
theorem eE {A B:List D}{i:Nat}(hi:A.length≤i):(A++B).getD i .undef=B.getD (i-A.length) .undef:=by simp[aX,jA hi]
theorem zJ {x:VB}{K:VB→List Nat→Prop}(hk:xf os fs h x K):∃x' ws,FL os fs n h ws x x'∧(∀b∈ws,qh h os fs b)∧K x' ws:=by
 unfold xf at hk
 split at hk
 ·rename_i T cs
  obtain⟨cs',ws,h1,h2,hk⟩:=kP (n:=n) hk
  exact⟨_,ws,⟨_,_,rfl,rfl,fun hin H W hW=>.var T _ _ h1.1 (h1.2 hin H W hW)⟩,h2,hk⟩
 ·rename_i T pre m t xs post
  obtain⟨c,hk⟩:=hk.ok
  obtain⟨pre',ws,h1,h2,hk⟩:=kP (n:=n) hk
  obtain⟨post',ws',h3,h4,hk⟩:=kP (n:=n) hk
  refine⟨_,ws++ws',⟨_,_,rfl,rfl,fun hin H W hW=>.var T _ _ ?_ fun i hi=>?_⟩,fun b hb=>(cm.1 hb).elim (h2 b) (h4 b),hk⟩
  ·simp only[b7,h1.1,h3.1]
  ·have g1:=h1.2 hin H W (fun b hb=>hW b (dL _ hb))
   have g3:=h3.2 hin H W (fun b hb=>hW b (dB _ hb))
   by_cases c1:i<(aB pre).length
   ·rw[cX,cX,eD (A:=aB pre) c1,eD (A:=aB pre') (by rw[←h1.1];exact c1)]
    exact g1 i c1
   ·rw[cX,cX,eE (A:=aB pre) (by omega),eE (A:=aB pre') (by rw[←h1.1];omega),←h1.1]
    simp only[b7] at hi
    by_cases c2:i-(aB pre).length<(xs.map (aj t)).length
    ·rw[eD c2,eD c2]
     obtain⟨e,he,hee⟩:=aP.1 (bp c2)
     rw[←hee]
     exact mt H (sZ c) e
    ·rw[eE (by omega),eE (by omega)]
     exact g3 _ (by omega)
 ·rename_i E t xs
  obtain⟨c,hk⟩:=hk.ok
  refine⟨_,[],⟨_,_,rfl,rfl,fun hin H W hW=>.row E _ _ rfl fun i hi=>?_⟩,by simp,hk⟩
  obtain⟨e,he,hee⟩:=aP.1 (bp hi)
  rw[←hee]
  exact mt H (sZ c) e
 ·rename_i E cs
  obtain⟨cs',ws,h1,h2,hk⟩:=i5 (n:=n) hk
  exact⟨_,ws,⟨_,_,rfl,rfl,fun hin H W hW=>.row E _ _ h1.1 (h1.2 hin H W hW)⟩,h2,hk⟩
 ·exact hk.elim
def BM (os fs:List Nat)(h:VH):List Nat→Nat→(VH→List Nat→Prop)→Prop
 |[],_,K=>K [] []
 |b::l,i,K=>dD h b fun x=>xf os fs h x fun x' ws=>eR (i+1) fun j=>BM os fs h l j fun r ws'=>K ((i,x')::r) (ws++ws')
theorem vh:∀{l:List Nat} {i:Nat} {K:VH→List Nat→Prop},BM os fs h l i K→∃hs ws,(∀k x,look hs k=some x→∃m,k=i+m∧m<l.length)∧(∀m b,l[m]?=some b→∃x x',look h b=some x∧look hs (i+m)=some x'∧FL os fs n h ws x x')∧(∀b∈ws,qh h os fs b)∧K hs ws
 |[],i,K,hk=>⟨[],[],(fun k x hx=>by cases hx),by simp,by simp,hk⟩
 |b::l,i,K,hk=>by
  obtain⟨x,hx,hk⟩:=bk hk
  obtain⟨x',ws,h1,h2,hk⟩:=zJ (n:=n) hk
  obtain⟨hs,ws',h3,h4,h5,hk⟩:=vh (bK hk)
  refine⟨(i,x')::hs,ws++ws',fun k y hy=>?_,fun m b' hm=>?_,fun b hb=>(cm.1 hb).elim (h2 b) (h5 b),hk⟩
  ·simp only[look] at hy
   split at hy
   ·rename_i e;exact⟨0,by omega,by simp⟩
   ·obtain⟨m,e1,e2⟩:=h3 k y hy
    exact⟨m+1,by omega,by simpa using e2⟩
  ·cases m with
   |zero=>
    simp only[fj,aK] at hm
    subst hm
    obtain⟨d,d',e1,e2,e3⟩:=h1
    exact⟨x,x',hx,by simp[look],d,d',e1,e2,fun hin H W hW=>e3 hin H W fun b hb=>hW b (dL _ hb)⟩
   |succ m=>
    obtain⟨y,y',q1,q2,d,d',e1,e2,e3⟩:=h4 m b' (by simpa using hm)
    refine⟨y,y',q1,?_,d,d',e1,e2,fun hin H W hW=>e3 hin H W fun b hb=>hW b (dB _ hb)⟩
    simp only[look]
    rw[if_neg (by omega),show i+(m+1)=i+1+m by omega]
    exact q2
def VB.fams:VB→List Nat
 | .vari _ _ _ t _ _=>t.fams
 | .row _ t _=>t.fams
 | .fvar _ t _=>t.fams
 | .fvari _ _ t _=>t.fams
 | .frow _ t _=>t.fams
 | .frowx _ t _=>t.fams
 |_=>[]
def Al (fs:List Nat)(h:VH):List Nat→(VH→Prop)→Prop
 |[],K=>K []
 |k::l,K=>dD h k fun x=>Chk (!x.sgl && BV x.fams fs) (Al fs h l fun r=>K ((k,x)::r))
theorem tW:∀{l:List Nat} {K:VH→Prop},Al fs h l K→∃hf,(∀k x,look hf k=some x→k∈l∧look h k=some x∧x.sgl=false∧∀j∈x.fams,j∈fs)∧(∀k∈l,∃x,look hf k=some x)∧K hf
 |[],K,hk=>⟨[],(fun k x hx=>by cases hx),by simp,hk⟩
 |k::l,K,hk=>by
  obtain⟨x,hx,hk⟩:=bk hk
  obtain⟨c,hk⟩:=hk.ok
  simp only[bT,i9] at c
  obtain⟨hf,h1,h2,hk⟩:=tW hk
  refine⟨(k,x)::hf,fun j y hy=>?_,fun j hj=>?_,hk⟩
  ·simp only[look] at hy
   split at hy
   ·rename_i e
    simp only[aK] at hy
    subst hy e
    exact⟨bf ..,hx,c.1,sZ c.2⟩
   ·obtain⟨q1,q2⟩:=h1 j y hy
    exact⟨bi _ q1,q2⟩
  ·simp only[look]
   by_cases e:j=k
   ·exact⟨x,by rw[if_pos e]⟩
   ·rw[if_neg e]
    rcases a9.1 hj with rfl|hj
    ·exact absurd rfl e
    ·exact h2 j hj
theorem B0 {x:VB}{hin:HL}{W:List Id}(H:HinOK os fs h hin)(hs:x.sgl=false)(hf:∀j∈x.fams,j∈fs):∀d∈x.blks,ViewB (toH h) (gI (gN os n)) hin W fs d d:=by
 intro d hd
 have key:∀(t:Ty) (xs:List t.den),(∀k∈t.fams,k∈fs)→∀i,i<(xs.map (aj t)).length→View (toH h) (gI (gN os n)) hin W fs ((xs.map (aj t)).getD i .undef) ((xs.map (aj t)).getD i .undef):=by
  intro t xs ht i hi
  obtain⟨e,he,hee⟩:=aP.1 (bp hi)
  rw[←hee]
  exact mt H ht e
 cases x<;>simp[VB.sgl] at hs
 ·rename_i T t xs
  obtain⟨e,_,rfl⟩:=aP.1 hd
  refine .var T _ _ rfl fun i hi=>?_
  have hv:View (toH h) (gI (gN os n)) hin W fs (aj t e) (aj t e):=mt H hf e
  exact(hv.wf (d6 t e)).2 i (by rw[←(d6 t e).1];exact hi)
 ·rename_i T m t xss
  obtain⟨xs,_,rfl⟩:=aP.1 hd
  exact .var T _ _ rfl (key t xs hf)
 ·rename_i E t xss
  obtain⟨xs,_,rfl⟩:=aP.1 hd
  exact .row E _ _ rfl (key t xs hf)
 ·rename_i E t xss
  obtain⟨xs,_,rfl⟩:=aP.1 hd
  cases xs with
  |none=>exact .gone
  |some xs=>exact .row E _ _ rfl (key t xs hf)
 ·obtain⟨l,_,rfl⟩:=aP.1 hd
  exact .obj _
end Go.Proofs.Ytbmnihglaokhmaa.Am
namespace Go.Proofs.Ytbmnihglaokhmaa.Am
open Go Go.RowKit
variable {P:Program} {os fs:List Nat} {n:Nat} {h:VH}
mutual
def jj:V→Bool
 | .lst .. | .box .. | .dbox .. | .iptr .. | .obo .. | .gp _| .gv _=>false
 | .agg cs=>fH cs
 | .tup cs=>fH cs
 | .clo _ cs=>fH cs
 | .ifc _ v=>jj v
 |_=>true
def fH:List V→Bool
 |[]=>true
 |v::l=>jj v && fH l
end
theorem dJ (k:Nat)(o:Option Nat):noMem (jU k o)=true:=by cases o<;>rfl
theorem pB (k:Nat)(o:Option Nat):noMem (qg k o)=true:=by cases o<;>rfl
mutual
theorem m9:∀v:V,jj v=true→noMem v.toD=true
 | .agg cs,hv=>by simp only[jj] at hv;simp only[V.toD,noMem,dI cs hv]
 | .tup cs,hv=>by simp only[jj] at hv;simp only[V.toD,noMem,dI cs hv]
 | .clo f cs,hv=>by simp only[jj] at hv;simp only[V.toD,noMem,dI cs hv]
 | .ifc T v,hv=>by simp only[jj] at hv;simp only[V.toD,noMem,m9 v hv]
 | .hro k o,_=>dJ k o
 | .hpo k o,_=>pB k o
 | .lst ..,hv| .box ..,hv| .dbox ..,hv| .iptr ..,hv| .obo ..,hv| .gp _,hv| .gv _,hv=>by simp only[jj] at hv;cases hv
 | .int ..,_| .bool _,_| .tt,_| .ff,_| .str _,_| .nilp,_| .nils,_| .nilf,_| .nilm,_| .val _,_| .nili,_| .ref _,_| .ptr ..,_| .eptr ..,_| .vref ..,_| .aptr ..,_| .fref ..,_| .fptr ..,_| .feptr ..,_| .faptr ..,_| .mp ..,_| .fmp ..,_| .undef,_| .junk,_=>by simp only[V.toD,noMem]
theorem dI:∀l:List V,fH l=true→eu (aB l)=true
 |[],_=>rfl
 |v::l,hv=>by
  simp only[fH,bT] at hv
  simp only[aB,eu,m9 v hv.1,dI l hv.2,Bool.and_self]
end
def Ty.flat:Ty→Bool
 | .int _| .bool| .str| .txn| .slt| .hr _| .hp _| .vtxo _| .pplo _ _| .evto _| .lres _ _=>true
 |_=>false
theorem oZ {t:Ty}(h:t.flat=true)(x:t.den):(aj t x).cells.all noMem=true:=by
 cases t<;>first|(cases h;done)|rfl|skip
 ·simp only[aj,(lK _ x).2];simp[dJ]
 ·simp only[aj,(lJ _ x).2];simp[pB]
 ·simp[aj,D.cells,noMem,dJ]
 ·simp[aj,D.cells,noMem,dJ]
 ·simp[aj,D.cells,noMem,dJ]
 ·simp[aj,D.cells,noMem,dJ]
theorem ub {t:Ty}(h:t.flat=true)(x:t.den):noMem (aj t x)=true:=by
 cases t<;>first|(cases h;done)|rfl|skip
 ·exact dJ _ x
 ·exact pB _ x
 ·simp[aj,noMem,eu,dJ]
 ·simp[aj,noMem,eu,dJ]
 ·simp[aj,noMem,eu,dJ]
 ·simp[aj,noMem,eu,dJ]
def og:VB→Bool
 | .var _ cs=>fH cs
 | .vari _ pre _ t _ post=>fH pre && fH post && t.flat
 | .row _ t _=>t.flat
 | .lit _ vs=>vs.all fun v=>fH v.cells
 | .froz _ _| .fvb _ _=>false
 | .fvar _ t _=>t.flat
 | .fvari _ _ t _=>t.flat
 | .frow _ t _=>t.flat
 | .frowx _ t _=>t.flat
 | .moved .. | .gone| .map .. | .maps .. | .it ..=>true
theorem wK (l:List D):eu l=true↔∀d∈l,noMem d=true:=by rw[fB,bc]
theorem wL {x:VB}(h:og x=true):∀d∈x.blks,noMemB d=true:=by
 intro d hd
 have kc:∀(t:Ty) (xs:List t.den),t.flat=true→∀e∈xs.map (aj t),e.cells.all noMem=true:=by
  intro t xs ht e he
  obtain⟨x,_,rfl⟩:=aP.1 he
  exact oZ ht x
 have kd:∀(t:Ty) (xs:List t.den),t.flat=true→∀e∈xs.map (aj t),noMem e=true:=by
  intro t xs ht e he
  obtain⟨x,_,rfl⟩:=aP.1 he
  exact ub ht x
 cases x with
 |var T cs=>
  obtain rfl:=bd.1 hd
  simp only[noMemB,←fB]
  exact dI cs h
 |vari T pre m t xs post=>
  obtain rfl:=bd.1 hd
  simp only[og,bT] at h
  simp only[noMemB,List.all_append,←fB,dI _ h.1.1,dI _ h.1.2,Bool.true_and,Bool.and_true]
  rw[wK]
  exact kd t xs h.2
 |row E t xs=>
  obtain rfl:=bd.1 hd
  simp only[noMemB,bc]
  intro e he
  exact bc.1 (kc t xs h e he)
 |lit E vs=>
  obtain rfl:=bd.1 hd
  simp only[og,bc] at h
  simp only[noMemB,cu,List.all_map,bc]
  intro v hv
  have:=dI _ (h v hv)
  rw[fB] at this
  simp only[Function.comp,bn]
  exact this
 |froz t xs=>cases h
 |fvb t x=>cases h
 |fvar T t xs=>
  obtain⟨e,_,rfl⟩:=aP.1 hd
  exact oZ h e
 |fvari T m t xss=>
  obtain⟨xs,_,rfl⟩:=aP.1 hd
  simp only[noMemB,bc]
  exact kd t xs h
 |frow E t xss=>
  obtain⟨xs,_,rfl⟩:=aP.1 hd
  simp only[noMemB,bc]
  intro e he
  exact bc.1 (kc t xs h e he)
 |frowx E t xss=>
  obtain⟨xs,_,rfl⟩:=aP.1 hd
  cases xs with
  |none=>rfl
  |some xs=>
   simp only[rowX,noMemB,bc]
   intro e he
   exact bc.1 (kc t xs h e he)
 |moved k i=>obtain rfl:=bd.1 hd;rfl
 |map l=>obtain rfl:=bd.1 hd;rfl
 |maps ls=>obtain⟨l,_,rfl⟩:=aP.1 hd;rfl
 |it k i n left cur=>obtain rfl:=bd.1 hd;rfl
 |gone=>obtain rfl:=bd.1 hd;rfl
mutual
def di (g:Nat→Nat)(v:V)(K:V→Prop):Prop:=
 match v with
 | .ref b=>eR (g b) fun b=>K (.ref b)
 | .vref b o n=>eR (g b) fun b=>K (.vref b o n)
 | .ptr b o=>eR (g b) fun b=>K (.ptr b o)
 | .eptr b i o=>eR (g b) fun b=>K (.eptr b i o)
 | .aptr b p i=>eR (g b) fun b=>K (.aptr b p i)
 | .mp b=>eR (g b) fun b=>K (.mp b)
 | .fmp k i=>Chk (Nat.beq (g k) k) (K (.fmp k i))
 | .fref k i=>Chk (Nat.beq (g k) k) (K (.fref k i))
 | .fptr k i o=>Chk (Nat.beq (g k) k) (K (.fptr k i o))
 | .feptr k i j o=>Chk (Nat.beq (g k) k) (K (.feptr k i j o))
 | .faptr k i p j=>Chk (Nat.beq (g k) k) (K (.faptr k i p j))
 | .hro k o=>Chk (Nat.beq (g k) k) (K (.hro k o))
 | .hpo k o=>Chk (Nat.beq (g k) k) (K (.hpo k o))
 | .agg cs=>j6 g cs fun cs=>K (.agg cs)
 | .tup cs=>j6 g cs fun cs=>K (.tup cs)
 | .clo f cs=>j6 g cs fun cs=>K (.clo f cs)
 | .ifc T v=>di g v fun v=>K (.ifc T v)
 | .int k n=>K (.int k n)
 | .bool b=>K (.bool b)
 | .tt=>K .tt
 | .ff=>K .ff
 | .str s=>K (.str s)
 | .lst t xs=>K (.lst t xs)
 | .box t x=>K (.box t x)
 | .nilp=>K .nilp
 | .nils=>K .nils
 | .nilf=>K .nilf
 | .nilm=>K .nilm
 | .val v=>K (.val v)
 | .dbox cs=>K (.dbox cs)
 | .nili=>K .nili
 | .gp g=>K (.gp g)
 | .gv g=>K (.gv g)
 | .iptr t x o=>K (.iptr t x o)
 | .obo t o=>K (.obo t o)
 | .undef=>K .undef
 | .junk=>K .junk
def j6 (g:Nat→Nat)(l:List V)(K:List V→Prop):Prop:=
 match l with
 |[]=>K []
 |v::l=>di g v fun v=>j6 g l fun l=>K (v::l)
end
theorem jo {g:Nat→Nat}{k:Nat}(hk:g k=k)(o:Option Nat):renD (gI g) (jU k o)=jU k o:=by
 cases o with
 |none=>rfl
 |some i=>simp[jU,renD,hk]
theorem BC {g:Nat→Nat}{k:Nat}(hk:g k=k)(o:Option Nat):renD (gI g) (qg k o)=qg k o:=by
 cases o with
 |none=>rfl
 |some i=>simp[qg,renD,hk]
mutual
theorem sR {g:Nat→Nat}:∀{v:V} {K:V→Prop},di g v K→∃r,renD (gI g) v.toD=r.toD∧K r
 | .ref b,K,h=>⟨.ref (g b),rfl,bK (by simpa only[di] using h)⟩
 | .vref b o n,K,h=>⟨.vref (g b) o n,rfl,bK (by simpa only[di] using h)⟩
 | .ptr b o,K,h=>⟨.ptr (g b) o,rfl,bK (by simpa only[di] using h)⟩
 | .eptr b i o,K,h=>⟨.eptr (g b) i o,rfl,bK (by simpa only[di] using h)⟩
 | .aptr b p i,K,h=>⟨.aptr (g b) p i,rfl,bK (by simpa only[di] using h)⟩
 | .mp b,K,h=>⟨.mp (g b),rfl,bK (by simpa only[di] using h)⟩
 | .fmp k i,K,h=>by simp only[di] at h;obtain⟨c,h⟩:=h.ok;exact⟨.fmp k i,by simp[V.toD,renD,b8 c],h⟩
 | .fref k i,K,h=>by simp only[di] at h;obtain⟨c,h⟩:=h.ok;exact⟨.fref k i,by simp[V.toD,renD,b8 c],h⟩
 | .fptr k i o,K,h=>by simp only[di] at h;obtain⟨c,h⟩:=h.ok;exact⟨.fptr k i o,by simp[V.toD,renD,b8 c],h⟩
 | .feptr k i j o,K,h=>by simp only[di] at h;obtain⟨c,h⟩:=h.ok;exact⟨.feptr k i j o,by simp[V.toD,renD,b8 c],h⟩
 | .faptr k i p j,K,h=>by simp only[di] at h;obtain⟨c,h⟩:=h.ok;exact⟨.faptr k i p j,by simp[V.toD,renD,b8 c],h⟩
 | .hro k o,K,h=>by simp only[di] at h;obtain⟨c,h⟩:=h.ok;exact⟨.hro k o,jo (b8 c) o,h⟩
 | .hpo k o,K,h=>by simp only[di] at h;obtain⟨c,h⟩:=h.ok;exact⟨.hpo k o,BC (b8 c) o,h⟩
 | .agg cs,K,h=>by
  simp only[di] at h
  obtain⟨r,h1,h2⟩:=fT h
  exact⟨.agg r,by simp only[V.toD,renD,h1],h2⟩
 | .tup cs,K,h=>by
  simp only[di] at h
  obtain⟨r,h1,h2⟩:=fT h
  exact⟨.tup r,by simp only[V.toD,renD,h1],h2⟩
 | .clo f cs,K,h=>by
  simp only[di] at h
  obtain⟨r,h1,h2⟩:=fT h
  exact⟨.clo f r,by simp only[V.toD,renD,h1],h2⟩
 | .ifc T v,K,h=>by
  simp only[di] at h
  obtain⟨r,h1,h2⟩:=sR h
  exact⟨.ifc T r,by simp only[V.toD,renD,h1],h2⟩
 | .int k n,K,h=>⟨.int k n,rfl,by simpa only[di] using h⟩
 | .bool b,K,h=>⟨.bool b,rfl,by simpa only[di] using h⟩
 | .tt,K,h=>⟨.tt,rfl,by simpa only[di] using h⟩
 | .ff,K,h=>⟨.ff,rfl,by simpa only[di] using h⟩
 | .str s,K,h=>⟨.str s,rfl,by simpa only[di] using h⟩
 | .lst t xs,K,h=>⟨.lst t xs,rfl,by simpa only[di] using h⟩
 | .box t x,K,h=>⟨.box t x,rfl,by simpa only[di] using h⟩
 | .nilp,K,h=>⟨.nilp,rfl,by simpa only[di] using h⟩
 | .nils,K,h=>⟨.nils,rfl,by simpa only[di] using h⟩
 | .nilf,K,h=>⟨.nilf,rfl,by simpa only[di] using h⟩
 | .nilm,K,h=>⟨.nilm,rfl,by simpa only[di] using h⟩
 | .val v,K,h=>⟨.val v,rfl,by simpa only[di] using h⟩
 | .dbox cs,K,h=>⟨.dbox cs,rfl,by simpa only[di] using h⟩
 | .nili,K,h=>⟨.nili,rfl,by simpa only[di] using h⟩
 | .gp g,K,h=>⟨.gp g,rfl,by simpa only[di] using h⟩
 | .gv g,K,h=>⟨.gv g,rfl,by simpa only[di] using h⟩
 | .iptr t x o,K,h=>⟨.iptr t x o,rfl,by simpa only[di] using h⟩
 | .obo t o,K,h=>⟨.obo t o,by cases o<;>rfl,by simpa only[di] using h⟩
 | .undef,K,h=>⟨.undef,rfl,by simpa only[di] using h⟩
 | .junk,K,h=>⟨.junk,rfl,by simpa only[di] using h⟩
theorem fT {g:Nat→Nat}:∀{l:List V} {K:List V→Prop},j6 g l K→∃r,lp (gI g) (aB l)=aB r∧K r
 |[],K,h=>⟨[],rfl,by simpa only[j6] using h⟩
 |v::l,K,h=>by
  simp only[j6] at h
  obtain⟨v',h1,h2⟩:=sR h
  obtain⟨l',h3,h4⟩:=fT h2
  exact⟨v'::l',by simp only[aB,lp,h1,h3],h4⟩
end
def ua (g:Nat→Nat)(l:List Nat):Bool:=l.all fun k=>Nat.beq (g k) k
theorem kD {g:Nat→Nat}{l:List Nat}(h:ua g l=true):∀k∈l,g k=k:=by
 unfold ua at h
 rw[bc] at h
 exact fun k hk=>b8 (h k hk)
theorem yf {g:Nat→Nat}{t:Ty}(ht:∀k∈t.fams,g k=k)(x:t.den):renD (gI g) (aj t x)=aj t x:=by
 cases t<;>try rfl
 case ob t=>cases x<;>rfl
 case hr k=>exact jo (ht k (by simp[Ty.fams])) x
 case hp k=>exact BC (ht k (by simp[Ty.fams])) x
 case vtxo k=>simp only[aj,renD,lp,jo (ht k (by simp[Ty.fams]))]
 case pplm k=>simp only[aj,f9,fX,dZ,renD,lp,jo (ht k (by simp[Ty.fams])),fM]
 case pplo k k'=>simp only[aj,renD,lp,jo (ht k (by simp[Ty.fams])),jo (ht k' (by simp[Ty.fams]))]
 case evto k=>simp only[aj,renD,lp,jo (ht k (by simp[Ty.fams]))]
 case lres k k'=>simp[aj,renD,lp,jo (ht k' (by simp[Ty.fams])),ht k (by simp[Ty.fams])]
 case nod k=>simp only[aj,f9,fX,dZ,renD,lp,jo (ht k (by simp[Ty.fams])),fM]
def Bz (g:Nat→Nat)(x:VB)(K:VB→Prop):Prop:=
 match x with
 | .var T cs=>j6 g cs fun cs=>K (.var T cs)
 | .vari T pre m t xs post=>Chk (ua g t.fams) (j6 g pre fun pre=>j6 g post fun post=>K (.vari T pre m t xs post))
 | .row E t xs=>Chk (ua g t.fams) (K (.row E t xs))
 | .lit E vs=>j6 g vs fun vs=>K (.lit E vs)
 | .froz t xs=>K (.froz t xs)
 | .fvb t x=>K (.fvb t x)
 | .fvar T t xs=>Chk (ua g t.fams) (K (.fvar T t xs))
 | .fvari T m t xss=>Chk (ua g t.fams) (K (.fvari T m t xss))
 | .frow E t xss=>Chk (ua g t.fams) (K (.frow E t xss))
 | .frowx E t xss=>Chk (ua g t.fams) (K (.frowx E t xss))
 | .map l=>K (.map l)
 | .maps ls=>K (.maps ls)
 | .it k i n left cur=>eR (g k) fun k=>K (.it k i n left cur)
 | .moved k i=>eR (g k) fun k=>K (.moved k i)
 | .gone=>K .gone
theorem mc {g:Nat→Nat}{t:Ty}(ht:∀k∈t.fams,g k=k)(xs:List t.den):(xs.map (aj t)).map (renD (gI g))=xs.map (aj t):=by
 rw[eI]
 exact rJ fun x _=>yf ht x
theorem BA {g:Nat→Nat}{x:VB}{K:VB→Prop}(h:Bz g x K):∃y,y.blks=x.blks.map (renB (gI g))∧K y:=by
 unfold Bz at h
 split at h
 ·obtain⟨r,h1,h2⟩:=fT h
  exact⟨_,by simp only[VB.blks,bI,du,renB,←fI,h1],h2⟩
 ·rename_i T pre m t xs post
  obtain⟨c,h⟩:=h.ok
  obtain⟨r,h1,h2⟩:=fT h
  obtain⟨r2,h3,h4⟩:=fT h2
  refine⟨_,?_,h4⟩
  rw[fI] at h1 h3
  simp only[VB.blks,bI,du,renB,jB,h1,h3,mc (kD c)]
 ·rename_i E t xs
  obtain⟨c,h⟩:=h.ok
  exact⟨_,by simp only[VB.blks,bI,du,renB,mc (kD c)],h⟩
 ·obtain⟨r,h1,h2⟩:=fT h
  exact⟨_,by simp only[VB.blks,bI,du,renB,←fI,h1],h2⟩
 ·exact⟨_,rfl,h⟩
 ·exact⟨_,rfl,h⟩
 ·rename_i T t xs
  obtain⟨c,h⟩:=h.ok
  refine⟨_,?_,h⟩
  simp only[VB.blks,eI]
  refine rJ fun x _=>?_
  simp only[Function.comp,renB]
  rw[←jn,yf (kD c)]
 ·rename_i T m t xss
  obtain⟨c,h⟩:=h.ok
  refine⟨_,?_,h⟩
  simp only[VB.blks,eI]
  refine rJ fun xs _=>?_
  simp only[Function.comp,renB,mc (kD c)]
 ·rename_i E t xss
  obtain⟨c,h⟩:=h.ok
  refine⟨_,?_,h⟩
  simp only[VB.blks,eI]
  refine rJ fun xs _=>?_
  simp only[Function.comp,renB,mc (kD c)]
 ·rename_i E t xss
  obtain⟨c,h⟩:=h.ok
  refine⟨_,?_,h⟩
  simp only[VB.blks,eI]
  refine rJ fun xs _=>?_
  cases xs with
  |none=>rfl
  |some xs=>simp only[Function.comp,rowX,renB,mc (kD c)]
 ·exact⟨_,rfl,h⟩
 ·rename_i ls
  refine⟨.maps ls,?_,h⟩
  simp only[VB.blks,eI]
  exact rJ fun x _=>rfl
 ·exact⟨_,rfl,bK h⟩
 ·exact⟨_,rfl,bK h⟩
 ·exact⟨_,rfl,h⟩
def Bc (g:Nat→Nat):VH→(VH→Prop)→Prop
 |[],K=>K []
 |(k,x)::l,K=>Bz g x fun y=>eR (g k) fun b=>Bc g l fun u=>K ((b,y)::u)
inductive RenVH (g:Nat→Nat):VH→VH→Prop where
 |nil:RenVH g [] []
 |cons {k:Nat} {x y:VB} {l u:VH} (hy:y.blks=x.blks.map (renB (gI g))) (hl:RenVH g l u):RenVH g ((k,x)::l) ((g k,y)::u)
theorem uz {g:Nat→Nat}:∀{l:VH} {K:VH→Prop},Bc g l K→∃u,RenVH g l u∧K u
 |[],K,h=>⟨[],.nil,h⟩
 |(k,x)::l,K,h=>by
  obtain⟨y,h1,h2⟩:=BA h
  obtain⟨u,h3,h4⟩:=uz (bK h2)
  exact⟨(g k,y)::u,.cons h1 h3,h4⟩
theorem RenVH.look {g:Nat→Nat}(hg:∀a b,g a=g b→a=b){l u:VH}(hr:RenVH g l u):(∀k,(Am.look l k=none→Am.look u (g k)=none)∧∀x,Am.look l k=some x→∃y,Am.look u (g k)=some y∧y.blks=x.blks.map (renB (gI g)))∧∀b,(∀k,Am.look l k≠none→g k≠b)→Am.look u b=none:=by
 induction hr with
 |nil=>exact⟨fun k=>⟨fun _=>rfl,fun x hx=>by cases hx⟩,fun b _=>rfl⟩
 | @cons k0 x0 y0 l u hy hl ih=>
  refine⟨fun k=>?_,fun b hb=>?_⟩
  ·by_cases e:k=k0
   ·subst e
    refine⟨fun hn=>by simp[Am.look] at hn,fun x hx=>⟨y0,by simp[Am.look],?_⟩⟩
    simp[Am.look] at hx
    subst hx
    exact hy
   ·have e':¬g k=g k0:=fun he=>e (hg _ _ he)
    simp only[Am.look,if_neg e,if_neg e']
    exact ih.1 k
  ·have e':¬b=g k0:=fun he=>hb k0 (by simp[Am.look]) he.symm
   simp only[Am.look,if_neg e']
   refine ih.2 b fun k hk=>hb k ?_
   simp only[Am.look]
   split
   ·simp
   ·exact hk
theorem RenVH.keys {g:Nat→Nat}{l u:VH}(hr:RenVH g l u):u.map (·.1)=l.map (fun p=>g p.1):=by
 induction hr with
 |nil=>rfl
 |cons hy hl ih=>simp[ih]
end Go.Proofs.Ytbmnihglaokhmaa.Am
namespace Go.Proofs.Ytbmnihglaokhmaa.Am
open Go Go.RowKit
variable {P:Program} {os fs:List Nat} {n:Nat} {h:VH}
theorem na {α β:Type}{f:α→β}{l:List α}(hf:∀a b,f a=f b→a=b)(h:l.Nodup):(l.map f).Nodup:=List.pairwise_map.2 (List.Pairwise.imp (fun hne e=>hne (hf _ _ e)) h)
theorem lR {κ α:Type}[DecidableEq κ]{us g:List (κ×α)}(hn:(us.map (·.1)).Nodup)(b:κ):look (puts us g) b=match look us b with|some y=>some y|none=>look g b:=by
 cases hl:look us b with
 |some y=>exact iy us g b y hn (dg hl)
 |none=>
  refine aS us g b fun x hx he=>?_
  have:=gK hn (k:=x.1) (a:=x.2) hx
  rw[he,hl] at this
  cases this
theorem m8 {κ α:Type}[DecidableEq κ](us:List (κ×α)){g g':List (κ×α)}(b:κ)(hg:look g b=look g' b):look (puts us g) b=look (puts us g') b:=by
 induction us generalizing g g' with
 |nil=>exact hg
 |cons x us ih=>
  show look (puts us (put x.1 x.2 g)) b=look (puts us (put x.1 x.2 g')) b
  refine ih ?_
  rw[aC,aC,hg]
theorem rD:∀(s:List Nat) (l:VH),(∀p∈qF s l,p.1.1∉s)∧((qF s l).map (·.1)).Nodup
 |s,[]=>⟨by simp[qF],by simp[qF]⟩
 |s,(k,x)::l=>by
  obtain⟨ih1,ih2⟩:=rD (k::s) l
  have hfam:∀p∈fam k x.blks,p.1.1=k:=by
   intro p hp
   obtain⟨q,_,rfl⟩:=aP.1 hp
   rfl
  have hnd:((fam k x.blks).map (·.1)).Nodup:=by
   have e:∀(l:List Blk) (q:Nat),(((l.zipIdx q).map fun p:Blk×Nat=>(((k,p.2),p.1):Id×Blk)).map (·.1))=(List.range' q l.length).map fun i=>((k,i):Id):=by
    intro l
    induction l with
    |nil=>intro q;rfl
    |cons y l ih=>intro q;simp only[qc,bI,dY,List.range'_succ,ih]
   unfold fam
   rw[e]
   exact na (fun a b hab=>by simpa using hab) List.nodup_range'
  simp only[qF]
  cases hc:s.contains k with
  |true=>
   simp only[cond_true,dZ]
   exact⟨fun p hp hs=>ih1 p hp (bi _ hs),ih2⟩
  |false=>
   have hk:k∉s:=by simpa using hc
   simp only[cond_false,jB]
   refine⟨fun p hp=>?_,List.nodup_append.2 ⟨hnd,ih2,fun a ha b hb he=>?_⟩⟩
   ·rcases cm.1 hp with hp|hp
    ·rw[hfam p hp];exact hk
    ·exact fun hs=>ih1 p hp (bi _ hs)
   ·obtain⟨p,hp,rfl⟩:=aP.1 ha
    obtain⟨q,hq,rfl⟩:=aP.1 hb
    have:=ih1 q hq
    rw[←he,hfam p hp] at this
    exact this (bf ..)
theorem pZ (l:VH):((toH l).map (·.1)).Nodup:=(rD [] l).2
theorem xX {l:VH}{p:Id×Blk}(hp:p∈toH l):∃x,look l p.1.1=some x∧p.2∈x.blks:=by
 have h1:=gK (pZ l) (k:=p.1) (a:=p.2) hp
 rw[az] at h1
 obtain⟨x,h2,h3⟩:=br.1 h1
 exact⟨x,h2,dm h3⟩
theorem rg {g:Id→Id}(hg:∀a b,g a=g b→a=b):∀(l:HL),(∀b,look (renH g l) (g b)=(look l b).map (renB g))∧∀c,(∀b,look l b≠none→g b≠c)→look (renH g l) c=none
 |[]=>⟨fun b=>rfl,fun c _=>rfl⟩
 |(b0,x)::l=>by
  obtain⟨h1,h2⟩:=rg hg l
  refine⟨fun b=>?_,fun c hc=>?_⟩
  ·show look ((g b0,renB g x)::renH g l) (g b)=_
   simp only[look]
   by_cases e:b=b0
   ·subst e;simp
   ·rw[if_neg fun he=>e (hg _ _ he),if_neg e]
    exact h1 b
  ·show look ((g b0,renB g x)::renH g l) c=none
   simp only[look]
   rw[if_neg fun he=>hc b0 (by simp[look]) he.symm]
   refine h2 c fun b hb=>hc b ?_
   simp only[look]
   split
   ·simp
   ·exact hb
theorem zu {g:Id→Id}(hg:∀a b,g a=g b→a=b){l:HL}(hn:(l.map (·.1)).Nodup):((renH g l).map (·.1)).Nodup:=by
 unfold renH
 rw[eI]
 have:(fun x:Id×Blk=>x.1)∘(fun p:Id×Blk=>(g p.1,renB g p.2))=g∘(fun x:Id×Blk=>x.1):=rfl
 rw[this,←eI]
 exact na hg hn
theorem yp {g:Nat→Nat}(hg:∀a b,g a=g b→a=b){hout u h0:VH}{H:HL}(hH:∀b,look H b=look (toH h0) b)(hr:RenVH g hout u)(hn:(hout.map (·.1)).Nodup)(hc:∀k x,look hout k=some x→∀j,x.blks.length≤j→look (toH h0) (g k,j)=none):
  (∀b,look (puts (renH (gI g) (toH hout)) H) b=look (toH (puts u h0)) b)∧∀x∈renH (gI g) (toH hout),x.1.1∈u.map (·.1):=by
 have hgI:∀a b:Id,gI g a=gI g b→a=b:=by
  rintro⟨a1,a2⟩ ⟨b1,b2⟩ he
  simp only[gI,bg] at he⊢
  exact⟨hg _ _ he.1,he.2⟩
 have hun:(u.map (·.1)).Nodup:=by
  rw[hr.keys]
  have:(fun p:Nat×VB=>g p.1)=g∘(fun x:Nat×VB=>x.1):=rfl
  rw[this,←eI]
  exact na hg hn
 obtain⟨q1,q2⟩:=rg hgI (toH hout)
 obtain⟨r1,r2⟩:=hr.look hg
 refine⟨fun b=>?_,fun x hx=>?_⟩
 ·rw[lR (zu hgI (pZ hout)),az,lR hun,hH]
  by_cases hex:∃k x,look hout k=some x∧g k=b.1
  ·obtain⟨k,x,hk,he⟩:=hex
   obtain⟨y,y1,y2⟩:=(r1 k).2 x hk
   have e1:b=gI g (k,b.2):=by simp[gI,he]
   rw[←he,y1,he]
   have e2:look (renH (gI g) (toH hout)) b=(x.blks[b.2]?).map (renB (gI g)):=by
    rw[e1,q1,az,hk];rfl
   rw[e2]
   simp only[bl,y2,b9]
   cases hx:x.blks[b.2]? with
   |some d=>rfl
   |none=>
    simp only[Option.map_none]
    have:=hc k x hk b.2 (by simpa using hx)
    rw[he] at this
    exact this
  ·have e1:look u b.1=none:=r2 b.1 fun k hk he=>hex (by
    cases hl:look hout k with
    |none=>exact absurd hl hk
    |some x=>exact⟨k,x,hl,he⟩)
   have e2:look (renH (gI g) (toH hout)) b=none:=q2 b fun c hcl he=>hex (by
    rw[az] at hcl
    cases hl:look hout c.1 with
    |none=>rw[hl] at hcl;exact absurd rfl hcl
    |some x=>exact⟨c.1,x,hl,by rw[←he]⟩)
   rw[e1,e2]
   exact az h0 b
 ·obtain⟨p,hp,rfl⟩:=aP.1 hx
  obtain⟨x,h1,_⟩:=xX hp
  obtain⟨y,h2,_⟩:=(r1 p.1.1).2 x h1
  exact aP.2 ⟨_,dg h2,rfl⟩
def FJ (h:VH):List Nat→(VH→Prop)→Prop
 |[],K=>K []
 |b::l,K=>FJ h l fun u=>(match a7 h b with
  |some (.row _ t xs)=>Chk t.pure (K ((b,.froz t xs)::u))
  |some (.frow ..)=>False
  |some (.frowx ..)=>False
  |_=>K u)
def vJ (h:VH):List Nat→VH
 |[]=>[]
 |b::l=>match a7 h b with
  |some (.row _ t xs)=>(b,.froz t xs)::vJ h l
  |_=>vJ h l
theorem xk:∀{l:List Nat} {K:VH→Prop},FJ h l K→K (vJ h l)∧∀b∈l,¬FF h b
 |[],K,hk=>⟨hk,by simp⟩
 |b::l,K,hk=>by
  obtain⟨this,h2⟩:=xk (l:=l) hk
  simp only[vJ]
  have key:K (match a7 h b with
   |some (.row _ t xs)=>(b,.froz t xs)::vJ h l
   |_=>vJ h l)∧¬FF h b:=by
   cases hl:a7 h b with
   |none=>
    rw[hl] at this
    rw[a8] at hl
    exact⟨this,fun hf=>by rcases hf with⟨E,t,xs,hf⟩|⟨E,t,xs,hf⟩|⟨E,t,xs,_,hf⟩<;>rw[hl] at hf<;>cases hf⟩
   |some x=>
    rw[hl] at this
    rw[a8] at hl
    have hx:(∀E t xs,x≠ .frow E t xs)→(∀E t xs,x≠ .frowx E t xs)→(∀E t xs,t.pure=false→x≠ .row E t xs)→¬FF h b:=fun h1 h2 h3 hf=>by
     rcases hf with⟨E,t,xs,hf⟩|⟨E,t,xs,hf⟩|⟨E,t,xs,hp,hf⟩<;>rw[hl] at hf<;>cases hf
     ·exact h1 _ _ _ rfl
     ·exact h2 _ _ _ rfl
     ·exact h3 _ _ _ hp rfl
    cases x<;>first|exact this.elim|exact⟨this.ok.2,hx (fun _ _ _ he=>by cases he) (fun _ _ _ he=>by cases he) (fun _ _ _ hp he=>by cases he;rw[this.ok.1] at hp;cases hp)⟩|exact⟨this,hx (fun _ _ _ he=>by cases he) (fun _ _ _ he=>by cases he) (fun _ _ _ _ he=>by cases he)⟩
  exact⟨key.1,fun c hc=>(a9.1 hc).elim (fun e=>e▸key.2) (h2 c)⟩
theorem lS:∀(ws:List Nat) (g:VH) (b:Nat),look (puts (vJ h ws) g) b=if b∈ws then(match look h b with|some (.row _ t xs)=>some (.froz t xs)|_=>look g b) else look g b
 |[],g,b=>by simp[vJ,puts]
 |c::ws,g,b=>by
  simp only[vJ]
  rw[a8]
  split
  ·rename_i E t xs hc
   show look (puts (vJ h ws) (put c (.froz t xs) g)) b=_
   rw[lS ws,aC]
   by_cases hb:b=c
   ·subst hb
    simp only[if_true,a9,true_or,hc]
    split
    ·rfl
    ·rfl
   ·by_cases hm:b∈ws
    ·simp[hm,hb]
    ·simp[hm,hb]
  ·rename_i hc
   rw[lS ws]
   by_cases hb:b=c
   ·subst hb
    have:(match look h b with|some (VB.row _ t xs)=>some (VB.froz t xs)|_=>look g b)=look g b:=by
     split
     ·rename_i e;exact absurd e (hc _ _ _)
     ·rfl
    simp[this]
   ·simp[hb]
theorem BZ {ws:List Nat}(hw:∀b∈ws,FE h b):cM h (frz (toH h) (ws.map fun b=>(b,0))) (vJ h ws)∧∀b∈ws.map (fun b=>((b,0):Id)),∀x,look (toH h) b=some x→x.mutable=true→(frzB (toH h) b).isSome=true:=by
 have fz:∀b E t,∀xs:List (Ty.den t),look h b=some (.row E t xs)→t.pure=true→frzB (toH h) (b,0)=some (.froz (xs.map (aj t))):=by
  intro b E t xs hb hp
  have hl:=aI (i:=0) hb (d:=.row E (xs.map (aj t))) rfl
  simp[frzB,hl,row_pure hp]
 refine⟨⟨fun b=>?_,fun x hx=>?_⟩,fun b hb x hx hmu=>?_⟩
 ·obtain⟨b1,b2⟩:=b
  rw[cY,az (puts (vJ h ws) h),lS]
  by_cases hm:b1∈ws
  ·rw[if_pos hm]
   rcases hw b1 hm with⟨E,t,xs,hp,hb⟩|⟨t,xs,hb⟩|⟨t,x,hb⟩
   ·rw[hb]
    simp only[bl,VB.blks]
    cases b2 with
    |zero=>
     rw[if_pos (aP.2 ⟨b1,hm,rfl⟩),fz b1 E t xs hb hp]
     rfl
    |succ j=>
     rw[if_neg (by simp)]
     exact Bn hb rfl (j+1) (by simp)
   ·rw[hb]
    have e:frzB (toH h) (b1,b2)=none:=by
     unfold frzB
     rw[az,hb]
     simp only[bl,VB.blks]
     cases b2<;>simp
    rw[e]
    simp only[ite_self]
    rw[az,hb]
   ·rw[hb]
    have e:frzB (toH h) (b1,b2)=none:=by
     unfold frzB
     rw[az,hb]
     simp only[bl,VB.blks]
     cases b2<;>simp
    rw[e]
    simp only[ite_self]
    rw[az,hb]
  ·rw[if_neg (fun hmem=>by obtain⟨c,hc,he⟩:=aP.1 hmem;simp only[bg] at he;exact hm (he.1▸hc)),if_neg hm,az]
 ·obtain⟨c,hc,hcx⟩:=List.mem_filterMap.1 hx
  obtain⟨y,hy,rfl⟩:=bh.1 hcx
  obtain⟨b,hb,rfl⟩:=aP.1 hc
  show b∈(vJ h ws).map (·.1)
  rcases hw b hb with⟨E,t,xs,hp,hl⟩|⟨t,xs,hl⟩|⟨t,x,hl⟩
  ·have:look (puts (vJ h ws) []) b=some (.froz t xs):=by rw[lS,if_pos hb,hl]
   rcases fb (b∈(vJ h ws).map (·.1)) with h1|h1
   ·exact h1
   ·rw[aS _ _ _ fun x hx e=>h1 (aP.2 ⟨x,hx,e⟩)] at this
    cases this
  ·exfalso
   have:=aI (i:=0) hl (d:=.froz (xs.map (aj t))) rfl
   simp[frzB,this] at hy
  ·exfalso
   have:=aI (i:=0) hl (d:=.fvar (aj t x).cells) rfl
   simp[frzB,this] at hy
 ·obtain⟨c,hc,rfl⟩:=aP.1 hb
  rcases hw c hc with⟨E,t,xs,hp,hl⟩|⟨t,xs,hl⟩|⟨t,x',hl⟩
  ·rw[fz c E t xs hl hp];rfl
  ·have:=aI (i:=0) hl (d:=.froz (xs.map (aj t))) rfl
   rw[this] at hx;cases hx;cases hmu
  ·have:=aI (i:=0) hl (d:=.fvar (aj t x').cells) rfl
   rw[this] at hx;cases hx;cases hmu
end Go.Proofs.Ytbmnihglaokhmaa.Am
namespace Go.Proofs.Ytbmnihglaokhmaa.Am
open Go Go.RowKit
variable {P:Program} {os fs:List Nat} {n:Nat} {h:VH}
def jQ:VB→Nat
 | .fvar _ _ xs=>xs.length
 | .fvari _ _ _ xss=>xss.length
 | .frow _ _ xss=>xss.length
 | .frowx _ _ xss=>xss.length
 | .maps ls=>ls.length
 |_=>1
theorem kC (x:VB):x.blks.length=jQ x:=by cases x<;>simp[VB.blks,jQ]
def keysV:VH→List Nat
 |[]=>[]
 |(k,_)::l=>k::keysV l
theorem fN:∀l:VH,l.map (·.1)=keysV l
 |[]=>rfl
 |(k,x)::l=>by simp[keysV,fN l]
def wn (h:VH)(fs:List Nat):VH→Prop→Prop
 |[],K=>K
 |(k,x)::l,K=>match Nat.blt k 4 with
  |true=>Chk (!x.sgl) (match a7 h k with
   |none=>wn h fs l K
   |some y=>Chk (fs.contains k && !y.sgl) (ct (jQ y≤jQ x) (wn h fs l K)))
  |false=>Chk x.sgl (wn h fs l K)
theorem xx {K:Prop}:∀{l:VH},wn h fs l K→(∀k x,look l k=some x→(k<4∧∀y,look h k=some y→k∈fs∧jQ y≤jQ x)∨(4≤k∧x.sgl=true))∧K
 |[],hk=>⟨(fun k x hx=>by cases hx),hk⟩
 |(k0,x0)::l,hk=>by
  simp only[wn] at hk
  have key:((k0<4∧∀y,look h k0=some y→k0∈fs∧jQ y≤jQ x0)∨(4≤k0∧x0.sgl=true))∧wn h fs l K:=by
   split at hk
   ·rename_i hb
    have hlt:k0<4:=by simpa[Nat.blt_eq] using hb
    obtain⟨c,hk⟩:=hk.ok
    split at hk
    ·rename_i hn
     rw[a8] at hn
     exact⟨.inl ⟨hlt,fun y hy=>by rw[hn] at hy;cases hy⟩,hk⟩
    ·rename_i y hy
     rw[a8] at hy
     obtain⟨c2,hle,hk⟩:=hk.ok
     simp only[bT] at c2
     exact⟨.inl ⟨hlt,fun y' hy'=>by rw[hy] at hy';obtain rfl:=bm hy';exact⟨by simpa using c2.1,hle⟩⟩,hk⟩
   ·rename_i hb
    obtain⟨c,hk⟩:=hk.ok
    have hge:4≤k0:=by
     rcases db k0 4 with hlt|hge
     ·have:Nat.blt k0 4=true:=by simpa[Nat.blt_eq] using hlt
      rw[hb] at this;cases this
     ·exact hge
    exact⟨.inr ⟨hge,c⟩,hk⟩
  obtain⟨k1,k2⟩:=key
  obtain⟨h1,h2⟩:=xx k2
  refine⟨fun k x hx=>?_,h2⟩
  simp only[look] at hx
  split at hx
  ·rename_i e;cases hx;subst e;exact k1
  ·exact h1 k x hx
def CA (hout:VH):List Nat→Nat→Bool
 |[],_=>true
 |_::l,i=>(a7 hout i).isSome && CA hout l (i+1)
theorem xO {hout:VH}:∀{l:List Nat} {i:Nat},CA hout l i=true→∀m,m<l.length→∃x,look hout (i+m)=some x
 |[],i,_,m,hm=>by simp at hm
 |_::l,i,hb,m,hm=>by
  simp only[CA,bT,a8] at hb
  cases m with
  |zero=>exact mz.1 hb.1
  |succ m=>
   have:=xO hb.2 m (by simpa using hm)
   rwa [show i+1+m=i+(m+1) by omega] at this
def x8 (l:VH):Bool:=l.all fun p=>og p.2
def nx (P:Program)[PhC P](h:VH)(n:Nat)(f:FuncId)(vs:List V)(os fs:List Nat)(K:V→VH→List Nat→Prop):Prop:=
 Chk (zi os n && fs.all (fun k=>Nat.blt k 4)) (ki os fs h vs fun vs' ws=>Al fs h fs fun hf=>BM os fs h os 4 fun hs ws'=>Cg hf hs fun hin=>dy P f vs' hin fun r hout=>
  Chk (j3 (keysV hout) && fs.all (fun k=>(a7 hout k).isSome) && CA hout os 4) (wn h fs hout (di (gN os n) r fun r'=>Bc (gN os n) hout fun u=>
   match jj r && x8 hout with
   |true=>K r' u ((ws++ws')++fs++keysV u)
   |false=>FJ h (ws++ws') fun u0=>K r' (u0++u) ((ws++ws')++fs++keysV u))))
theorem z0 [PhC P]{f:FuncId}{vs:List V}{K:V→VH→List Nat→Prop}(hfr:∀c:Id,n≤c.1→look (toH h) c=none)(hk:nx P h n f vs os fs K):
  ∃r u vu gl,(∀f':List Nat,(∀k∈gl,k∈f')→∃c:CallOK P f (toH h) n (aB vs) r.toD u f',∀b,Live c.hout b→(c.g b).1∈f')∧cM h u vu∧K r vu gl:=by
 obtain⟨c0,hk⟩:=hk.ok
 simp only[bT,bc] at c0
 obtain⟨c1,c2⟩:=c0
 have hlow:∀k∈fs,k<4:=fun k hk=>by simpa[Nat.blt_eq] using c2 k hk
 obtain⟨o1,o2,o3⟩:=yc c1
 obtain⟨vs',ws,v1,v2,hk⟩:=i5 (n:=n) hk
 obtain⟨hf,f1,f2,hk⟩:=tW hk
 obtain⟨hs,ws',s1,s2,s3,hk⟩:=vh (n:=n) hk
 have hk:=rQ hk
 obtain⟨r,hout,hcon,hk⟩:=hk
 obtain⟨c3,hk⟩:=hk.ok
 simp only[bT,bc] at c3
 obtain⟨⟨c3,c4⟩,c5⟩:=c3
 obtain⟨cov,hk⟩:=xx hk
 obtain⟨r',r1,hk⟩:=sR hk
 obtain⟨u,hr,hk⟩:=uz hk
 have hg:∀a b,gN os n a=gN os n b→a=b:=fun a b=>AA c1
 have hgI:∀a b:Id,gI (gN os n) a=gI (gN os n) b→a=b:=fun a b=>Az c1
 have hin_look:∀k x,look (hf++hs) k=some x→(k∈fs∧look hf k=some x)∨(∃m b,k=4+m∧os[m]?=some b∧look hs k=some x):=by
  intro k x hx
  rw[gG] at hx
  cases hl:look hf k with
  |some y=>
   rw[hl] at hx
   obtain rfl:=bm hx
   exact .inl ⟨(f1 k _ hl).1,rfl⟩
  |none=>
   rw[hl] at hx
   obtain⟨m,rfl,hm⟩:=s1 k x hx
   exact .inr ⟨m,os[m],rfl,aZ hm,hx⟩
 have hf_none:∀m,look hf (4+m)=none:=by
  intro m
  cases hl:look hf (4+m) with
  |none=>rfl
  |some y=>have:=hlow _ (f1 _ _ hl).1;omega
 have hin_sgl:∀m b,os[m]?=some b→∃x x',look h b=some x∧look (hf++hs) (4+m)=some x'∧FL os fs n h ws' x x':=by
  intro m b hb
  obtain⟨x,x',q1,q2,q3⟩:=s2 m b hb
  exact⟨x,x',q1,by rw[gG,hf_none];exact q2,q3⟩
 have hin_fam:∀k∈fs,∃x,look (hf++hs) k=some x∧look h k=some x∧x.sgl=false∧∀j∈x.fams,j∈fs:=by
  intro k hk
  obtain⟨x,hx⟩:=f2 k hk
  obtain⟨_,q2,q3,q4⟩:=f1 k x hx
  exact⟨x,by rw[gG,hx],q2,q3,q4⟩
 have H:HinOK os fs h (toH (hf++hs)):=by
  refine⟨hlow,fun m b hb=>?_,fun k hk i hl=>?_⟩
  ·obtain⟨x,x',q1,q2,d,d',e1,e2,e3⟩:=hin_sgl m b hb
   exact Live.of_look (aI q2 (by rw[e2];rfl))
  ·obtain⟨x,q1,q2,q3,q4⟩:=hin_fam k hk
   unfold Live at hl⊢
   rw[az,q2] at hl
   rw[az,q1]
   exact hl
 have live_in:∀b,Live (toH (hf++hs)) b→(b.1∈fs∧∃x,look h b.1=some x∧look (hf++hs) b.1=some x∧b.2<x.blks.length)∨∃m c,b=(4+m,0)∧os[m]?=some c:=by
  intro b hb
  unfold Live at hb
  rw[az] at hb
  cases hl:look (hf++hs) b.1 with
  |none=>rw[hl] at hb;cases hb
  |some x=>
   rw[hl] at hb
   simp only[bl] at hb
   rcases hin_look _ _ hl with⟨g1,g2⟩|⟨m,c,e,g1,g2⟩
   ·obtain⟨_,q2,q3,q4⟩:=f1 _ _ g2
    refine .inl ⟨g1,x,q2,rfl,?_⟩
    rcases db b.2 x.blks.length with hlt|hge
    ·exact hlt
    ·rw[jC hge] at hb;cases hb
   ·obtain⟨y,y',q1,q2,d,d',e1,e2,_⟩:=hin_sgl m c g1
    rw[e,q2] at hl
    obtain rfl:=bm hl
    rw[e2] at hb
    refine .inr ⟨m,c,?_,g1⟩
    obtain⟨b1,b2⟩:=b
    simp only at e hb⊢
    cases b2 with
    |zero=>rw[e]
    |succ j=>simp at hb
 have hcov:∀k x,look hout k=some x→∀j,x.blks.length≤j→look (toH h) (gN os n k,j)=none:=by
  intro k x hx j hj
  rcases n5 os n k with⟨a1,a2⟩|⟨m,b,rfl,a1,a2⟩|⟨m,rfl,a1,a2⟩<;>rw[a2]
  ·rcases cov k x hx with⟨_,q⟩|⟨q,_⟩
   ·rw[az]
    cases hl:look h k with
    |none=>rfl
    |some y=>
     simp only[bl]
     rw[jC]
     have:=(q y hl).2
     rw[←kC,←kC] at this
     omega
   ·omega
  ·rcases cov _ x hx with⟨q,_⟩|⟨_,q⟩
   ·omega
   ·obtain⟨d,hd⟩:=VB.sgl_ok q
    rw[hd] at hj
    simp only[List.length_singleton] at hj
    obtain⟨y,y',q1,q2,e,e',e1,e2,_⟩:=hin_sgl m b a1
    rw[az,q1]
    simp only[bl,e1]
    rw[jC]
    simpa using hj
  ·exact hfr _ (by show n≤n+_;omega)
 have hW:∀b∈ws++ws',qh h os fs b:=fun b hb=>(cm.1 hb).elim (v2 b) (s3 b)
 have hkeys:=pZ hout
 have hnd:(hout.map (·.1)).Nodup:=by rw[fN];exact iT c3
 have hukeys:∀b,Live (toH hout) b→(gI (gN os n) b).1∈keysV u:=by
  intro b hb
  unfold Live at hb
  rw[az] at hb
  cases hl:look hout b.1 with
  |none=>rw[hl] at hb;cases hb
  |some x=>
   obtain⟨y,y1,_⟩:=((hr.look hg).1 b.1).2 x hl
   rw[←fN]
   exact aP.2 ⟨_,dg y1,rfl⟩
 have mk:∀(uu:HL) (W:List Id),EQ h (ws++ws') W→(∀b∈W,b.1∈ws++ws')→((noMem r.toD=true∧(∀p∈toH hout,noMemB p.2=true)∧uu=renH (gI (gN os n)) (toH hout))∨((∀b∈W,∀x,look (toH h) b=some x→x.mutable=true→(frzB (toH h) b).isSome=true)∧uu=frz (toH h) W++renH (gI (gN os n)) (toH hout)))→
   ∀f':List Nat,(∀k∈(ws++ws')++fs++keysV u,k∈f')→∃c:CallOK P f (toH h) n (aB vs) r'.toD uu f',∀b,Live c.hout b→(c.g b).1∈f':=by
  intro uu W hcW hWs hupd f' hf'
  refine⟨⟨gI (gN os n),W,fs,aB vs',toH (hf++hs),r.toD,toH hout,hcon,v1.1,?_,?_,hkeys,fun b b' _ _ he=>hgI b b' he,?_,?_,?_,⟨?_,?_,?_⟩,r1.symm,hupd⟩,?_⟩
  ·exact v1.2 _ H _ fun b hb=>hcW b (dL _ hb)
  ·intro b x' hx
   have hlv:Live (toH (hf++hs)) b:=Live.of_look hx
   rcases live_in b hlv with⟨g1,x,g2,g3,g4⟩|⟨m,c,rfl,g1⟩
   ·rw[az,g3] at hx
    refine⟨x',by simp only[gI,m5 os n (hlow _ g1)];rw[az,g2];exact hx,?_⟩
    obtain⟨y,y1,y2,y3,y4⟩:=hin_fam _ g1
    rw[g2] at y2
    obtain rfl:=bm y2
    exact B0 H y3 y4 x' (dm hx)
   ·obtain⟨y,y',q1,q2,d,d',e1,e2,e3⟩:=hin_sgl m c g1
    rw[az,q2] at hx
    simp only[bl,e2,fj,aK] at hx
    subst hx
    refine⟨d,?_,e3 _ H _ fun b hb=>hcW b (dB _ hb)⟩
    simp only[gI,d9,dh g1]
    exact aI q1 (by rw[e1];rfl)
  ·intro b hb
   rcases live_in b hb with⟨g1,x,g2,g3,g4⟩|⟨m,c,rfl,g1⟩
   ·have hl:=c4 _ g1
    rw[a8] at hl
    obtain⟨y,hy⟩:=mz.1 hl
    rcases cov _ _ hy with⟨_,q⟩|⟨q,_⟩
    ·have:=(q x g2).2
     rw[←kC,←kC] at this
     unfold Live
     rw[az,hy]
     simp only[bl]
     rw[aZ (by omega)]
     rfl
    ·have:=hlow _ g1;omega
   ·obtain⟨y,hy⟩:=xO c5 m (cq.1 g1).1
    rcases cov _ _ hy with⟨q,_⟩|⟨_,q⟩
    ·omega
    ·obtain⟨d,hd⟩:=VB.sgl_ok q
     exact Live.of_look (aI hy (by rw[hd];rfl))
  ·intro b hb hnb
   have hb':=hb
   unfold Live at hb
   rw[az] at hb
   cases hl:look hout b.1 with
   |none=>rw[hl] at hb;cases hb
   |some x=>
    rw[hl] at hb
    rcases n5 os n b.1 with⟨a1,a2⟩|⟨m,c,e,a1,a2⟩|⟨m,e,a1,a2⟩<;>simp only[gI]<;>rw[a2]
    ·cases hh:look h b.1 with
     |none=>rw[az,hh];rfl
     |some y=>
      rcases cov _ _ hl with⟨_,q⟩|⟨q,_⟩
      ·obtain⟨g1,_⟩:=q y hh
       obtain⟨z,z1,z2,_⟩:=hin_fam _ g1
       rw[hh] at z2
       obtain rfl:=bm z2
       unfold Live at hnb
       rw[az,z1] at hnb
       rw[az,hh]
       simpa using hnb
      ·omega
    ·exfalso
     rcases cov _ _ hl with⟨q,_⟩|⟨_,q⟩
     ·omega
     ·obtain⟨d,hd⟩:=VB.sgl_ok q
      simp only[bl,hd] at hb
      obtain⟨b1,b2⟩:=b
      simp only at e hb hnb
      cases b2 with
      |zero=>exact hnb (by rw[e];exact H.sgl m c a1)
      |succ j=>simp at hb
    ·exact hfr _ (by show n≤n+_;omega)
  ·intro b hb b' hb' he
   obtain⟨q1,q2⟩:=hW _ (hWs b hb)
   obtain⟨c,i⟩:=b
   rcases live_in b' hb' with⟨g1,x,g2,g3,g4⟩|⟨m,c',rfl,g1⟩
   ·simp only[gI,m5 os n (hlow _ g1),bg] at he
    obtain⟨y,y1,y2,y3,_⟩:=hin_fam _ g1
    rw[he.1] at y2
    rcases q2 with(⟨E,t,xs,_,hb⟩|⟨t,xs,hb⟩|⟨t,x,hb⟩)|⟨q2,_⟩
    ·rw[y2] at hb;cases hb;cases y3
    ·rw[y2] at hb;cases hb;cases y3
    ·rw[y2] at hb;cases hb;cases y3
    ·exact q2 (he.1▸g1)
   ·simp only[gI,d9,dh g1,bg] at he
    obtain⟨he,_⟩:=he
    subst he
    exact q1 (dm g1)
  ·exact fun b hb=>.inl (hf' _ (dB _ (hukeys b hb)))
  ·exact fun b hb=>hf' _ (dL _ (dL _ (hWs b hb)))
  ·exact fun k hk=>hf' _ (dL _ (dB _ hk))
  ·exact fun b hb=>hf' _ (dB _ (hukeys b hb))
 split at hk
 ·rename_i hm
  simp only[bT,x8,bc] at hm
  refine⟨r',_,u,_,mk _ (((toH h).map (·.1)).filter fun b=>decide (b.1∈ws++ws')) (fun b hb i hl=>?_) (fun b hb=>by simpa using(k9.1 hb).2) (.inl ⟨m9 r hm.1,fun p hp=>?_,rfl⟩),yp hg (fun _=>rfl) hr hnd hcov,hk⟩
  ·refine k9.2 ⟨?_,by simpa using hb⟩
   obtain⟨d,hd⟩:=mz.1 hl
   exact aP.2 ⟨_,dg hd,rfl⟩
  obtain⟨x,x1,x2⟩:=xX hp
  exact wL (hm.2 _ (dg x1)) _ x2
 ·obtain⟨hk,hnf⟩:=xk hk
  have hW1:∀b∈ws++ws',FE h b:=fun b hb=>(hW b hb).2.elim id fun q=>(hnf b hb q.2).elim
  obtain⟨w1,w2⟩:=BZ hW1
  refine⟨r',_,_,_,mk _ ((ws++ws').map fun b=>(b,0)) (fun b hb i hl=>?_) (fun b hb=>by obtain⟨c,hc,rfl⟩:=aP.1 hb;exact hc) (.inr ⟨w2,rfl⟩),?_,hk⟩
  ·have h0:i=0:=by
    unfold Live at hl
    cases i with
    |zero=>rfl
    |succ j=>
     rcases hW1 b hb with⟨E,t,xs,_,hx⟩|⟨t,xs,hx⟩|⟨t,x,hx⟩<;>rw[Bn hx rfl (j+1) (by simp)] at hl<;>cases hl
   subst h0
   exact aP.2 ⟨b,hb,rfl⟩
  have hcov':∀k x,look hout k=some x→∀j,x.blks.length≤j→look (toH (puts (vJ h (ws++ws')) h)) (gN os n k,j)=none:=by
   intro k x hx j hj
   have h1:=hcov k x hx j hj
   rw[←w1.1,cY]
   split
   ·rename_i y hy
    exfalso
    split at hy
    ·obtain⟨⟨z,z1,_⟩,_⟩:=jS hy
     rw[h1] at z1;cases z1
    ·cases hy
   ·exact h1
  obtain⟨q1,q2⟩:=yp hg w1.1 hr hnd hcov'
  refine⟨fun b=>?_,fun x hx=>?_⟩
  ·rw[bF,bF];exact q1 b
  ·rw[jB]
   rcases cm.1 hx with hx|hx
   ·exact dL _ (w1.2 x hx)
   ·exact dB _ (q2 x hx)
end Go.Proofs.Ytbmnihglaokhmaa.Am
namespace Go.Proofs.Ytbmnihglaokhmaa.Am
open Go Go.RowKit Go.Conc
variable {P:Program} {N:Nat} {Θ:TT} {t:VT} {h:VH} {n:Nat}
mutual
theorem sC (g:HL):∀(d:D),∀b∈aA (fwd g d),b∈aA d∨∃c∈aA d,look g c=some (.moved b)
 | .ref c,b,hb=>by
  simp only[fwd] at hb
  split at hb
  ·rename_i c' hc
   simp only[aA,bd] at hb
   subst hb
   exact .inr ⟨c,by simp[aA],hc⟩
  ·cases hb
  ·exact .inl hb
 | .ptr c o,b,hb=>by
  simp only[fwd] at hb
  split at hb
  ·rename_i c' hc
   simp only[aA,bd] at hb
   subst hb
   exact .inr ⟨c,by simp[aA],hc⟩
  ·split at hb<;>cases hb
  ·exact .inl hb
 | .eptr c i o,b,hb=>by
  simp only[fwd] at hb
  split at hb
  ·rename_i c' hc
   simp only[aA,bd] at hb
   subst hb
   exact .inr ⟨c,by simp[aA],hc⟩
  ·exact .inl hb
 | .vref c o q,b,hb=>by
  simp only[fwd] at hb
  split at hb
  ·rename_i c' hc
   simp only[aA,bd] at hb
   subst hb
   exact .inr ⟨c,by simp[aA],hc⟩
  ·exact .inl hb
 | .mp c,b,hb=>by
  simp only[fwd] at hb
  split at hb
  ·rename_i c' hc
   simp only[aA,bd] at hb
   subst hb
   exact .inr ⟨c,by simp[aA],hc⟩
  ·exact .inl hb
 | .ifc T d,b,hb=>by
  simp only[fwd,aA] at hb
  rcases sC g d b hb with h1|⟨c,h1,h2⟩
  ·exact .inl (by simpa only[aA] using h1)
  ·exact .inr ⟨c,by simpa only[aA] using h1,h2⟩
 | .clo f cs,b,hb=>by
  simp only[fwd,aA] at hb
  rcases lG g cs b hb with h1|⟨c,h1,h2⟩
  ·exact .inl (by simpa only[aA] using h1)
  ·exact .inr ⟨c,by simpa only[aA] using h1,h2⟩
 | .agg cs,b,hb=>by
  simp only[fwd,aA] at hb
  rcases lG g cs b hb with h1|⟨c,h1,h2⟩
  ·exact .inl (by simpa only[aA] using h1)
  ·exact .inr ⟨c,by simpa only[aA] using h1,h2⟩
 | .tup cs,b,hb=>by
  simp only[fwd,aA] at hb
  rcases lG g cs b hb with h1|⟨c,h1,h2⟩
  ·exact .inl (by simpa only[aA] using h1)
  ·exact .inr ⟨c,by simpa only[aA] using h1,h2⟩
 | .int ..,b,hb| .bool _,b,hb| .str _,b,hb| .lst _,b,hb| .box _,b,hb| .nilp,b,hb| .nils,b,hb| .nilf,b,hb| .nilm,b,hb| .val _,b,hb| .nili,b,hb| .gp _,b,hb| .gv _,b,hb| .iptr ..,b,hb| .undef,b,hb| .junk,b,hb=>by simp[fwd,aA] at hb
theorem lG (g:HL):∀(l:List D),∀b∈bD (jf g l),b∈bD l∨∃c∈bD l,look g c=some (.moved b)
 |[],b,hb=>by simp[jf,bD] at hb
 |d::l,b,hb=>by
  simp only[jf,bD,cm] at hb⊢
  rcases hb with hb|hb
  ·rcases sC g d b hb with h1|⟨c,h1,h2⟩
   ·exact .inl (.inl h1)
   ·exact .inr ⟨c,.inl h1,h2⟩
  ·rcases lG g l b hb with h1|⟨c,h1,h2⟩
   ·exact .inl (.inr h1)
   ·exact .inr ⟨c,.inr h1,h2⟩
end
def Ba (h:VH):List Nat→List Nat
 |[]=>[]
 |b::l=>match a7 h b with
  |some (.moved k _)=>k::Ba h l
  |_=>Ba h l
theorem xZ:∀{l:List Nat} {b k i:Nat},b∈l→look h b=some (.moved k i)→k∈Ba h l
 |c::l,b,k,i,hb,hl=>by
  simp only[Ba]
  rcases a9.1 hb with rfl|hb
  ·rw[a8,hl];simp
  ·have:=xZ hb hl
   split
   ·exact bi _ this
   ·exact this
theorem Bb {c b:Id}(hc:look (toH h) c=some (.moved b)):look h c.1=some (.moved b.1 b.2):=by
 rw[az] at hc
 obtain⟨x,h1,h2⟩:=br.1 hc
 rw[h1]
 have hm:=dm h2
 cases x<;>simp only[VB.blks,bd,aP,fP,wG,reduceCtorEq,and_false,exists_false,Blk.moved.injEq] at hm
 case frowx=>
  obtain⟨y,_,e⟩:=hm
  cases y<;>cases e
 rw[hm]
def rA (t:VT)(h:VH)(x:Operand):List Nat:=match x with
 | .tmp k=>(match a7 t k with|some v=>fg v++Ba h (fg v)|none=>[])
 |_=>[]
def dj (t:VT)(h:VH):List Operand→List Nat
 |[]=>[]
 |x::l=>rA t h x++dj t h l
theorem wN {v:Value}{d:D}(h:ib v=some d)(g:HL):aA d=[]∧aA (fwd g d)=[]:=by
 unfold ib at h
 split at h<;>first|(simp only[aK] at h;subst h;exact⟨by simp[aA],by simp[fwd,aA]⟩)|cases h
theorem j9 (x:Operand):∀k∈jH (toT t) (toH h) x,k∈rA t h x:=by
 intro k hk
 unfold jH at hk
 cases x with
 |tmp j=>
  simp only[aW,cA] at hk
  simp only[rA,a8]
  cases hl:look t j with
  |none=>rw[hl] at hk;cases hk
  |some v=>
   rw[hl] at hk
   simp only[aM] at hk
   rcases cm.1 hk with hk|hk
   ·obtain⟨b,hb,rfl⟩:=aP.1 hk
    exact dL _ (iQ v b hb)
   ·obtain⟨b,hb,rfl⟩:=aP.1 hk
    rcases sC _ _ b hb with h1|⟨c,h1,h2⟩
    ·exact dL _ (iQ v b h1)
    ·exact dB _ (xZ (iQ v c h1) (Bb h2))
 |const v=>
  simp only[aW] at hk
  cases hv:ib v with
  |none=>rw[hv] at hk;cases hk
  |some d=>
   rw[hv] at hk
   obtain⟨e1,e2⟩:=wN hv (toH h)
   simp[e1,e2,kV] at hk
 |global g=>
  simp only[aW] at hk
  by_cases hg:(look Gl g).isSome=true
  ·rw[if_pos hg] at hk
   simp[aA,fwd,kV] at hk
  ·rw[if_neg hg] at hk
   simp at hk
 |_=>simp[aW] at hk
theorem pR:∀(l:List Operand),∀k∈rz (toT t) (toH h) l,k∈dj t h l
 |[],k,hk=>by cases hk
 |x::l,k,hk=>by
  simp only[rz,ja,cm] at hk
  simp only[dj,cm]
  rcases hk with hk|hk
  ·exact .inl (j9 x k hk)
  ·exact .inr (pR l k hk)
def nR (t:VT)(h:VH)(op:Op):List Nat:=match iS op with|true=>dj t h op.operands.toList|false=>[]
theorem yi (op:Op):∀k∈vH (toT t) (toH h) op,k∈nR t h op:=by
 intro k hk
 unfold vH at hk
 unfold nR
 cases hl:iS op with
 |false=>rw[hl] at hk;cases hk
 |true=>rw[hl] at hk;exact pR _ k hk
def StepOK (P:Program)[PhC P](N:Nat)(o:Oper)(t:VT)(h:VH)(r:V)(vu:VH)(gl:List Nat):Prop:=∃u,cM h u vu∧∀f:List Nat,(∀k∈gl,k∈f)→OpS P N o (toT t) (toH h) r.toD u f
theorem Au (g:HL):∃n:Nat,look g (n,0)=none:=by
 have key:∀(l:HL),∃m,∀p∈l,p.1.1<m:=by
  intro l
  induction l with
  |nil=>exact⟨0,by simp⟩
  |cons p l ih=>
   obtain⟨m,hm⟩:=ih
   refine⟨max m (p.1.1+1),fun q hq=>?_⟩
   rcases a9.1 hq with rfl|hq
   ·omega
   ·have:=hm q hq;omega
 obtain⟨m,hm⟩:=key g
 refine⟨m,?_⟩
 cases hl:look g (m,0) with
 |none=>rfl
 |some x=>have:=hm _ (dg hl);simp only at this;omega
theorem uE [PhC P]{t:List (Nat×D)}{h:HL}{m:Bool}{o:Oper}{d:D}{u:HL}{f:List Nat}(hd:∀n,cS P m o.op t h n=some (d,u))(hf:∀k∈vH t h o.op,k∈f):OpS P N o t h d u f:=by
 refine⟨1,fun t' h' ht ha main dfs γ ρ a w s=>?_⟩
 obtain⟨n,hn⟩:=Au h'
 have hd':cS P m o.op t' h' n=some (d,u):=by
  rw[←Dk (t:=t') (h:=h) (fs:=f) ?_ ha,←Dm ht]
  ·exact hd n
  ·have:vH t' h o.op=vH t h o.op:=by
    unfold vH
    cases hl:iS o.op with
    |false=>rfl
    |true=>
     simp only[cond_true,rz]
     have hx:∀x∈o.op.operands.toList,jH t' h x=jH t h x:=fun x hx=>by unfold jH;rw[ht x (km.1 hx)]
     generalize o.op.operands.toList=l at hx
     induction l with
     |nil=>rfl
     |cons x l ih=>rw[ja,ja,hx x (bf ..),ih fun y hy=>hx y (bi _ hy)]
   rw[this]
   exact hf
 exact rq (fun w0 S A ρ a w s=>s.op (m:=m) (n:=n) hd' hn) (fun w0 S A ρ a w s=>uP s hd') s
theorem step0 [PhC P]{m:Bool}{o:Oper}{r:V}{u:HL}{vu:VH}(hd:∀n,cS P m o.op (toT t) (toH h) n=some (r.toD,u))(hu:cM h u vu):StepOK P N o t h r vu (nR t h o.op):=
 ⟨u,hu,fun f hf=>uE hd fun k hk=>hf k (yi _ k hk)⟩
theorem DE [PhC P]{m:Bool}{o:Oper}{r:V}{u:HL}{vu:VH}(hn:∀c:Id,n≤c.1→look (toH h) c=none)(hd:cS P m o.op (toT t) (toH h) n=some (r.toD,u))(hu:cM h u vu):StepOK P N o t h r vu (n::nR t h o.op):=
 ⟨u,hu,fun f hf=>CP (hn (n,0) (aN _)) hd (fun k hk=>hf k (bi _ (yi _ k hk))) (hf n (bf ..))⟩
theorem vp [PhC P]{o:Oper}{r:V}{u1:HL}{v1 v2:VH}{g1 g2:List Nat}(hp:∀f:List Nat,(∀k∈g1,k∈f)→eB P N h u1 v1 f)(hs:StepOK P N o t (puts v1 h) r v2 g2):StepOK P N o t h r (v1++v2) (g1++g2):=by
 obtain⟨u,h1,h2⟩:=hs
 have p0:=hp g1 fun k hk=>hk
 refine⟨u1++u,ov p0.1 h1,fun f hf=>(hp f fun k hk=>hf k (dL _ hk)).2 _ _ _ _ (nc (fun b=>(p0.1.1 b).symm) (h2 f fun k hk=>hf k (dB _ hk)))⟩
theorem fE [PhC P]{o:Oper}{r:V}{vu:VH}{g g':List Nat}(hs:StepOK P N o t h r vu g)(hg:∀k∈g,k∈g'):StepOK P N o t h r vu g':=by
 obtain⟨u,h1,h2⟩:=hs
 exact⟨u,h1,fun f hf=>h2 f fun k hk=>hf k (hg k hk)⟩
theorem rC [PhC P]{o:Oper}{f:FuncId}{vs:List V}{os fs:List Nat}{K:V→VH→List Nat→Prop}(hn:∀c:Id,n≤c.1→look (toH h) c=none)(hc:oK P (toT t) (toH h) o f (aB vs))(hk:nx P h n f vs os fs K):
  ∃r vu gl,StepOK P N o t h r vu (dj t h o.op.operands.toList++gl)∧K r vu gl:=by
 obtain⟨r,u,vu,gl,h1,h2,h3⟩:=z0 hn hk
 refine⟨r,vu,gl,⟨u,h2,fun f' hf'=>?_⟩,h3⟩
 obtain⟨c,hc'⟩:=h1 f' fun k hk=>hf' k (dB _ hk)
 exact Bp hn hc c (fun k hk=>hf' k (dL _ (pR _ k hk))) hc'
end Go.Proofs.Ytbmnihglaokhmaa.Am
namespace Go.Proofs.Ytbmnihglaokhmaa.Am
open Go Go.RowKit
variable {P:Program} {N:Nat} {Θ:TT} {t:VT} {h:VH} {n:Nat}
mutual
def Fa (own:Bool)(h:VH):V→List Nat
 | .ref b=>(match a7 h b with
  |some (.row _ t _)=>bif own|| !t.pure then[b] else[]
  |some (.lit ..)=>[b]
  |_=>[])
 | .ptr b _=>(match a7 h b with
  |some (.fvb ..)=>[]
  |_=>[b])
 | .agg cs=>lI own h cs
 | .tup cs=>lI own h cs
 | .clo _ cs=>lI own h cs
 | .ifc _ v=>Fa own h v
 |v=>AH v
def lI (own:Bool)(h:VH):List V→List Nat
 |[]=>[]
 |v::l=>Fa own h v++lI own h l
end
def F6 (own:Bool)(h:VH):VB→List Nat
 | .var _ cs=>lI own h cs
 | .vari _ pre _ t _ post=>lI own h pre++t.fams++lI own h post
 | .lit _ vs=>lI own h vs
 |x=>x.fams
def DM (l:List Nat)(b:Nat):List Nat:=match l.contains b with|true=>l|false=>l++[b]
def fe:List Nat→List Nat→List Nat
 |l,[]=>l
 |l,b::bs=>fe (DM l b) bs
def n7 (own:Bool)(h:VH):Nat→Nat→List Nat→(List Nat→Prop)→Prop
 |0,_,l,K=>K l
 |k+1,i,l,K=>match l[i]? with
  |none=>K l
  |some b=>eU (fe l (match a7 h b with|some x=>F6 own h x|none=>[])) fun l=>n7 own h k (i+1) l K
theorem pd {own:Bool}:∀{k i:Nat} {l:List Nat} {K:List Nat→Prop},n7 own h k i l K→∃l,K l
 |0,_,l,_,hk=>⟨l,hk⟩
 |k+1,i,l,K,hk=>by
  simp only[n7] at hk
  split at hk
  ·exact⟨_,hk⟩
  ·have hk:=ck hk
   exact pd hk
def AJ (own:Bool)(h:VH)(vs:List V)(K:List Nat→List Nat→Prop):Prop:=
 eU (fe [] (lI own h vs)) fun l=>n7 own h 60 0 l fun l=>eU (l.filter fun b=>Nat.ble 4 b) fun os=>eU (l.filter fun b=>Nat.blt b 4) fun fs=>K os fs
theorem oa {own:Bool}{vs:List V}{K:List Nat→List Nat→Prop}(hk:AJ own h vs K):∃os fs,K os fs:=by
 have hk:=ck hk
 obtain⟨l,hk⟩:=pd hk
 have hk:=ck hk
 have hk:=ck hk
 exact⟨_,_,hk⟩
def cL (P:Program)[PhC P](h:VH)(n:Nat)(f:FuncId)(vs:List V)(K:V→VH→List Nat→Prop):Prop:=∃os fs,nx P h n f vs os fs K
theorem gB [PhC P]{f:FuncId}{vs:List V}{K:V→VH→List Nat→Prop}(hk:AJ false h vs fun os fs=>nx P h n f vs os fs K):cL P h n f vs K:=oa hk
theorem DV [PhC P]{f:FuncId}{vs:List V}{K:V→VH→List Nat→Prop}(hk:AJ true h vs fun os fs=>nx P h n f vs os fs K):cL P h n f vs K:=oa hk
def Fs (h:VH)(k:Nat):Bool:=match a7 h k with
 |some (.frow _ t _)=>t.pure
 |some (.frowx _ t _)=>t.pure
 |_=>false
theorem FP [PhC P]{f:FuncId}{vs:List V}{K:V→VH→List Nat→Prop}(hk:AJ false h vs fun os fs=>eU (fs.filter fun k=>!Fs h k) fun fs=>nx P h n f vs os fs K):cL P h n f vs K:=by
 obtain⟨os,fs,hk⟩:=oa hk
 exact⟨_,_,ck hk⟩
theorem FO [PhC P]{f:FuncId}{vs:List V}{K:V→VH→List Nat→Prop}(hk:nx P h n f vs [] [] K):cL P h n f vs K:=⟨_,_,hk⟩
theorem FQ [PhC P](ex:List Nat){f:FuncId}{vs:List V}{K:V→VH→List Nat→Prop}(hk:AJ true h vs fun os fs=>eU (fe ex fs) fun fs=>nx P h n f vs os fs K):cL P h n f vs K:=by
 obtain⟨os,fs,hk⟩:=oa hk
 exact⟨_,_,ck hk⟩
def mT (Θ:TT)(b:Builtin)(vs:List V)(Ts:List TypeId)(h:VH)(K:V→VH→Prop):Prop:=
 match b,vs,Ts with
 | .len,[v],[T]=>bL Θ T fun ti=>Em ti h v fun r=>K r []
 | .copy,[d,e],[T,_]=>bL Θ T fun ti=>Aa Θ ti h d e K
 | .min,[.int k x,.int k' y],_=>Chk (decide (k=k')) (K (.int k (if y<x then y else x)) [])
 | .max,[.int k x,.int k' y],_=>Chk (decide (k=k')) (K (.int k (if x<y then y else x)) [])
 |_,_,_=>False
theorem rT (hΘ:Θ.ok P){b:Builtin}{vs:List V}{Ts:List TypeId}{m:Bool}{K:V→VH→Prop}(hk:mT Θ b vs Ts h K):∃r u vu,(∀n,dr P m b (aB vs) Ts (toH h) n=some (r.toD,u))∧cM h u vu∧K r vu:=by
 unfold mT at hk
 split at hk
 ·obtain⟨ti,l1,hk⟩:=aQ hk
  obtain⟨r,h1,h2⟩:=CG (hΘ _ _ l1) hk
  exact⟨r,[],[],fun n=>by simp only[dr,aB,h1,aM],ba,h2⟩
 ·obtain⟨ti,l1,hk⟩:=aQ hk
  obtain⟨r,u,vu,h1,h2,h3⟩:=Ab hΘ (hΘ _ _ l1) hk
  exact⟨r,u,vu,fun n=>by simp only[dr,aB,h1],h2,h3⟩
 ·obtain⟨c,hk⟩:=hk.ok
  simp only[decide_eq_true_eq] at c
  exact⟨_,[],[],fun n=>by simp only[dr,aB,V.toD,if_pos c],ba,hk⟩
 ·obtain⟨c,hk⟩:=hk.ok
  simp only[decide_eq_true_eq] at c
  exact⟨_,[],[],fun n=>by simp only[dr,aB,V.toD,if_pos c],ba,hk⟩
 ·exact hk.elim
def Ar (h:VH)(τ:Ty):List V→(VH→VH→List Nat→Prop)→Prop
 |[],K=>K h [] []
 |v::l,K=>xJ h τ.shs v.cells fun h1 vu g=>Ar h1 τ l fun h2 vu2 g2=>K h2 (vu++vu2) (g++g2)
theorem tZ [PhC P]{τ:Ty}:∀{l:List V} {h:VH} {K:VH→VH→List Nat→Prop},Ar h τ l K→∃u vu g,(∀f:List Nat,(∀k∈g,k∈f)→eB P N h u vu f)∧K (puts vu h) vu g
 |[],h,K,hk=>⟨[],[],[],fun f _=>eW,hk⟩
 |v::l,h,K,hk=>by
  obtain⟨u1,v1,g1,p1,hk⟩:=oY (P:=P) (N:=N) hk
  obtain⟨u2,v2,g2,p2,hk⟩:=tZ hk
  refine⟨u1++u2,v1++v2,g1++g2,fun f hf=>jm (p1 f fun k hk=>hf k (dL _ hk)) (p2 f fun k hk=>hf k (dB _ hk)),?_⟩
  rw[bF]
  exact hk
def Ad (t:Ty):List V→Option (List t.den)
 |[]=>some []
 |v::l=>match ES t (qm.nzL v),Ad t l with
  |some x,some xs=>some (x::xs)
  |_,_=>none
theorem xy {t:Ty}:∀{l:List V} {xs:List t.den},Ad t l=some xs→(aB l).map nzE=xs.map (aj t)
 |[],xs,h=>by simp only[Ad,aK] at h;subst h;rfl
 |v::l,xs,h=>by
  simp only[Ad] at h
  split at h
  ·rename_i x xs' h1 h2
   simp only[aK] at h
   subst h
   simp only[aB,bI,xy h2]
   rw[←rZ h1,sK]
  ·cases h
def xd (h:VH)(b:Nat)(τ:Ty)(K:VH→VH→List Nat→Prop):Prop:=
 match a7 h b with
 |some (.lit _ vs)=>Ar h τ vs fun h1 vu g=>(match a7 h1 b with
  |some (.lit E vs')=>k6 h1 vs' fun vs2=>(match Ad τ vs2 with
   |some xs=>zr b (VB.row E τ xs) h1 fun h2=>K h2 (vu++[(b,.row E τ xs)]) (g++b::eN vs')
   |none=>False)
  |_=>False)
 |_=>K h [] []
theorem zI [PhC P]{b:Nat}{τ:Ty}{K:VH→VH→List Nat→Prop}(hk:xd h b τ K):∃u vu g,(∀f:List Nat,(∀k∈g,k∈f)→eB P N h u vu f)∧K (puts vu h) vu g:=by
 unfold xd at hk
 split at hk
 ·obtain⟨u1,v1,g1,p1,hk⟩:=tZ (P:=P) (N:=N) hk
  split at hk
  ·rename_i E vs' hb
   rw[a8] at hb
   obtain⟨vs2,f1,hk⟩:=gE hk
   split at hk
   ·rename_i xs hx
    have hk:=ol hk
    have hlast:dt (toH (puts v1 h)) (.row E (aB vs'))= .row E (xs.map (aj τ)):=by
     simp only[dt]
     rw[←xy hx,←f1,d8,eI]
     rfl
    refine⟨u1++[((b,0),dt (toH (puts v1 h)) (.row E (aB vs')))],v1++[(b,.row E τ xs)],g1++b::eN vs',fun f hf=>jm (p1 f fun k hk=>hf k (dL _ hk)) (uT (y:=.row E τ xs) hb rfl (by rw[hlast];rfl) ⟨hf b (by simp),fun c hc=>hf c.1 ?_⟩),?_⟩
    ·refine dB _ (bi _ (dx vs' c ?_))
     rw[fq]
     exact hc
    ·rw[bF];exact hk
   ·exact hk.elim
  ·exact hk.elim
 ·exact⟨[],[],[],fun f _=>eW,hk⟩
def AT (h:VH)(d:V)(o:Option Ty)(K:Ty→Prop):Prop:=
 match d with
 | .ref b=>dD h b fun x=>(match x with
  | .row _ t _=>K t
  |_=>False)
 |_=>(match o with|some t=>K t|none=>False)
theorem AU {d:V}{o:Option Ty}{K:Ty→Prop}(hk:AT h d o K):∃t,K t:=by
 unfold AT at hk
 split at hk
 ·obtain⟨x,_,hk⟩:=bk hk
  split at hk
  ·exact⟨_,hk⟩
  ·exact hk.elim
 ·split at hk
  ·exact⟨_,hk⟩
  ·exact hk.elim
def Ga (h:VH)(e:V):Option Nat:=match e with
 | .ref b=>(match a7 h b with|some (.lit ..)=>some b|_=>none)
 |_=>none
def ow (s:Nat)(v:V):Bool:=v.whole && pu v.cells s && v.cells.all V.one
def ET:List (Nat×V)→List V
 |[]=>[]
 |(_,v)::l=>qm.nzL v::ET l
theorem Be:∀l:List (Nat×V),((vI l).map fun x=>nzE x.2)=aB (ET l)
 |[]=>rfl
 |(k,v)::l=>by
  have:=Be l
  simp only[vI,bI,eI] at this⊢
  simp only[ET,aB,sK]
  rw[←this]
def xU:List (Nat×V)→Nat→Bool
 |[],0=>true
 |_::l,n+1=>xU l n
 |_,_=>false
theorem uq:∀{l:List (Nat×V)} {n:Nat},xU l n=true→l.length=n
 |[],0,_=>rfl
 |_::l,n+1,h=>by simp[uq (l:=l) (n:=n) h]
 |[],_+1,h=>by cases h
 |_::_,0,h=>by cases h
def rS (ei:TI)(E:TypeId)(vs:List (Nat×V))(n:Nat)(K:V→VH→Prop):Prop:=
 match ei.ty with
 |some τ=>(match qm τ vs with
  |some xs=>Chk (τ.sz==ei.sz) (K (.ref n) [(n,.row E τ xs)])
  |none=>Chk (vs.all fun p=>ow ei.sz p.2) (K (.ref n) [(n,.lit E (ET vs))]))
 |none=>Chk (vs.all fun p=>ow ei.sz p.2) (K (.ref n) [(n,.lit E (ET vs))])
theorem Ai (t:Ty)(x:t.den):EV t.sz (aj t x)=true:=by
 have h1:=d6 t x
 have hw:(aj t x).whole=true:=by
  cases t<;>first|rfl|(cases x<;>rfl)
 simp only[EV,hw,h1.1,h1.2,beq_self_eq_true,Bool.and_self]
theorem wc {T E:TypeId}{ei:TI}{len:Nat}{vs:List (Nat×V)}{K:V→VH→Prop}(hu:P.underlying T=some (.slice E))(he:elemT P E=some (ei.sz,ei.nb))(hkeys:uk vs 0=true)(hlen:xU vs len=true)(hb:len*ei.sz≤16777216)
  (hn:∀c:Id,n≤c.1→look (toH h) c=none) (hk:rS ei E vs n K):∃r u vu,dE P (n,0) T len ((vI vs).map fun x=>(x.1,nzE x.2))=some (V.toD r,u)∧cM h u vu∧K r vu:=by
 have hmap1:((vI vs).map fun x=>(x.1,nzE x.2)).map (·.1)=List.range' 0 len:=by
  rw[eI]
  have:=ul hkeys
  rw[uq hlen] at this
  exact this
 have hmap2:((vI vs).map fun x=>(x.1,nzE x.2)).map (·.2)=(vI vs).map fun x=>nzE x.2:=by
  rw[eI];rfl
 have lit:(vs.all fun p=>ow ei.sz p.2)=true→dE P (n,0) T len ((vI vs).map fun x=>(x.1,nzE x.2))=some ((V.ref n).toD,[((n,0),.row E (aB (ET vs)))]):=by
  intro hw
  unfold dE
  simp only[hu,he]
  rw[if_pos,hmap2,Be]
  ·rfl
  ·refine⟨hmap1,hb,?_⟩
   rw[hmap2,bc]
   intro e hx
   obtain⟨p,hp,rfl⟩:=aP.1 hx
   obtain⟨q,hq,rfl⟩:=aP.1 hp
   rw[bc] at hw
   have:=hw q hq
   simp only[ow,bT] at this
   obtain⟨⟨w1,w2⟩,w3⟩:=this
   simp only[EV,bT,beq_iff_eq]
   refine⟨by rw[rp,fF];exact w1,?_,Bg w3⟩
   rw[nA,aR,uB,gF w2]
 unfold rS at hk
 split at hk
 ·rename_i τ hτ
  split at hk
  ·rename_i xs hx
   obtain⟨c,hk⟩:=hk.ok
   simp only[beq_iff_eq] at c
   have hd:=xz hx
   refine⟨.ref n,[((n,0),.row E (xs.map (aj τ)))],_,?_,fJ hn rfl,hk⟩
   unfold dE
   simp only[hu,he]
   rw[if_pos,hmap2,hd]
   ·rfl
   ·refine⟨hmap1,hb,?_⟩
    rw[hmap2,hd,bc]
    intro e hx
    obtain⟨x,_,rfl⟩:=aP.1 hx
    rw[←c]
    exact Ai τ x
  ·obtain⟨c,hk⟩:=hk.ok
   exact⟨_,_,_,lit c,fJ hn rfl,hk⟩
 ·obtain⟨c,hk⟩:=hk.ok
  exact⟨_,_,_,lit c,fJ hn rfl,hk⟩
def BN (k:TK):Bool:=match k with| .ifc| .func=>false|_=>true
theorem vj {T:TypeId}{k:TK}(h:k.ok P T)(hs:BN k=true):yv P T=true:=by
 unfold yv
 cases k with
 |struct fs=>
  have:=h.2
  unfold jl at this
  cases hu:P.underlying T with
  |none=>rw[hu] at this;simp at this
  |some d=>
   rw[hu] at this
   cases d<;>first|rfl|(simp at this)
 |ifc=>cases hs
 |func=>cases hs
 |int k=>rw[show P.underlying T=some (.int k) from h]
 |bool=>rw[show P.underlying T=some .bool from h]
 |str=>rw[show P.underlying T=some .string from h]
 |slice E=>rw[show P.underlying T=some (.slice E) from h]
 |ptr E=>rw[show P.underlying T=some (.pointer E) from h]
 |arr m E=>rw[show P.underlying T=some (.array m E) from h]
 |map k E=>rw[show P.underlying T=some (.map k E) from h]
def xq (T:TypeId)(ti:TI)(ok:Bool)(v:V)(K:V→Prop):Prop:=
 Chk (BN ti.k) (match v with
  | .ifc T' e=>(match Nat.beq T' T with
   |true=>(match ok with|true=>K (.tup [e,.tt])|false=>K e)
   |false=>Chk ok (match ti.z with|some z=>K (.tup [z,.ff])|none=>False))
  | .nili=>Chk ok (match ti.z with|some z=>K (.tup [z,.ff])|none=>False)
  |_=>False)
theorem vS {T:TypeId}{ti:TI}(ht:ti.ok P T){ok:Bool}{v:V}{K:V→Prop}(hk:xq T ti ok v K):∃r,lz P T ok v.toD=some (V.toD r)∧K r:=by
 obtain⟨c,hk⟩:=Chk.ok hk
 have hi:=vj ht.und c
 unfold lz
 rw[if_pos hi]
 split at hk
 ·rename_i T' e
  simp only[V.toD]
  split at hk
  ·rename_i hb
   rw[if_pos (b8 hb)]
   cases ok with
   |true=>exact⟨_,by simp[V.toD,aB],hk⟩
   |false=>exact⟨_,by simp,hk⟩
  ·rename_i hb
   obtain⟨c2,hk⟩:=hk.ok
   rw[if_neg (by rintro rfl;simp at hb)]
   split at hk
   ·rename_i z hz
    refine⟨_,?_,hk⟩
    rw[if_pos c2,ht.zero z hz]
    simp[V.toD,aB]
   ·exact hk.elim
 ·obtain⟨c2,hk⟩:=hk.ok
  split at hk
  ·rename_i z hz
   refine⟨_,?_,hk⟩
   simp only[V.toD]
   rw[if_pos c2,ht.zero z hz]
   simp[V.toD,aB]
  ·exact hk.elim
 ·exact hk.elim
theorem zS {q:Bool}(hq:q=false){T:TypeId}{H:HL}{m m':Id}{d:D}{lo hi:Option D}:eK P H q m T d lo hi=eK P H q m' T d lo hi:=by
 subst hq
 unfold eK
 simp only[e9,if_false]
end Go.Proofs.Ytbmnihglaokhmaa.Am
namespace Go.Proofs.Ytbmnihglaokhmaa.Am
open Go Go.RowKit
variable {P:Program} {N:Nat} {Θ:TT} {t:VT} {h:VH} {n:Nat}
def GE (τ:Ty)(z:V)(K:τ.den→Prop):Prop:=tL τ (qm.nzL z) K
theorem Eq {τ:Ty}{z:V}{K:τ.den→Prop}(h:GE τ z K):∃x,nzE z.toD=aj τ x∧K x:=by
 obtain⟨x,h1,h2⟩:=ky h
 exact⟨x,by rw[←sK];exact h1,h2⟩
def Do (P:Program)[PhC P](h:VH)(n:Nat)(f:FuncId)(vs:List V)(vH:List Nat)(K:V→VH→List Nat→Prop):Prop:=cL P h n f vs fun r vu gl=>K r vu (vH++gl)
def EY (P:Program)(T:TypeId)(m:String)(K:FuncId→Bool→Prop):Prop:=∃f b,xY P T m=some (f,b)∧K f b
theorem Fk {P:Program}{T:TypeId}{m:String}{K:FuncId→Bool→Prop}{f:FuncId}{b:Bool}(h:xY P T m=some (f,b))(k:K f b):EY P T m K:=⟨f,b,h,k⟩
def Ey (v:V)(K:V→Prop):Prop:=
 match v with
 | .ptr b o=>K (.ptr b o)
 | .eptr b i o=>K (.eptr b i o)
 | .aptr b p i=>K (.aptr b p i)
 | .iptr t x o=>K (.iptr t x o)
 | .box t x=>K (.box t x)
 | .fptr k i o=>K (.fptr k i o)
 | .feptr k i j o=>K (.feptr k i j o)
 | .faptr k i p j=>K (.faptr k i p j)
 | .hpo k o=>jb o False fun i=>K (.fptr k i 0)
 | .obo t o=>jb o False fun x=>K (.box t x)
 |_=>False
theorem CW {v:V}{K:V→Prop}(hk:Ey v K):∃r:V,dS v.toD=true∧r.toD=v.toD∧K r:=by
 unfold Ey at hk
 split at hk<;>try exact⟨_,rfl,rfl,hk⟩
 ·rename_i k o
  cases o with
  |none=>exact(hk.1 rfl).elim
  |some i=>exact⟨.fptr k i 0,rfl,rfl,hk.2 i rfl⟩
 ·rename_i t o
  cases o with
  |none=>exact(hk.1 rfl).elim
  |some x=>exact⟨.box t x,rfl,rfl,hk.2 x rfl⟩
 ·exact hk.elim
def y8 (n:Nat):VH→Bool
 |[]=>true
 |(x,_)::u=>Nat.blt x n && y8 n u
theorem sJ:∀{u:VH},y8 n u=true→∀k∈u.map (·.1),k<n
 |[],_,k,hk=>by cases hk
 |(a,b)::u,h,k,hk=>by
  simp only[y8,bT] at h
  rcases a9.1 hk with rfl|hk
  ·simpa[Nat.blt_eq] using h.1
  ·exact sJ h.2 k hk
theorem qU {u:HL}{vu:VH}(hn:∀c:Id,n≤c.1→look (toH h) c=none)(hu:cM h u vu)(hl:y8 n vu=true):∀c:Id,n≤c.1→look (toH (puts vu h)) c=none:=by
 intro c hc
 rw[←hu.1,aS _ _ _ fun x hx e=>?_]
 ·exact hn c hc
 ·have:=sJ hl _ (hu.2 x hx)
  rw[e] at this
  omega
def xR (h:VH)(k i:Nat)(K:List (Int×Int)→Prop):Prop:=dD h k fun y=>(match y with
 | .map l=>Chk (Nat.beq i 0) (K l)
 | .maps ls=>fl ls i K
 |_=>False)
theorem pk {h:VH}{k i:Nat}{K:List (Int×Int)→Prop}(hk:xR h k i K):∃l,look (toH h) (k,i)=some (fP l)∧K l:=by
 obtain⟨y,h1,hk⟩:=bk hk
 split at hk
 ·rename_i l
  obtain⟨c,hk⟩:=hk.ok
  obtain rfl:=b8 c
  exact⟨l,aI h1 rfl,hk⟩
 ·rename_i ls
  obtain⟨l,h2,hk⟩:=hk
  exact⟨l,aI h1 (by simp only[VB.blks,b9,h2,aM]),hk⟩
 ·exact hk.elim
def A5 (h:VH)(v:V)(K:Nat→Nat→List (Int×Int)→Prop):Prop:=match v with
 | .mp b=>xR h b 0 fun l=>K b 0 l
 | .fmp k i=>xR h k i fun l=>K k i l
 |_=>False
theorem A6 {h:VH}{v:V}{K:Nat→Nat→List (Int×Int)→Prop}(hk:A5 h v K):∃k i l,v.toD= .mp (k,i)∧look (toH h) (k,i)=some (fP l)∧K k i l:=by
 unfold A5 at hk
 split at hk
 ·obtain⟨l,h1,h2⟩:=pk hk;exact⟨_,_,l,rfl,h1,h2⟩
 ·obtain⟨l,h1,h2⟩:=pk hk;exact⟨_,_,l,rfl,h1,h2⟩
 ·exact hk.elim
def BS (P:Program)[PhC P](Θ:TT)(op:Op)(t:VT)(h:VH)(n:Nat)(K:V→VH→List Nat→Prop):Prop:=
 match op with
 | .move x=>mE t x fun v=>K v [] []
 | .assign x=>mE t x fun v=>K v [] []
 | .load T x=>tQ t h x fun v=>bL Θ T fun ti=>xW ti h v fun r=>K r [] (dj t h [x])
 | .store T x y=>tQ t h x fun d=>tQ t h y fun v=>bL Θ T fun ti=>EE h d fun tg=>(match tg with
  |none=>sX ti h d v fun r u=>K r u (dj t h [x,y])
  |some p=>xJ h (p.1.shs.drop p.2) v.cells fun h1 vu g=>tQ t h1 x fun d=>tQ t h1 y fun v=>yn ti h1 d v fun r u=>K r (vu++u) (g++dj t h1 [x,y]))
 | .fieldAddr T x f=>mE t x fun v=>bL Θ T fun ti=>(match ti.k with
  | .struct fs=>uA fs f fun g=>Chk (decide (0<g.2.2)) (F0 g v fun r=>K r [] [])
  |_=>False)
 | .indexAddr T x i=>tQ t h x fun v=>mE t i fun ix=>bL Θ T fun ti=>(match v,ix with
  | .val (.slice (some ⟨B,0,none⟩) m _),.int _ j=>(match ti.k with
   | .slice E=>bL Θ E fun ei=>ct (0≤j∧j<(m:Int)) (K (.val (.pointer (some ⟨B,j.toNat * ei.sz,none⟩))) [] (dj t h [x,i]))
   |_=>False)
  |v,.int _ j=>F7 Θ ti h v j fun r=>K r [] (dj t h [x,i])
  |_,_=>False)
 | .binOp op T x y _=>tQ t h x fun d=>tQ t h y fun e=>bL Θ T fun ti=>(match ti.k with
  | .ifc=>Fd op (iL x||iL y) d e fun r=>K r [] (dj t h [x,y])
  | .struct _=>Mk (Fz P T) (Fx op d e fun r=>K r [] (dj t h [x,y]))
  | .ptr E=>(match d,e with
   | .hpo k o,.hpo k' o'=>Fq P T op h k k' o o' fun r=>K r [] (dj t h [x,y])
   |d,e=>mQ op (.ptr E) d e fun r=>K r [] (dj t h [x,y]))
  |_=>mQ op ti.k d e fun r=>K r [] (dj t h [x,y]))
 | .unOp op _ x=>mE t x fun d=>Gp op d fun r=>K r [] []
 | .call ⟨.builtin b,args,Ts⟩=>(match b with
  | .append=>wx t h args.toList fun vs=>(match vs,Ts.toList with
   |[d,e],[T,T']=>(match Nat.beq T T' with
    |false=>bL Θ T fun ti=>bL Θ T' fun ti'=>oG Θ ti ti' h n d e fun r u=>K r u (n::dj t h args.toList)
    |true=>bL Θ T fun ti=>(match Ga h e with
    |none=>nT Θ ti h n d e fun r u=>K r u (n::dj t h args.toList)
    |some b=>(match ti.k with
     | .slice E=>bL Θ E fun ei=>AT h d ei.ty fun τ=>xd h b τ fun h1 vu g=>Chk (y8 n vu) (wx t h1 args.toList fun vs=>(match vs with
      |[d,e]=>nT Θ ti h1 n d e fun r u=>K r (vu++u) (g++n::dj t h1 args.toList)
      |_=>False))
     |_=>False)))
   |_,_=>False)
  |b=>wx t h args.toList fun vs=>mT Θ b vs Ts.toList h fun r u=>K r u (dj t h args.toList))
 | .call ⟨.value (.func f),args,_⟩=>wx t h args.toList fun vs=>Do P h n f vs (dj t h (.func f::args.toList)) K
 | .call ⟨.value (.tmp k),args,_⟩=>tQ t h (.tmp k) fun c=>(match c with
  | .clo f cs=>wx t h args.toList fun vs=>Do P h n f (vs++cs) (dj t h (.tmp k::args.toList)) K
  |_=>False)
 | .call ⟨.invoke _ _,_,_⟩=>False
 | .pick c x y=>mE t c fun b=>(match b with
  | .tt=>mE t x fun v=>K v [] []
  | .ff=>mE t y fun v=>K v [] []
  | .bool b=>jJ b (mE t x fun v=>K v [] []) (mE t y fun v=>K v [] [])
  |_=>False)
 | .alloc T=>bL Θ T fun ti=>(match ti.z with
  |some z=>K (.ptr n 0) [(n,.var T z.cells)] [n]
  |none=>False)
 | .box T x=>mE t x fun v=>Chk v.whole (K (.ptr n 0) [(n,.var T v.cells)] [n])
 | .build T ps=>D5 t ps.toList fun vs=>bL Θ T fun ti=>(match ti.k,ti.z with
  | .struct fs,some (.agg zs)=>Ao fs zs vs fun cs=>K (.agg cs) [] []
  | .arr _ E,some (.agg zs)=>bL Θ E fun _=>Chk vs.isEmpty (K (.agg zs) [] [])
  |_,_=>False)
 | .buildSlice T len ps=>Aj t h ps.toList fun vs=>bL Θ T fun ti=>(match ti.k with
  | .slice E=>bL Θ E fun ei=>Chk (ei.z.isSome && decide (0<ei.sz) && uk vs 0 && xU vs len && decide (len*ei.sz≤16777216)) (rS ei E vs n fun r u=>K r u (n::dj t h (ps.toList.map (·.2))))
  |_=>False)
 | .nilCheck x=>mE t x fun v=>Ey v fun r=>K r [] []
 | .convert S T x=>tQ t h x fun v=>bL Θ T fun ti=>bL Θ S fun si=>z8 Θ ti si h v fun r=>K r [] (dj t h [x])
 | .makeInterface T x=>mE t x fun v=>bL Θ T fun ti=>Chk (BN ti.k) (K (.ifc T v) [] [])
 | .makeFunc (.func f) first captured=>Chk (Nat.beq first.size 0) (D4 t captured.toList fun vs=>K (.clo f vs) [] [])
 | .typeAssert x _ T ok=>mE t x fun v=>bL Θ T fun ti=>xq T ti ok v fun r=>K r [] []
 | .makeSlice T l c=>mE t l fun a=>mE t c fun b=>bL Θ T fun ti=>(match ti.k,a,b with
  | .slice E,.int _ a,.int _ b=>bL Θ E fun ei=>(match ei.z,ei.ty with
   |some z,some τ=>Chk (decide (0<ei.sz) && τ.sz==ei.sz && z.cells.all V.pure0) (GE τ z fun x=>ct (0≤a∧a=b) (ct (nN ei.nb a.toNat) (K (.ref n) [(n,.row E τ (List.replicate a.toNat x))] [n])))
   |some z,none=>Chk (decide (0<ei.sz) && z.cells.length==ei.sz && z.cells.all V.pure0) (ct (0≤a∧a=b) (ct (nN ei.nb a.toNat) (K (.ref n) [(n,.lit E (List.replicate a.toNat z))] [n])))
   |_,_=>False)
  |_,_,_=>False)
 | .slice T x lo hi none=>tQ t h x fun v=>xE t lo fun l=>xE t hi fun r=>bL Θ T fun ti=>wZ Θ ti h n v l r fun q r u=>(match q with
  |true=>K r u (n::nR t h op)
  |false=>K r u (nR t h op))
 | .field T x f=>mE t x fun v=>bL Θ T fun ti=>(match ti.k,v with
  | .struct fs,.agg cs=>uA fs f fun g=>bL Θ g.1 fun gi=>fi gi cs g.2.1 fun r=>K r [] []
  |_,_=>False)
 | .index T x i=>mE t x fun v=>mE t i fun i=>bL Θ T fun ti=>(match ti.k,v,i with
  | .str,.str s,.int _ i=>ct (0≤i∧i<(s.size:Nat)) (K (.int .u8 ((s.data.toList.getD i.toNat 0).toNat:Nat)) [] [])
  | .arr m E,.agg cs,.int _ i=>bL Θ E fun ei=>ct (0≤i∧i<(m:Nat)) (fi ei cs (i.toNat * ei.sz) fun r=>K r [] [])
  |_,_,_=>False)
 | .extract x i=>mE t x fun v=>(match v with
  | .tup cs=>uA cs i fun r=>K r [] []
  |_=>False)
 | .makeMap _ none=>K (.mp n) [(n,.map [])] [n]
 | .mapUpdate T m k v=>Mk (nz P T) (tQ t h m fun d=>mE t k fun kk=>mE t v fun vv=>(match d,kk,vv with
  | .mp b,.int .i64 a,.int .i64 c=>dD h b fun x=>(match x with
   | .map l=>K .undef [(b,.map (dX l a c))] (b::rA t h m)
   |_=>False)
  |_,_,_=>False))
 | .range T m=>Mk (nz P T) (tQ t h m fun d=>A5 h d fun k i l=>K (.ptr n 0) [(n,.it k i l.length (List.range l.length) none)] (n::k::rA t h m))
 | .entry x=>tQ t h x fun d=>(match d with
  | .ptr b 0=>dD h b fun y=>(match y with
   | .it k i m _ (some c)=>xR h k i fun l=>ct (l.length=m) (fl l c fun p=>K (.tup [.int .i64 p.1,.int .i64 p.2]) [] (b::k::rA t h x))
   |_=>False)
  |_=>False)
 |_=>False
def vK (P:Program)[PhC P](N:Nat)(o:Oper)(t:VT)(h:VH)(K:V→VH→List Nat→Prop):Prop:=∃r vu gl,StepOK P N o t h r vu gl∧K r vu gl
theorem mi [PhC P]{m:Bool}{o:Oper}{r:V}{u:HL}{vu:VH}{gl:List Nat}{K:V→VH→List Nat→Prop}(hd:∀n,cS P m o.op (toT t) (toH h) n=some (r.toD,u))(hu:cM h u vu)(hg:∀k∈nR t h o.op,k∈gl)(hk:K r vu gl):vK P N o t h K:=⟨r,vu,gl,fE (step0 hd hu) hg,hk⟩
theorem DD [PhC P]{m:Bool}{o:Oper}{r:V}{u:HL}{vu:VH}{gl:List Nat}{K:V→VH→List Nat→Prop}(hn:∀c:Id,n≤c.1→look (toH h) c=none)(hd:cS P m o.op (toT t) (toH h) n=some (r.toD,u))(hu:cM h u vu)(hg:∀k∈n::nR t h o.op,k∈gl)(hk:K r vu gl):vK P N o t h K:=⟨r,vu,gl,fE (DE hn hd hu) hg,hk⟩
theorem eA {op:Op}{l:List Operand}(hl:iS op=true)(ho:op.operands.toList=l):∀k∈nR t h op,k∈dj t h l:=by
 intro k hk
 unfold nR at hk
 rw[hl] at hk
 rw[ho] at hk
 exact hk
theorem cQ {op:Op}(hl:iS op=false)(gl:List Nat):∀k∈nR t h op,k∈gl:=by
 intro k hk
 unfold nR at hk
 rw[hl] at hk
 cases hk

end Go.Proofs.Ytbmnihglaokhmaa.Am
