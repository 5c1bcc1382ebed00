/- The plain machine with types: slices, addresses, literals. The plain machine with types: cuts, conversions, builtins. The plain machine with types: calls: names, views. The plain machine with types: calls. The plain machine with types: calls: what comes back. The plain machine with types: a call. The plain machine with types: a call, put together. The plain machine with types: what an operation looks at. The plain machine with types: one operation. The plain machine with types: one operation, put together. The plain machine with types: one operation is sound. -/
import Derived.Test.YthmfppknagbkeaaGreatPL3
set_option linter.unusedSimpArgs false
set_option linter.unusedVariables false
set_option maxHeartbeats 1000000
namespace Go.Proofs.YthmfppknagbkeaaGreat.Am
open Go Go.RowKit
def uP:List V→(List Int→Prop)→Prop
 |[],K=>K []
 | .int .i64 n::l,K=>uP l fun r=>K (n::r)
 |_::_,_=>False
theorem pq:∀{l:List V} {K:List Int→Prop},uP l K→∃ns:List Int,af l=ns.map (D.int .i64)∧K ns
 |[],K,h=>⟨[],rfl,h⟩
 |v::l,K,h=>by
  cases v<;>try exact h.elim
  rename_i k n
  cases k<;>try exact h.elim
  obtain⟨ns,h1,h2⟩:=pq (l:=l) h
  exact⟨n::ns,by simp[af,V.toD,h1],h2⟩
def V.pure0:V→Bool
 | .int .. | .bool _| .tt| .ff| .str _| .lst .. | .box .. | .nilp| .nils| .nilf| .nili=>true
 |_=>false
theorem iO (l:List V)(h:l.all V.pure0=true):(af l).all D.pure0=true:=by
 rw[bt,List.all_map]
 rw[List.all_eq_true] at h⊢
 intro x hx
 have:=h x hx
 cases x<;>first|rfl|cases this
theorem nv {t:Ty}(h:t.sz=1)(hp:t.pure=true)(xs:List t.den):(xs.map (ab t)).all D.pure0=true:=by
 rw[List.all_eq_true]
 intro y hy
 obtain⟨z,_,rfl⟩:=List.mem_map.1 hy
 have h1:=fP hp z
 rw[h] at h1
 have h2:=h1.1
 have h3:=h1.2
 match hc:(ab t z).cells,h2 with
 |[c],_=>
  rw[hc] at h3
  simp only[List.all_cons,List.all_nil,Bool.and_true] at h3
  by_cases hag:∃cs,ab t z= .agg cs
  ·obtain⟨cs,he⟩:=hag
   cases t<;>simp[Ty.sz] at h<;>first|(cases he;done)|(cases z<;>simp[ab,iX,l7] at he;done)
  ·have:=bA fun cs hcs=>hag ⟨cs,hcs⟩
   rw[this] at hc
   simp only[List.cons.injEq,and_true] at hc
   rw[hc];exact h3
def lb (h:VH)(v:V)(K:(t:Ty)→List t.den→Prop):Prop:=
 match v with
 | .lst t xs=>K t xs
 | .nils=>K (.int .i64) []
 | .ref b=>cL h b fun x=>(match x with
  | .row _ t xs=>K t xs
  | .froz t xs=>K t xs
  |_=>False)
 | .fref k i=>cL h k fun x=>(match x with
  | .frow _ t xss=>eQ xss i fun xs=>K t xs
  | .frowx _ t xss=>eQ xss i fun ox=>jf ox False fun xs=>K t xs
  |_=>False)
 | .hro k o=>jf o (K (.int .i64) []) fun i=>cL h k fun x=>(match x with
  | .frow _ t xss=>eQ xss i fun xs=>K t xs
  | .frowx _ t xss=>eQ xss i fun ox=>jf ox False fun xs=>K t xs
  |_=>False)
 | .vref b o n=>cL h b fun x=>(match x with
  | .var _ cs=>Chk (cs.all V.pure0) (A2 cs o n fun r=>uP r fun ns=>K (.int .i64) ns)
  | .vari _ pre m t xs post=>Chk (pre.all V.pure0 && post.all V.pure0 && Nat.beq o pre.length && Nat.beq n m && t.sz==1 && t.pure) (bS (xs.length=m) (K t xs))
  |_=>False)
 |_=>False
theorem iS {h:VH}{v:V}{K:(t:Ty)→List t.den→Prop}(hk:lb h v K):∃t,∃xs:List (Ty.den t),elems (toH h) v.toD=some (xs.map (ab t))∧K t xs:=by
 unfold lb at hk
 split at hk
 ·exact⟨_,_,rfl,hk⟩
 ·exact⟨_,_,rfl,hk⟩
 ·rename_i b
  obtain⟨x,h1,h3⟩:=aG hk
  split at h3
  ·rename_i E t xs
   have hl:=am (i:=0) h1 (d:=.row E (xs.map (ab t))) rfl
   exact⟨_,_,by simp[elems,V.toD,hl],h3⟩
  ·rename_i t xs
   have hl:=am (i:=0) h1 (d:=.froz (xs.map (ab t))) rfl
   exact⟨_,_,by simp[elems,V.toD,hl],h3⟩
  ·exact h3.elim
 ·rename_i k i
  obtain⟨x,h1,h3⟩:=aG hk
  split at h3
  ·rename_i E t xss
   obtain⟨xs,h4,h5⟩:=h3
   have hl:=am (i:=i) h1 (d:=.row E (xs.map (ab t))) (by simp only[VB.blks,List.getElem?_map,h4,Option.map_some])
   exact⟨_,_,by simp[elems,V.toD,hl],h5⟩
  ·rename_i E t xss
   obtain⟨ox,h4,h5⟩:=h3
   cases ox with
   |none=>exact(h5.1 rfl).elim
   |some xs=>
    have hl:=am (i:=i) h1 (d:=.row E (xs.map (ab t))) (by simp only[VB.blks,List.getElem?_map,h4,Option.map_some,rowX])
    exact⟨_,_,by simp[elems,V.toD,hl],h5.2 xs rfl⟩
  ·exact h3.elim
 ·rename_i k o
  cases o with
  |none=>exact⟨.int .i64,[],rfl,hk.1 rfl⟩
  |some i=>
   obtain⟨x,h1,h3⟩:=aG (hk.2 i rfl)
   split at h3
   ·rename_i E t xss
    obtain⟨xs,h4,h5⟩:=h3
    have hl:=am (i:=i) h1 (d:=.row E (xs.map (ab t))) (by simp only[VB.blks,List.getElem?_map,h4,Option.map_some])
    exact⟨_,_,by simp[elems,V.toD,iX,hl],h5⟩
   ·rename_i E t xss
    obtain⟨ox,h4,h5⟩:=h3
    cases ox with
    |none=>exact(h5.1 rfl).elim
    |some xs=>
     have hl:=am (i:=i) h1 (d:=.row E (xs.map (ab t))) (by simp only[VB.blks,List.getElem?_map,h4,Option.map_some,rowX])
     exact⟨_,_,by simp[elems,V.toD,iX,hl],h5.2 xs rfl⟩
   ·exact h3.elim
 ·rename_i b o n
  obtain⟨x,h1,h3⟩:=aG hk
  split at h3
  ·rename_i T cs
   have hl:=am (i:=0) h1 (d:=.var T (af cs)) rfl
   obtain⟨c1,h4⟩:=h3.ok
   obtain⟨h5,h6⟩:=rd h4
   obtain⟨ns,h7,h8⟩:=pq h6
   refine⟨.int .i64,ns,?_,h8⟩
   simp only[elems,V.toD,hl]
   rw[if_pos ⟨by rw[ar];exact h5,iO _ c1⟩]
   rw[show ns.map (ab (.int .i64))=ns.map (D.int .i64) from rfl,←h7]
   simp only[bt,List.map_take,List.map_drop]
  ·rename_i T pre m t xs post
   have hl:=am (i:=0) h1 (d:=.var T (af pre++xs.map (ab t)++af post)) rfl
   obtain⟨c1,h4⟩:=h3.ok
   simp only[Bool.and_eq_true,beq_iff_eq] at c1
   obtain⟨⟨⟨⟨⟨c1,c2⟩,c3⟩,c4⟩,c5⟩,c6⟩:=c1
   obtain⟨h5,h6⟩:=h4
   have hp:o=pre.length:=Nat.eq_of_beq_eq_true c3
   have hn:n=m:=Nat.eq_of_beq_eq_true c4
   refine⟨t,xs,?_,h6⟩
   simp only[elems,V.toD,hl]
   have hall:(af pre++xs.map (ab t)++af post).all D.pure0=true:=by
    rw[List.all_append,List.all_append,iO _ c1,iO _ c2,nv c5 c6]
    rfl
   rw[if_pos ⟨by rw[List.length_append,List.length_append,ar,List.length_map];omega,hall⟩]
   rw[List.append_assoc,hp,←ar pre,List.drop_left,hn,←h5]
   rw[show xs.length=(xs.map (ab t)).length by rw[List.length_map],List.take_left]
  ·exact h3.elim
 ·exact hk.elim
theorem oB (t:Ty)(xs:List t.den)(s:Nat)(h:t.sz=s):vA s (xs.map (ab t))=s:=CS fun e he=>by
 obtain⟨x,_,rfl⟩:=List.mem_map.1 he
 rw[(dt t x).1,h]
def Ep (ti:TI)(h:VH)(v:V)(K:V→Prop):Prop:=
 match ti.k with
 | .str=>(match v with| .str s=>K (.int .i64 (s.size:Nat))|_=>False)
 | .slice _=>lb h v fun _ xs=>K (.int .i64 (xs.length:Nat))
 |_=>False
theorem Cf {P:Program}{T:TypeId}{ti:TI}(ht:ti.ok P T){h:VH}{v:V}{K:V→Prop}(hk:Ep ti h v K):∃r,pT P (toH h) T v.toD=some r.toD∧K r:=by
 have hu:=ht.und
 unfold Ep at hk
 split at hk
 ·rename_i e
  rw[e] at hu
  split at hk
  ·exact⟨_,by simp only[pT,show P.underlying T=some .string from hu,V.toD],hk⟩
  ·exact hk.elim
 ·rename_i E e
  rw[e] at hu
  obtain⟨t,xs,h1,h2⟩:=iS hk
  exact⟨_,by simp only[pT,show P.underlying T=some (.slice E) from hu,h1,Option.map_some,List.length_map,V.toD],h2⟩
 ·exact hk.elim
def mt (Θ:TT)(ti:TI)(h:VH)(n:Nat)(d1 d2:V)(K:V→VH→Prop):Prop:=
 match ti.k with
 | .slice E=>aQ Θ E fun ei=>Chk (ei.z.isSome && decide (0<ei.sz)) (lb h d2 fun t ys=>(match d1 with
  | .ref b=>cL h b fun x=>(match x with
   | .row E' t' xs=>Chk (E'==E && t'.sz==ei.sz && !Nat.beq b n) (match jo t' t ys with
    |some ys'=>bS (le ei.nb (xs.length+ys'.length)) (K (.ref n) [(b,.gone),(n,.row E t' (xs++ys'))])
    |none=>False)
   |_=>False)
  | .nils=>Chk (t.sz==ei.sz) (match ys with
   |[]=>K .nils []
   |y::ys'=>bS (le ei.nb (ys'.length+1)) (K (.ref n) [(n,.row E t (y::ys'))]))
  |_=>False))
 |_=>False
theorem rz {h:VH}{b n:Nat}{x y:VB}{d:Blk}(hn:∀c:Id,n≤c.1→look (toH h) c=none)(hb:look h b=some x)(hs:x.sgl=true)(hbn:b≠n)(hy:y.blks=[d]):bq h [((b,0),.gone),((n,0),d)] [(b,.gone),(n,y)]:=by
 have h1:bq h [((b,0),.gone)] [(b,.gone)]:=eb hb hs rfl
 have h2:bq (puts [(b,VB.gone)] h) [((n,0),d)] [(n,y)]:=kK (fun i hi=>by
  rw[←h1.1,av _ _ _ (fun z hz e=>by obtain rfl:=List.mem_singleton.1 hz;simp only[Prod.mk.injEq] at e;exact hbn e.1)]
  exact hn (n,i) (Nat.le_refl _)) hy
 exact m7 h1 h2
theorem nh {P:Program}{Θ:TT}(hΘ:Θ.ok P){T:TypeId}{ti:TI}(ht:ti.ok P T){h:VH}{n:Nat}(hn:∀c:Id,n≤c.1→look (toH h) c=none){d1 d2:V}{K:V→VH→Prop}(hk:mt Θ ti h n d1 d2 K):∃r u vu,fk P (toH h) (n,0) T d1.toD d2.toD=some (r.toD,u)∧bq h u vu∧K r vu:=by
 have hu:=ht.und
 unfold mt at hk
 split at hk
 ·rename_i E e
  rw[e] at hu
  obtain⟨ei,l1,h1⟩:=ap hk
  have hei:=hΘ _ _ l1
  obtain⟨c,h2⟩:=h1.ok
  simp only[Bool.and_eq_true,decide_eq_true_eq] at c
  obtain⟨t,ys,h3,h4⟩:=iS h2
  have hel:=hei.elem c.1 c.2
  unfold fk
  simp only[show P.underlying T=some (.slice E) from hu,hel,h3]
  split at h4
  ·rename_i b
   obtain⟨x,b1,h5⟩:=aG h4
   split at h5
   ·rename_i E' t' xs
    obtain⟨c2,h6⟩:=h5.ok
    simp only[Bool.and_eq_true,beq_iff_eq,Bool.not_eq_true'] at c2
    obtain⟨⟨rfl,c3⟩,c4⟩:=c2
    have hbn:b≠n:=by rintro rfl;simp at c4
    split at h6
    ·rename_i ys' hc
     have hce:=ee hc
     have hl:=am (i:=0) b1 (d:=.row E' (xs.map (ab t'))) rfl
     refine⟨.ref n,[((b,0),.gone),((n,0),.row E' ((xs++ys').map (ab t')))],_,?_,rz hn b1 rfl hbn rfl,h6.2⟩
     rw[hce,if_pos (oB _ _ _ c3)]
     simp only[V.toD,hl]
     rw[if_pos ⟨trivial,by simpa using h6.1⟩]
     simp
    ·exact h6.elim
   ·exact h5.elim
  ·obtain⟨c3,h6⟩:=h4.ok
   simp only[beq_iff_eq] at c3
   rw[if_pos (oB _ _ _ c3)]
   split at h6
   ·exact⟨.nils,[],[],rfl,aC,h6⟩
   ·rename_i y ys'
    refine⟨.ref n,[((n,0),.row E ((y::ys').map (ab t)))],_,?_,gQ hn rfl,h6.2⟩
    simp only[V.toD,List.map_cons]
    rw[if_pos (by simpa using h6.1)]
  ·exact h4.elim
 ·exact hk.elim
def ni (Θ:TT)(ti ti':TI)(h:VH)(n:Nat)(d1 d2:V)(K:V→VH→Prop):Prop:=
 match ti.k,ti'.k,d1,d2 with
 | .slice E,.int _,.ref b,.int _ m=>aQ Θ E fun ei=>cL h b fun x=>(match x,ei.z with
  | .row E' (.int k2) xs,some (.int k3 z)=>Chk (E'==E && Nat.beq ei.sz 1 && !Nat.beq b n && decide (k3=k2)) (bS (0<m∧m≤1000000) (bS (le ei.nb (xs.length+m.toNat)) (K (.ref n) [(b,.gone),(n,.row E (.int k2) (xs++List.replicate m.toNat z))])))
  |_,_=>False)
 |_,_,_,_=>False
theorem rK {P:Program}{Θ:TT}(hΘ:Θ.ok P){T T':TypeId}{ti ti':TI}(ht:ti.ok P T)(ht':ti'.ok P T'){h:VH}{n:Nat}(hn:∀c:Id,n≤c.1→look (toH h) c=none){d1 d2:V}{K:V→VH→Prop}(hk:ni Θ ti ti' h n d1 d2 K):∃r u vu,ed P (toH h) (n,0) T T' d1.toD d2.toD=some (r.toD,u)∧bq h u vu∧K r vu:=by
 have hu:=ht.und
 have hu':=ht'.und
 unfold ni at hk
 split at hk
 ·rename_i E kn b k m e e'
  rw[e] at hu
  rw[e'] at hu'
  obtain⟨ei,l1,h1⟩:=ap hk
  have hei:=hΘ _ _ l1
  obtain⟨x,b1,h5⟩:=aG h1
  split at h5
  ·rename_i E' k2 xs k3 z hz
   obtain⟨c2,h6⟩:=h5.ok
   simp only[Bool.and_eq_true,beq_iff_eq,Bool.not_eq_true',decide_eq_true_eq] at c2
   obtain⟨⟨⟨rfl,c1⟩,c4⟩,rfl⟩:=c2
   have hs1:ei.sz=1:=Nat.eq_of_beq_eq_true c1
   have hbn:b≠n:=by rintro rfl;simp at c4
   obtain⟨h7,h8,h9⟩:=h6
   have hl:=am (i:=0) b1 (d:=.row E' (xs.map (ab (.int k3)))) rfl
   refine⟨.ref n,[((b,0),.gone),((n,0),.row E' ((xs++List.replicate m.toNat z).map (ab (.int k3))))],_,?_,rz hn b1 rfl hbn rfl,h9⟩
   simp only[ed,V.toD,show P.underlying T=some (.slice E') from hu,show P.underlying T'=some (.int _) from hu',hl,hei.elem (by rw[hz];rfl) (by omega),hei.zero _ hz]
   rw[if_pos ⟨trivial,hs1,h7.1,h7.2,by simpa using h8⟩]
   simp[List.map_replicate,ab]
  ·exact h5.elim
 ·exact hk.elim
def v8:List V→Nat→(List V→Prop)→Prop
 |l,0,K=>K l
 |[],_+1,_=>False
 |_::cs,n+1,K=>v8 cs n K
theorem r7:∀{l:List V} {n:Nat} {K:List V→Prop},v8 l n K→n≤l.length∧K (l.drop n)
 |l,0,K,h=>⟨Nat.zero_le _,by cases l<;>simpa[v8] using h⟩
 |[],_+1,_,h=>h.elim
 |c::cs,n+1,K,h=>by
  obtain⟨h1,h2⟩:=r7 (l:=cs) (n:=n) h
  exact⟨by simpa using h1,by simpa using h2⟩
def yO (Θ:TT)(ti:TI)(h:VH)(d e:V)(K:V→VH→Prop):Prop:=
 match ti.k,d with
 | .slice E,.vref b o m=>aQ Θ E fun ei=>Chk (ei.sz==1) (lb h e fun t ys=>Chk (t.sz==1 && t.pure) (cL h b fun x=>(match x with
  | .var T' cs=>oC cs o fun pre=>v8 cs (o+m) fun post=>bS (ys.length=m) (K (.int .i64 (ys.length:Nat)) [(b,.vari T' pre m t ys post)])
  |_=>False)))
 |_,_=>False
theorem yP {P:Program}{Θ:TT}(hΘ:Θ.ok P){T:TypeId}{ti:TI}(ht:ti.ok P T){h:VH}{d e:V}{K:V→VH→Prop}(hk:yO Θ ti h d e K):∃r u vu,lR P (toH h) T d.toD e.toD=some (r.toD,u)∧bq h u vu∧K r vu:=by
 have hu:=ht.und
 unfold yO at hk
 split at hk
 ·rename_i E b o m ek
  rw[ek] at hu
  obtain⟨ei,l1,h1⟩:=ap hk
  have hei:=hΘ _ _ l1
  obtain⟨c,h2⟩:=h1.ok
  simp only[beq_iff_eq] at c
  obtain⟨t,ys,h3,h4⟩:=iS h2
  obtain⟨c2,h4⟩:=h4.ok
  simp only[Bool.and_eq_true,beq_iff_eq] at c2
  obtain⟨x,b1,h5⟩:=aG h4
  split at h5
  ·rename_i T' cs
   have hl:=am (i:=0) b1 (d:=.var T' (af cs)) rfl
   obtain⟨g1,h6⟩:=kI h5
   obtain⟨g2,h7⟩:=r7 h6
   obtain⟨h10,h11⟩:=h7
   refine⟨.int .i64 (ys.length:Nat),[((b,0),.var T' (af (cs.take o)++ys.map (ab t)++af (cs.drop (o+m))))],_,?_,eb b1 rfl rfl,h11⟩
   unfold lR
   have hsz:sizeT P E=some 1:=by rw[hei.size,c]
   simp only[show P.underlying T=some (.slice E) from hu,V.toD,hsz,h3,hl]
   have hmin:min (ys.map (ab t)).length m=ys.length:=by rw[List.length_map];omega
   have hall:(ys.map (ab t)).all D.pure0=true:=nv c2.1 c2.2 ys
   rw[hmin,if_pos ⟨by rw[ar];omega,hall⟩,List.take_of_length_le (by rw[List.length_map];omega)]
   simp only[aE,List.length_map,h10,bt,List.map_take,List.map_drop]
  ·exact h5.elim
 ·exact hk.elim
def Gk (g:Nat×Nat×Nat)(v:V)(K:V→Prop):Prop:=
 match v with
 | .ptr b o=>dV (o+g.2.1) fun o'=>K (.ptr b o')
 | .eptr b j o=>dV (o+g.2.1) fun o'=>K (.eptr b j o')
 | .fptr k i o=>dV (o+g.2.1) fun o'=>K (.fptr k i o')
 | .feptr k i j o=>dV (o+g.2.1) fun o'=>K (.feptr k i j o')
 | .iptr t e o=>dV (o+g.2.1) fun o'=>K (.iptr t e o')
 | .hpo k p=>jf p False fun i=>K (.fptr k i g.2.1)
 | .box t e=>(match enc t e with
  | .agg _=>K (.iptr t e g.2.1)
  |_=>False)
 | .obo t p=>jf p False fun e=>(match enc t e with
  | .agg _=>K (.iptr t e g.2.1)
  |_=>False)
 |_=>False
theorem wd {P:Program}{T:TypeId}{i:Nat}{g:Nat×Nat×Nat}(hg:fA P T i=some g.2.1){t:Ty}{e:t.den}{K:V→Prop}(hk:match enc t e with| .agg _=>K (.iptr t e g.2.1)|_=>False):∃r,eA P T i (.box (ab t e).cells)=some r.toD∧K r:=by
 split at hk
 ·rename_i cs hc
  refine⟨_,?_,hk⟩
  simp only[V.toD,eA,hg,Option.map_some]
  have:=gu t e
  rw[hc] at this
  rw[←this]
  rfl
 ·exact hk.elim
theorem DS {P:Program}{T:TypeId}{i:Nat}{g:Nat×Nat×Nat}(hg:fA P T i=some g.2.1){v:V}{K:V→Prop}(hk:Gk g v K):∃r,eA P T i v.toD=some r.toD∧K r:=by
 unfold Gk at hk
 split at hk
 ·exact⟨_,by simp only[V.toD,eA,hg,Option.map_some],aV hk⟩
 ·exact⟨_,by simp only[V.toD,eA,hg,Option.map_some],aV hk⟩
 ·exact⟨_,by simp only[V.toD,eA,hg,Option.map_some],aV hk⟩
 ·exact⟨_,by simp only[V.toD,eA,hg,Option.map_some],aV hk⟩
 ·exact⟨_,by simp only[V.toD,eA,hg,Option.map_some],aV hk⟩
 ·rename_i k p
  cases p with
  |none=>exact(hk.1 rfl).elim
  |some i=>exact⟨.fptr k i g.2.1,by simp only[V.toD,l7,eA,hg,Option.map_some,Nat.zero_add],hk.2 i rfl⟩
 ·exact wd hg hk
 ·rename_i t p
  cases p with
  |none=>exact(hk.1 rfl).elim
  |some e=>exact wd hg (hk.2 e rfl)
 ·exact hk.elim
def xO (i s:Nat)(K:Nat→Prop):Prop:=match s with|1=>K i|s=>K (i*s)
theorem mM {i s:Nat}{K:Nat→Prop}(h:xO i s K):K (i*s):=by
 unfold xO at h
 split at h
 ·rw[Nat.mul_one];exact h
 ·exact h
def Gs (Θ:TT)(ti:TI)(h:VH)(v:V)(i:Int)(K:V→Prop):Prop:=
 match ti.k with
 | .slice E=>aQ Θ E fun ei=>(match v with
  | .ref b=>cL h b fun x=>(match x with
   | .row E' t xs=>Chk (E'==E) (bS (0≤i∧i<(xs.length:Nat)) (K (.eptr b i.toNat 0)))
   | .lit E' vs=>Chk (E'==E) (bS (0≤i∧i<(vs.length:Nat)) (dV i.toNat fun j=>K (.eptr b j 0)))
   | .froz t xs=>Chk (t.sz==ei.sz) (pS xs i fun _ e=>K (.iptr t e 0))
   |_=>False)
  | .fref k j=>cL h k fun x=>(match x with
   | .frow E' t xss=>Chk (E'==E) (eQ xss j fun xs=>bS (0≤i∧i<(xs.length:Nat)) (K (.feptr k j i.toNat 0)))
   |_=>False)
  | .hro k p=>jf p False fun j=>cL h k fun x=>(match x with
   | .frow E' t xss=>Chk (E'==E) (eQ xss j fun xs=>bS (0≤i∧i<(xs.length:Nat)) (K (.feptr k j i.toNat 0)))
   | .frowx E' t xss=>Chk (E'==E) (eQ xss j fun ox=>jf ox False fun xs=>bS (0≤i∧i<(xs.length:Nat)) (K (.feptr k j i.toNat 0)))
   |_=>False)
  | .lst t xs=>Chk (t.sz==ei.sz) (pS xs i fun _ e=>K (.iptr t e 0))
  |_=>False)
 | .arr m E=>aQ Θ E fun ei=>bS (0≤i∧i<(m:Nat)) (match v with
  | .ptr b o=>cL h b fun x=>(match x with
   | .vari _ pre _ _ _ _=>(match Nat.beq o pre.length with
    |true=>dV pre.length fun p=>xO i.toNat ei.sz fun j=>K (.aptr b p j)
    |false=>dV (o+i.toNat * ei.sz) fun o'=>K (.ptr b o'))
   |_=>dV (o+i.toNat * ei.sz) fun o'=>K (.ptr b o'))
  | .aptr b p j=>xO i.toNat ei.sz fun j'=>K (.aptr b p (j+j'))
  | .fptr k j o=>cL h k fun x=>(match x with
   | .fvari ..=>Chk (Nat.beq o 0) (xO i.toNat ei.sz fun j'=>K (.faptr k j 0 j'))
   |_=>dV (o+i.toNat * ei.sz) fun o'=>K (.fptr k j o'))
  | .faptr k j p q=>xO i.toNat ei.sz fun j'=>K (.faptr k j p (q+j'))
  | .eptr b j o=>dV (o+i.toNat * ei.sz) fun o'=>K (.eptr b j o')
  | .iptr t e o=>dV (o+i.toNat * ei.sz) fun o'=>K (.iptr t e o')
  |_=>False)
 |_=>False
theorem zP {α:Type}{xs:List α}{i:Int}{x:α}(h0:0≤i)(h:xs[i.toNat]?=some x):i<(xs.length:Nat):=by
 have:=(List.getElem?_eq_some_iff.1 h).1
 omega
theorem wt {P:Program}{T E E':TypeId}{s:Nat}(hu':P.underlying T=some (.slice E))(hs:sizeT P E=some s){h:VH}{k j:Nat}{t:Ty}{xss:List (List t.den)}{xs:List t.den}(b1:look h k=some (.frow E' t xss))(c:E'=E)(hx:xss[j]?=some xs){ik:IntKind}{i:Int}(hi:0≤i∧i<(xs.length:Nat)):
  aR P (toH h) T (.ref (k,j)) (.int ik i)=some (V.feptr k j i.toNat 0).toD:=by
 subst c
 have hl:=am (i:=j) b1 (d:=.row E' (xs.map (ab t))) (by simp only[VB.blks,List.getElem?_map,hx,Option.map_some])
 unfold aR
 simp only[hu',hs,elems,hl,List.length_map]
 rw[if_pos hi]
 simp[V.toD]
theorem zK {P:Program}{T E E':TypeId}{s:Nat}(hu':P.underlying T=some (.slice E))(hs:sizeT P E=some s){h:VH}{k j:Nat}{t:Ty}{xss:List (Option (List t.den))}{xs:List t.den}(b1:look h k=some (.frowx E' t xss))(c:E'=E)(hx:xss[j]?=some (some xs)){ik:IntKind}{i:Int}(hi:0≤i∧i<(xs.length:Nat)):
  aR P (toH h) T (.ref (k,j)) (.int ik i)=some (V.feptr k j i.toNat 0).toD:=by
 subst c
 have hl:=am (i:=j) b1 (d:=.row E' (xs.map (ab t))) (by simp only[VB.blks,List.getElem?_map,hx,Option.map_some,rowX])
 unfold aR
 simp only[hu',hs,elems,hl,List.length_map]
 rw[if_pos hi]
 simp[V.toD]
theorem D3 {P:Program}{Θ:TT}(hΘ:Θ.ok P){T:TypeId}{ti:TI}(ht:ti.ok P T){h:VH}{v:V}{k:IntKind}{i:Int}{K:V→Prop}(hk:Gs Θ ti h v i K):∃r,aR P (toH h) T v.toD (.int k i)=some r.toD∧K r:=by
 have hu:=ht.und
 unfold Gs at hk
 split at hk
 ·rename_i E e
  rw[e] at hu
  have hu':P.underlying T=some (.slice E):=hu
  obtain⟨ei,l1,hk⟩:=ap hk
  have hs:=(hΘ _ _ l1).size
  split at hk
  ·rename_i b
   obtain⟨x,b1,h5⟩:=aG hk
   split at h5
   ·rename_i E' t xs
    have hl:=am (i:=0) b1 (d:=.row E' (xs.map (ab t))) rfl
    obtain⟨c,h6⟩:=h5.ok
    simp only[beq_iff_eq] at c
    subst c
    refine⟨_,?_,h6.2⟩
    unfold aR
    simp only[hu',hs,elems,V.toD,hl,List.length_map]
    rw[if_pos h6.1]
    simp
   ·rename_i E' vs
    have hl:=am (i:=0) b1 (d:=.row E' (af vs)) rfl
    obtain⟨c,h6⟩:=h5.ok
    simp only[beq_iff_eq] at c
    subst c
    refine⟨_,?_,aV h6.2⟩
    unfold aR
    simp only[hu',hs,elems,V.toD,hl,ar]
    rw[if_pos h6.1]
    simp
   ·rename_i t xs
    have hl:=am (i:=0) b1 (d:=.froz (xs.map (ab t))) rfl
    obtain⟨c,h0,x,hx,h7⟩:=h5.ok
    simp only[beq_iff_eq] at c
    refine⟨_,?_,h7⟩
    unfold aR
    simp only[hu',hs,elems,V.toD,hl,List.length_map]
    rw[if_pos ⟨h0,zP h0 hx⟩]
    simp only[List.getElem?_map,hx,Option.map_some]
    rw[if_pos (by rw[(dt t x).1,c])]
   ·exact h5.elim
  ·rename_i k' j
   obtain⟨x,b1,h5⟩:=aG hk
   split at h5
   ·obtain⟨c,h6⟩:=h5.ok
    simp only[beq_iff_eq] at c
    obtain⟨xs,hx,hi,h7⟩:=h6
    exact⟨_,wt hu' hs b1 c hx hi,h7⟩
   ·exact h5.elim
  ·rename_i k' p _
   cases p with
   |none=>exact(hk.1 rfl).elim
   |some j=>
    obtain⟨x,b1,h5⟩:=aG (hk.2 j rfl)
    split at h5
    ·obtain⟨c,h6⟩:=h5.ok
     simp only[beq_iff_eq] at c
     obtain⟨xs,hx,hi,h7⟩:=h6
     exact⟨_,wt hu' hs b1 c hx hi,h7⟩
    ·obtain⟨c,h6⟩:=h5.ok
     simp only[beq_iff_eq] at c
     obtain⟨ox,hx,h7⟩:=h6
     cases ox with
     |none=>exact(h7.1 rfl).elim
     |some xs=>
      obtain⟨hi,h7⟩:=h7.2 xs rfl
      exact⟨_,zK hu' hs b1 c hx hi,h7⟩
    ·exact h5.elim
  ·rename_i t xs _
   obtain⟨c,h0,x,hx,h7⟩:=hk.ok
   simp only[beq_iff_eq] at c
   refine⟨_,?_,h7⟩
   unfold aR
   simp only[hu',hs,elems,V.toD,List.length_map]
   rw[if_pos ⟨h0,zP h0 hx⟩]
   simp only[List.getElem?_map,hx,Option.map_some]
   rw[if_pos (by rw[(dt t x).1,c])]
  ·exact hk.elim
 ·rename_i m E e
  rw[e] at hu
  have hu':P.underlying T=some (.array m E):=hu
  obtain⟨ei,l1,hk⟩:=ap hk
  have hs:=(hΘ _ _ l1).size
  obtain⟨hc,hk⟩:=hk
  unfold aR
  simp only[hu',hs]
  rw[if_pos hc]
  split at hk
  ·obtain⟨x,b1,h5⟩:=aG hk
   split at h5
   ·split at h5
    ·rename_i ho
     have ho':=Nat.eq_of_beq_eq_true ho
     exact⟨_,by simp only[V.toD,ho'],mM (aV h5)⟩
    ·exact⟨_,by simp only[V.toD],aV h5⟩
   ·exact⟨_,by simp only[V.toD],aV h5⟩
  ·exact⟨_,by simp only[V.toD,Nat.add_assoc],mM hk⟩
  ·obtain⟨x,b1,h5⟩:=aG hk
   split at h5
   ·obtain⟨c,h6⟩:=h5.ok
    have ho:=Nat.eq_of_beq_eq_true c
    exact⟨_,by simp only[V.toD,ho],mM h6⟩
   ·exact⟨_,by simp only[V.toD],aV h5⟩
  ·exact⟨_,by simp only[V.toD,Nat.add_assoc],mM hk⟩
  ·exact⟨_,by simp only[V.toD],aV hk⟩
  ·exact⟨_,by simp only[V.toD],aV hk⟩
  ·exact hk.elim
 ·exact hk.elim
def ze (fs:List (Nat×Nat×Nat))(cs:List V):List (Nat×V)→(List V→Prop)→Prop
 |[],K=>K cs
 |(i,v)::l,K=>tc fs i fun f=>Chk (v.whole && nT v.cells f.2.2) (oW cs f.2.1 v.cells fun cs'=>ze fs cs' l K)
theorem sk {fs:List (Nat×Nat×Nat)}:∀{ps:List (Nat×V)} {cs:List V} {K:List V→Prop},ze fs cs ps K→∃cs',eR (fun i=>(fs.map fun f=>(f.2.1,f.2.2))[i]?) (af cs) (tW ps)=some (af cs')∧K cs'
 |[],cs,K,h=>⟨cs,rfl,h⟩
 |(i,v)::l,cs,K,h=>by
  obtain⟨f,h1,h2⟩:=gE h
  obtain⟨c,h3⟩:=h2.ok
  simp only[Bool.and_eq_true] at c
  obtain⟨h4,h5⟩:=fw h3
  obtain⟨cs',h6,h7⟩:=sk h5
  have hl:=eW c.2
  exact⟨cs',ut (off:=f.2.1) (size:=f.2.2) (by rw[List.getElem?_map,h1];rfl) (by rw[d5];exact c.1) (by rw[aK,ar];exact hl) (by rw[ar];omega) (by rw[aK,iJ]) h6,h7⟩
def sE:List (Nat×V)→Nat→Bool
 |[],_=>true
 |(i,_)::l,k=>Nat.beq i k && sE l (k+1)
def oM (t:Ty):List (Nat×V)→Option (List t.den)
 |[]=>some []
 |(_,v)::l=>match Ff t (nzL v),oM t l with
  |some x,some xs=>some (x::xs)
  |_,_=>none
where
 nzL (v:V):V:=match v with
  | .agg cs=>.agg (fF cs)
  |v=>Fk v
theorem qT (v:V):(oM.nzL v).toD=nzE v.toD:=by
 unfold oM.nzL
 split
 ·simp only[V.toD,nzE,ks]
 ·rename_i hne
  rw[As]
  cases v
  case hro k o=>cases o<;>rfl
  case hpo k o=>cases o<;>rfl
  case obo t o=>cases o<;>rfl
  case agg cs=>exact absurd rfl (hne _)
  all_goals rfl
theorem vZ {t:Ty}:∀{l:List (Nat×V)} {xs:List t.den},oM t l=some xs→((tW l).map fun x=>nzE x.2)=xs.map (ab t)
 |[],xs,h=>by simp only[oM,Option.some.injEq] at h;subst h;rfl
 |(i,v)::l,xs,h=>by
  simp only[oM] at h
  split at h
  ·rename_i x xs' h1 h2
   simp only[Option.some.injEq] at h
   subst h
   have:=vZ h2
   simp only[tW,List.map_cons,List.map_map] at this⊢
   rw[←qi h1,qT]
   simp only[List.cons.injEq,true_and]
   exact this
  ·cases h
theorem sF:∀{l:List (Nat×V)} {k:Nat},sE l k=true→(tW l).map (·.1)=List.range' k l.length
 |[],k,_=>rfl
 |(i,v)::l,k,h=>by
  simp only[sE,Bool.and_eq_true] at h
  have hi:i=k:=Nat.eq_of_beq_eq_true h.1
  have:=sF h.2
  simp only[tW,List.map_cons,List.map_map,List.length_cons,List.range'_succ] at this⊢
  rw[hi]
  exact congrArg (k:: ·) this
def kX (len:Nat)(o:Option V)(dflt:Nat)(K:Nat→Prop):Prop:=
 match o with
 |none=>K dflt
 |some (.int _ i)=>bS (0≤i∧i≤(len:Nat)) (K i.toNat)
 |_=>False
theorem iP {len dflt:Nat}{o:Option V}{K:Nat→Prop}(h:kX len o dflt K):∃k,ey len (o.map V.toD) dflt=some k∧(o=none→k=dflt)∧K k:=by
 unfold kX at h
 split at h
 ·exact⟨dflt,rfl,fun _=>rfl,h⟩
 ·exact⟨_,by simp only[Option.map_some,V.toD,ey];rw[if_pos h.1],fun e=>(by cases e),h.2⟩
 ·exact h.elim
def kZ {α:Type}(xs:List α)(lo hi:Option V)(ll hh:Nat):List α:=
 match lo,hi with
 |none,none=>xs
 |none,_=>xs.take hh
 |_,none=>xs.drop ll
 |_,_=>(xs.take hh).drop ll
theorem Bx {α:Type}(xs:List α){lo hi:Option V}{ll hh:Nat}(h1:hi=none→hh=xs.length)(h2:lo=none→ll=0):kZ xs lo hi ll hh=(xs.take hh).drop ll:=by
 unfold kZ
 split
 ·rw[h1 rfl,h2 rfl];simp
 ·rw[h2 rfl];simp
 ·rw[h1 rfl];simp
 ·rfl
def xx (ei:TI){t:Ty}(xs:List t.den)(lo hi:Option V)(K:List t.den→Prop):Prop:=
 Chk (t.sz==ei.sz) (kX xs.length hi xs.length fun hh=>kX hh lo 0 fun ll=>K (kZ xs lo hi ll hh))
def vq (Θ:TT)(ti:TI)(h:VH)(n:Nat)(v:V)(lo hi:Option V)(K:Bool→V→VH→Prop):Prop:=
 match ti.k with
 | .str=>(match v with
  | .str s=>kX s.size hi s.size fun hh=>kX hh lo 0 fun ll=>K false (.str (s.extract ll hh)) []
  |_=>False)
 | .slice E=>aQ Θ E fun ei=>(match v with
  | .lst t xs=>xx ei xs lo hi fun ys=>K false (.lst t ys) []
  | .nils=>xx ei (t:=.int .i64) [] lo hi fun ys=>K false (.lst (.int .i64) ys) []
  | .ref b=>cL h b fun x=>(match x with
   | .row E' t xs=>(match t.pure && !ti.own with
    |true=>Chk t.pure (xx ei xs lo hi fun ys=>K false (.lst t ys) [(b,.froz t xs)])
    |false=>Chk (match lo with|none=>!Nat.beq b n|_=>false) (xx ei xs none hi fun ys=>K true (.ref n) [(b,.gone),(n,.row E' t ys)]))
   | .froz t xs=>xx ei xs lo hi fun ys=>K false (.lst t ys) []
   |_=>False)
  |_=>False)
 | .arr m E=>(match v,lo,hi with
  | .ptr b o,none,none=>aQ Θ E fun _=>cL h b fun x=>(match x with
   | .var _ _=>Chk (decide (m≤maxLen)) (K false (.vref b o m) [])
   | .vari _ _ _ _ _ _=>Chk (decide (m≤maxLen)) (K false (.vref b o m) [])
   |_=>False)
  |_,_,_=>False)
 |_=>False
theorem j3 {P:Program}{E:TypeId}{ei:TI}(_:ei.ok P E){t:Ty}{xs:List t.den}{lo hi:Option V}{K:List t.den→Prop}(h:xx ei xs lo hi K):
  vA ei.sz (xs.map (ab t))=ei.sz∧∃hh ll ys,ey (xs.map (ab t)).length (hi.map V.toD) (xs.map (ab t)).length=some hh∧ey hh (lo.map V.toD) 0=some ll∧((xs.map (ab t)).take hh).drop ll=ys.map (ab t)∧K ys:=by
 obtain⟨c,h1⟩:=Chk.ok h
 simp only[beq_iff_eq] at c
 obtain⟨hh,b1,b2,h2⟩:=iP h1
 obtain⟨ll,b3,b4,h3⟩:=iP h2
 refine⟨oB _ _ _ c,hh,ll,_,by rw[List.length_map];exact b1,b3,?_,h3⟩
 rw[Bx xs b2 b4,←List.map_take,←List.map_drop]
theorem row_all {t:Ty}(ht:t.pure=true)(xs:List t.den):((xs.map (ab t)).all fun e=>e.cells.all D.pure0)=true:=by
 rw[List.all_eq_true]
 intro e he
 obtain⟨x,_,rfl⟩:=List.mem_map.1 he
 exact(fP ht x).2
theorem x6 {P:Program}{Θ:TT}(hΘ:Θ.ok P){T:TypeId}{ti:TI}(ht:ti.ok P T){h:VH}{n:Nat}(hn:∀c:Id,n≤c.1→look (toH h) c=none){v:V}{lo hi:Option V}{K:Bool→V→VH→Prop}(hk:vq Θ ti h n v lo hi K):∃q r u vu,dr P (toH h) q (n,0) T v.toD (lo.map V.toD) (hi.map V.toD)=some (r.toD,u)∧bq h u vu∧K q r vu:=by
 have hu:=ht.und
 unfold vq at hk
 split at hk
 ·rename_i e
  rw[e] at hu
  split at hk
  ·rename_i s
   obtain⟨hh,b1,b2,h2⟩:=iP hk
   obtain⟨ll,b3,b4,h3⟩:=iP h2
   refine⟨_,_,[],_,?_,aC,h3⟩
   unfold dr
   simp only[show P.underlying T=some .string from hu,V.toD,b1,b3]
  ·exact hk.elim
 ·rename_i E e
  rw[e] at hu
  have hu':P.underlying T=some (.slice E):=hu
  obtain⟨ei,l1,hk⟩:=ap hk
  have hei:=hΘ _ _ l1
  unfold dr
  simp only[hu',hei.size]
  split at hk
  ·obtain⟨c,hh,ll,ys,b1,b2,b3,h3⟩:=j3 hei hk
   exact⟨_,_,[],_,by simp only[V.toD,elems,c,if_true,b1,b2,b3],aC,h3⟩
  ·obtain⟨c,hh,ll,ys,b1,b2,b3,h3⟩:=j3 hei hk
   simp only[List.map_nil] at c b1 b3
   exact⟨_,_,[],_,by simp only[V.toD,elems,c,if_true,b1,b2,b3],aC,h3⟩
  ·rename_i b _
   obtain⟨x,x1,h2⟩:=aG hk
   split at h2
   ·rename_i E' t xs
    have hl:=am (i:=0) x1 (d:=.row E' (xs.map (ab t))) rfl
    split at h2
    ·obtain⟨cp,h2⟩:=h2.ok
     obtain⟨c,hh,ll,ys,b1,b2,b3,h3⟩:=j3 hei h2
     refine⟨_,_,[((b,0),.froz (xs.map (ab t)))],_,?_,eb x1 rfl rfl,h3⟩
     simp only[V.toD,elems,hl,c,if_true,b1,b2,b3,Bool.false_eq_true,if_false,row_all cp]
    ·obtain⟨c0,h9⟩:=h2.ok
     clear h2
     cases lo with
     |some l=>cases c0
     |none=>
      have hbn:b≠n:=by rintro rfl;simp at c0
      obtain⟨c,hh,ll,ys,b1,b2,b3,h3⟩:=j3 hei h9
      simp only[Option.map_none,ey,Option.some.injEq] at b2
      subst b2
      refine⟨_,.ref n,[((b,0),.gone),((n,0),.row E' (ys.map (ab t)))],_,?_,rz hn x1 rfl hbn rfl,h3⟩
      rw[List.drop_zero] at b3
      have e0:∀q:Nat,ey q (none:Option D) 0=some 0:=fun _=>rfl
      simp only[V.toD,elems,hl,c,if_true,b1,Option.map_none,e0,b3]
   ·rename_i t xs
    have hl:=am (i:=0) x1 (d:=.froz (xs.map (ab t))) rfl
    obtain⟨c,hh,ll,ys,b1,b2,b3,h3⟩:=j3 hei h2
    exact⟨false,_,[],_,by simp only[V.toD,elems,hl,c,if_true,b1,b2,b3],aC,h3⟩
   ·exact h2.elim
  ·exact hk.elim
 ·rename_i m E e
  rw[e] at hu
  split at hk
  ·obtain⟨ei,l1,hk⟩:=ap hk
   obtain⟨x,x1,h2⟩:=aG hk
   split at h2
   ·rename_i T' cs
    have hl:=am (i:=0) x1 (d:=.var T' (af cs)) rfl
    obtain⟨c,h3⟩:=h2.ok
    simp only[decide_eq_true_eq] at c
    refine⟨_,_,[],_,?_,aC,h3⟩
    unfold dr
    simp only[show P.underlying T=some (.array m E) from hu,V.toD,(hΘ _ _ l1).size,Option.map_none,hl,if_pos c]
   ·rename_i T' pre m' t xs post
    have hl:=am (i:=0) x1 (d:=.var T' (af pre++xs.map (ab t)++af post)) rfl
    obtain⟨c,h3⟩:=h2.ok
    simp only[decide_eq_true_eq] at c
    refine⟨_,_,[],_,?_,aC,h3⟩
    unfold dr
    simp only[show P.underlying T=some (.array m E) from hu,V.toD,(hΘ _ _ l1).size,Option.map_none,hl,if_pos c]
   ·exact h2.elim
  ·exact hk.elim
 ·exact hk.elim
def p9 (t:Ty)(xs:List t.den)(K:ByteArray→Prop):Prop:=
 match t,xs with
 | .int .u8,xs=>K ⟨(xs.map fun n:Int=>UInt8.ofNat n.toNat).toArray⟩
 |_,_=>False
theorem ug {t:Ty}{xs:List t.den}{K:ByteArray→Prop}(h:p9 t xs K):∃bs,(xs.map (ab t)).mapM iQ=some bs∧K ⟨bs.toArray⟩:=by
 unfold p9 at h
 split at h
 ·rename_i xs
  refine⟨_,?_,h⟩
  rw[show xs.map (ab (.int .u8))=xs.map (D.int .u8) from rfl,List.mapM_map]
  exact py (f:=iQ∘D.int .u8) fun x _=>rfl
 ·exact h.elim
def yM (Θ:TT)(ti si:TI)(h:VH)(v:V)(K:V→Prop):Prop:=
 match ti.k with
 | .int k=>(match v,si.k with
  | .int _ n,.int _=>Ari k n fun z=>K (.int k z)
  |_,_=>False)
 | .str=>(match si.k with
  | .str=>(match v with
   | .str s=>K (.str s)
   |_=>False)
  | .slice E=>aQ Θ E fun ei=>(match ei.k with
   | .int .u8=>Chk (ei.sz==1) (lb h v fun t xs=>p9 t xs fun s=>K (.str s))
   |_=>False)
  |_=>False)
 |_=>False
theorem yN {P:Program}{Θ:TT}(hΘ:Θ.ok P){S T:TypeId}{ti si:TI}(ht:ti.ok P T)(hs:si.ok P S){h:VH}{v:V}{K:V→Prop}(hk:yM Θ ti si h v K):∃r,jn P (toH h) S T v.toD=some r.toD∧K r:=by
 have hu:=ht.und
 have hv:=hs.und
 unfold yM at hk
 split at hk
 ·rename_i k e
  rw[e] at hu
  split at hk
  ·rename_i k1 n1 k2 e2
   rw[e2] at hv
   refine⟨_,?_,hk.ok⟩
   unfold jn
   simp only[show P.underlying T=some (.int k) from hu,show P.underlying S=some (.int k2) from hv,V.toD]
  ·exact hk.elim
 ·rename_i e
  rw[e] at hu
  split at hk
  ·rename_i e2
   rw[e2] at hv
   split at hk
   ·refine⟨_,?_,hk⟩
    unfold jn
    simp only[show P.underlying T=some .string from hu,show P.underlying S=some .string from hv,V.toD]
   ·exact hk.elim
  ·rename_i E e2
   rw[e2] at hv
   obtain⟨ei,l1,hk⟩:=ap hk
   have hei:=hΘ _ _ l1
   have hek:=hei.und
   split at hk
   ·rename_i e3
    rw[e3] at hek
    obtain⟨c,hk⟩:=hk.ok
    simp only[beq_iff_eq] at c
    obtain⟨t,xs,h1,h2⟩:=iS hk
    obtain⟨bs,h3,h4⟩:=ug h2
    refine⟨_,?_,h4⟩
    unfold jn
    have hsz:sizeT P E=some 1:=by rw[hei.size,c]
    simp only[show P.underlying T=some .string from hu,show P.underlying S=some (.slice E) from hv,show P.underlying E=some (.int .u8) from hek,hsz,h1,h3,V.toD]
   ·exact hk.elim
  ·exact hk.elim
 ·exact hk.elim
def wa (t:VT)(x:Option Operand)(K:Option V→Prop):Prop:=
 match x with
 |none=>K none
 |some x=>lX t x fun v=>K (some v)
theorem se {t:VT}{x:Option Operand}{K:Option V→Prop}(h:wa t x K):∃v,fQ (dK t) x=some (v.map V.toD)∧K v:=by
 unfold wa at h
 split at h
 ·exact⟨none,rfl,h⟩
 ·obtain⟨v,h1,h2⟩:=bl h
  exact⟨some v,by simp only[fQ,h1,Option.map_some],h2⟩
def ai (P:Program)(f:FuncId)(vs:List V)(hin:VH)(r:V)(hout:VH):Prop:=Con P f (af vs) (toH hin) r.toD (toH hout)
def eG (P:Program)(f:FuncId)(vs:List V)(hin:VH)(K:V→VH→Prop):Prop:=∃r hout,ai P f vs hin r hout∧K r hout
def kr (n:Nat):List Nat→Nat→Nat
 |[],i=>n+i
 |o::_,0=>o
 |_::os,i+1=>kr n os i
def gN (os:List Nat)(n k:Nat):Nat:=match k with
 |0=>0
 |1=>1
 |2=>2
 |3=>3
 |k+4=>kr n os k
abbrev gI (g:Nat→Nat):Id→Id:=fun b=>(g b.1,b.2)
def xR (os:List Nat)(n:Nat):Bool:=fE os && (os.all fun o=>Nat.ble 4 o && Nat.blt o n) && Nat.ble 4 n
theorem cF {n:Nat}:∀{os:List Nat} {i b:Nat},os[i]?=some b→kr n os i=b
 |[],i,b,h=>by simp at h
 |o::os,0,b,h=>by simpa[kr] using h
 |o::os,i+1,b,h=>by simpa[kr] using cF (os:=os) (i:=i) (by simpa using h)
theorem ta {n:Nat}:∀{os:List Nat} {i:Nat},os.length≤i→kr n os i=n+(i-os.length)
 |[],i,_=>by simp[kr]
 |o::os,0,h=>by simp at h
 |o::os,i+1,h=>by
  have:=ta (n:=n) (os:=os) (i:=i) (by simpa using h)
  simp only[kr,this,List.length_cons]
  omega
theorem li (os:List Nat)(n:Nat){k:Nat}(hk:k<4):gN os n k=k:=by
 match k,hk with
 |0,_|1,_|2,_|3,_=>rfl
theorem d7 (os:List Nat)(n m:Nat):gN os n (4+m)=kr n os m:=by rw[Nat.add_comm];rfl
theorem wN {os:List Nat}{n:Nat}(h:xR os n=true):os.Nodup∧(∀o∈os,4≤o∧o<n)∧4≤n:=by
 unfold xR at h
 simp only[Bool.and_eq_true,List.all_eq_true] at h
 obtain⟨⟨h1,h2⟩,h3⟩:=h
 exact⟨eM h1,fun o ho=>⟨Nat.le_of_ble_eq_true (h2 o ho).1,by have:=(h2 o ho).2;simpa[Nat.blt_eq] using this⟩,Nat.le_of_ble_eq_true h3⟩
theorem mC (os:List Nat)(n k:Nat):(k<4∧gN os n k=k)∨(∃m b,k=4+m∧os[m]?=some b∧gN os n k=b)∨(∃m,k=4+m∧os.length≤m∧gN os n k=n+(m-os.length)):=by
 by_cases hk:k<4
 ·exact .inl ⟨hk,li os n hk⟩
 ·obtain⟨m,rfl⟩:∃m,k=4+m:=⟨k-4,by omega⟩
  rw[d7]
  by_cases hm:m<os.length
  ·exact .inr (.inl ⟨m,os[m],rfl,List.getElem?_eq_getElem hm,cF (List.getElem?_eq_getElem hm)⟩)
  ·exact .inr (.inr ⟨m,rfl,by omega,ta (by omega)⟩)
theorem zt {os:List Nat}{n:Nat}(h:xR os n=true){a b:Nat}(he:gN os n a=gN os n b):a=b:=by
 obtain⟨h1,h2,h3⟩:=wN h
 rcases mC os n a with⟨a1,a2⟩|⟨m,x,rfl,a1,a2⟩|⟨m,rfl,a1,a2⟩<;>rcases mC os n b with⟨b1,b2⟩|⟨m',y,rfl,b1,b2⟩|⟨m',rfl,b1,b2⟩<;>rw[a2,b2] at he
 ·exact he
 ·have:=h2 y (List.mem_of_getElem? b1);omega
 ·omega
 ·have:=h2 x (List.mem_of_getElem? a1);omega
 ·subst he
  have e1:=(List.getElem?_eq_some_iff.1 a1).1
  have:=(List.getElem?_inj e1 h1).1 (a1.trans b1.symm)
  omega
 ·have:=h2 x (List.mem_of_getElem? a1);omega
 ·omega
 ·have:=h2 y (List.mem_of_getElem? b1);omega
 ·omega
theorem zr {os:List Nat}{n:Nat}(h:xR os n=true){a b:Id}(he:gI (gN os n) a=gI (gN os n) b):a=b:=by
 obtain⟨a1,a2⟩:=a
 obtain⟨b1,b2⟩:=b
 simp only[gI,Prod.mk.injEq] at he⊢
 exact⟨zt h he.1,he.2⟩
def lB (b:Nat):List Nat→Nat→(Option Nat→Prop)→Prop
 |[],_,K=>K none
 |o::os,i,K=>bif Nat.beq o b then K (some i) else dV (i+1) fun i=>lB b os i K
theorem dG {b:Nat}:∀{os:List Nat} {i:Nat} {K:Option Nat→Prop},lB b os i K→∃r,(r=none→b∉os)∧(∀j,r=some j→∃m,j=i+m∧os[m]?=some b)∧K r
 |[],i,K,hk=>⟨none,by simp,by simp,hk⟩
 |o::os,i,K,hk=>by
  simp only[lB] at hk
  cases hb:Nat.beq o b with
  |true=>
   rw[hb] at hk
   obtain rfl:=Nat.eq_of_beq_eq_true hb
   exact⟨some i,by simp,fun j hj=>⟨0,by simpa using hj.symm,rfl⟩,hk⟩
  |false=>
   rw[hb] at hk
   simp only[cond_false] at hk
   have hk:=aV hk
   obtain⟨r,h1,h2,h3⟩:=dG hk
   refine⟨r,fun hr hm=>?_,fun j hj=>?_,h3⟩
   ·rcases List.mem_cons.1 hm with rfl|hm
    ·simp at hb
    ·exact h1 hr hm
   ·obtain⟨m,e1,e2⟩:=h2 j hj
    exact⟨m+1,by omega,by simpa using e2⟩
def Ty.fams:Ty→List Nat
 | .hr k| .hp k| .vtxo k| .pplm k| .nod k| .evto k=>[k]
 | .pplo k k'=>[k,k']
 |_=>[]
def A3 (a b:List Nat):Bool:=a.all fun x=>b.contains x
theorem re {a b:List Nat}(h:A3 a b=true):∀x∈a,x∈b:=by
 unfold A3 at h
 rw[List.all_eq_true] at h
 intro x hx
 simpa using h x hx
def Fg (pss:List (List Int)):Option Nat→Option (List Int)
 |some i=>pss[i]?
 |none=>some []
def BC (pss:List (List Int))(x:VtxO):Option Vtx:=(Fg pss x.parents).map fun ps=>⟨x.round,x.author,ps,x.digest⟩
def F8 (pss mss:List (List Int))(x:PplO):Option Ppl:=(BC pss x.v).bind fun v=>(Fg mss x.members).map fun ms=>⟨v,ms⟩
def F6 (pss:List (List Int))(x:EvtO):Option Evt:=(BC pss x.v).map fun v=>⟨x.kind,x.a,x.b,v⟩
def F7 (pss:List (List Int))(vss:List (List VtxO)):Option Nat→Option (List Vtx)
 |some i=>vss[i]?.bind fun vs=>vs.mapM (BC pss)
 |none=>some []
def Gi (pss:List (List Int))(xs:List VtxO):List (List Vtx):=(xs.mapM (BC pss)).toList
def xz (pss mss:List (List Int))(xs:List PplO):List (List Ppl):=(xs.mapM (F8 pss mss)).toList
def DM (pss:List (List Int))(xs:List EvtO):List (List Evt):=(xs.mapM (F6 pss)).toList
def xy (pss:List (List Int))(vss:List (List VtxO))(xs:List (Option Nat)):List (List (List Vtx)):=(xs.mapM (F7 pss vss)).toList
def yU (h:VH)(b:Nat)(t:Ty)(xs:List t.den)(K:V→List Nat→Prop):Prop:=
 match t,xs with
 | .vtxo k,xs=>(match ay h k with
  |some (.frow _ (.int .i64) pss)=>eQ (Gi pss xs) 0 fun ys=>K (.lst .vtx ys) [b,k]
  |_=>False)
 | .pplo k k',xs=>(match ay h k,ay h k' with
  |some (.frow _ (.int .i64) pss),some (.frow _ (.int .i64) mss)=>eQ (xz pss mss xs) 0 fun ys=>K (.lst .ppl ys) [b,k,k']
  |_,_=>False)
 | .evto k,xs=>(match ay h k with
  |some (.frow _ (.int .i64) pss)=>eQ (DM pss xs) 0 fun ys=>K (.lst .evt ys) [b,k]
  |_=>False)
 | .hr k,xs=>(match ay h k with
  |some (.frow _ (.vtxo k') vss)=>(match ay h k' with
   |some (.frow _ (.int .i64) pss)=>eQ (xy pss vss xs) 0 fun ys=>K (.lst (.lst .vtx) ys) [b,k,k']
   |_=>False)
  |_=>False)
 |_,_=>False
mutual
def bi (os fs:List Nat)(h:VH)(v:V)(K:V→List Nat→Prop):Prop:=
 match v with
 | .ref b=>lB b os 4 fun r=>(match r with
  |some i=>K (.ref i) []
  |none=>(match ay h b with
   |some (.row _ t xs)=>(match t.pure with
    |true=>K (.lst t xs) [b]
    |false=>Chk (os.isEmpty && fs.isEmpty) (yU h b t xs K))
   |some (.froz t xs)=>K (.lst t xs) [b]
   |_=>False))
 | .ptr b o=>lB b os 4 fun r=>(match r with
  |some i=>K (.ptr i o) []
  |none=>(match ay h b,o with
   |some (.fvb t x),0=>K (.box t x) [b]
   |_,_=>False))
 | .eptr b j o=>lB b os 4 fun r=>(match r with|some i=>K (.eptr i j o) []|none=>False)
 | .vref b o m=>lB b os 4 fun r=>(match r with|some i=>K (.vref i o m) []|none=>False)
 | .aptr b p j=>lB b os 4 fun r=>(match r with|some i=>K (.aptr i p j) []|none=>False)
 | .fref k i=>Chk (fs.contains k) (K (.fref k i) [])
 | .fptr k i o=>Chk (fs.contains k) (K (.fptr k i o) [])
 | .feptr k i j o=>Chk (fs.contains k) (K (.feptr k i j o) [])
 | .faptr k i p j=>Chk (fs.contains k) (K (.faptr k i p j) [])
 | .hro k o=>(match fs.contains k with
  |true=>K (.hro k o) []
  |false=>jf o False fun i=>(match ay h k with
   |some (.frow _ t xss)=>Chk (t.pure && !os.contains k) (eQ xss i fun xs=>K (.lst t xs) [k])
   |some (.frowx _ t xss)=>Chk (t.pure && !os.contains k) (eQ xss i fun ox=>jf ox False fun xs=>K (.lst t xs) [k])
   |_=>False))
 | .hpo k o=>Chk (fs.contains k) (K (.hpo k o) [])
 | .agg cs=>gT os fs h cs fun cs ws=>K (.agg cs) ws
 | .clo f cs=>gT os fs h cs fun cs ws=>K (.clo f cs) ws
 | .ifc T v=>bi os fs h v fun v ws=>K (.ifc T v) ws
 | .nils=>K (.lst (.int .i64) []) []
 | .int k n=>K (.int k n) []
 | .bool b=>K (.bool b) []
 | .tt=>K .tt []
 | .ff=>K .ff []
 | .str s=>K (.str s) []
 | .lst t xs=>K (.lst t xs) []
 | .box t x=>K (.box t x) []
 | .nilp=>K .nilp []
 | .nilf=>K .nilf []
 | .nili=>K .nili []
 | .gv g=>K (.gv g) []
 | .obo t o=>K (.obo t o) []
 | .junk=>K .junk []
 |_=>False
def gT (os fs:List Nat)(h:VH)(l:List V)(K:List V→List Nat→Prop):Prop:=
 match l with
 |[]=>K [] []
 |v::l=>bi os fs h v fun v ws=>gT os fs h l fun l ws'=>K (v::l) (ws++ws')
end
def F3 (h:VH)(b:Nat):Prop:=(∃E t,∃xs:List (Ty.den t),t.pure=true∧look h b=some (.row E t xs))∨(∃t,∃xs:List (Ty.den t),look h b=some (.froz t xs))∨∃t,∃x:Ty.den t,look h b=some (.fvb t x)
def F4 (h:VH)(b:Nat):Prop:=(∃E t,∃xs:List (List (Ty.den t)),look h b=some (.frow E t xs))∨(∃E t,∃xs:List (Option (List (Ty.den t))),look h b=some (.frowx E t xs))∨∃E t,∃xs:List (Ty.den t),t.pure=false∧look h b=some (.row E t xs)
def oJ (h:VH)(os fs:List Nat)(b:Nat):Prop:=b∉os∧(F3 h b∨(b∉fs∧F4 h b))
def Fc (h:VH)(ws:List Nat)(W:List Id):Prop:=∀b∈ws,∀i,Live (toH h) (b,i)→(b,i)∈W
structure HinOK (os fs:List Nat)(h:VH)(hin:HL):Prop where
 low:∀k∈fs,k<4
 sgl:∀m b,os[m]?=some b→Live hin (4+m,0)
 fam:∀k∈fs,∀i,Live (toH h) (k,i)→Live hin (k,i)
theorem jc {os fs:List Nat}{n:Nat}{h:VH}{hin:HL}(H:HinOK os fs h hin){m b:Nat}(hb:os[m]?=some b):VLive (toH h) (gI (gN os n)) hin fs (4+m,0)∧gI (gN os n) (4+m,0)=(b,0):=
 ⟨.inl (H.sgl m b hb),by simp only[gI,d7,cF hb]⟩
theorem lP {os fs:List Nat}{n:Nat}{h:VH}{hin:HL}(H:HinOK os fs h hin){k:Nat}(hk:k∈fs)(i:Nat):VLive (toH h) (gI (gN os n)) hin fs (k,i)∧gI (gN os n) (k,i)=(k,i):=by
 have e:gI (gN os n) (k,i)=(k,i):=by simp only[gI,li os n (H.low k hk)]
 exact⟨.inr ⟨by rw[e];exact hk,fun hl=>H.fam k hk i (by rw[e] at hl;exact hl)⟩,e⟩
section
variable {os fs:List Nat} {n:Nat} {h:VH} {hin:HL} {W:List Id}
theorem Bd (H:HinOK os fs h hin){m b:Nat}(hb:os[m]?=some b):View (toH h) (gI (gN os n)) hin W fs (.ref (b,0)) (.ref (4+m,0)):=by
 obtain⟨h1,h2⟩:=jc (n:=n) H hb
 have:=View.ref (W:=W) _ h1
 rwa [h2] at this
theorem tR (H:HinOK os fs h hin){m b:Nat}(hb:os[m]?=some b)(o:Nat):View (toH h) (gI (gN os n)) hin W fs (.ptr (b,0) o) (.ptr (4+m,0) o):=by
 obtain⟨h1,h2⟩:=jc (n:=n) H hb
 have:=View.ptr (W:=W) _ o h1
 rwa [h2] at this
theorem yi (H:HinOK os fs h hin){m b:Nat}(hb:os[m]?=some b)(j o:Nat):View (toH h) (gI (gN os n)) hin W fs (.eptr (b,0) j o) (.eptr (4+m,0) j o):=by
 obtain⟨h1,h2⟩:=jc (n:=n) H hb
 have:=View.eptr (W:=W) _ j o h1
 rwa [h2] at this
theorem yj (H:HinOK os fs h hin){m b:Nat}(hb:os[m]?=some b)(o q:Nat):View (toH h) (gI (gN os n)) hin W fs (.vref (b,0) o q) (.vref (4+m,0) o q):=by
 obtain⟨h1,h2⟩:=jc (n:=n) H hb
 have:=View.vref (W:=W) _ o q h1
 rwa [h2] at this
theorem pN (H:HinOK os fs h hin){k:Nat}(hk:k∈fs)(i:Nat):View (toH h) (gI (gN os n)) hin W fs (.ref (k,i)) (.ref (k,i)):=by
 obtain⟨h1,h2⟩:=lP (n:=n) H hk i
 have:=View.ref (W:=W) _ h1
 rwa [h2] at this
theorem lN (H:HinOK os fs h hin){k:Nat}(hk:k∈fs)(i o:Nat):View (toH h) (gI (gN os n)) hin W fs (.ptr (k,i) o) (.ptr (k,i) o):=by
 obtain⟨h1,h2⟩:=lP (n:=n) H hk i
 have:=View.ptr (W:=W) _ o h1
 rwa [h2] at this
theorem vH (H:HinOK os fs h hin){k:Nat}(hk:k∈fs)(i j o:Nat):View (toH h) (gI (gN os n)) hin W fs (.eptr (k,i) j o) (.eptr (k,i) j o):=by
 obtain⟨h1,h2⟩:=lP (n:=n) H hk i
 have:=View.eptr (W:=W) _ j o h1
 rwa [h2] at this
theorem fx (H:HinOK os fs h hin){k:Nat}(hk:k∈fs)(o:Option Nat):View (toH h) (gI (gN os n)) hin W fs (iX k o) (iX k o):=by
 cases o with
 |none=>exact .pure 0 _ _ rfl (fun b hb=>by cases hb)
 |some i=>exact pN H hk i
theorem xc (H:HinOK os fs h hin){k:Nat}(hk:k∈fs)(o:Option Nat):View (toH h) (gI (gN os n)) hin W fs (l7 k o) (l7 k o):=by
 cases o with
 |none=>exact .pure 0 _ _ rfl (fun b hb=>by cases hb)
 |some i=>exact lN H hk i 0
theorem jb {d d':D}{g:Id→Id}{hh:HL}(hd:leaf d=some d'):View hh g hin W fs d d':=.pure 0 _ _ hd (fun b hb=>by cases hb)
theorem gj {cs:List D}{g:Id→Id}{hh:HL}(hc:∀c∈cs,View hh g hin W fs c c):View hh g hin W fs (.agg cs) (.agg cs):=.agg cs cs rfl fun i hi=>hc _ (aI hi)
theorem kM (H:HinOK os fs h hin){t:Ty}(ht:∀k∈t.fams,k∈fs)(x:t.den):View (toH h) (gI (gN os n)) hin W fs (ab t x) (ab t x):=by
 by_cases hp:t.pure=true
 ·by_cases hag:∃cs,ab t x= .agg cs
  ·obtain⟨cs,he⟩:=hag
   have:=gc hp x
   rw[he] at this⊢
   exact gj fun c hc=>jb (this c hc)
  ·have hc:(ab t x).cells=[ab t x]:=bA fun cs hcs=>hag ⟨cs,hcs⟩
   exact jb (gc hp x _ (by rw[hc];exact List.mem_singleton.2 rfl))
 ·have lf:∀d:D,leaf d=some d→View (toH h) (gI (gN os n)) hin W fs d d:=fun d hd=>jb hd
  cases t<;>simp only[Ty.pure,not_true_eq_false] at hp
  case hr k=>exact fx H (ht k (by simp[Ty.fams])) x
  case hp k=>exact xc H (ht k (by simp[Ty.fams])) x
  case vtxo k=>
   refine gj fun c hc=>?_
   simp only[List.mem_cons,List.not_mem_nil,or_false] at hc
   rcases hc with rfl|rfl|rfl|rfl
   ·exact lf _ rfl
   ·exact lf _ rfl
   ·exact fx H (ht k (by simp[Ty.fams])) _
   ·exact lf _ rfl
  case pplm k=>
   refine gj fun c hc=>?_
   simp only[eE,List.cons_append,List.nil_append,List.mem_cons,List.not_mem_nil,or_false] at hc
   rcases hc with rfl|rfl|rfl|rfl|rfl
   ·exact lf _ rfl
   ·exact lf _ rfl
   ·exact lf _ rfl
   ·exact lf _ rfl
   ·exact fx H (ht k (by simp[Ty.fams])) _
  case pplo k k'=>
   refine gj fun c hc=>?_
   simp only[List.mem_cons,List.not_mem_nil,or_false] at hc
   rcases hc with rfl|rfl|rfl|rfl|rfl
   ·exact lf _ rfl
   ·exact lf _ rfl
   ·exact fx H (ht k (by simp[Ty.fams])) _
   ·exact lf _ rfl
   ·exact fx H (ht k' (by simp[Ty.fams])) _
  case evto k=>
   refine gj fun c hc=>?_
   simp only[List.mem_cons,List.not_mem_nil,or_false] at hc
   rcases hc with rfl|rfl|rfl|rfl|rfl|rfl|rfl
   ·exact lf _ rfl
   ·exact lf _ rfl
   ·exact lf _ rfl
   ·exact lf _ rfl
   ·exact lf _ rfl
   ·exact fx H (ht k (by simp[Ty.fams])) _
   ·exact lf _ rfl
  case nod k=>
   refine gj fun c hc=>?_
   simp only[eE,List.cons_append,List.nil_append,List.mem_cons,List.not_mem_nil,or_false] at hc
   rcases hc with rfl|rfl|rfl|rfl|rfl|rfl
   ·exact lf _ rfl
   ·exact lf _ rfl
   ·exact lf _ rfl
   ·exact lf _ rfl
   ·exact lf _ rfl
   ·exact fx H (ht k (by simp[Ty.fams])) _
theorem xd {b:Nat}(hw:(b,0)∈W){t:Ty}{xs:List t.den}{g:Id→Id}(hb:(∃E,t.pure=true∧look h b=some (.row E t xs))∨look h b=some (.froz t xs)):View (toH h) g hin W fs (.ref (b,0)) (.lst (xs.map (ab t))):=by
 refine .pure 1 _ _ ?_ fun c hc=>?_
 ·rcases hb with⟨E,hp,hb⟩|hb
  ·have hl:=am (i:=0) hb (d:=.row E (xs.map (ab t))) rfl
   simp only[purD,hl]
   rw[show (fun x=>leaf x)=leaf from rfl,row_pure hp]
   rfl
  ·have hl:=am (i:=0) hb (d:=.froz (xs.map (ab t))) rfl
   simp only[purD,hl]
 ·unfold idsD at hc
  rcases List.mem_cons.1 hc with rfl|hc
  ·exact hw
  ·exfalso
   split at hc
   ·rw[List.mem_flatMap] at hc
    obtain⟨e,_,hc⟩:=hc
    rw[List.mem_flatMap] at hc
    obtain⟨d,_,hc⟩:=hc
    cases hc
   ·cases hc
theorem tS {b i:Nat}(hw:(b,i)∈W){E:TypeId}{t:Ty}{xs:List t.den}{g:Id→Id}(hp:t.pure=true)(hl:look (toH h) (b,i)=some (.row E (xs.map (ab t)))):View (toH h) g hin W fs (.ref (b,i)) (.lst (xs.map (ab t))):=by
 refine .pure 1 _ _ ?_ fun c hc=>?_
 ·simp only[purD,hl]
  rw[show (fun x=>leaf x)=leaf from rfl,row_pure hp]
  rfl
 ·unfold idsD at hc
  rcases List.mem_cons.1 hc with rfl|hc
  ·exact hw
  ·exfalso
   split at hc
   ·rw[List.mem_flatMap] at hc
    obtain⟨e,_,hc⟩:=hc
    rw[List.mem_flatMap] at hc
    obtain⟨d,_,hc⟩:=hc
    cases hc
   ·cases hc
theorem km {α β:Type}{f:α→Option β}{l:List α}{l':List β}(h:l.mapM f=some l'):l.length=l'.length∧∀(i:Nat) x,l[i]?=some x→∃y,l'[i]?=some y∧f x=some y:=by
 induction l generalizing l' with
 |nil=>simp at h;subst h;exact⟨rfl,fun i x hx=>by simp at hx⟩
 |cons a l ih=>
  simp only[List.mapM_cons,Option.bind_eq_bind,Option.pure_def] at h
  obtain⟨y,h1,h⟩:=Option.bind_eq_some_iff.1 h
  obtain⟨l2,h2,h⟩:=Option.bind_eq_some_iff.1 h
  obtain rfl:=Option.some.inj h
  obtain⟨h3,h4⟩:=ih h2
  refine⟨by simp[h3],fun i x hx=>?_⟩
  cases i with
  |zero=>simp at hx;subst hx;exact⟨y,rfl,h1⟩
  |succ i=>simpa using h4 i x (by simpa using hx)
theorem nX {α β γ δ:Type}{f:α→Option β}{p:γ→α}{q:δ→β}:∀{l:List γ} {l':List δ},l.length=l'.length→(∀(i:Nat) x y,l[i]?=some x→l'[i]?=some y→f (p x)=some (q y))→(l.map p).mapM f=some (l'.map q)
 |[],[],_,_=>rfl
 |[],_::_,h,_=>by cases h
 |_::_,[],h,_=>by cases h
 |x::l,y::l',hl,h=>by simp[List.mapM_cons,h 0 x y rfl rfl,nX (l:=l) (l':=l') (by simpa using hl) fun i a b ha hb=>h (i+1) a b (by simpa using ha) (by simpa using hb)]
structure DpE (h:VH)(n:Nat)(g:List Nat)(d d':D):Prop where
 pur:purE (purD (toH h) n) d=some d'
 ids:∀c∈d.cells,∀b∈idsD (toH h) n c,b.1∈g∧Live (toH h) b
theorem ux {h:VH}{n:Nat}{g:List Nat}{k i:Nat}{E:TypeId}{ds ds':List D}(hl:look (toH h) (k,i)=some (.row E ds))(hk:k∈g)(hlen:ds.length=ds'.length)(hd:∀(j:Nat) x y,ds[j]?=some x→ds'[j]?=some y→DpE h n g x y):
  purD (toH h) (n+1) (.ref (k,i))=some (.lst ds')∧∀b∈idsD (toH h) (n+1) (.ref (k,i)),b.1∈g∧Live (toH h) b:=by
 constructor
 ·have:=nX (f:=purE (purD (toH h) n)) (p:=id) (q:=id) hlen fun j x y hx hy=>(hd j x y hx hy).pur
  simp only[List.map_id] at this
  simp only[purD,hl,this,Option.map_some]
 ·intro b hb
  simp only[idsD,hl] at hb
  rcases List.mem_cons.1 hb with rfl|hb
  ·exact⟨hk,Live.of_look hl⟩
  ·obtain⟨e,he,hb⟩:=List.mem_flatMap.1 hb
   obtain⟨c,hc,hb⟩:=List.mem_flatMap.1 hb
   obtain⟨j,hj⟩:=List.getElem?_of_mem he
   have hj2:j<ds'.length:=by rw[←hlen];exact(List.getElem?_eq_some_iff.1 hj).1
   exact(hd j e _ hj (List.getElem?_eq_getElem hj2)).ids c hc b hb
theorem BD {h:VH}{n:Nat}{g:List Nat}{t:Ty}(ht:t.pure=true)(x:t.den)(hn:n=0):DpE h n g (ab t x) (ab t x):=by
 subst hn
 exact⟨pJ ht x,fun c hc b hb=>by cases hb⟩
theorem v7 {h:VH}{g:List Nat}{k:Nat}{E:TypeId}{pss:List (List Int)}(hk:look h k=some (.frow E (.int .i64) pss))(hg:k∈g){o:Option Nat}{ps:List Int}(hp:Fg pss o=some ps):
  purD (toH h) 1 (iX k o)=some (dA ps)∧∀b∈idsD (toH h) 1 (iX k o),b.1∈g∧Live (toH h) b:=by
 cases o with
 |none=>
  obtain rfl:=Option.some.inj hp
  exact⟨rfl,fun b hb=>by simp[iX,idsD] at hb⟩
 |some i=>
  have hl:=am (i:=i) hk (d:=.row E (ps.map (ab (.int .i64)))) (by simp only[VB.blks,List.getElem?_map];rw[show pss[i]?=some ps from hp];rfl)
  refine ux hl hg rfl fun j x y hx hy=>?_
  rw[ip] at hx
  rw[hx] at hy
  obtain rfl:=Option.some.inj hy
  obtain⟨e,_,rfl⟩:=List.mem_map.1 (List.mem_of_getElem? hx)
  exact BD (t:=.int .i64) rfl e rfl
theorem eB {h:VH}{n:Nat}{g:List Nat}(x:Int):purD (toH h) n (.int .i64 x)=some (.int .i64 x)∧∀b∈idsD (toH h) n (.int .i64 x),b.1∈g∧Live (toH h) b:=by
 cases n<;>exact⟨rfl,fun b hb=>by simp[idsD] at hb⟩
theorem uw {h:VH}{n:Nat}{g:List Nat}:∀{cs cs':List D},cs.length=cs'.length→(∀(i:Nat) c c',cs[i]?=some c→cs'[i]?=some c'→purD (toH h) n c=some c'∧∀b∈idsD (toH h) n c,b.1∈g∧Live (toH h) b)→DpE h n g (.agg cs) (.agg cs'):=by
 intro cs cs' hl hc
 constructor
 ·have:=nX (f:=purD (toH h) n) (p:=id) (q:=id) hl fun i x y hx hy=>(hc i x y hx hy).1
  simp only[List.map_id] at this
  simp only[purE,this,Option.map_some]
 ·intro c hm b hb
  obtain⟨i,hi⟩:=List.getElem?_of_mem (show c∈cs from hm)
  have hi2:i<cs'.length:=by rw[←hl];exact(List.getElem?_eq_some_iff.1 hi).1
  exact(hc i c _ hi (List.getElem?_eq_getElem hi2)).2 b hb
theorem yW {h:VH}{g:List Nat}{k:Nat}{E:TypeId}{pss:List (List Int)}(hk:look h k=some (.frow E (.int .i64) pss))(hg:k∈g){x:VtxO}{y:Vtx}(hp:BC pss x=some y):DpE h 1 g (ab (.vtxo k) x) (ab .vtx y):=by
 obtain⟨ps,h1,rfl⟩:=Option.map_eq_some_iff.1 hp
 refine uw rfl fun i c c' hc hc'=>?_
 match i with
 |0=>obtain rfl:=Option.some.inj hc;obtain rfl:=Option.some.inj hc';exact eB _
 |1=>obtain rfl:=Option.some.inj hc;obtain rfl:=Option.some.inj hc';exact eB _
 |2=>obtain rfl:=Option.some.inj hc;obtain rfl:=Option.some.inj hc';exact v7 hk hg h1
 |3=>obtain rfl:=Option.some.inj hc;obtain rfl:=Option.some.inj hc';exact eB _
 |i+4=>cases hc
theorem DP {h:VH}{g:List Nat}{k k':Nat}{E E':TypeId}{pss mss:List (List Int)}(hk:look h k=some (.frow E (.int .i64) pss))(hk':look h k'=some (.frow E' (.int .i64) mss))(hg:k∈g)(hg':k'∈g){x:PplO}{y:Ppl}(hp:F8 pss mss x=some y):DpE h 1 g (ab (.pplo k k') x) (ab .ppl y):=by
 obtain⟨v,h1,h2⟩:=Option.bind_eq_some_iff.1 hp
 obtain⟨ms,h3,rfl⟩:=Option.map_eq_some_iff.1 h2
 obtain⟨ps,h4,rfl⟩:=Option.map_eq_some_iff.1 h1
 refine uw rfl fun i c c' hc hc'=>?_
 match i with
 |0=>obtain rfl:=Option.some.inj hc;obtain rfl:=Option.some.inj hc';exact eB _
 |1=>obtain rfl:=Option.some.inj hc;obtain rfl:=Option.some.inj hc';exact eB _
 |2=>obtain rfl:=Option.some.inj hc;obtain rfl:=Option.some.inj hc';exact v7 hk hg h4
 |3=>obtain rfl:=Option.some.inj hc;obtain rfl:=Option.some.inj hc';exact eB _
 |4=>obtain rfl:=Option.some.inj hc;obtain rfl:=Option.some.inj hc';exact v7 hk' hg' h3
 |i+5=>cases hc
theorem DN {h:VH}{g:List Nat}{k:Nat}{E:TypeId}{pss:List (List Int)}(hk:look h k=some (.frow E (.int .i64) pss))(hg:k∈g){x:EvtO}{y:Evt}(hp:F6 pss x=some y):DpE h 1 g (ab (.evto k) x) (ab .evt y):=by
 obtain⟨v,h1,rfl⟩:=Option.map_eq_some_iff.1 hp
 obtain⟨ps,h2,rfl⟩:=Option.map_eq_some_iff.1 h1
 refine uw rfl fun i c c' hc hc'=>?_
 match i with
 |0=>obtain rfl:=Option.some.inj hc;obtain rfl:=Option.some.inj hc';exact eB _
 |1=>obtain rfl:=Option.some.inj hc;obtain rfl:=Option.some.inj hc';exact eB _
 |2=>obtain rfl:=Option.some.inj hc;obtain rfl:=Option.some.inj hc';exact eB _
 |3=>obtain rfl:=Option.some.inj hc;obtain rfl:=Option.some.inj hc';exact eB _
 |4=>obtain rfl:=Option.some.inj hc;obtain rfl:=Option.some.inj hc';exact eB _
 |5=>obtain rfl:=Option.some.inj hc;obtain rfl:=Option.some.inj hc';exact v7 hk hg h2
 |6=>obtain rfl:=Option.some.inj hc;obtain rfl:=Option.some.inj hc';exact eB _
 |i+7=>cases hc
theorem DO {h:VH}{g:List Nat}{k k':Nat}{E E':TypeId}{pss:List (List Int)}{vss:List (List VtxO)}(hk:look h k=some (.frow E (.vtxo k') vss))(hk':look h k'=some (.frow E' (.int .i64) pss))(hg:k∈g)(hg':k'∈g){o:Option Nat}{y:List Vtx}(hp:F7 pss vss o=some y):DpE h 2 g (ab (.hr k) o) (ab (.lst .vtx) y):=by
 cases o with
 |none=>
  obtain rfl:=Option.some.inj hp
  exact⟨rfl,fun c hc b hb=>by simp[ab,iX,D.cells] at hc;subst hc;simp[idsD] at hb⟩
 |some i=>
  obtain⟨vs,h1,h2⟩:=Option.bind_eq_some_iff.1 hp
  have hl:=am (i:=i) hk (d:=.row E (vs.map (ab (.vtxo k')))) (by simp only[VB.blks,List.getElem?_map,h1,Option.map_some])
  obtain⟨h3,h4⟩:=km h2
  obtain⟨q1,q2⟩:=ux (n:=1) (g:=g) (ds':=y.map (ab .vtx)) hl hg (by simp[h3]) fun j x z hx hz=>by
   rw[List.getElem?_map] at hx hz
   obtain⟨a,ha,rfl⟩:=Option.map_eq_some_iff.1 hx
   obtain⟨c,hc,rfl⟩:=Option.map_eq_some_iff.1 hz
   obtain⟨c2,hc2,hf⟩:=h4 j a ha
   rw[hc] at hc2
   obtain rfl:=Option.some.inj hc2
   exact yW hk' hg' hf
  refine⟨q1,fun c hc b hb=>?_⟩
  simp only[ab,iX,D.cells,List.mem_singleton] at hc
  subst hc
  exact q2 b hb
theorem ja {hin:HL}{W:List Id}{g:Id→Id}{fs:List Nat}{h:VH}{b n:Nat}{E:TypeId}{t t':Ty}{xs:List t.den}{ys:List t'.den}{ws:List Nat}(hb:look h b=some (.row E t xs))(hw:b∈ws)(hW:Fc h ws W)(hl:xs.length=ys.length)(hd:∀(i:Nat) x y,xs[i]?=some x→ys[i]?=some y→DpE h n ws (ab t x) (ab t' y)):View (toH h) g hin W fs (.ref (b,0)) (.lst (ys.map (ab t'))):=by
 obtain⟨q1,q2⟩:=ux (n:=n) (g:=ws) (ds':=ys.map (ab t')) (am (i:=0) hb (d:=.row E (xs.map (ab t))) rfl) hw (by simp[hl]) fun j x z hx hz=>by
  rw[List.getElem?_map] at hx hz
  obtain⟨a,ha,rfl⟩:=Option.map_eq_some_iff.1 hx
  obtain⟨c,hc,rfl⟩:=Option.map_eq_some_iff.1 hz
  exact hd j a c ha hc
 exact .pure _ _ _ q1 fun c hc=>hW c.1 (q2 c hc).1 c.2 (q2 c hc).2
theorem kJ {α:Type}{o:Option α}{x:α}(h:o.toList[0]?=some x):o=some x:=by cases o<;>simp at h;rw[h]
theorem yV {os fs:List Nat}{h:VH}{b:Nat}{E:TypeId}{t:Ty}{xs:List t.den}{K:V→List Nat→Prop}(hos:os=[])(hfs:fs=[])(hp:t.pure=false)(hb:look h b=some (.row E t xs))(hk:yU h b t xs K):
  ∃v' ws,(∀(g:Id→Id) (hin:HL) (W:List Id) (F:List Nat),Fc h ws W→View (toH h) g hin W F (.ref (b,0)) v'.toD)∧(∀b∈ws,oJ h os fs b)∧K v' ws:=by
 subst hos hfs
 have r0:oJ h [] [] b:=⟨by simp,.inr ⟨by simp,.inr (.inr ⟨E,t,xs,hp,hb⟩)⟩⟩
 have rf:∀k E' t',∀yss:List (List (Ty.den t')),look h k=some (.frow E' t' yss)→oJ h [] [] k:=fun k E' t' yss hk=>⟨by simp,.inr ⟨by simp,.inl ⟨E',t',yss,hk⟩⟩⟩
 unfold yU at hk
 split at hk
 ·rename_i k xs
  split at hk
  ·rename_i E' pss hl
   rw[ax] at hl
   obtain⟨ys,hy,hk⟩:=hk
   have hy:=km (kJ hy)
   refine⟨_,_,fun g hin W F hW=>ja (n:=1) hb (by simp) hW hy.1 fun i x y hx hz=>?_,fun c hc=>?_,hk⟩
   ·obtain⟨z,z1,z2⟩:=hy.2 i x hx
    rw[hz] at z1
    obtain rfl:=Option.some.inj z1
    exact yW hl (by simp) z2
   ·rcases List.mem_cons.1 hc with rfl|hc
    ·exact r0
    ·obtain rfl:=List.mem_singleton.1 hc
     exact rf _ _ _ _ hl
  ·exact hk.elim
 ·rename_i k k' xs
  split at hk
  ·rename_i E' pss E'' mss hl hl'
   rw[ax] at hl hl'
   obtain⟨ys,hy,hk⟩:=hk
   have hy:=km (kJ hy)
   refine⟨_,_,fun g hin W F hW=>ja (n:=1) hb (by simp) hW hy.1 fun i x y hx hz=>?_,fun c hc=>?_,hk⟩
   ·obtain⟨z,z1,z2⟩:=hy.2 i x hx
    rw[hz] at z1
    obtain rfl:=Option.some.inj z1
    exact DP hl hl' (by simp) (by simp) z2
   ·rcases List.mem_cons.1 hc with rfl|hc
    ·exact r0
    ·rcases List.mem_cons.1 hc with rfl|hc
     ·exact rf _ _ _ _ hl
     ·obtain rfl:=List.mem_singleton.1 hc
      exact rf _ _ _ _ hl'
  ·exact hk.elim
 ·rename_i k xs
  split at hk
  ·rename_i E' pss hl
   rw[ax] at hl
   obtain⟨ys,hy,hk⟩:=hk
   have hy:=km (kJ hy)
   refine⟨_,_,fun g hin W F hW=>ja (n:=1) hb (by simp) hW hy.1 fun i x y hx hz=>?_,fun c hc=>?_,hk⟩
   ·obtain⟨z,z1,z2⟩:=hy.2 i x hx
    rw[hz] at z1
    obtain rfl:=Option.some.inj z1
    exact DN hl (by simp) z2
   ·rcases List.mem_cons.1 hc with rfl|hc
    ·exact r0
    ·obtain rfl:=List.mem_singleton.1 hc
     exact rf _ _ _ _ hl
  ·exact hk.elim
 ·rename_i k xs
  split at hk
  ·rename_i E' k' vss hl
   split at hk
   ·rename_i E'' pss hl'
    rw[ax] at hl hl'
    obtain⟨ys,hy,hk⟩:=hk
    have hy:=km (kJ hy)
    refine⟨_,_,fun g hin W F hW=>ja (n:=2) hb (by simp) hW hy.1 fun i x y hx hz=>?_,fun c hc=>?_,hk⟩
    ·obtain⟨z,z1,z2⟩:=hy.2 i x hx
     rw[hz] at z1
     obtain rfl:=Option.some.inj z1
     exact DO hl hl' (by simp) (by simp) z2
    ·rcases List.mem_cons.1 hc with rfl|hc
     ·exact r0
     ·rcases List.mem_cons.1 hc with rfl|hc
      ·exact rf _ _ _ _ hl
      ·obtain rfl:=List.mem_singleton.1 hc
       exact rf _ _ _ _ hl'
   ·exact hk.elim
  ·exact hk.elim
 ·exact hk.elim
end
end Go.Proofs.YthmfppknagbkeaaGreat.Am
namespace Go.Proofs.YthmfppknagbkeaaGreat.Am
open Go Go.RowKit
variable {P:Program} {os fs:List Nat} {n:Nat} {h:VH}
def Vw (os fs:List Nat)(n:Nat)(h:VH)(ws:List Nat)(v v':V):Prop:=∀hin,HinOK os fs h hin→∀W:List Id,Fc h ws W→View (toH h) (gI (gN os n)) hin W fs v.toD v'.toD
def GF (os fs:List Nat)(n:Nat)(h:VH)(ws:List Nat)(l l':List V):Prop:=(af l).length=(af l').length∧∀hin,HinOK os fs h hin→∀W:List Id,Fc h ws W→∀i,i<(af l).length→View (toH h) (gI (gN os n)) hin W fs ((af l).getD i .undef) ((af l').getD i .undef)
theorem da {v v':V}{ws:List Nat}(hd:leaf v.toD=some v'.toD):Vw os fs n h ws v v':=fun _ _ _ _=>jb hd
mutual
theorem oE:∀{v:V} {K:V→List Nat→Prop},bi os fs h v K→∃v' ws,Vw os fs n h ws v v'∧(∀b∈ws,oJ h os fs b)∧K v' ws
 | .ref b,K,hk=>by
  simp only[bi] at hk
  obtain⟨r,r1,r2,hk⟩:=dG hk
  split at hk
  ·obtain⟨m,rfl,hm⟩:=r2 _ rfl
   exact⟨_,_,fun hin H W _=>Bd H hm,by simp,hk⟩
  ·split at hk
   ·rename_i E t xs hb
    rw[ax] at hb
    split at hk
    ·rename_i c
     exact⟨_,_,fun hin H W hW=>xd (hW b (by simp) 0 (Live.of_look (am (i:=0) hb rfl))) (.inl ⟨E,c,hb⟩),fun b' hb'=>by simp at hb';subst hb';exact⟨r1 rfl,.inl (.inl ⟨E,t,xs,c,hb⟩)⟩,hk⟩
    ·rename_i c
     obtain⟨c2,hk⟩:=hk.ok
     simp only[Bool.and_eq_true,List.isEmpty_iff] at c2
     obtain⟨v',ws,d1,d2,d3⟩:=yV c2.1 c2.2 c hb hk
     exact⟨v',ws,fun hin H W hW=>d1 _ _ _ _ hW,d2,d3⟩
   ·rename_i t xs hb
    rw[ax] at hb
    exact⟨_,_,fun hin H W hW=>xd (hW b (by simp) 0 (Live.of_look (am (i:=0) hb rfl))) (.inr hb),fun b' hb'=>by simp at hb';subst hb';exact⟨r1 rfl,.inl (.inr (.inl ⟨t,xs,hb⟩))⟩,hk⟩
   ·exact hk.elim
 | .ptr b o,K,hk=>by
  simp only[bi] at hk
  obtain⟨r,r1,r2,hk⟩:=dG hk
  split at hk
  ·obtain⟨m,rfl,hm⟩:=r2 _ rfl
   exact⟨_,_,fun hin H W _=>tR H hm o,by simp,hk⟩
  ·split at hk
   ·rename_i t x hb _
    rw[ax] at hb
    have hl:=am (i:=0) hb (d:=.fvar (ab t x).cells) rfl
    refine⟨_,_,fun hin H W hW=>.pure 1 _ _ (by simp only[V.toD,purD,hl]) fun c hc=>?_,fun b' hb'=>by simp at hb';subst hb';exact⟨r1 rfl,.inl (.inr (.inr ⟨t,x,hb⟩))⟩,hk⟩
    simp only[V.toD,idsD,hl,List.mem_cons,List.not_mem_nil,or_false] at hc
    subst hc
    exact hW b (by simp) 0 (Live.of_look hl)
   ·exact hk.elim
 | .eptr b j o,K,hk=>by
  simp only[bi] at hk
  obtain⟨r,r1,r2,hk⟩:=dG hk
  split at hk
  ·obtain⟨m,rfl,hm⟩:=r2 _ rfl
   exact⟨_,_,fun hin H W _=>yi H hm j o,by simp,hk⟩
  ·exact hk.elim
 | .vref b o q,K,hk=>by
  simp only[bi] at hk
  obtain⟨r,r1,r2,hk⟩:=dG hk
  split at hk
  ·obtain⟨m,rfl,hm⟩:=r2 _ rfl
   exact⟨_,_,fun hin H W _=>yj H hm o q,by simp,hk⟩
  ·exact hk.elim
 | .aptr b p j,K,hk=>by
  simp only[bi] at hk
  obtain⟨r,r1,r2,hk⟩:=dG hk
  split at hk
  ·obtain⟨m,rfl,hm⟩:=r2 _ rfl
   exact⟨_,_,fun hin H W _=>tR H hm (p+j),by simp,hk⟩
  ·exact hk.elim
 | .fref k i,K,hk=>by
  simp only[bi] at hk
  obtain⟨c,hk⟩:=hk.ok
  exact⟨_,_,fun hin H W _=>pN H (by simpa using c) i,by simp,hk⟩
 | .fptr k i o,K,hk=>by
  simp only[bi] at hk
  obtain⟨c,hk⟩:=hk.ok
  exact⟨_,_,fun hin H W _=>lN H (by simpa using c) i o,by simp,hk⟩
 | .feptr k i j o,K,hk=>by
  simp only[bi] at hk
  obtain⟨c,hk⟩:=hk.ok
  exact⟨_,_,fun hin H W _=>vH H (by simpa using c) i j o,by simp,hk⟩
 | .faptr k i p j,K,hk=>by
  simp only[bi] at hk
  obtain⟨c,hk⟩:=hk.ok
  exact⟨_,_,fun hin H W _=>lN H (by simpa using c) i (p+j),by simp,hk⟩
 | .hro k o,K,hk=>by
  simp only[bi] at hk
  split at hk
  ·rename_i c
   exact⟨_,_,fun hin H W _=>fx H (by simpa using c) o,by simp,hk⟩
  ·rename_i c
   have c:k∉fs:=by simpa using c
   cases o with
   |none=>exact(hk.1 rfl).elim
   |some i=>
    have hk:=hk.2 i rfl
    split at hk
    ·rename_i E t xss hb
     rw[ax] at hb
     obtain⟨c2,xs,hxs,hk⟩:=hk.ok
     simp only[Bool.and_eq_true,Bool.not_eq_true',List.contains_eq_mem,decide_eq_false_iff_not] at c2
     have hl:=am (i:=i) hb (d:=.row E (xs.map (ab t))) (by simp only[VB.blks,List.getElem?_map,hxs,Option.map_some])
     exact⟨_,_,fun hin H W hW=>tS (hW k (by simp) i (Live.of_look hl)) c2.1 hl,fun b' hb'=>by simp at hb';subst hb';exact⟨c2.2,.inr ⟨c,.inl ⟨E,t,xss,hb⟩⟩⟩,hk⟩
    ·rename_i E t xss hb
     rw[ax] at hb
     obtain⟨c2,ox,hxs,hk⟩:=hk.ok
     simp only[Bool.and_eq_true,Bool.not_eq_true',List.contains_eq_mem,decide_eq_false_iff_not] at c2
     cases ox with
     |none=>exact(hk.1 rfl).elim
     |some xs=>
      have hk:=hk.2 xs rfl
      have hl:=am (i:=i) hb (d:=.row E (xs.map (ab t))) (by simp only[VB.blks,List.getElem?_map,hxs,Option.map_some,rowX])
      exact⟨_,_,fun hin H W hW=>tS (hW k (by simp) i (Live.of_look hl)) c2.1 hl,fun b' hb'=>by simp at hb';subst hb';exact⟨c2.2,.inr ⟨c,.inr (.inl ⟨E,t,xss,hb⟩)⟩⟩,hk⟩
    ·exact hk.elim
 | .hpo k o,K,hk=>by
  simp only[bi] at hk
  obtain⟨c,hk⟩:=hk.ok
  exact⟨_,_,fun hin H W _=>xc H (by simpa using c) o,by simp,hk⟩
 | .agg cs,K,hk=>by
  simp only[bi] at hk
  obtain⟨cs',ws,h1,h2,h3⟩:=eP hk
  exact⟨_,ws,fun hin H W hW=>by simp only[V.toD];exact .agg _ _ h1.1 (h1.2 hin H W hW),h2,h3⟩
 | .clo f cs,K,hk=>by
  simp only[bi] at hk
  obtain⟨cs',ws,h1,h2,h3⟩:=eP hk
  exact⟨_,ws,fun hin H W hW=>by simp only[V.toD];exact .clo f _ _ h1.1 (h1.2 hin H W hW),h2,h3⟩
 | .ifc T v,K,hk=>by
  simp only[bi] at hk
  obtain⟨v',ws,h1,h2,h3⟩:=oE hk
  exact⟨_,ws,fun hin H W hW=>by simp only[V.toD];exact .ifc T _ _ (h1 hin H W hW),h2,h3⟩
 | .nils,K,hk=>⟨_,[],da (v':=.lst (.int .i64) []) rfl,by simp,by simpa only[bi] using hk⟩
 | .int k m,K,hk=>⟨_,[],da (v':=.int k m) rfl,by simp,by simpa only[bi] using hk⟩
 | .bool b,K,hk=>⟨_,[],da (v':=.bool b) rfl,by simp,by simpa only[bi] using hk⟩
 | .tt,K,hk=>⟨_,[],da (v':=.tt) rfl,by simp,by simpa only[bi] using hk⟩
 | .ff,K,hk=>⟨_,[],da (v':=.ff) rfl,by simp,by simpa only[bi] using hk⟩
 | .str s,K,hk=>⟨_,[],da (v':=.str s) rfl,by simp,by simpa only[bi] using hk⟩
 | .lst t xs,K,hk=>⟨_,[],da (v':=.lst t xs) rfl,by simp,by simpa only[bi] using hk⟩
 | .box t x,K,hk=>⟨_,[],da (v':=.box t x) rfl,by simp,by simpa only[bi] using hk⟩
 | .nilp,K,hk=>⟨_,[],da (v':=.nilp) rfl,by simp,by simpa only[bi] using hk⟩
 | .nilf,K,hk=>⟨_,[],da (v':=.nilf) rfl,by simp,by simpa only[bi] using hk⟩
 | .nili,K,hk=>⟨_,[],da (v':=.nili) rfl,by simp,by simpa only[bi] using hk⟩
 | .obo t o,K,hk=>⟨_,[],da (v':=.obo t o) (by cases o<;>rfl),by simp,by simpa only[bi] using hk⟩
 | .junk,K,hk=>⟨_,[],fun _ _ _ _=>.junk,by simp,by simpa only[bi] using hk⟩
 | .gv g,K,hk=>⟨.gv g,[],fun _ _ _ _=>.gv g,by simp,by simpa only[bi] using hk⟩
 | .tup _,K,hk| .gp _,K,hk| .iptr ..,K,hk| .undef,K,hk=>by simp only[bi] at hk
theorem eP:∀{l:List V} {K:List V→List Nat→Prop},gT os fs h l K→∃l' ws,GF os fs n h ws l l'∧(∀b∈ws,oJ h os fs b)∧K l' ws
 |[],K,hk=>⟨[],[],⟨rfl,fun hin H W _ i hi=>by simp[af] at hi⟩,by simp,by simpa only[gT] using hk⟩
 |v::l,K,hk=>by
  simp only[gT] at hk
  obtain⟨v',ws,h1,h2,hk⟩:=oE hk
  obtain⟨l',ws',h3,h4,hk⟩:=eP hk
  refine⟨v'::l',ws++ws',⟨by simp only[af,List.length_cons,h3.1],fun hin H W hW i hi=>?_⟩,fun b hb=>?_,hk⟩
  ·cases i with
   |zero=>simpa[af] using h1 hin H W fun b hb=>hW b (List.mem_append_left _ hb)
   |succ i=>
    have:=h3.2 hin H W (fun b hb=>hW b (List.mem_append_right _ hb)) i (by simpa[af] using hi)
    simpa[af] using this
  ·rcases List.mem_append.1 hb with hb|hb
   ·exact h2 b hb
   ·exact h4 b hb
end
def gS (os fs:List Nat)(h:VH):List V→(List V→List Nat→Prop)→Prop
 |[],K=>K [] []
 | .nils::l,K=>gS os fs h l fun l ws=>K (.nils::l) ws
 |v::l,K=>bi os fs h v fun v' ws=>gS os fs h l fun l' ws'=>K (v'::l') (ws++ws')
theorem lM:∀{l:List V} {K:List V→List Nat→Prop},gS os fs h l K→∃l' ws,GF os fs n h ws l l'∧(∀b∈ws,oJ h os fs b)∧K l' ws
 |[],K,hk=>⟨[],[],⟨rfl,fun hin H W _ i hi=>by simp[af] at hi⟩,by simp,by simpa only[gS] using hk⟩
 |v::l,K,hk=>by
  have key:∃v' ws,Vw os fs n h ws v v'∧(∀b∈ws,oJ h os fs b)∧gS os fs h l fun l' ws'=>K (v'::l') (ws++ws'):=by
   by_cases e:v= .nils
   ·subst e
    exact⟨.nils,[],fun hin H W _=>.nils,by simp,by simpa only[gS,List.nil_append] using hk⟩
   ·have hk':bi os fs h v fun v' ws=>gS os fs h l fun l' ws'=>K (v'::l') (ws++ws'):=by
     cases v<;>first|exact hk|exact absurd rfl e
    obtain⟨v',ws,h1,h2,hk⟩:=oE (n:=n) hk'
    exact⟨v',ws,h1,h2,hk⟩
  obtain⟨v',ws,h1,h2,hk⟩:=key
  obtain⟨l',ws',h3,h4,hk⟩:=lM hk
  refine⟨v'::l',ws++ws',⟨by simp only[af,List.length_cons,h3.1],fun hin H W hW i hi=>?_⟩,fun b hb=>?_,hk⟩
  ·cases i with
   |zero=>simpa[af] using h1 hin H W fun b hb=>hW b (List.mem_append_left _ hb)
   |succ i=>
    have:=h3.2 hin H W (fun b hb=>hW b (List.mem_append_right _ hb)) i (by simpa[af] using hi)
    simpa[af] using this
  ·rcases List.mem_append.1 hb with hb|hb
   ·exact h2 b hb
   ·exact h4 b hb
def vG (os fs:List Nat)(h:VH)(x:VB)(K:VB→List Nat→Prop):Prop:=
 match x with
 | .var T cs=>gT os fs h cs fun cs ws=>K (.var T cs) ws
 | .vari T pre m t xs post=>Chk (A3 t.fams fs) (gS os fs h pre fun pre ws=>gS os fs h post fun post ws'=>K (.vari T pre m t xs post) (ws++ws'))
 | .row E t xs=>Chk (A3 t.fams fs) (K (.row E t xs) [])
 | .lit E vs=>gT os fs h vs fun vs ws=>K (.lit E vs) ws
 |_=>False
def Ge (os fs:List Nat)(n:Nat)(h:VH)(ws:List Nat)(x x':VB):Prop:=∃d d',x.blks=[d]∧x'.blks=[d']∧∀hin,HinOK os fs h hin→∀W:List Id,Fc h ws W→ViewB (toH h) (gI (gN os n)) hin W fs d d'
theorem di {A B:List D}{i:Nat}(hi:i<A.length):(A++B).getD i .undef=A.getD i .undef:=by simp[List.getD_eq_getElem?_getD,List.getElem?_append_left hi]
theorem dj {A B:List D}{i:Nat}(hi:A.length≤i):(A++B).getD i .undef=B.getD (i-A.length) .undef:=by simp[List.getD_eq_getElem?_getD,List.getElem?_append_right hi]
theorem yh {x:VB}{K:VB→List Nat→Prop}(hk:vG os fs h x K):∃x' ws,Ge os fs n h ws x x'∧(∀b∈ws,oJ h os fs b)∧K x' ws:=by
 unfold vG at hk
 split at hk
 ·rename_i T cs
  obtain⟨cs',ws,h1,h2,hk⟩:=eP (n:=n) hk
  exact⟨_,ws,⟨_,_,rfl,rfl,fun hin H W hW=>.var T _ _ h1.1 (h1.2 hin H W hW)⟩,h2,hk⟩
 ·rename_i T pre m t xs post
  obtain⟨c,hk⟩:=hk.ok
  obtain⟨pre',ws,h1,h2,hk⟩:=lM (n:=n) hk
  obtain⟨post',ws',h3,h4,hk⟩:=lM (n:=n) hk
  refine⟨_,ws++ws',⟨_,_,rfl,rfl,fun hin H W hW=>.var T _ _ ?_ fun i hi=>?_⟩,fun b hb=>(List.mem_append.1 hb).elim (h2 b) (h4 b),hk⟩
  ·simp only[List.length_append,h1.1,h3.1]
  ·have g1:=h1.2 hin H W (fun b hb=>hW b (List.mem_append_left _ hb))
   have g3:=h3.2 hin H W (fun b hb=>hW b (List.mem_append_right _ hb))
   by_cases c1:i<(af pre).length
   ·rw[List.append_assoc,List.append_assoc,di (A:=af pre) c1,di (A:=af pre') (by rw[←h1.1];exact c1)]
    exact g1 i c1
   ·rw[List.append_assoc,List.append_assoc,dj (A:=af pre) (by omega),dj (A:=af pre') (by rw[←h1.1];omega),←h1.1]
    simp only[List.length_append] at hi
    by_cases c2:i-(af pre).length<(xs.map (ab t)).length
    ·rw[di c2,di c2]
     obtain⟨e,he,hee⟩:=List.mem_map.1 (aI c2)
     rw[←hee]
     exact kM H (re c) e
    ·rw[dj (by omega),dj (by omega)]
     exact g3 _ (by omega)
 ·rename_i E t xs
  obtain⟨c,hk⟩:=hk.ok
  refine⟨_,[],⟨_,_,rfl,rfl,fun hin H W hW=>.row E _ _ rfl fun i hi=>?_⟩,by simp,hk⟩
  obtain⟨e,he,hee⟩:=List.mem_map.1 (aI hi)
  rw[←hee]
  exact kM H (re c) e
 ·rename_i E cs
  obtain⟨cs',ws,h1,h2,hk⟩:=eP (n:=n) hk
  exact⟨_,ws,⟨_,_,rfl,rfl,fun hin H W hW=>.row E _ _ h1.1 (h1.2 hin H W hW)⟩,h2,hk⟩
 ·exact hk.elim
def AW (os fs:List Nat)(h:VH):List Nat→Nat→(VH→List Nat→Prop)→Prop
 |[],_,K=>K [] []
 |b::l,i,K=>cL h b fun x=>vG os fs h x fun x' ws=>dV (i+1) fun j=>AW os fs h l j fun r ws'=>K ((i,x')::r) (ws++ws')
theorem tD:∀{l:List Nat} {i:Nat} {K:VH→List Nat→Prop},AW os fs h l i K→∃hs ws,(∀k x,look hs k=some x→∃m,k=i+m∧m<l.length)∧(∀m b,l[m]?=some b→∃x x',look h b=some x∧look hs (i+m)=some x'∧Ge os fs n h ws x x')∧(∀b∈ws,oJ h os fs b)∧K hs ws
 |[],i,K,hk=>⟨[],[],(fun k x hx=>by cases hx),by simp,by simp,hk⟩
 |b::l,i,K,hk=>by
  obtain⟨x,hx,hk⟩:=aG hk
  obtain⟨x',ws,h1,h2,hk⟩:=yh (n:=n) hk
  obtain⟨hs,ws',h3,h4,h5,hk⟩:=tD (aV hk)
  refine⟨(i,x')::hs,ws++ws',fun k y hy=>?_,fun m b' hm=>?_,fun b hb=>(List.mem_append.1 hb).elim (h2 b) (h5 b),hk⟩
  ·simp only[look] at hy
   split at hy
   ·rename_i e;exact⟨0,by omega,by simp⟩
   ·obtain⟨m,e1,e2⟩:=h3 k y hy
    exact⟨m+1,by omega,by simpa using e2⟩
  ·cases m with
   |zero=>
    simp only[List.getElem?_cons_zero,Option.some.injEq] at hm
    subst hm
    obtain⟨d,d',e1,e2,e3⟩:=h1
    exact⟨x,x',hx,by simp[look],d,d',e1,e2,fun hin H W hW=>e3 hin H W fun b hb=>hW b (List.mem_append_left _ hb)⟩
   |succ m=>
    obtain⟨y,y',q1,q2,d,d',e1,e2,e3⟩:=h4 m b' (by simpa using hm)
    refine⟨y,y',q1,?_,d,d',e1,e2,fun hin H W hW=>e3 hin H W fun b hb=>hW b (List.mem_append_right _ hb)⟩
    simp only[look]
    rw[if_neg (by omega),show i+(m+1)=i+1+m by omega]
    exact q2
def VB.fams:VB→List Nat
 | .vari _ _ _ t _ _=>t.fams
 | .row _ t _=>t.fams
 | .fvar _ t _=>t.fams
 | .fvari _ _ t _=>t.fams
 | .frow _ t _=>t.fams
 | .frowx _ t _=>t.fams
 |_=>[]
def zc (fs:List Nat)(h:VH):List Nat→(VH→Prop)→Prop
 |[],K=>K []
 |k::l,K=>cL h k fun x=>Chk (!x.sgl && A3 x.fams fs) (zc fs h l fun r=>K ((k,x)::r))
theorem sj:∀{l:List Nat} {K:VH→Prop},zc fs h l K→∃hf,(∀k x,look hf k=some x→k∈l∧look h k=some x∧x.sgl=false∧∀j∈x.fams,j∈fs)∧(∀k∈l,∃x,look hf k=some x)∧K hf
 |[],K,hk=>⟨[],(fun k x hx=>by cases hx),by simp,hk⟩
 |k::l,K,hk=>by
  obtain⟨x,hx,hk⟩:=aG hk
  obtain⟨c,hk⟩:=hk.ok
  simp only[Bool.and_eq_true,Bool.not_eq_true'] at c
  obtain⟨hf,h1,h2,hk⟩:=sj hk
  refine⟨(k,x)::hf,fun j y hy=>?_,fun j hj=>?_,hk⟩
  ·simp only[look] at hy
   split at hy
   ·rename_i e
    simp only[Option.some.injEq] at hy
    subst hy e
    exact⟨List.mem_cons_self ..,hx,c.1,re c.2⟩
   ·obtain⟨q1,q2⟩:=h1 j y hy
    exact⟨List.mem_cons_of_mem _ q1,q2⟩
  ·simp only[look]
   by_cases e:j=k
   ·exact⟨x,by rw[if_pos e]⟩
   ·rw[if_neg e]
    rcases List.mem_cons.1 hj with rfl|hj
    ·exact absurd rfl e
    ·exact h2 j hj
theorem Bc {x:VB}{hin:HL}{W:List Id}(H:HinOK os fs h hin)(hs:x.sgl=false)(hf:∀j∈x.fams,j∈fs):∀d∈x.blks,ViewB (toH h) (gI (gN os n)) hin W fs d d:=by
 intro d hd
 have key:∀(t:Ty) (xs:List t.den),(∀k∈t.fams,k∈fs)→∀i,i<(xs.map (ab t)).length→View (toH h) (gI (gN os n)) hin W fs ((xs.map (ab t)).getD i .undef) ((xs.map (ab t)).getD i .undef):=by
  intro t xs ht i hi
  obtain⟨e,he,hee⟩:=List.mem_map.1 (aI hi)
  rw[←hee]
  exact kM H ht e
 cases x<;>simp[VB.sgl] at hs
 ·rename_i T t xs
  obtain⟨e,_,rfl⟩:=List.mem_map.1 hd
  refine .var T _ _ rfl fun i hi=>?_
  have hv:View (toH h) (gI (gN os n)) hin W fs (ab t e) (ab t e):=kM H hf e
  exact(hv.wf (dt t e)).2 i (by rw[←(dt t e).1];exact hi)
 ·rename_i T m t xss
  obtain⟨xs,_,rfl⟩:=List.mem_map.1 hd
  exact .var T _ _ rfl (key t xs hf)
 ·rename_i E t xss
  obtain⟨xs,_,rfl⟩:=List.mem_map.1 hd
  exact .row E _ _ rfl (key t xs hf)
 ·rename_i E t xss
  obtain⟨xs,_,rfl⟩:=List.mem_map.1 hd
  cases xs with
  |none=>exact .gone
  |some xs=>exact .row E _ _ rfl (key t xs hf)
end Go.Proofs.YthmfppknagbkeaaGreat.Am
namespace Go.Proofs.YthmfppknagbkeaaGreat.Am
open Go Go.RowKit
variable {P:Program} {os fs:List Nat} {n:Nat} {h:VH}
mutual
def gD:V→Bool
 | .lst .. | .box .. | .iptr .. | .obo .. | .gp _| .gv _=>false
 | .agg cs=>d8 cs
 | .tup cs=>d8 cs
 | .clo _ cs=>d8 cs
 | .ifc _ v=>gD v
 |_=>true
def d8:List V→Bool
 |[]=>true
 |v::l=>gD v && d8 l
end
theorem dF (k:Nat)(o:Option Nat):noMem (iX k o)=true:=by cases o<;>rfl
theorem n9 (k:Nat)(o:Option Nat):noMem (l7 k o)=true:=by cases o<;>rfl
mutual
theorem lw:∀v:V,gD v=true→noMem v.toD=true
 | .agg cs,hv=>by simp only[gD] at hv;simp only[V.toD,noMem,cH cs hv]
 | .tup cs,hv=>by simp only[gD] at hv;simp only[V.toD,noMem,cH cs hv]
 | .clo f cs,hv=>by simp only[gD] at hv;simp only[V.toD,noMem,cH cs hv]
 | .ifc T v,hv=>by simp only[gD] at hv;simp only[V.toD,noMem,lw v hv]
 | .hro k o,_=>dF k o
 | .hpo k o,_=>n9 k o
 | .lst ..,hv| .box ..,hv| .iptr ..,hv| .obo ..,hv| .gp _,hv| .gv _,hv=>by simp only[gD] at hv;cases hv
 | .int ..,_| .bool _,_| .tt,_| .ff,_| .str _,_| .nilp,_| .nils,_| .nilf,_| .nili,_| .ref _,_| .ptr ..,_| .eptr ..,_| .vref ..,_| .aptr ..,_| .fref ..,_| .fptr ..,_| .feptr ..,_| .faptr ..,_| .undef,_| .junk,_=>by simp only[V.toD,noMem]
theorem cH:∀l:List V,d8 l=true→dE (af l)=true
 |[],_=>rfl
 |v::l,hv=>by
  simp only[d8,Bool.and_eq_true] at hv
  simp only[af,dE,lw v hv.1,cH l hv.2,Bool.and_self]
end
def Ty.flat:Ty→Bool
 | .int _| .bool| .str| .txn| .slt| .hr _| .hp _| .vtxo _| .pplo _ _| .evto _=>true
 |_=>false
theorem nF {t:Ty}(h:t.flat=true)(x:t.den):(ab t x).cells.all noMem=true:=by
 cases t<;>first|(cases h;done)|rfl|skip
 ·simp only[ab,(kf _ x).2];simp[dF]
 ·simp only[ab,(ke _ x).2];simp[n9]
 ·simp[ab,D.cells,noMem,dF]
 ·simp[ab,D.cells,noMem,dF]
 ·simp[ab,D.cells,noMem,dF]
theorem sr {t:Ty}(h:t.flat=true)(x:t.den):noMem (ab t x)=true:=by
 cases t<;>first|(cases h;done)|rfl|skip
 ·exact dF _ x
 ·exact n9 _ x
 ·simp[ab,noMem,dE,dF]
 ·simp[ab,noMem,dE,dF]
 ·simp[ab,noMem,dE,dF]
def mP:VB→Bool
 | .var _ cs=>d8 cs
 | .vari _ pre _ t _ post=>d8 pre && d8 post && t.flat
 | .row _ t _=>t.flat
 | .lit _ vs=>vs.all fun v=>d8 v.cells
 | .froz _ _| .fvb _ _=>false
 | .fvar _ t _=>t.flat
 | .fvari _ _ t _=>t.flat
 | .frow _ t _=>t.flat
 | .frowx _ t _=>t.flat
 | .moved .. | .gone=>true
theorem u7 (l:List D):dE l=true↔∀d∈l,noMem d=true:=by rw[dW,List.all_eq_true]
theorem u9 {x:VB}(h:mP x=true):∀d∈x.blks,noMemB d=true:=by
 intro d hd
 have kc:∀(t:Ty) (xs:List t.den),t.flat=true→∀e∈xs.map (ab t),e.cells.all noMem=true:=by
  intro t xs ht e he
  obtain⟨x,_,rfl⟩:=List.mem_map.1 he
  exact nF ht x
 have kd:∀(t:Ty) (xs:List t.den),t.flat=true→∀e∈xs.map (ab t),noMem e=true:=by
  intro t xs ht e he
  obtain⟨x,_,rfl⟩:=List.mem_map.1 he
  exact sr ht x
 cases x with
 |var T cs=>
  obtain rfl:=List.mem_singleton.1 hd
  simp only[noMemB,←dW]
  exact cH cs h
 |vari T pre m t xs post=>
  obtain rfl:=List.mem_singleton.1 hd
  simp only[mP,Bool.and_eq_true] at h
  simp only[noMemB,List.all_append,←dW,cH _ h.1.1,cH _ h.1.2,Bool.true_and,Bool.and_true]
  rw[u7]
  exact kd t xs h.2
 |row E t xs=>
  obtain rfl:=List.mem_singleton.1 hd
  simp only[noMemB,List.all_eq_true]
  intro e he
  exact List.all_eq_true.1 (kc t xs h e he)
 |lit E vs=>
  obtain rfl:=List.mem_singleton.1 hd
  simp only[mP,List.all_eq_true] at h
  simp only[noMemB,bt,List.all_map,List.all_eq_true]
  intro v hv
  have:=cH _ (h v hv)
  rw[dW] at this
  simp only[Function.comp,aK]
  exact this
 |froz t xs=>cases h
 |fvb t x=>cases h
 |fvar T t xs=>
  obtain⟨e,_,rfl⟩:=List.mem_map.1 hd
  exact nF h e
 |fvari T m t xss=>
  obtain⟨xs,_,rfl⟩:=List.mem_map.1 hd
  simp only[noMemB,List.all_eq_true]
  exact kd t xs h
 |frow E t xss=>
  obtain⟨xs,_,rfl⟩:=List.mem_map.1 hd
  simp only[noMemB,List.all_eq_true]
  intro e he
  exact List.all_eq_true.1 (kc t xs h e he)
 |frowx E t xss=>
  obtain⟨xs,_,rfl⟩:=List.mem_map.1 hd
  cases xs with
  |none=>rfl
  |some xs=>
   simp only[rowX,noMemB,List.all_eq_true]
   intro e he
   exact List.all_eq_true.1 (kc t xs h e he)
 |moved k i=>obtain rfl:=List.mem_singleton.1 hd;rfl
 |gone=>obtain rfl:=List.mem_singleton.1 hd;rfl
mutual
def ct (g:Nat→Nat)(v:V)(K:V→Prop):Prop:=
 match v with
 | .ref b=>dV (g b) fun b=>K (.ref b)
 | .vref b o n=>dV (g b) fun b=>K (.vref b o n)
 | .ptr b o=>dV (g b) fun b=>K (.ptr b o)
 | .eptr b i o=>dV (g b) fun b=>K (.eptr b i o)
 | .aptr b p i=>dV (g b) fun b=>K (.aptr b p i)
 | .fref k i=>Chk (Nat.beq (g k) k) (K (.fref k i))
 | .fptr k i o=>Chk (Nat.beq (g k) k) (K (.fptr k i o))
 | .feptr k i j o=>Chk (Nat.beq (g k) k) (K (.feptr k i j o))
 | .faptr k i p j=>Chk (Nat.beq (g k) k) (K (.faptr k i p j))
 | .hro k o=>Chk (Nat.beq (g k) k) (K (.hro k o))
 | .hpo k o=>Chk (Nat.beq (g k) k) (K (.hpo k o))
 | .agg cs=>iD g cs fun cs=>K (.agg cs)
 | .tup cs=>iD g cs fun cs=>K (.tup cs)
 | .clo f cs=>iD g cs fun cs=>K (.clo f cs)
 | .ifc T v=>ct g v fun v=>K (.ifc T v)
 | .int k n=>K (.int k n)
 | .bool b=>K (.bool b)
 | .tt=>K .tt
 | .ff=>K .ff
 | .str s=>K (.str s)
 | .lst t xs=>K (.lst t xs)
 | .box t x=>K (.box t x)
 | .nilp=>K .nilp
 | .nils=>K .nils
 | .nilf=>K .nilf
 | .nili=>K .nili
 | .gp g=>K (.gp g)
 | .gv g=>K (.gv g)
 | .iptr t x o=>K (.iptr t x o)
 | .obo t o=>K (.obo t o)
 | .undef=>K .undef
 | .junk=>K .junk
def iD (g:Nat→Nat)(l:List V)(K:List V→Prop):Prop:=
 match l with
 |[]=>K []
 |v::l=>ct g v fun v=>iD g l fun l=>K (v::l)
end
theorem iC {g:Nat→Nat}{k:Nat}(hk:g k=k)(o:Option Nat):renD (gI g) (iX k o)=iX k o:=by
 cases o with
 |none=>rfl
 |some i=>simp[iX,renD,hk]
theorem AO {g:Nat→Nat}{k:Nat}(hk:g k=k)(o:Option Nat):renD (gI g) (l7 k o)=l7 k o:=by
 cases o with
 |none=>rfl
 |some i=>simp[l7,renD,hk]
mutual
theorem qY {g:Nat→Nat}:∀{v:V} {K:V→Prop},ct g v K→∃r,renD (gI g) v.toD=r.toD∧K r
 | .ref b,K,h=>⟨.ref (g b),rfl,aV (by simpa only[ct] using h)⟩
 | .vref b o n,K,h=>⟨.vref (g b) o n,rfl,aV (by simpa only[ct] using h)⟩
 | .ptr b o,K,h=>⟨.ptr (g b) o,rfl,aV (by simpa only[ct] using h)⟩
 | .eptr b i o,K,h=>⟨.eptr (g b) i o,rfl,aV (by simpa only[ct] using h)⟩
 | .aptr b p i,K,h=>⟨.aptr (g b) p i,rfl,aV (by simpa only[ct] using h)⟩
 | .fref k i,K,h=>by simp only[ct] at h;obtain⟨c,h⟩:=h.ok;exact⟨.fref k i,by simp[V.toD,renD,Nat.eq_of_beq_eq_true c],h⟩
 | .fptr k i o,K,h=>by simp only[ct] at h;obtain⟨c,h⟩:=h.ok;exact⟨.fptr k i o,by simp[V.toD,renD,Nat.eq_of_beq_eq_true c],h⟩
 | .feptr k i j o,K,h=>by simp only[ct] at h;obtain⟨c,h⟩:=h.ok;exact⟨.feptr k i j o,by simp[V.toD,renD,Nat.eq_of_beq_eq_true c],h⟩
 | .faptr k i p j,K,h=>by simp only[ct] at h;obtain⟨c,h⟩:=h.ok;exact⟨.faptr k i p j,by simp[V.toD,renD,Nat.eq_of_beq_eq_true c],h⟩
 | .hro k o,K,h=>by simp only[ct] at h;obtain⟨c,h⟩:=h.ok;exact⟨.hro k o,iC (Nat.eq_of_beq_eq_true c) o,h⟩
 | .hpo k o,K,h=>by simp only[ct] at h;obtain⟨c,h⟩:=h.ok;exact⟨.hpo k o,AO (Nat.eq_of_beq_eq_true c) o,h⟩
 | .agg cs,K,h=>by
  simp only[ct] at h
  obtain⟨r,h1,h2⟩:=eq h
  exact⟨.agg r,by simp only[V.toD,renD,h1],h2⟩
 | .tup cs,K,h=>by
  simp only[ct] at h
  obtain⟨r,h1,h2⟩:=eq h
  exact⟨.tup r,by simp only[V.toD,renD,h1],h2⟩
 | .clo f cs,K,h=>by
  simp only[ct] at h
  obtain⟨r,h1,h2⟩:=eq h
  exact⟨.clo f r,by simp only[V.toD,renD,h1],h2⟩
 | .ifc T v,K,h=>by
  simp only[ct] at h
  obtain⟨r,h1,h2⟩:=qY h
  exact⟨.ifc T r,by simp only[V.toD,renD,h1],h2⟩
 | .int k n,K,h=>⟨.int k n,rfl,by simpa only[ct] using h⟩
 | .bool b,K,h=>⟨.bool b,rfl,by simpa only[ct] using h⟩
 | .tt,K,h=>⟨.tt,rfl,by simpa only[ct] using h⟩
 | .ff,K,h=>⟨.ff,rfl,by simpa only[ct] using h⟩
 | .str s,K,h=>⟨.str s,rfl,by simpa only[ct] using h⟩
 | .lst t xs,K,h=>⟨.lst t xs,rfl,by simpa only[ct] using h⟩
 | .box t x,K,h=>⟨.box t x,rfl,by simpa only[ct] using h⟩
 | .nilp,K,h=>⟨.nilp,rfl,by simpa only[ct] using h⟩
 | .nils,K,h=>⟨.nils,rfl,by simpa only[ct] using h⟩
 | .nilf,K,h=>⟨.nilf,rfl,by simpa only[ct] using h⟩
 | .nili,K,h=>⟨.nili,rfl,by simpa only[ct] using h⟩
 | .gp g,K,h=>⟨.gp g,rfl,by simpa only[ct] using h⟩
 | .gv g,K,h=>⟨.gv g,rfl,by simpa only[ct] using h⟩
 | .iptr t x o,K,h=>⟨.iptr t x o,rfl,by simpa only[ct] using h⟩
 | .obo t o,K,h=>⟨.obo t o,by cases o<;>rfl,by simpa only[ct] using h⟩
 | .undef,K,h=>⟨.undef,rfl,by simpa only[ct] using h⟩
 | .junk,K,h=>⟨.junk,rfl,by simpa only[ct] using h⟩
theorem eq {g:Nat→Nat}:∀{l:List V} {K:List V→Prop},iD g l K→∃r,kz (gI g) (af l)=af r∧K r
 |[],K,h=>⟨[],rfl,by simpa only[iD] using h⟩
 |v::l,K,h=>by
  simp only[iD] at h
  obtain⟨v',h1,h2⟩:=qY h
  obtain⟨l',h3,h4⟩:=eq h2
  exact⟨v'::l',by simp only[af,kz,h1,h3],h4⟩
end
def sq (g:Nat→Nat)(l:List Nat):Bool:=l.all fun k=>Nat.beq (g k) k
theorem iU {g:Nat→Nat}{l:List Nat}(h:sq g l=true):∀k∈l,g k=k:=by
 unfold sq at h
 rw[List.all_eq_true] at h
 exact fun k hk=>Nat.eq_of_beq_eq_true (h k hk)
theorem wV {g:Nat→Nat}{t:Ty}(ht:∀k∈t.fams,g k=k)(x:t.den):renD (gI g) (ab t x)=ab t x:=by
 cases t<;>try rfl
 case ob t=>cases x<;>rfl
 case hr k=>exact iC (ht k (by simp[Ty.fams])) x
 case hp k=>exact AO (ht k (by simp[Ty.fams])) x
 case vtxo k=>simp only[ab,renD,kz,iC (ht k (by simp[Ty.fams]))]
 case pplm k=>simp only[ab,eE,List.cons_append,List.nil_append,renD,kz,iC (ht k (by simp[Ty.fams])),dA]
 case pplo k k'=>simp only[ab,renD,kz,iC (ht k (by simp[Ty.fams])),iC (ht k' (by simp[Ty.fams]))]
 case evto k=>simp only[ab,renD,kz,iC (ht k (by simp[Ty.fams]))]
 case nod k=>simp only[ab,eE,List.cons_append,List.nil_append,renD,kz,iC (ht k (by simp[Ty.fams])),dA]
def AL (g:Nat→Nat)(x:VB)(K:VB→Prop):Prop:=
 match x with
 | .var T cs=>iD g cs fun cs=>K (.var T cs)
 | .vari T pre m t xs post=>Chk (sq g t.fams) (iD g pre fun pre=>iD g post fun post=>K (.vari T pre m t xs post))
 | .row E t xs=>Chk (sq g t.fams) (K (.row E t xs))
 | .lit E vs=>iD g vs fun vs=>K (.lit E vs)
 | .froz t xs=>K (.froz t xs)
 | .fvb t x=>K (.fvb t x)
 | .fvar T t xs=>Chk (sq g t.fams) (K (.fvar T t xs))
 | .fvari T m t xss=>Chk (sq g t.fams) (K (.fvari T m t xss))
 | .frow E t xss=>Chk (sq g t.fams) (K (.frow E t xss))
 | .frowx E t xss=>Chk (sq g t.fams) (K (.frowx E t xss))
 | .moved k i=>dV (g k) fun k=>K (.moved k i)
 | .gone=>K .gone
theorem kA {g:Nat→Nat}{t:Ty}(ht:∀k∈t.fams,g k=k)(xs:List t.den):(xs.map (ab t)).map (renD (gI g))=xs.map (ab t):=by
 rw[List.map_map]
 exact List.map_congr_left fun x _=>wV ht x
theorem AM {g:Nat→Nat}{x:VB}{K:VB→Prop}(h:AL g x K):∃y,y.blks=x.blks.map (renB (gI g))∧K y:=by
 unfold AL at h
 split at h
 ·obtain⟨r,h1,h2⟩:=eq h
  exact⟨_,by simp only[VB.blks,List.map_cons,List.map_nil,renB,←d9,h1],h2⟩
 ·rename_i T pre m t xs post
  obtain⟨c,h⟩:=h.ok
  obtain⟨r,h1,h2⟩:=eq h
  obtain⟨r2,h3,h4⟩:=eq h2
  refine⟨_,?_,h4⟩
  rw[d9] at h1 h3
  simp only[VB.blks,List.map_cons,List.map_nil,renB,List.map_append,h1,h3,kA (iU c)]
 ·rename_i E t xs
  obtain⟨c,h⟩:=h.ok
  exact⟨_,by simp only[VB.blks,List.map_cons,List.map_nil,renB,kA (iU c)],h⟩
 ·obtain⟨r,h1,h2⟩:=eq h
  exact⟨_,by simp only[VB.blks,List.map_cons,List.map_nil,renB,←d9,h1],h2⟩
 ·exact⟨_,rfl,h⟩
 ·exact⟨_,rfl,h⟩
 ·rename_i T t xs
  obtain⟨c,h⟩:=h.ok
  refine⟨_,?_,h⟩
  simp only[VB.blks,List.map_map]
  refine List.map_congr_left fun x _=>?_
  simp only[Function.comp,renB]
  rw[←gK,wV (iU c)]
 ·rename_i T m t xss
  obtain⟨c,h⟩:=h.ok
  refine⟨_,?_,h⟩
  simp only[VB.blks,List.map_map]
  refine List.map_congr_left fun xs _=>?_
  simp only[Function.comp,renB,kA (iU c)]
 ·rename_i E t xss
  obtain⟨c,h⟩:=h.ok
  refine⟨_,?_,h⟩
  simp only[VB.blks,List.map_map]
  refine List.map_congr_left fun xs _=>?_
  simp only[Function.comp,renB,kA (iU c)]
 ·rename_i E t xss
  obtain⟨c,h⟩:=h.ok
  refine⟨_,?_,h⟩
  simp only[VB.blks,List.map_map]
  refine List.map_congr_left fun xs _=>?_
  cases xs with
  |none=>rfl
  |some xs=>simp only[Function.comp,rowX,renB,kA (iU c)]
 ·exact⟨_,rfl,aV h⟩
 ·exact⟨_,rfl,h⟩
def Ak (g:Nat→Nat):VH→(VH→Prop)→Prop
 |[],K=>K []
 |(k,x)::l,K=>AL g x fun y=>dV (g k) fun b=>Ak g l fun u=>K ((b,y)::u)
inductive RenVH (g:Nat→Nat):VH→VH→Prop where
 |nil:RenVH g [] []
 |cons {k:Nat} {x y:VB} {l u:VH} (hy:y.blks=x.blks.map (renB (gI g))) (hl:RenVH g l u):RenVH g ((k,x)::l) ((g k,y)::u)
theorem tb {g:Nat→Nat}:∀{l:VH} {K:VH→Prop},Ak g l K→∃u,RenVH g l u∧K u
 |[],K,h=>⟨[],.nil,h⟩
 |(k,x)::l,K,h=>by
  obtain⟨y,h1,h2⟩:=AM h
  obtain⟨u,h3,h4⟩:=tb (aV h2)
  exact⟨(g k,y)::u,.cons h1 h3,h4⟩
theorem RenVH.look {g:Nat→Nat}(hg:∀a b,g a=g b→a=b){l u:VH}(hr:RenVH g l u):(∀k,(Am.look l k=none→Am.look u (g k)=none)∧∀x,Am.look l k=some x→∃y,Am.look u (g k)=some y∧y.blks=x.blks.map (renB (gI g)))∧∀b,(∀k,Am.look l k≠none→g k≠b)→Am.look u b=none:=by
 induction hr with
 |nil=>exact⟨fun k=>⟨fun _=>rfl,fun x hx=>by cases hx⟩,fun b _=>rfl⟩
 | @cons k0 x0 y0 l u hy hl ih=>
  refine⟨fun k=>?_,fun b hb=>?_⟩
  ·by_cases e:k=k0
   ·subst e
    refine⟨fun hn=>by simp[Am.look] at hn,fun x hx=>⟨y0,by simp[Am.look],?_⟩⟩
    simp[Am.look] at hx
    subst hx
    exact hy
   ·have e':¬g k=g k0:=fun he=>e (hg _ _ he)
    simp only[Am.look,if_neg e,if_neg e']
    exact ih.1 k
  ·have e':¬b=g k0:=fun he=>hb k0 (by simp[Am.look]) he.symm
   simp only[Am.look,if_neg e']
   refine ih.2 b fun k hk=>hb k ?_
   simp only[Am.look]
   split
   ·simp
   ·exact hk
theorem RenVH.keys {g:Nat→Nat}{l u:VH}(hr:RenVH g l u):u.map (·.1)=l.map (fun p=>g p.1):=by
 induction hr with
 |nil=>rfl
 |cons hy hl ih=>simp[ih]
end Go.Proofs.YthmfppknagbkeaaGreat.Am
namespace Go.Proofs.YthmfppknagbkeaaGreat.Am
open Go Go.RowKit
variable {P:Program} {os fs:List Nat} {n:Nat} {h:VH}
theorem lx {α β:Type}{f:α→β}{l:List α}(hf:∀a b,f a=f b→a=b)(h:l.Nodup):(l.map f).Nodup:=List.pairwise_map.2 (List.Pairwise.imp (fun hne e=>hne (hf _ _ e)) h)
theorem kj {κ α:Type}[DecidableEq κ]{us g:List (κ×α)}(hn:(us.map (·.1)).Nodup)(b:κ):look (puts us g) b=match look us b with|some y=>some y|none=>look g b:=by
 cases hl:look us b with
 |some y=>exact fD us g b y hn (bC hl)
 |none=>
  refine av us g b fun x hx he=>?_
  have:=eg hn (k:=x.1) (a:=x.2) hx
  rw[he,hl] at this
  cases this
theorem lu {κ α:Type}[DecidableEq κ](us:List (κ×α)){g g':List (κ×α)}(b:κ)(hg:look g b=look g' b):look (puts us g) b=look (puts us g') b:=by
 induction us generalizing g g' with
 |nil=>exact hg
 |cons x us ih=>
  show look (puts us (put x.1 x.2 g)) b=look (puts us (put x.1 x.2 g')) b
  refine ih ?_
  rw[ah,ah,hg]
theorem pM:∀(s:List Nat) (l:VH),(∀p∈oZ s l,p.1.1∉s)∧((oZ s l).map (·.1)).Nodup
 |s,[]=>⟨by simp[oZ],by simp[oZ]⟩
 |s,(k,x)::l=>by
  obtain⟨ih1,ih2⟩:=pM (k::s) l
  have hfam:∀p∈fam k x.blks,p.1.1=k:=by
   intro p hp
   obtain⟨q,_,rfl⟩:=List.mem_map.1 hp
   rfl
  have hnd:((fam k x.blks).map (·.1)).Nodup:=by
   have e:∀(l:List Blk) (q:Nat),(((l.zipIdx q).map fun p:Blk×Nat=>(((k,p.2),p.1):Id×Blk)).map (·.1))=(List.range' q l.length).map fun i=>((k,i):Id):=by
    intro l
    induction l with
    |nil=>intro q;rfl
    |cons y l ih=>intro q;simp only[List.zipIdx_cons,List.map_cons,List.length_cons,List.range'_succ,ih]
   unfold fam
   rw[e]
   exact lx (fun a b hab=>by simpa using hab) List.nodup_range'
  simp only[oZ]
  cases hc:s.contains k with
  |true=>
   simp only[cond_true,List.nil_append]
   exact⟨fun p hp hs=>ih1 p hp (List.mem_cons_of_mem _ hs),ih2⟩
  |false=>
   have hk:k∉s:=by simpa using hc
   simp only[cond_false,List.map_append]
   refine⟨fun p hp=>?_,List.nodup_append.2 ⟨hnd,ih2,fun a ha b hb he=>?_⟩⟩
   ·rcases List.mem_append.1 hp with hp|hp
    ·rw[hfam p hp];exact hk
    ·exact fun hs=>ih1 p hp (List.mem_cons_of_mem _ hs)
   ·obtain⟨p,hp,rfl⟩:=List.mem_map.1 ha
    obtain⟨q,hq,rfl⟩:=List.mem_map.1 hb
    have:=ih1 q hq
    rw[←he,hfam p hp] at this
    exact this (List.mem_cons_self ..)
theorem oD (l:VH):((toH l).map (·.1)).Nodup:=(pM [] l).2
theorem wF {l:VH}{p:Id×Blk}(hp:p∈toH l):∃x,look l p.1.1=some x∧p.2∈x.blks:=by
 have h1:=eg (oD l) (k:=p.1) (a:=p.2) hp
 rw[al] at h1
 obtain⟨x,h2,h3⟩:=Option.bind_eq_some_iff.1 h1
 exact⟨x,h2,List.mem_of_getElem? h3⟩
theorem pu {g:Id→Id}(hg:∀a b,g a=g b→a=b):∀(l:HL),(∀b,look (renH g l) (g b)=(look l b).map (renB g))∧∀c,(∀b,look l b≠none→g b≠c)→look (renH g l) c=none
 |[]=>⟨fun b=>rfl,fun c _=>rfl⟩
 |(b0,x)::l=>by
  obtain⟨h1,h2⟩:=pu hg l
  refine⟨fun b=>?_,fun c hc=>?_⟩
  ·show look ((g b0,renB g x)::renH g l) (g b)=_
   simp only[look]
   by_cases e:b=b0
   ·subst e;simp
   ·rw[if_neg fun he=>e (hg _ _ he),if_neg e]
    exact h1 b
  ·show look ((g b0,renB g x)::renH g l) c=none
   simp only[look]
   rw[if_neg fun he=>hc b0 (by simp[look]) he.symm]
   refine h2 c fun b hb=>hc b ?_
   simp only[look]
   split
   ·simp
   ·exact hb
theorem xY {g:Id→Id}(hg:∀a b,g a=g b→a=b){l:HL}(hn:(l.map (·.1)).Nodup):((renH g l).map (·.1)).Nodup:=by
 unfold renH
 rw[List.map_map]
 have:(fun x:Id×Blk=>x.1)∘(fun p:Id×Blk=>(g p.1,renB g p.2))=g∘(fun x:Id×Blk=>x.1):=rfl
 rw[this,←List.map_map]
 exact lx hg hn
theorem xa {g:Nat→Nat}(hg:∀a b,g a=g b→a=b){hout u h0:VH}{H:HL}(hH:∀b,look H b=look (toH h0) b)(hr:RenVH g hout u)(hn:(hout.map (·.1)).Nodup)(hc:∀k x,look hout k=some x→∀j,x.blks.length≤j→look (toH h0) (g k,j)=none):
  (∀b,look (puts (renH (gI g) (toH hout)) H) b=look (toH (puts u h0)) b)∧∀x∈renH (gI g) (toH hout),x.1.1∈u.map (·.1):=by
 have hgI:∀a b:Id,gI g a=gI g b→a=b:=by
  rintro⟨a1,a2⟩ ⟨b1,b2⟩ he
  simp only[gI,Prod.mk.injEq] at he⊢
  exact⟨hg _ _ he.1,he.2⟩
 have hun:(u.map (·.1)).Nodup:=by
  rw[hr.keys]
  have:(fun p:Nat×VB=>g p.1)=g∘(fun x:Nat×VB=>x.1):=rfl
  rw[this,←List.map_map]
  exact lx hg hn
 obtain⟨q1,q2⟩:=pu hgI (toH hout)
 obtain⟨r1,r2⟩:=hr.look hg
 refine⟨fun b=>?_,fun x hx=>?_⟩
 ·rw[kj (xY hgI (oD hout)),al,kj hun,hH]
  by_cases hex:∃k x,look hout k=some x∧g k=b.1
  ·obtain⟨k,x,hk,he⟩:=hex
   obtain⟨y,y1,y2⟩:=(r1 k).2 x hk
   have e1:b=gI g (k,b.2):=by simp[gI,he]
   rw[←he,y1,he]
   have e2:look (renH (gI g) (toH hout)) b=(x.blks[b.2]?).map (renB (gI g)):=by
    rw[e1,q1,al,hk];rfl
   rw[e2]
   simp only[Option.bind_some,y2,List.getElem?_map]
   cases hx:x.blks[b.2]? with
   |some d=>rfl
   |none=>
    simp only[Option.map_none]
    have:=hc k x hk b.2 (by simpa using hx)
    rw[he] at this
    exact this
  ·have e1:look u b.1=none:=r2 b.1 fun k hk he=>hex (by
    cases hl:look hout k with
    |none=>exact absurd hl hk
    |some x=>exact⟨k,x,hl,he⟩)
   have e2:look (renH (gI g) (toH hout)) b=none:=q2 b fun c hcl he=>hex (by
    rw[al] at hcl
    cases hl:look hout c.1 with
    |none=>rw[hl] at hcl;exact absurd rfl hcl
    |some x=>exact⟨c.1,x,hl,by rw[←he]⟩)
   rw[e1,e2]
   exact al h0 b
 ·obtain⟨p,hp,rfl⟩:=List.mem_map.1 hx
  obtain⟨x,h1,_⟩:=wF hp
  obtain⟨y,h2,_⟩:=(r1 p.1.1).2 x h1
  exact List.mem_map.2 ⟨_,bC h2,rfl⟩
def Gd (h:VH):List Nat→(VH→Prop)→Prop
 |[],K=>K []
 |b::l,K=>Gd h l fun u=>(match ay h b with
  |some (.row _ t xs)=>Chk t.pure (K ((b,.froz t xs)::u))
  |some (.frow ..)=>False
  |some (.frowx ..)=>False
  |_=>K u)
def tX (h:VH):List Nat→VH
 |[]=>[]
 |b::l=>match ay h b with
  |some (.row _ t xs)=>(b,.froz t xs)::tX h l
  |_=>tX h l
theorem vK:∀{l:List Nat} {K:VH→Prop},Gd h l K→K (tX h l)∧∀b∈l,¬F4 h b
 |[],K,hk=>⟨hk,by simp⟩
 |b::l,K,hk=>by
  obtain⟨this,h2⟩:=vK (l:=l) hk
  simp only[tX]
  have key:K (match ay h b with
   |some (.row _ t xs)=>(b,.froz t xs)::tX h l
   |_=>tX h l)∧¬F4 h b:=by
   cases hl:ay h b with
   |none=>
    rw[hl] at this
    rw[ax] at hl
    exact⟨this,fun hf=>by rcases hf with⟨E,t,xs,hf⟩|⟨E,t,xs,hf⟩|⟨E,t,xs,_,hf⟩<;>rw[hl] at hf<;>cases hf⟩
   |some x=>
    rw[hl] at this
    rw[ax] at hl
    have hx:(∀E t xs,x≠ .frow E t xs)→(∀E t xs,x≠ .frowx E t xs)→(∀E t xs,t.pure=false→x≠ .row E t xs)→¬F4 h b:=fun h1 h2 h3 hf=>by
     rcases hf with⟨E,t,xs,hf⟩|⟨E,t,xs,hf⟩|⟨E,t,xs,hp,hf⟩<;>rw[hl] at hf<;>cases hf
     ·exact h1 _ _ _ rfl
     ·exact h2 _ _ _ rfl
     ·exact h3 _ _ _ hp rfl
    cases x<;>first|exact this.elim|exact⟨this.ok.2,hx (fun _ _ _ he=>by cases he) (fun _ _ _ he=>by cases he) (fun _ _ _ hp he=>by cases he;rw[this.ok.1] at hp;cases hp)⟩|exact⟨this,hx (fun _ _ _ he=>by cases he) (fun _ _ _ he=>by cases he) (fun _ _ _ _ he=>by cases he)⟩
  exact⟨key.1,fun c hc=>(List.mem_cons.1 hc).elim (fun e=>e▸key.2) (h2 c)⟩
theorem kl:∀(ws:List Nat) (g:VH) (b:Nat),look (puts (tX h ws) g) b=if b∈ws then(match look h b with|some (.row _ t xs)=>some (.froz t xs)|_=>look g b) else look g b
 |[],g,b=>by simp[tX,puts]
 |c::ws,g,b=>by
  simp only[tX]
  rw[ax]
  split
  ·rename_i E t xs hc
   show look (puts (tX h ws) (put c (.froz t xs) g)) b=_
   rw[kl ws,ah]
   by_cases hb:b=c
   ·subst hb
    simp only[if_true,List.mem_cons,true_or,hc]
    split
    ·rfl
    ·rfl
   ·by_cases hm:b∈ws
    ·simp[hm,hb]
    ·simp[hm,hb]
  ·rename_i hc
   rw[kl ws]
   by_cases hb:b=c
   ·subst hb
    have:(match look h b with|some (VB.row _ t xs)=>some (VB.froz t xs)|_=>look g b)=look g b:=by
     split
     ·rename_i e;exact absurd e (hc _ _ _)
     ·rfl
    simp[this]
   ·simp[hb]
theorem Ba {ws:List Nat}(hw:∀b∈ws,F3 h b):bq h (frz (toH h) (ws.map fun b=>(b,0))) (tX h ws)∧∀b∈ws.map (fun b=>((b,0):Id)),∀x,look (toH h) b=some x→x.mutable=true→(frzB (toH h) b).isSome=true:=by
 have fz:∀b E t,∀xs:List (Ty.den t),look h b=some (.row E t xs)→t.pure=true→frzB (toH h) (b,0)=some (.froz (xs.map (ab t))):=by
  intro b E t xs hb hp
  have hl:=am (i:=0) hb (d:=.row E (xs.map (ab t))) rfl
  simp[frzB,hl,row_pure hp]
 refine⟨⟨fun b=>?_,fun x hx=>?_⟩,fun b hb x hx hmu=>?_⟩
 ·obtain⟨b1,b2⟩:=b
  rw[bG,al (puts (tX h ws) h),kl]
  by_cases hm:b1∈ws
  ·rw[if_pos hm]
   rcases hw b1 hm with⟨E,t,xs,hp,hb⟩|⟨t,xs,hb⟩|⟨t,x,hb⟩
   ·rw[hb]
    simp only[Option.bind_some,VB.blks]
    cases b2 with
    |zero=>
     rw[if_pos (List.mem_map.2 ⟨b1,hm,rfl⟩),fz b1 E t xs hb hp]
     rfl
    |succ j=>
     rw[if_neg (by simp)]
     exact Ay hb rfl (j+1) (by simp)
   ·rw[hb]
    have e:frzB (toH h) (b1,b2)=none:=by
     unfold frzB
     rw[al,hb]
     simp only[Option.bind_some,VB.blks]
     cases b2<;>simp
    rw[e]
    simp only[ite_self]
    rw[al,hb]
   ·rw[hb]
    have e:frzB (toH h) (b1,b2)=none:=by
     unfold frzB
     rw[al,hb]
     simp only[Option.bind_some,VB.blks]
     cases b2<;>simp
    rw[e]
    simp only[ite_self]
    rw[al,hb]
  ·rw[if_neg (fun hmem=>by obtain⟨c,hc,he⟩:=List.mem_map.1 hmem;simp only[Prod.mk.injEq] at he;exact hm (he.1▸hc)),if_neg hm,al]
 ·obtain⟨c,hc,hcx⟩:=List.mem_filterMap.1 hx
  obtain⟨y,hy,rfl⟩:=Option.map_eq_some_iff.1 hcx
  obtain⟨b,hb,rfl⟩:=List.mem_map.1 hc
  show b∈(tX h ws).map (·.1)
  rcases hw b hb with⟨E,t,xs,hp,hl⟩|⟨t,xs,hl⟩|⟨t,x,hl⟩
  ·have:look (puts (tX h ws) []) b=some (.froz t xs):=by rw[kl,if_pos hb,hl]
   rcases Classical.em (b∈(tX h ws).map (·.1)) with h1|h1
   ·exact h1
   ·rw[av _ _ _ fun x hx e=>h1 (List.mem_map.2 ⟨x,hx,e⟩)] at this
    cases this
  ·exfalso
   have:=am (i:=0) hl (d:=.froz (xs.map (ab t))) rfl
   simp[frzB,this] at hy
  ·exfalso
   have:=am (i:=0) hl (d:=.fvar (ab t x).cells) rfl
   simp[frzB,this] at hy
 ·obtain⟨c,hc,rfl⟩:=List.mem_map.1 hb
  rcases hw c hc with⟨E,t,xs,hp,hl⟩|⟨t,xs,hl⟩|⟨t,x',hl⟩
  ·rw[fz c E t xs hl hp];rfl
  ·have:=am (i:=0) hl (d:=.froz (xs.map (ab t))) rfl
   rw[this] at hx;cases hx;cases hmu
  ·have:=am (i:=0) hl (d:=.fvar (ab t x').cells) rfl
   rw[this] at hx;cases hx;cases hmu
end Go.Proofs.YthmfppknagbkeaaGreat.Am
namespace Go.Proofs.YthmfppknagbkeaaGreat.Am
open Go Go.RowKit
variable {P:Program} {os fs:List Nat} {n:Nat} {h:VH}
def ao:VB→Nat
 | .fvar _ _ xs=>xs.length
 | .fvari _ _ _ xss=>xss.length
 | .frow _ _ xss=>xss.length
 | .frowx _ _ xss=>xss.length
 |_=>1
theorem iT (x:VB):x.blks.length=ao x:=by cases x<;>simp[VB.blks,ao]
def keysV:VH→List Nat
 |[]=>[]
 |(k,_)::l=>k::keysV l
theorem cT:∀l:VH,l.map (·.1)=keysV l
 |[]=>rfl
 |(k,x)::l=>by simp[keysV,cT l]
def ur (h:VH)(fs:List Nat):VH→Prop→Prop
 |[],K=>K
 |(k,x)::l,K=>match Nat.blt k 4 with
  |true=>Chk (!x.sgl) (match ay h k with
   |none=>ur h fs l K
   |some y=>Chk (fs.contains k && !y.sgl) (bS (ao y≤ao x) (ur h fs l K)))
  |false=>Chk x.sgl (ur h fs l K)
theorem vX {K:Prop}:∀{l:VH},ur h fs l K→(∀k x,look l k=some x→(k<4∧∀y,look h k=some y→k∈fs∧ao y≤ao x)∨(4≤k∧x.sgl=true))∧K
 |[],hk=>⟨(fun k x hx=>by cases hx),hk⟩
 |(k0,x0)::l,hk=>by
  simp only[ur] at hk
  have key:((k0<4∧∀y,look h k0=some y→k0∈fs∧ao y≤ao x0)∨(4≤k0∧x0.sgl=true))∧ur h fs l K:=by
   split at hk
   ·rename_i hb
    have hlt:k0<4:=by simpa[Nat.blt_eq] using hb
    obtain⟨c,hk⟩:=hk.ok
    split at hk
    ·rename_i hn
     rw[ax] at hn
     exact⟨.inl ⟨hlt,fun y hy=>by rw[hn] at hy;cases hy⟩,hk⟩
    ·rename_i y hy
     rw[ax] at hy
     obtain⟨c2,hle,hk⟩:=hk.ok
     simp only[Bool.and_eq_true] at c2
     exact⟨.inl ⟨hlt,fun y' hy'=>by rw[hy] at hy';obtain rfl:=Option.some.inj hy';exact⟨by simpa using c2.1,hle⟩⟩,hk⟩
   ·rename_i hb
    obtain⟨c,hk⟩:=hk.ok
    have hge:4≤k0:=by
     rcases Nat.lt_or_ge k0 4 with hlt|hge
     ·have:Nat.blt k0 4=true:=by simpa[Nat.blt_eq] using hlt
      rw[hb] at this;cases this
     ·exact hge
    exact⟨.inr ⟨hge,c⟩,hk⟩
  obtain⟨k1,k2⟩:=key
  obtain⟨h1,h2⟩:=vX k2
  refine⟨fun k x hx=>?_,h2⟩
  simp only[look] at hx
  split at hx
  ·rename_i e;cases hx;subst e;exact k1
  ·exact h1 k x hx
def BR (hout:VH):List Nat→Nat→Bool
 |[],_=>true
 |_::l,i=>(ay hout i).isSome && BR hout l (i+1)
theorem wr {hout:VH}:∀{l:List Nat} {i:Nat},BR hout l i=true→∀m,m<l.length→∃x,look hout (i+m)=some x
 |[],i,_,m,hm=>by simp at hm
 |_::l,i,hb,m,hm=>by
  simp only[BR,Bool.and_eq_true,ax] at hb
  cases m with
  |zero=>exact Option.isSome_iff_exists.1 hb.1
  |succ m=>
   have:=wr hb.2 m (by simpa using hm)
   rwa [show i+1+m=i+(m+1) by omega] at this
def wJ (l:VH):Bool:=l.all fun p=>mP p.2
def lV (P:Program)(h:VH)(n:Nat)(f:FuncId)(vs:List V)(os fs:List Nat)(K:V→VH→List Nat→Prop):Prop:=
 Chk (xR os n && fs.all (fun k=>Nat.blt k 4)) (gT os fs h vs fun vs' ws=>zc fs h fs fun hf=>AW os fs h os 4 fun hs ws'=>Br hf hs fun hin=>eG P f vs' hin fun r hout=>
  Chk (fE (keysV hout) && fs.all (fun k=>(ay hout k).isSome) && BR hout os 4) (ur h fs hout (ct (gN os n) r fun r'=>Ak (gN os n) hout fun u=>
   match gD r && wJ hout with
   |true=>K r' u ((ws++ws')++fs++keysV u)
   |false=>Gd h (ws++ws') fun u0=>K r' (u0++u) ((ws++ws')++fs++keysV u))))
theorem yE {f:FuncId}{vs:List V}{K:V→VH→List Nat→Prop}(hfr:∀c:Id,n≤c.1→look (toH h) c=none)(hk:lV P h n f vs os fs K):
  ∃r u vu gl,(∀f':List Nat,(∀k∈gl,k∈f')→∃c:CallOK P f (toH h) n (af vs) r.toD u f',∀b,Live c.hout b→(c.g b).1∈f')∧bq h u vu∧K r vu gl:=by
 obtain⟨c0,hk⟩:=hk.ok
 simp only[Bool.and_eq_true,List.all_eq_true] at c0
 obtain⟨c1,c2⟩:=c0
 have hlow:∀k∈fs,k<4:=fun k hk=>by simpa[Nat.blt_eq] using c2 k hk
 obtain⟨o1,o2,o3⟩:=wN c1
 obtain⟨vs',ws,v1,v2,hk⟩:=eP (n:=n) hk
 obtain⟨hf,f1,f2,hk⟩:=sj hk
 obtain⟨hs,ws',s1,s2,s3,hk⟩:=tD (n:=n) hk
 have hk:=pY hk
 obtain⟨r,hout,hcon,hk⟩:=hk
 obtain⟨c3,hk⟩:=hk.ok
 simp only[Bool.and_eq_true,List.all_eq_true] at c3
 obtain⟨⟨c3,c4⟩,c5⟩:=c3
 obtain⟨cov,hk⟩:=vX hk
 obtain⟨r',r1,hk⟩:=qY hk
 obtain⟨u,hr,hk⟩:=tb hk
 have hg:∀a b,gN os n a=gN os n b→a=b:=fun a b=>zt c1
 have hgI:∀a b:Id,gI (gN os n) a=gI (gN os n) b→a=b:=fun a b=>zr c1
 have hin_look:∀k x,look (hf++hs) k=some x→(k∈fs∧look hf k=some x)∨(∃m b,k=4+m∧os[m]?=some b∧look hs k=some x):=by
  intro k x hx
  rw[ef] at hx
  cases hl:look hf k with
  |some y=>
   rw[hl] at hx
   obtain rfl:=Option.some.inj hx
   exact .inl ⟨(f1 k _ hl).1,rfl⟩
  |none=>
   rw[hl] at hx
   obtain⟨m,rfl,hm⟩:=s1 k x hx
   exact .inr ⟨m,os[m],rfl,List.getElem?_eq_getElem hm,hx⟩
 have hf_none:∀m,look hf (4+m)=none:=by
  intro m
  cases hl:look hf (4+m) with
  |none=>rfl
  |some y=>have:=hlow _ (f1 _ _ hl).1;omega
 have hin_sgl:∀m b,os[m]?=some b→∃x x',look h b=some x∧look (hf++hs) (4+m)=some x'∧Ge os fs n h ws' x x':=by
  intro m b hb
  obtain⟨x,x',q1,q2,q3⟩:=s2 m b hb
  exact⟨x,x',q1,by rw[ef,hf_none];exact q2,q3⟩
 have hin_fam:∀k∈fs,∃x,look (hf++hs) k=some x∧look h k=some x∧x.sgl=false∧∀j∈x.fams,j∈fs:=by
  intro k hk
  obtain⟨x,hx⟩:=f2 k hk
  obtain⟨_,q2,q3,q4⟩:=f1 k x hx
  exact⟨x,by rw[ef,hx],q2,q3,q4⟩
 have H:HinOK os fs h (toH (hf++hs)):=by
  refine⟨hlow,fun m b hb=>?_,fun k hk i hl=>?_⟩
  ·obtain⟨x,x',q1,q2,d,d',e1,e2,e3⟩:=hin_sgl m b hb
   exact Live.of_look (am q2 (by rw[e2];rfl))
  ·obtain⟨x,q1,q2,q3,q4⟩:=hin_fam k hk
   unfold Live at hl⊢
   rw[al,q2] at hl
   rw[al,q1]
   exact hl
 have live_in:∀b,Live (toH (hf++hs)) b→(b.1∈fs∧∃x,look h b.1=some x∧look (hf++hs) b.1=some x∧b.2<x.blks.length)∨∃m c,b=(4+m,0)∧os[m]?=some c:=by
  intro b hb
  unfold Live at hb
  rw[al] at hb
  cases hl:look (hf++hs) b.1 with
  |none=>rw[hl] at hb;cases hb
  |some x=>
   rw[hl] at hb
   simp only[Option.bind_some] at hb
   rcases hin_look _ _ hl with⟨g1,g2⟩|⟨m,c,e,g1,g2⟩
   ·obtain⟨_,q2,q3,q4⟩:=f1 _ _ g2
    refine .inl ⟨g1,x,q2,rfl,?_⟩
    rcases Nat.lt_or_ge b.2 x.blks.length with hlt|hge
    ·exact hlt
    ·rw[List.getElem?_eq_none hge] at hb;cases hb
   ·obtain⟨y,y',q1,q2,d,d',e1,e2,_⟩:=hin_sgl m c g1
    rw[e,q2] at hl
    obtain rfl:=Option.some.inj hl
    rw[e2] at hb
    refine .inr ⟨m,c,?_,g1⟩
    obtain⟨b1,b2⟩:=b
    simp only at e hb⊢
    cases b2 with
    |zero=>rw[e]
    |succ j=>simp at hb
 have hcov:∀k x,look hout k=some x→∀j,x.blks.length≤j→look (toH h) (gN os n k,j)=none:=by
  intro k x hx j hj
  rcases mC os n k with⟨a1,a2⟩|⟨m,b,rfl,a1,a2⟩|⟨m,rfl,a1,a2⟩<;>rw[a2]
  ·rcases cov k x hx with⟨_,q⟩|⟨q,_⟩
   ·rw[al]
    cases hl:look h k with
    |none=>rfl
    |some y=>
     simp only[Option.bind_some]
     rw[List.getElem?_eq_none]
     have:=(q y hl).2
     rw[←iT,←iT] at this
     omega
   ·omega
  ·rcases cov _ x hx with⟨q,_⟩|⟨_,q⟩
   ·omega
   ·obtain⟨d,hd⟩:=VB.sgl_ok q
    rw[hd] at hj
    simp only[List.length_singleton] at hj
    obtain⟨y,y',q1,q2,e,e',e1,e2,_⟩:=hin_sgl m b a1
    rw[al,q1]
    simp only[Option.bind_some,e1]
    rw[List.getElem?_eq_none]
    simpa using hj
  ·exact hfr _ (by show n≤n+_;omega)
 have hW:∀b∈ws++ws',oJ h os fs b:=fun b hb=>(List.mem_append.1 hb).elim (v2 b) (s3 b)
 have hkeys:=oD hout
 have hnd:(hout.map (·.1)).Nodup:=by rw[cT];exact eM c3
 have hukeys:∀b,Live (toH hout) b→(gI (gN os n) b).1∈keysV u:=by
  intro b hb
  unfold Live at hb
  rw[al] at hb
  cases hl:look hout b.1 with
  |none=>rw[hl] at hb;cases hb
  |some x=>
   obtain⟨y,y1,_⟩:=((hr.look hg).1 b.1).2 x hl
   rw[←cT]
   exact List.mem_map.2 ⟨_,bC y1,rfl⟩
 have mk:∀(uu:HL) (W:List Id),Fc h (ws++ws') W→(∀b∈W,b.1∈ws++ws')→((noMem r.toD=true∧(∀p∈toH hout,noMemB p.2=true)∧uu=renH (gI (gN os n)) (toH hout))∨((∀b∈W,∀x,look (toH h) b=some x→x.mutable=true→(frzB (toH h) b).isSome=true)∧uu=frz (toH h) W++renH (gI (gN os n)) (toH hout)))→
   ∀f':List Nat,(∀k∈(ws++ws')++fs++keysV u,k∈f')→∃c:CallOK P f (toH h) n (af vs) r'.toD uu f',∀b,Live c.hout b→(c.g b).1∈f':=by
  intro uu W hcW hWs hupd f' hf'
  refine⟨⟨gI (gN os n),W,fs,af vs',toH (hf++hs),r.toD,toH hout,hcon,v1.1,?_,?_,hkeys,fun b b' _ _ he=>hgI b b' he,?_,?_,?_,⟨?_,?_,?_⟩,r1.symm,hupd⟩,?_⟩
  ·exact v1.2 _ H _ fun b hb=>hcW b (List.mem_append_left _ hb)
  ·intro b x' hx
   have hlv:Live (toH (hf++hs)) b:=Live.of_look hx
   rcases live_in b hlv with⟨g1,x,g2,g3,g4⟩|⟨m,c,rfl,g1⟩
   ·rw[al,g3] at hx
    refine⟨x',by simp only[gI,li os n (hlow _ g1)];rw[al,g2];exact hx,?_⟩
    obtain⟨y,y1,y2,y3,y4⟩:=hin_fam _ g1
    rw[g2] at y2
    obtain rfl:=Option.some.inj y2
    exact Bc H y3 y4 x' (List.mem_of_getElem? hx)
   ·obtain⟨y,y',q1,q2,d,d',e1,e2,e3⟩:=hin_sgl m c g1
    rw[al,q2] at hx
    simp only[Option.bind_some,e2,List.getElem?_cons_zero,Option.some.injEq] at hx
    subst hx
    refine⟨d,?_,e3 _ H _ fun b hb=>hcW b (List.mem_append_right _ hb)⟩
    simp only[gI,d7,cF g1]
    exact am q1 (by rw[e1];rfl)
  ·intro b hb
   rcases live_in b hb with⟨g1,x,g2,g3,g4⟩|⟨m,c,rfl,g1⟩
   ·have hl:=c4 _ g1
    rw[ax] at hl
    obtain⟨y,hy⟩:=Option.isSome_iff_exists.1 hl
    rcases cov _ _ hy with⟨_,q⟩|⟨q,_⟩
    ·have:=(q x g2).2
     rw[←iT,←iT] at this
     unfold Live
     rw[al,hy]
     simp only[Option.bind_some]
     rw[List.getElem?_eq_getElem (by omega)]
     rfl
    ·have:=hlow _ g1;omega
   ·obtain⟨y,hy⟩:=wr c5 m (List.getElem?_eq_some_iff.1 g1).1
    rcases cov _ _ hy with⟨q,_⟩|⟨_,q⟩
    ·omega
    ·obtain⟨d,hd⟩:=VB.sgl_ok q
     exact Live.of_look (am hy (by rw[hd];rfl))
  ·intro b hb hnb
   have hb':=hb
   unfold Live at hb
   rw[al] at hb
   cases hl:look hout b.1 with
   |none=>rw[hl] at hb;cases hb
   |some x=>
    rw[hl] at hb
    rcases mC os n b.1 with⟨a1,a2⟩|⟨m,c,e,a1,a2⟩|⟨m,e,a1,a2⟩<;>simp only[gI]<;>rw[a2]
    ·cases hh:look h b.1 with
     |none=>rw[al,hh];rfl
     |some y=>
      rcases cov _ _ hl with⟨_,q⟩|⟨q,_⟩
      ·obtain⟨g1,_⟩:=q y hh
       obtain⟨z,z1,z2,_⟩:=hin_fam _ g1
       rw[hh] at z2
       obtain rfl:=Option.some.inj z2
       unfold Live at hnb
       rw[al,z1] at hnb
       rw[al,hh]
       simpa using hnb
      ·omega
    ·exfalso
     rcases cov _ _ hl with⟨q,_⟩|⟨_,q⟩
     ·omega
     ·obtain⟨d,hd⟩:=VB.sgl_ok q
      simp only[Option.bind_some,hd] at hb
      obtain⟨b1,b2⟩:=b
      simp only at e hb hnb
      cases b2 with
      |zero=>exact hnb (by rw[e];exact H.sgl m c a1)
      |succ j=>simp at hb
    ·exact hfr _ (by show n≤n+_;omega)
  ·intro b hb b' hb' he
   obtain⟨q1,q2⟩:=hW _ (hWs b hb)
   obtain⟨c,i⟩:=b
   rcases live_in b' hb' with⟨g1,x,g2,g3,g4⟩|⟨m,c',rfl,g1⟩
   ·simp only[gI,li os n (hlow _ g1),Prod.mk.injEq] at he
    obtain⟨y,y1,y2,y3,_⟩:=hin_fam _ g1
    rw[he.1] at y2
    rcases q2 with(⟨E,t,xs,_,hb⟩|⟨t,xs,hb⟩|⟨t,x,hb⟩)|⟨q2,_⟩
    ·rw[y2] at hb;cases hb;cases y3
    ·rw[y2] at hb;cases hb;cases y3
    ·rw[y2] at hb;cases hb;cases y3
    ·exact q2 (he.1▸g1)
   ·simp only[gI,d7,cF g1,Prod.mk.injEq] at he
    obtain⟨he,_⟩:=he
    subst he
    exact q1 (List.mem_of_getElem? g1)
  ·exact fun b hb=>.inl (hf' _ (List.mem_append_right _ (hukeys b hb)))
  ·exact fun b hb=>hf' _ (List.mem_append_left _ (List.mem_append_left _ (hWs b hb)))
  ·exact fun k hk=>hf' _ (List.mem_append_left _ (List.mem_append_right _ hk))
  ·exact fun b hb=>hf' _ (List.mem_append_right _ (hukeys b hb))
 split at hk
 ·rename_i hm
  simp only[Bool.and_eq_true,wJ,List.all_eq_true] at hm
  refine⟨r',_,u,_,mk _ (((toH h).map (·.1)).filter fun b=>decide (b.1∈ws++ws')) (fun b hb i hl=>?_) (fun b hb=>by simpa using(List.mem_filter.1 hb).2) (.inl ⟨lw r hm.1,fun p hp=>?_,rfl⟩),xa hg (fun _=>rfl) hr hnd hcov,hk⟩
  ·refine List.mem_filter.2 ⟨?_,by simpa using hb⟩
   obtain⟨d,hd⟩:=Option.isSome_iff_exists.1 hl
   exact List.mem_map.2 ⟨_,bC hd,rfl⟩
  obtain⟨x,x1,x2⟩:=wF hp
  exact u9 (hm.2 _ (bC x1)) _ x2
 ·obtain⟨hk,hnf⟩:=vK hk
  have hW1:∀b∈ws++ws',F3 h b:=fun b hb=>(hW b hb).2.elim id fun q=>(hnf b hb q.2).elim
  obtain⟨w1,w2⟩:=Ba hW1
  refine⟨r',_,_,_,mk _ ((ws++ws').map fun b=>(b,0)) (fun b hb i hl=>?_) (fun b hb=>by obtain⟨c,hc,rfl⟩:=List.mem_map.1 hb;exact hc) (.inr ⟨w2,rfl⟩),?_,hk⟩
  ·have h0:i=0:=by
    unfold Live at hl
    cases i with
    |zero=>rfl
    |succ j=>
     rcases hW1 b hb with⟨E,t,xs,_,hx⟩|⟨t,xs,hx⟩|⟨t,x,hx⟩<;>rw[Ay hx rfl (j+1) (by simp)] at hl<;>cases hl
   subst h0
   exact List.mem_map.2 ⟨b,hb,rfl⟩
  have hcov':∀k x,look hout k=some x→∀j,x.blks.length≤j→look (toH (puts (tX h (ws++ws')) h)) (gN os n k,j)=none:=by
   intro k x hx j hj
   have h1:=hcov k x hx j hj
   rw[←w1.1,bG]
   split
   ·rename_i y hy
    exfalso
    split at hy
    ·obtain⟨⟨z,z1,_⟩,_⟩:=fS hy
     rw[h1] at z1;cases z1
    ·cases hy
   ·exact h1
  obtain⟨q1,q2⟩:=xa hg w1.1 hr hnd hcov'
  refine⟨fun b=>?_,fun x hx=>?_⟩
  ·rw[aO,aO];exact q1 b
  ·rw[List.map_append]
   rcases List.mem_append.1 hx with hx|hx
   ·exact List.mem_append_left _ (w1.2 x hx)
   ·exact List.mem_append_right _ (q2 x hx)
end Go.Proofs.YthmfppknagbkeaaGreat.Am
namespace Go.Proofs.YthmfppknagbkeaaGreat.Am
open Go Go.RowKit
variable {P:Program} {N:Nat} {Θ:TT} {t:VT} {h:VH} {n:Nat}
mutual
theorem qB (g:HL):∀(d:D),∀b∈aj (fwd g d),b∈aj d∨∃c∈aj d,look g c=some (.moved b)
 | .ref c,b,hb=>by
  simp only[fwd] at hb
  split at hb
  ·rename_i c' hc
   simp only[aj,List.mem_singleton] at hb
   subst hb
   exact .inr ⟨c,by simp[aj],hc⟩
  ·cases hb
  ·exact .inl hb
 | .ptr c o,b,hb=>by
  simp only[fwd] at hb
  split at hb
  ·rename_i c' hc
   simp only[aj,List.mem_singleton] at hb
   subst hb
   exact .inr ⟨c,by simp[aj],hc⟩
  ·split at hb<;>cases hb
  ·exact .inl hb
 | .eptr c i o,b,hb=>by
  simp only[fwd] at hb
  split at hb
  ·rename_i c' hc
   simp only[aj,List.mem_singleton] at hb
   subst hb
   exact .inr ⟨c,by simp[aj],hc⟩
  ·exact .inl hb
 | .vref c o q,b,hb=>by
  simp only[fwd] at hb
  split at hb
  ·rename_i c' hc
   simp only[aj,List.mem_singleton] at hb
   subst hb
   exact .inr ⟨c,by simp[aj],hc⟩
  ·exact .inl hb
 | .ifc T d,b,hb=>by
  simp only[fwd,aj] at hb
  rcases qB g d b hb with h1|⟨c,h1,h2⟩
  ·exact .inl (by simpa only[aj] using h1)
  ·exact .inr ⟨c,by simpa only[aj] using h1,h2⟩
 | .clo f cs,b,hb=>by
  simp only[fwd,aj] at hb
  rcases j7 g cs b hb with h1|⟨c,h1,h2⟩
  ·exact .inl (by simpa only[aj] using h1)
  ·exact .inr ⟨c,by simpa only[aj] using h1,h2⟩
 | .agg cs,b,hb=>by
  simp only[fwd,aj] at hb
  rcases j7 g cs b hb with h1|⟨c,h1,h2⟩
  ·exact .inl (by simpa only[aj] using h1)
  ·exact .inr ⟨c,by simpa only[aj] using h1,h2⟩
 | .tup cs,b,hb=>by
  simp only[fwd,aj] at hb
  rcases j7 g cs b hb with h1|⟨c,h1,h2⟩
  ·exact .inl (by simpa only[aj] using h1)
  ·exact .inr ⟨c,by simpa only[aj] using h1,h2⟩
 | .int ..,b,hb| .bool _,b,hb| .str _,b,hb| .lst _,b,hb| .box _,b,hb| .nilp,b,hb| .nils,b,hb| .nilf,b,hb| .nili,b,hb| .gp _,b,hb| .gv _,b,hb| .iptr ..,b,hb| .undef,b,hb| .junk,b,hb=>by simp[fwd,aj] at hb
theorem j7 (g:HL):∀(l:List D),∀b∈aM (gA g l),b∈aM l∨∃c∈aM l,look g c=some (.moved b)
 |[],b,hb=>by simp[gA,aM] at hb
 |d::l,b,hb=>by
  simp only[gA,aM,List.mem_append] at hb⊢
  rcases hb with hb|hb
  ·rcases qB g d b hb with h1|⟨c,h1,h2⟩
   ·exact .inl (.inl h1)
   ·exact .inr ⟨c,.inl h1,h2⟩
  ·rcases j7 g l b hb with h1|⟨c,h1,h2⟩
   ·exact .inl (.inr h1)
   ·exact .inr ⟨c,.inr h1,h2⟩
end
def Ah (h:VH):List Nat→List Nat
 |[]=>[]
 |b::l=>match ay h b with
  |some (.moved k _)=>k::Ah h l
  |_=>Ah h l
theorem wH:∀{l:List Nat} {b k i:Nat},b∈l→look h b=some (.moved k i)→k∈Ah h l
 |c::l,b,k,i,hb,hl=>by
  simp only[Ah]
  rcases List.mem_cons.1 hb with rfl|hb
  ·rw[ax,hl];simp
  ·have:=wH hb hl
   split
   ·exact List.mem_cons_of_mem _ this
   ·exact this
theorem Ai {c b:Id}(hc:look (toH h) c=some (.moved b)):look h c.1=some (.moved b.1 b.2):=by
 rw[al] at hc
 obtain⟨x,h1,h2⟩:=Option.bind_eq_some_iff.1 hc
 rw[h1]
 have hm:=List.mem_of_getElem? h2
 cases x<;>simp only[VB.blks,List.mem_singleton,List.mem_map,reduceCtorEq,and_false,exists_false,Blk.moved.injEq] at hm
 case frowx=>
  obtain⟨y,_,e⟩:=hm
  cases y<;>cases e
 rw[hm]
def AU (t:VT)(h:VH)(x:Operand):List Nat:=match x with
 | .tmp k=>(match ay t k with|some v=>dM v++Ah h (dM v)|none=>[])
 |_=>[]
def bY (t:VT)(h:VH):List Operand→List Nat
 |[]=>[]
 |x::l=>AU t h x++bY t h l
theorem vb {v:Value}{d:D}(h:fq v=some d)(g:HL):aj d=[]∧aj (fwd g d)=[]:=by
 unfold fq at h
 split at h<;>first|(simp only[Option.some.injEq] at h;subst h;exact⟨by simp[aj],by simp[fwd,aj]⟩)|cases h
theorem AV (x:Operand):∀k∈kE (dK t) (toH h) x,k∈AU t h x:=by
 intro k hk
 unfold kE at hk
 cases x with
 |tmp j=>
  simp only[aA,bD] at hk
  simp only[AU,ax]
  cases hl:look t j with
  |none=>rw[hl] at hk;cases hk
  |some v=>
   rw[hl] at hk
   simp only[Option.map_some] at hk
   rcases List.mem_append.1 hk with hk|hk
   ·obtain⟨b,hb,rfl⟩:=List.mem_map.1 hk
    exact List.mem_append_left _ (fU v b hb)
   ·obtain⟨b,hb,rfl⟩:=List.mem_map.1 hk
    rcases qB _ _ b hb with h1|⟨c,h1,h2⟩
    ·exact List.mem_append_left _ (fU v b h1)
    ·exact List.mem_append_right _ (wH (fU v c h1) (Ai h2))
 |const v=>
  simp only[aA] at hk
  cases hv:fq v with
  |none=>rw[hv] at hk;cases hk
  |some d=>
   rw[hv] at hk
   obtain⟨e1,e2⟩:=vb hv (toH h)
   simp[e1,e2,iW] at hk
 |global g=>
  simp only[aA] at hk
  by_cases hg:(look Gl g).isSome=true
  ·rw[if_pos hg] at hk
   simp[aj,fwd,iW] at hk
  ·rw[if_neg hg] at hk
   simp at hk
 |_=>simp[aA] at hk
theorem ov:∀(l:List Operand),∀k∈pL (dK t) (toH h) l,k∈bY t h l
 |[],k,hk=>by cases hk
 |x::l,k,hk=>by
  simp only[pL,List.flatMap_cons,List.mem_append] at hk
  simp only[bY,List.mem_append]
  rcases hk with hk|hk
  ·exact .inl (AV x k hk)
  ·exact .inr (ov l k hk)
def mm (t:VT)(h:VH)(op:Op):List Nat:=match iy op with|true=>bY t h op.operands.toList|false=>[]
theorem w4 (op:Op):∀k∈vp (dK t) (toH h) op,k∈mm t h op:=by
 intro k hk
 unfold vp at hk
 unfold mm
 cases hl:iy op with
 |false=>rw[hl] at hk;cases hk
 |true=>rw[hl] at hk;exact ov _ k hk
def StepOK (P:Program)(N:Nat)(o:Oper)(t:VT)(h:VH)(r:V)(vu:VH)(gl:List Nat):Prop:=∃u,bq h u vu∧∀f:List Nat,(∀k∈gl,k∈f)→OpS P N o (dK t) (toH h) r.toD u f
theorem zl (g:HL):∃n:Nat,look g (n,0)=none:=by
 have key:∀(l:HL),∃m,∀p∈l,p.1.1<m:=by
  intro l
  induction l with
  |nil=>exact⟨0,by simp⟩
  |cons p l ih=>
   obtain⟨m,hm⟩:=ih
   refine⟨max m (p.1.1+1),fun q hq=>?_⟩
   rcases List.mem_cons.1 hq with rfl|hq
   ·omega
   ·have:=hm q hq;omega
 obtain⟨m,hm⟩:=key g
 refine⟨m,?_⟩
 cases hl:look g (m,0) with
 |none=>rfl
 |some x=>have:=hm _ (bC hl);simp only at this;omega
theorem Az {t:List (Nat×D)}{h:HL}{m:Bool}{o:Oper}{d:D}{u:HL}{f:List Nat}(hd:∀n,bW P m o.op t h n=some (d,u))(hf:∀k∈vp t h o.op,k∈f):OpS P N o t h d u f:=by
 intro t' h' ht ha w0 S A ρ a w s
 obtain⟨n,hn⟩:=zl h'
 refine s.op (m:=m) (n:=n) ?_ hn
 rw[←C3 (t:=t') (h:=h) (fs:=f) ?_ ha,←C4 ht]
 ·exact hd n
 ·have:vp t' h o.op=vp t h o.op:=by
   unfold vp
   cases hl:iy o.op with
   |false=>rfl
   |true=>
    simp only[cond_true,pL]
    have hx:∀x∈o.op.operands.toList,kE t' h x=kE t h x:=fun x hx=>by unfold kE;rw[ht x (Array.mem_toList_iff.1 hx)]
    generalize o.op.operands.toList=l at hx
    induction l with
    |nil=>rfl
    |cons x l ih=>rw[List.flatMap_cons,List.flatMap_cons,hx x (List.mem_cons_self ..),ih fun y hy=>hx y (List.mem_cons_of_mem _ hy)]
  rw[this]
  exact hf
theorem Dl {m:Bool}{o:Oper}{r:V}{u:HL}{vu:VH}(hd:∀n,bW P m o.op (dK t) (toH h) n=some (r.toD,u))(hu:bq h u vu):StepOK P N o t h r vu (mm t h o.op):=
 ⟨u,hu,fun f hf=>Az hd fun k hk=>hf k (w4 _ k hk)⟩
theorem Dm {m:Bool}{o:Oper}{r:V}{u:HL}{vu:VH}(hn:∀c:Id,n≤c.1→look (toH h) c=none)(hd:bW P m o.op (dK t) (toH h) n=some (r.toD,u))(hu:bq h u vu):StepOK P N o t h r vu (n::mm t h o.op):=
 ⟨u,hu,fun f hf=>Cn (hn (n,0) (Nat.le_refl _)) hd (fun k hk=>hf k (List.mem_cons_of_mem _ (w4 _ k hk))) (hf n (List.mem_cons_self ..))⟩
theorem tH {o:Oper}{r:V}{u1:HL}{v1 v2:VH}{g1 g2:List Nat}(hp:∀f:List Nat,(∀k∈g1,k∈f)→dg P N h u1 v1 f)(hs:StepOK P N o t (puts v1 h) r v2 g2):StepOK P N o t h r (v1++v2) (g1++g2):=by
 obtain⟨u,h1,h2⟩:=hs
 have p0:=hp g1 fun k hk=>hk
 refine⟨u1++u,m7 p0.1 h1,fun f hf=>(hp f fun k hk=>hf k (List.mem_append_left _ hk)).2 _ _ _ _ (lz (fun b=>(p0.1.1 b).symm) (h2 f fun k hk=>hf k (List.mem_append_right _ hk)))⟩
theorem dq {o:Oper}{r:V}{vu:VH}{g g':List Nat}(hs:StepOK P N o t h r vu g)(hg:∀k∈g,k∈g'):StepOK P N o t h r vu g':=by
 obtain⟨u,h1,h2⟩:=hs
 exact⟨u,h1,fun f hf=>h2 f fun k hk=>hf k (hg k hk)⟩
theorem lJ {o:Oper}{f:FuncId}{vs:List V}{os fs:List Nat}{K:V→VH→List Nat→Prop}(hn:∀c:Id,n≤c.1→look (toH h) c=none)(hc:np P (dK t) (toH h) o f (af vs))(hk:lV P h n f vs os fs K):
  ∃r vu gl,StepOK P N o t h r vu (bY t h o.op.operands.toList++gl)∧K r vu gl:=by
 obtain⟨r,u,vu,gl,h1,h2,h3⟩:=yE hn hk
 refine⟨r,vu,gl,⟨u,h2,fun f' hf'=>?_⟩,h3⟩
 obtain⟨c,hc'⟩:=h1 f' fun k hk=>hf' k (List.mem_append_right _ hk)
 exact AA hn hc c (fun k hk=>hf' k (List.mem_append_left _ (ov _ k hk))) hc'
end Go.Proofs.YthmfppknagbkeaaGreat.Am
namespace Go.Proofs.YthmfppknagbkeaaGreat.Am
open Go Go.RowKit
variable {P:Program} {N:Nat} {Θ:TT} {t:VT} {h:VH} {n:Nat}
mutual
def FH (own:Bool)(h:VH):V→List Nat
 | .ref b=>(match ay h b with
  |some (.row _ t _)=>bif own|| !t.pure then[b] else[]
  |some (.lit ..)=>[b]
  |_=>[])
 | .ptr b _=>(match ay h b with
  |some (.fvb ..)=>[]
  |_=>[b])
 | .agg cs=>kb own h cs
 | .tup cs=>kb own h cs
 | .clo _ cs=>kb own h cs
 | .ifc _ v=>FH own h v
 |v=>zC v
def kb (own:Bool)(h:VH):List V→List Nat
 |[]=>[]
 |v::l=>FH own h v++kb own h l
end
def Gr (own:Bool)(h:VH):VB→List Nat
 | .var _ cs=>kb own h cs
 | .vari _ pre _ t _ post=>kb own h pre++t.fams++kb own h post
 | .lit _ vs=>kb own h vs
 |x=>x.fams
def Dv (l:List Nat)(b:Nat):List Nat:=match l.contains b with|true=>l|false=>l++[b]
def dL:List Nat→List Nat→List Nat
 |l,[]=>l
 |l,b::bs=>dL (Dv l b) bs
def mE (own:Bool)(h:VH):Nat→Nat→List Nat→(List Nat→Prop)→Prop
 |0,_,l,K=>K l
 |k+1,i,l,K=>match l[i]? with
  |none=>K l
  |some b=>dC (dL l (match ay h b with|some x=>Gr own h x|none=>[])) fun l=>mE own h k (i+1) l K
theorem nO {own:Bool}:∀{k i:Nat} {l:List Nat} {K:List Nat→Prop},mE own h k i l K→∃l,K l
 |0,_,l,_,hk=>⟨l,hk⟩
 |k+1,i,l,K,hk=>by
  simp only[mE] at hk
  split at hk
  ·exact⟨_,hk⟩
  ·have hk:=bd hk
   exact nO hk
def zI (own:Bool)(h:VH)(vs:List V)(K:List Nat→List Nat→Prop):Prop:=
 dC (dL [] (kb own h vs)) fun l=>mE own h 60 0 l fun l=>dC (l.filter fun b=>Nat.ble 4 b) fun os=>dC (l.filter fun b=>Nat.blt b 4) fun fs=>K os fs
theorem mF {own:Bool}{vs:List V}{K:List Nat→List Nat→Prop}(hk:zI own h vs K):∃os fs,K os fs:=by
 have hk:=bd hk
 obtain⟨l,hk⟩:=nO hk
 have hk:=bd hk
 have hk:=bd hk
 exact⟨_,_,hk⟩
def cw (P:Program)(h:VH)(n:Nat)(f:FuncId)(vs:List V)(K:V→VH→List Nat→Prop):Prop:=∃os fs,lV P h n f vs os fs K
theorem cA {f:FuncId}{vs:List V}{K:V→VH→List Nat→Prop}(hk:zI false h vs fun os fs=>lV P h n f vs os fs K):cw P h n f vs K:=mF hk
theorem uj {f:FuncId}{vs:List V}{K:V→VH→List Nat→Prop}(hk:zI true h vs fun os fs=>lV P h n f vs os fs K):cw P h n f vs K:=mF hk
def FV (h:VH)(k:Nat):Bool:=match ay h k with
 |some (.frow _ t _)=>t.pure
 |some (.frowx _ t _)=>t.pure
 |_=>false
theorem gr {f:FuncId}{vs:List V}{K:V→VH→List Nat→Prop}(hk:zI false h vs fun os fs=>dC (fs.filter fun k=>!FV h k) fun fs=>lV P h n f vs os fs K):cw P h n f vs K:=by
 obtain⟨os,fs,hk⟩:=mF hk
 exact⟨_,_,bd hk⟩
theorem qd {f:FuncId}{vs:List V}{K:V→VH→List Nat→Prop}(hk:lV P h n f vs [] [] K):cw P h n f vs K:=⟨_,_,hk⟩
theorem ij (ex:List Nat){f:FuncId}{vs:List V}{K:V→VH→List Nat→Prop}(hk:zI true h vs fun os fs=>dC (dL ex fs) fun fs=>lV P h n f vs os fs K):cw P h n f vs K:=by
 obtain⟨os,fs,hk⟩:=mF hk
 exact⟨_,_,bd hk⟩
def kY (Θ:TT)(b:Builtin)(vs:List V)(Ts:List TypeId)(h:VH)(K:V→VH→Prop):Prop:=
 match b,vs,Ts with
 | .len,[v],[T]=>aQ Θ T fun ti=>Ep ti h v fun r=>K r []
 | .copy,[d,e],[T,_]=>aQ Θ T fun ti=>yO Θ ti h d e K
 | .min,[.int k x,.int k' y],_=>Chk (decide (k=k')) (K (.int k (if y<x then y else x)) [])
 | .max,[.int k x,.int k' y],_=>Chk (decide (k=k')) (K (.int k (if x<y then y else x)) [])
 |_,_,_=>False
theorem p8 (hΘ:Θ.ok P){b:Builtin}{vs:List V}{Ts:List TypeId}{m:Bool}{K:V→VH→Prop}(hk:kY Θ b vs Ts h K):∃r u vu,(∀n,cy P m b (af vs) Ts (toH h) n=some (r.toD,u))∧bq h u vu∧K r vu:=by
 unfold kY at hk
 split at hk
 ·obtain⟨ti,l1,hk⟩:=ap hk
  obtain⟨r,h1,h2⟩:=Cf (hΘ _ _ l1) hk
  exact⟨r,[],[],fun n=>by simp only[cy,af,h1,Option.map_some],aC,h2⟩
 ·obtain⟨ti,l1,hk⟩:=ap hk
  obtain⟨r,u,vu,h1,h2,h3⟩:=yP hΘ (hΘ _ _ l1) hk
  exact⟨r,u,vu,fun n=>by simp only[cy,af,h1],h2,h3⟩
 ·obtain⟨c,hk⟩:=hk.ok
  simp only[decide_eq_true_eq] at c
  exact⟨_,[],[],fun n=>by simp only[cy,af,V.toD,if_pos c],aC,hk⟩
 ·obtain⟨c,hk⟩:=hk.ok
  simp only[decide_eq_true_eq] at c
  exact⟨_,[],[],fun n=>by simp only[cy,af,V.toD,if_pos c],aC,hk⟩
 ·exact hk.elim
def zf (h:VH)(τ:Ty):List V→(VH→VH→List Nat→Prop)→Prop
 |[],K=>K h [] []
 |v::l,K=>wi h τ.shs v.cells fun h1 vu g=>zf h1 τ l fun h2 vu2 g2=>K h2 (vu++vu2) (g++g2)
theorem sm {τ:Ty}:∀{l:List V} {h:VH} {K:VH→VH→List Nat→Prop},zf h τ l K→∃u vu g,(∀f:List Nat,(∀k∈g,k∈f)→dg P N h u vu f)∧K (puts vu h) vu g
 |[],h,K,hk=>⟨[],[],[],fun f _=>dH,hk⟩
 |v::l,h,K,hk=>by
  obtain⟨u1,v1,g1,p1,hk⟩:=nE (P:=P) (N:=N) hk
  obtain⟨u2,v2,g2,p2,hk⟩:=sm hk
  refine⟨u1++u2,v1++v2,g1++g2,fun f hf=>gH (p1 f fun k hk=>hf k (List.mem_append_left _ hk)) (p2 f fun k hk=>hf k (List.mem_append_right _ hk)),?_⟩
  rw[aO]
  exact hk
def yS (t:Ty):List V→Option (List t.den)
 |[]=>some []
 |v::l=>match Ff t (oM.nzL v),yS t l with
  |some x,some xs=>some (x::xs)
  |_,_=>none
theorem vY {t:Ty}:∀{l:List V} {xs:List t.den},yS t l=some xs→(af l).map nzE=xs.map (ab t)
 |[],xs,h=>by simp only[yS,Option.some.injEq] at h;subst h;rfl
 |v::l,xs,h=>by
  simp only[yS] at h
  split at h
  ·rename_i x xs' h1 h2
   simp only[Option.some.injEq] at h
   subst h
   simp only[af,List.map_cons,vY h2]
   rw[←qi h1,qT]
  ·cases h
def vD (h:VH)(b:Nat)(τ:Ty)(K:VH→VH→List Nat→Prop):Prop:=
 match ay h b with
 |some (.lit _ vs)=>zf h τ vs fun h1 vu g=>(match ay h1 b with
  |some (.lit E vs')=>jp h1 vs' fun vs2=>(match yS τ vs2 with
   |some xs=>xW b (VB.row E τ xs) h1 fun h2=>K h2 (vu++[(b,.row E τ xs)]) (g++b::dy vs')
   |none=>False)
  |_=>False)
 |_=>K h [] []
theorem yc {b:Nat}{τ:Ty}{K:VH→VH→List Nat→Prop}(hk:vD h b τ K):∃u vu g,(∀f:List Nat,(∀k∈g,k∈f)→dg P N h u vu f)∧K (puts vu h) vu g:=by
 unfold vD at hk
 split at hk
 ·obtain⟨u1,v1,g1,p1,hk⟩:=sm (P:=P) (N:=N) hk
  split at hk
  ·rename_i E vs' hb
   rw[ax] at hb
   obtain⟨vs2,f1,hk⟩:=eU hk
   split at hk
   ·rename_i xs hx
    have hk:=mU hk
    have hlast:bT (toH (puts v1 h)) (.row E (af vs'))= .row E (xs.map (ab τ)):=by
     simp only[bT]
     rw[←vY hx,←f1,cX,List.map_map]
     rfl
    refine⟨u1++[((b,0),bT (toH (puts v1 h)) (.row E (af vs')))],v1++[(b,.row E τ xs)],g1++b::dy vs',fun f hf=>gH (p1 f fun k hk=>hf k (List.mem_append_left _ hk)) (tq (y:=.row E τ xs) hb rfl (by rw[hlast];rfl) ⟨hf b (by simp),fun c hc=>hf c.1 ?_⟩),?_⟩
    ·refine List.mem_append_right _ (List.mem_cons_of_mem _ (ci vs' c ?_))
     rw[dQ]
     exact hc
    ·rw[aO];exact hk
   ·exact hk.elim
  ·exact hk.elim
 ·exact⟨[],[],[],fun f _=>dH,hk⟩
def z8 (h:VH)(d:V)(o:Option Ty)(K:Ty→Prop):Prop:=
 match d with
 | .ref b=>cL h b fun x=>(match x with
  | .row _ t _=>K t
  |_=>False)
 |_=>(match o with|some t=>K t|none=>False)
theorem z9 {d:V}{o:Option Ty}{K:Ty→Prop}(hk:z8 h d o K):∃t,K t:=by
 unfold z8 at hk
 split at hk
 ·obtain⟨x,_,hk⟩:=aG hk
  split at hk
  ·exact⟨_,hk⟩
  ·exact hk.elim
 ·split at hk
  ·exact⟨_,hk⟩
  ·exact hk.elim
def Gt (h:VH)(e:V):Option Nat:=match e with
 | .ref b=>(match ay h b with|some (.lit ..)=>some b|_=>none)
 |_=>none
def m9 (s:Nat)(v:V):Bool:=v.whole && nT v.cells s && v.cells.all V.one
def Fj:List (Nat×V)→List V
 |[]=>[]
 |(_,v)::l=>oM.nzL v::Fj l
theorem Ar:∀l:List (Nat×V),((tW l).map fun x=>nzE x.2)=af (Fj l)
 |[]=>rfl
 |(k,v)::l=>by
  have:=Ar l
  simp only[tW,List.map_cons,List.map_map] at this⊢
  simp only[Fj,af,qT]
  rw[←this]
def wD:List (Nat×V)→Nat→Bool
 |[],0=>true
 |_::l,n+1=>wD l n
 |_,_=>false
theorem sJ:∀{l:List (Nat×V)} {n:Nat},wD l n=true→l.length=n
 |[],0,_=>rfl
 |_::l,n+1,h=>by simp[sJ (l:=l) (n:=n) h]
 |[],_+1,h=>by cases h
 |_::_,0,h=>by cases h
def p7 (ei:TI)(E:TypeId)(vs:List (Nat×V))(n:Nat)(K:V→VH→Prop):Prop:=
 match ei.ty with
 |some τ=>(match oM τ vs with
  |some xs=>Chk (τ.sz==ei.sz) (K (.ref n) [(n,.row E τ xs)])
  |none=>Chk (vs.all fun p=>m9 ei.sz p.2) (K (.ref n) [(n,.lit E (Fj vs))]))
 |none=>Chk (vs.all fun p=>m9 ei.sz p.2) (K (.ref n) [(n,.lit E (Fj vs))])
theorem yX (t:Ty)(x:t.den):Fm t.sz (ab t x)=true:=by
 have h1:=dt t x
 have hw:(ab t x).whole=true:=by
  cases t<;>first|rfl|(cases x<;>rfl)
 simp only[Fm,hw,h1.1,h1.2,beq_self_eq_true,Bool.and_self]
theorem uf {T E:TypeId}{ei:TI}{len:Nat}{vs:List (Nat×V)}{K:V→VH→Prop}(hu:P.underlying T=some (.slice E))(he:elemT P E=some (ei.sz,ei.nb))(hkeys:sE vs 0=true)(hlen:wD vs len=true)(hb:len*ei.sz≤16777216)
  (hn:∀c:Id,n≤c.1→look (toH h) c=none) (hk:p7 ei E vs n K):∃r u vu,cx P (n,0) T len ((tW vs).map fun x=>(x.1,nzE x.2))=some (V.toD r,u)∧bq h u vu∧K r vu:=by
 have hmap1:((tW vs).map fun x=>(x.1,nzE x.2)).map (·.1)=List.range' 0 len:=by
  rw[List.map_map]
  have:=sF hkeys
  rw[sJ hlen] at this
  exact this
 have hmap2:((tW vs).map fun x=>(x.1,nzE x.2)).map (·.2)=(tW vs).map fun x=>nzE x.2:=by
  rw[List.map_map];rfl
 have lit:(vs.all fun p=>m9 ei.sz p.2)=true→cx P (n,0) T len ((tW vs).map fun x=>(x.1,nzE x.2))=some ((V.ref n).toD,[((n,0),.row E (af (Fj vs)))]):=by
  intro hw
  unfold cx
  simp only[hu,he]
  rw[if_pos,hmap2,Ar]
  ·rfl
  ·refine⟨hmap1,hb,?_⟩
   rw[hmap2,List.all_eq_true]
   intro e hx
   obtain⟨p,hp,rfl⟩:=List.mem_map.1 hx
   obtain⟨q,hq,rfl⟩:=List.mem_map.1 hp
   rw[List.all_eq_true] at hw
   have:=hw q hq
   simp only[m9,Bool.and_eq_true] at this
   obtain⟨⟨w1,w2⟩,w3⟩:=this
   simp only[Fm,Bool.and_eq_true,beq_iff_eq]
   refine⟨by rw[pC,d5];exact w1,?_,Au w3⟩
   rw[l9,ar,te,eW w2]
 unfold p7 at hk
 split at hk
 ·rename_i τ hτ
  split at hk
  ·rename_i xs hx
   obtain⟨c,hk⟩:=hk.ok
   simp only[beq_iff_eq] at c
   have hd:=vZ hx
   refine⟨.ref n,[((n,0),.row E (xs.map (ab τ)))],_,?_,gQ hn rfl,hk⟩
   unfold cx
   simp only[hu,he]
   rw[if_pos,hmap2,hd]
   ·rfl
   ·refine⟨hmap1,hb,?_⟩
    rw[hmap2,hd,List.all_eq_true]
    intro e hx
    obtain⟨x,_,rfl⟩:=List.mem_map.1 hx
    rw[←c]
    exact yX τ x
  ·obtain⟨c,hk⟩:=hk.ok
   exact⟨_,_,_,lit c,gQ hn rfl,hk⟩
 ·obtain⟨c,hk⟩:=hk.ok
  exact⟨_,_,_,lit c,gQ hn rfl,hk⟩
def AY (k:TK):Bool:=match k with| .ifc| .func=>false|_=>true
theorem tG {T:TypeId}{k:TK}(h:k.ok P T)(hs:AY k=true):xn P T=true:=by
 unfold xn
 cases k with
 |struct fs=>
  have:=h.2
  unfold gG at this
  cases hu:P.underlying T with
  |none=>rw[hu] at this;simp at this
  |some d=>
   rw[hu] at this
   cases d<;>first|rfl|(simp at this)
 |ifc=>cases hs
 |func=>cases hs
 |int k=>rw[show P.underlying T=some (.int k) from h]
 |bool=>rw[show P.underlying T=some .bool from h]
 |str=>rw[show P.underlying T=some .string from h]
 |slice E=>rw[show P.underlying T=some (.slice E) from h]
 |ptr E=>rw[show P.underlying T=some (.pointer E) from h]
 |arr m E=>rw[show P.underlying T=some (.array m E) from h]
def vR (T:TypeId)(ti:TI)(ok:Bool)(v:V)(K:V→Prop):Prop:=
 Chk (AY ti.k) (match v with
  | .ifc T' e=>(match Nat.beq T' T with
   |true=>(match ok with|true=>K (.tup [e,.tt])|false=>K e)
   |false=>Chk ok (match ti.z with|some z=>K (.tup [z,.ff])|none=>False))
  | .nili=>Chk ok (match ti.z with|some z=>K (.tup [z,.ff])|none=>False)
  |_=>False)
theorem t8 {T:TypeId}{ti:TI}(ht:ti.ok P T){ok:Bool}{v:V}{K:V→Prop}(hk:vR T ti ok v K):∃r,jR P T ok v.toD=some (V.toD r)∧K r:=by
 obtain⟨c,hk⟩:=Chk.ok hk
 have hi:=tG ht.und c
 unfold jR
 rw[if_pos hi]
 split at hk
 ·rename_i T' e
  simp only[V.toD]
  split at hk
  ·rename_i hb
   rw[if_pos (Nat.eq_of_beq_eq_true hb)]
   cases ok with
   |true=>exact⟨_,by simp[V.toD,af],hk⟩
   |false=>exact⟨_,by simp,hk⟩
  ·rename_i hb
   obtain⟨c2,hk⟩:=hk.ok
   rw[if_neg (by rintro rfl;simp at hb)]
   split at hk
   ·rename_i z hz
    refine⟨_,?_,hk⟩
    rw[if_pos c2,ht.zero z hz]
    simp[V.toD,af]
   ·exact hk.elim
 ·obtain⟨c2,hk⟩:=hk.ok
  split at hk
  ·rename_i z hz
   refine⟨_,?_,hk⟩
   simp only[V.toD]
   rw[if_pos c2,ht.zero z hz]
   simp[V.toD,af]
  ·exact hk.elim
 ·exact hk.elim
theorem yr {q:Bool}(hq:q=false){T:TypeId}{H:HL}{m m':Id}{d:D}{lo hi:Option D}:dr P H q m T d lo hi=dr P H q m' T d lo hi:=by
 subst hq
 unfold dr
 simp only[Bool.false_eq_true,if_false]
end Go.Proofs.YthmfppknagbkeaaGreat.Am
namespace Go.Proofs.YthmfppknagbkeaaGreat.Am
open Go Go.RowKit
variable {P:Program} {N:Nat} {Θ:TT} {t:VT} {h:VH} {n:Nat}
def GK (τ:Ty)(z:V)(K:τ.den→Prop):Prop:=rZ τ (oM.nzL z) K
theorem Ex {τ:Ty}{z:V}{K:τ.den→Prop}(h:GK τ z K):∃x,nzE z.toD=ab τ x∧K x:=by
 obtain⟨x,h1,h2⟩:=iR h
 exact⟨x,by rw[←qT];exact h1,h2⟩
def yD (P:Program)(h:VH)(n:Nat)(f:FuncId)(vs:List V)(vp:List Nat)(K:V→VH→List Nat→Prop):Prop:=cw P h n f vs fun r vu gl=>K r vu (vp++gl)
def C2 (P:Program)(T:TypeId)(m:String)(K:FuncId→Bool→Prop):Prop:=∃f b,sR P T m=some (f,b)∧K f b
theorem FR {P:Program}{T:TypeId}{m:String}{K:FuncId→Bool→Prop}{f:FuncId}{b:Bool}(h:sR P T m=some (f,b))(k:K f b):C2 P T m K:=⟨f,b,h,k⟩
def AJ (Θ:TT)(h:VH)(T:TypeId)(b:Bool)(v:V)(K:V→Prop):Prop:=
 match b with
 |true=>K v
 |false=>aQ Θ T fun ti=>(match ti.k with
  | .ptr E=>aQ Θ E fun ei=>sK ei h v K
  |_=>False)
theorem AK {P:Program}{Θ:TT}{h:VH}(hΘ:Θ.ok P){T:TypeId}{b:Bool}{v:V}{K:V→Prop}(hk:AJ Θ h T b v K):∃r,iB P (toH h) T b v.toD=some (V.toD r)∧K r:=by
 unfold AJ at hk
 split at hk
 ·exact⟨v,by simp[iB],hk⟩
 ·obtain⟨ti,l1,hk⟩:=ap hk
  have hu:=(hΘ _ _ l1).und
  split at hk
  ·rename_i E e
   rw[e] at hu
   have hu:P.underlying T=some (.pointer E):=hu
   obtain⟨ei,l2,hk⟩:=ap hk
   obtain⟨r,h1,h2⟩:=nV (hΘ _ _ l2) hk
   exact⟨r,by simp only[iB,Bool.false_eq_true,if_false,hu,h1],h2⟩
  ·exact hk.elim
def EJ (v:V)(K:V→Prop):Prop:=
 match v with
 | .ptr b o=>K (.ptr b o)
 | .eptr b i o=>K (.eptr b i o)
 | .aptr b p i=>K (.aptr b p i)
 | .iptr t x o=>K (.iptr t x o)
 | .box t x=>K (.box t x)
 | .fptr k i o=>K (.fptr k i o)
 | .feptr k i j o=>K (.feptr k i j o)
 | .faptr k i p j=>K (.faptr k i p j)
 | .hpo k o=>jf o False fun i=>K (.fptr k i 0)
 | .obo t o=>jf o False fun x=>K (.box t x)
 |_=>False
theorem Cy {v:V}{K:V→Prop}(hk:EJ v K):∃r:V,cO v.toD=true∧r.toD=v.toD∧K r:=by
 unfold EJ at hk
 split at hk<;>try exact⟨_,rfl,rfl,hk⟩
 ·rename_i k o
  cases o with
  |none=>exact(hk.1 rfl).elim
  |some i=>exact⟨.fptr k i 0,rfl,rfl,hk.2 i rfl⟩
 ·rename_i t o
  cases o with
  |none=>exact(hk.1 rfl).elim
  |some x=>exact⟨.box t x,rfl,rfl,hk.2 x rfl⟩
 ·exact hk.elim
def u3 (n:Nat):VH→Bool
 |[]=>true
 |(x,_)::u=>Nat.blt x n && u3 n u
theorem qL:∀{u:VH},u3 n u=true→∀k∈u.map (·.1),k<n
 |[],_,k,hk=>by cases hk
 |(a,b)::u,h,k,hk=>by
  simp only[u3,Bool.and_eq_true] at h
  rcases List.mem_cons.1 hk with rfl|hk
  ·simpa[Nat.blt_eq] using h.1
  ·exact qL h.2 k hk
theorem pk {u:HL}{vu:VH}(hn:∀c:Id,n≤c.1→look (toH h) c=none)(hu:bq h u vu)(hl:u3 n vu=true):∀c:Id,n≤c.1→look (toH (puts vu h)) c=none:=by
 intro c hc
 rw[←hu.1,av _ _ _ fun x hx e=>?_]
 ·exact hn c hc
 ·have:=qL hl _ (hu.2 x hx)
  rw[e] at this
  omega
def A0 (P:Program)(Θ:TT)(op:Op)(t:VT)(h:VH)(n:Nat)(K:V→VH→List Nat→Prop):Prop:=
 match op with
 | .move x=>lX t x fun v=>K v [] []
 | .assign x=>lX t x fun v=>K v [] []
 | .load T x=>uz t h x fun v=>aQ Θ T fun ti=>sK ti h v fun r=>K r [] (bY t h [x])
 | .store T x y=>uz t h x fun d=>uz t h y fun v=>aQ Θ T fun ti=>E1 h d fun tg=>(match tg with
  |none=>ra ti h d v fun r u=>K r u (bY t h [x,y])
  |some p=>wi h (p.1.shs.drop p.2) v.cells fun h1 vu g=>uz t h1 x fun d=>uz t h1 y fun v=>w7 ti h1 d v fun r u=>K r (vu++u) (g++bY t h1 [x,y]))
 | .fieldAddr T x f=>lX t x fun v=>aQ Θ T fun ti=>(match ti.k with
  | .struct fs=>tc fs f fun g=>Chk (decide (0<g.2.2)) (Gk g v fun r=>K r [] [])
  |_=>False)
 | .indexAddr T x i=>uz t h x fun v=>lX t i fun ix=>aQ Θ T fun ti=>(match ix with
  | .int _ j=>Gs Θ ti h v j fun r=>K r [] (bY t h [x,i])
  |_=>False)
 | .binOp op T x y _=>uz t h x fun d=>uz t h y fun e=>aQ Θ T fun ti=>(match ti.k with
  | .ifc=>zR op (cd x||cd y) d e fun r=>K r [] (bY t h [x,y])
  | .struct _=>Mk (A8 P T) (EZ op d e fun r=>K r [] (bY t h [x,y]))
  | .ptr E=>(match d,e with
   | .hpo k o,.hpo k' o'=>EF P T op h k k' o o' fun r=>K r [] (bY t h [x,y])
   |d,e=>kW op (.ptr E) d e fun r=>K r [] (bY t h [x,y]))
  |_=>kW op ti.k d e fun r=>K r [] (bY t h [x,y]))
 | .unOp op _ x=>lX t x fun d=>GD op d fun r=>K r [] []
 | .call ⟨.builtin b,args,Ts⟩=>(match b with
  | .append=>sd t h args.toList fun vs=>(match vs,Ts.toList with
   |[d,e],[T,T']=>(match Nat.beq T T' with
    |false=>aQ Θ T fun ti=>aQ Θ T' fun ti'=>ni Θ ti ti' h n d e fun r u=>K r u (n::bY t h args.toList)
    |true=>aQ Θ T fun ti=>(match Gt h e with
    |none=>mt Θ ti h n d e fun r u=>K r u (n::bY t h args.toList)
    |some b=>(match ti.k with
     | .slice E=>aQ Θ E fun ei=>z8 h d ei.ty fun τ=>vD h b τ fun h1 vu g=>Chk (u3 n vu) (sd t h1 args.toList fun vs=>(match vs with
      |[d,e]=>mt Θ ti h1 n d e fun r u=>K r (vu++u) (g++n::bY t h1 args.toList)
      |_=>False))
     |_=>False)))
   |_,_=>False)
  |b=>sd t h args.toList fun vs=>kY Θ b vs Ts.toList h fun r u=>K r u (bY t h args.toList))
 | .call ⟨.value (.func f),args,_⟩=>sd t h args.toList fun vs=>yD P h n f vs (bY t h (.func f::args.toList)) K
 | .call ⟨.value (.tmp k),args,_⟩=>uz t h (.tmp k) fun c=>(match c with
  | .clo f cs=>sd t h args.toList fun vs=>yD P h n f (vs++cs) (bY t h (.tmp k::args.toList)) K
  |_=>False)
 | .call ⟨.invoke x m,args,_⟩=>uz t h x fun c=>(match c with
  | .ifc T v=>C2 P T m fun f b=>AJ Θ h T b v fun r=>sd t h args.toList fun vs=>yD P h n f (r::vs) (bY t h (x::args.toList)) K
  |_=>False)
 | .pick c x y=>lX t c fun b=>(match b with
  | .tt=>lX t x fun v=>K v [] []
  | .ff=>lX t y fun v=>K v [] []
  | .bool b=>kR b (lX t x fun v=>K v [] []) (lX t y fun v=>K v [] [])
  |_=>False)
 | .alloc T=>aQ Θ T fun ti=>(match ti.z with
  |some z=>K (.ptr n 0) [(n,.var T z.cells)] [n]
  |none=>False)
 | .box T x=>lX t x fun v=>Chk v.whole (K (.ptr n 0) [(n,.var T v.cells)] [n])
 | .build T ps=>DR t ps.toList fun vs=>aQ Θ T fun ti=>(match ti.k,ti.z with
  | .struct fs,some (.agg zs)=>ze fs zs vs fun cs=>K (.agg cs) [] []
  | .arr _ E,some (.agg zs)=>aQ Θ E fun _=>Chk vs.isEmpty (K (.agg zs) [] [])
  |_,_=>False)
 | .buildSlice T len ps=>y6 t h ps.toList fun vs=>aQ Θ T fun ti=>(match ti.k with
  | .slice E=>aQ Θ E fun ei=>Chk (ei.z.isSome && decide (0<ei.sz) && sE vs 0 && wD vs len && decide (len*ei.sz≤16777216)) (p7 ei E vs n fun r u=>K r u (n::bY t h (ps.toList.map (·.2))))
  |_=>False)
 | .nilCheck x=>lX t x fun v=>EJ v fun r=>K r [] []
 | .convert S T x=>uz t h x fun v=>aQ Θ T fun ti=>aQ Θ S fun si=>yM Θ ti si h v fun r=>K r [] (bY t h [x])
 | .makeInterface T x=>lX t x fun v=>aQ Θ T fun ti=>Chk (AY ti.k) (K (.ifc T v) [] [])
 | .makeFunc (.func f) first captured=>Chk (Nat.beq first.size 0) (DQ t captured.toList fun vs=>K (.clo f vs) [] [])
 | .typeAssert x _ T ok=>lX t x fun v=>aQ Θ T fun ti=>vR T ti ok v fun r=>K r [] []
 | .makeSlice T l c=>lX t l fun a=>lX t c fun b=>aQ Θ T fun ti=>(match ti.k,a,b with
  | .slice E,.int _ a,.int _ b=>aQ Θ E fun ei=>(match ei.z,ei.ty with
   |some z,some τ=>Chk (decide (0<ei.sz) && τ.sz==ei.sz && z.cells.all V.pure0) (GK τ z fun x=>bS (0≤a∧a=b) (bS (le ei.nb a.toNat) (K (.ref n) [(n,.row E τ (List.replicate a.toNat x))] [n])))
   |_,_=>False)
  |_,_,_=>False)
 | .slice T x lo hi none=>uz t h x fun v=>wa t lo fun l=>wa t hi fun r=>aQ Θ T fun ti=>vq Θ ti h n v l r fun q r u=>(match q with
  |true=>K r u (n::mm t h op)
  |false=>K r u (mm t h op))
 | .field T x f=>lX t x fun v=>aQ Θ T fun ti=>(match ti.k,v with
  | .struct fs,.agg cs=>tc fs f fun g=>aQ Θ g.1 fun gi=>er gi cs g.2.1 fun r=>K r [] []
  |_,_=>False)
 | .index T x i=>lX t x fun v=>lX t i fun i=>aQ Θ T fun ti=>(match ti.k,v,i with
  | .str,.str s,.int _ i=>bS (0≤i∧i<(s.size:Nat)) (K (.int .u8 ((s.data.toList.getD i.toNat 0).toNat:Nat)) [] [])
  | .arr m E,.agg cs,.int _ i=>aQ Θ E fun ei=>bS (0≤i∧i<(m:Nat)) (er ei cs (i.toNat * ei.sz) fun r=>K r [] [])
  |_,_,_=>False)
 | .extract x i=>lX t x fun v=>(match v with
  | .tup cs=>tc cs i fun r=>K r [] []
  |_=>False)
 |_=>False
def tY (P:Program)(N:Nat)(o:Oper)(t:VT)(h:VH)(K:V→VH→List Nat→Prop):Prop:=∃r vu gl,StepOK P N o t h r vu gl∧K r vu gl
theorem kG {m:Bool}{o:Oper}{r:V}{u:HL}{vu:VH}{gl:List Nat}{K:V→VH→List Nat→Prop}(hd:∀n,bW P m o.op (dK t) (toH h) n=some (r.toD,u))(hu:bq h u vu)(hg:∀k∈mm t h o.op,k∈gl)(hk:K r vu gl):tY P N o t h K:=⟨r,vu,gl,dq (Dl hd hu) hg,hk⟩
theorem EY {m:Bool}{o:Oper}{r:V}{u:HL}{vu:VH}{gl:List Nat}{K:V→VH→List Nat→Prop}(hn:∀c:Id,n≤c.1→look (toH h) c=none)(hd:bW P m o.op (dK t) (toH h) n=some (r.toD,u))(hu:bq h u vu)(hg:∀k∈n::mm t h o.op,k∈gl)(hk:K r vu gl):tY P N o t h K:=⟨r,vu,gl,dq (Dm hn hd hu) hg,hk⟩
theorem df {op:Op}{l:List Operand}(hl:iy op=true)(ho:op.operands.toList=l):∀k∈mm t h op,k∈bY t h l:=by
 intro k hk
 unfold mm at hk
 rw[hl] at hk
 rw[ho] at hk
 exact hk
theorem bH {op:Op}(hl:iy op=false)(gl:List Nat):∀k∈mm t h op,k∈gl:=by
 intro k hk
 unfold mm at hk
 rw[hl] at hk
 cases hk
end Go.Proofs.YthmfppknagbkeaaGreat.Am
namespace Go.Proofs.YthmfppknagbkeaaGreat.Am
open Go Go.RowKit
variable {P:Program} {N:Nat} {Θ:TT} {t:VT} {h:VH} {n:Nat}
set_option maxHeartbeats 1600000 in
theorem A1 (hΘ:Θ.ok P){o:Oper}(hn:∀c:Id,n≤c.1→look (toH h) c=none){K:V→VH→List Nat→Prop}(hk:A0 P Θ o.op t h n K):tY P N o t h K:=by
 obtain⟨dst,op,ty,pos,after,guard⟩:=o
 simp only at hk
 unfold A0 at hk
 split at hk
 ·obtain⟨v,h1,h2⟩:=bl hk
  exact kG (m:=false) (fun n=>by simp only[bW,h1,Option.map_some]) aC (bH rfl _) h2
 ·obtain⟨v,h1,h2⟩:=bl hk
  exact kG (m:=false) (fun n=>by simp only[bW,h1,Option.map_some]) aC (bH rfl _) h2
 ·obtain⟨v,h1,h2⟩:=du hk
  obtain⟨ti,l1,h2⟩:=ap h2
  obtain⟨r,h3,h4⟩:=nV (hΘ _ _ l1) h2
  exact kG (m:=false) (fun n=>by simp only[bW,h1,Option.bind_some,h3,Option.map_some]) aC (df rfl (by simp[Op.operands])) h4
 ·rename_i T x y
  obtain⟨d,h1,h2⟩:=du hk
  obtain⟨v,h3,h2⟩:=du h2
  obtain⟨ti,l1,h2⟩:=ap h2
  obtain⟨tg,h2⟩:=CU h2
  split at h2
  ·obtain⟨u,vu,h5,h6,h7⟩:=vt (hΘ _ _ l1) h2
   exact kG (m:=false) (fun n=>by
    simp only[bW,h1,h3,Option.bind_some,Bool.not_false,nzM,if_true,h5,Option.map_some];rfl) h6 (df rfl (by simp[Op.operands])) h7
  ·obtain⟨u1,v1,g1,p1,h2⟩:=nE (P:=P) (N:=N) h2
   obtain⟨d,h1,h2⟩:=du h2
   obtain⟨v,h3,h2⟩:=du h2
   obtain⟨u,vu,h5,h6,h7⟩:=vw (hΘ _ _ l1) h2
   refine⟨.undef,_,_,tH p1 (dq (Dl (m:=true) (fun n=>?_) h6) (df rfl (by simp[Op.operands]))),h7⟩
   simp only[bW,h1,h3,Option.bind_some,Bool.not_true,nzM,Bool.false_eq_true,if_false,h5,Option.map_some];rfl
 ·rename_i T x f
  obtain⟨v,h1,h2⟩:=bl hk
  obtain⟨ti,l1,h2⟩:=ap h2
  have hu:=(hΘ _ _ l1).und
  split at h2
  ·rename_i fs e
   rw[e] at hu
   obtain⟨g,g1,h2⟩:=gE h2
   obtain⟨c,h2⟩:=h2.ok
   simp only[decide_eq_true_eq] at c
   obtain⟨r,h3,h4⟩:=DS (P:=P) (T:=T) (i:=f) ((hu.1 f g.1 g.2.1 g.2.2 g1).2 c) h2
   exact kG (m:=false) (fun n=>by simp only[bW,h1,Option.bind_some,h3,Option.map_some]) aC (bH rfl _) h4
  ·exact h2.elim
 ·obtain⟨v,h1,h2⟩:=du hk
  obtain⟨i,h3,h4⟩:=bl h2
  obtain⟨ti,l1,h4⟩:=ap h4
  split at h4
  ·rename_i k j _
   obtain⟨r,h5,h6⟩:=D3 hΘ (hΘ _ _ l1) (k:=k) h4
   exact kG (m:=false) (fun n=>by
    have h3':aA (dK t) _=some (.int k j):=h3
    simp only[bW,h1,h3',Option.bind_some,h5,Option.map_some]) aC (df rfl (by simp[Op.operands])) h6
  ·exact h4.elim
 ·rename_i op T x y yT
  obtain⟨d,h1,h2⟩:=du hk
  obtain⟨e,h3,h4⟩:=du h2
  obtain⟨ti,l1,h4⟩:=ap h4
  have hu:=(hΘ _ _ l1).und
  have fin:∀{tk:TK},tk.ok P T→kW op tk d e (fun r=>K r [] (bY t h [x,y]))→∃r:V,(∀n,bW P false (.binOp op T x y yT) (dK t) (toH h) n=some (r.toD,[]))∧K r [] (bY t h [x,y]):=fun hu h4=>by
   obtain⟨r,h5,h6⟩:=Bu (P:=P) hu h4
   refine⟨r,fun n=>?_,h6⟩
   simp only[bW,h1,h3,Option.bind_some]
   unfold bI at h5
   split at h5
   ·rename_i r' hr
    rw[hr]
    simp only[Option.some.injEq] at h5
    rw[h5]
   ·rename_i hr
    rw[hr]
    split at h5
    ·rename_i r' hr'
     simp only[Option.some.injEq] at h5
     simp only[hr',h5]
    ·rename_i hr'
     simp only[hr',h5]
  split at h4
  ·rename_i hi
   rw[hi] at hu
   obtain⟨r,h5,h6,h7,h8,h9⟩:=BX (P:=P) hu h4
   refine kG (m:=false) (u:=[]) (fun n=>?_) aC (df rfl (by simp[Op.operands])) h9
   simp only[bW,h1,h3,Option.bind_some,h5,h6,h7,h8]
  ·obtain⟨hm,h4⟩:=h4
   obtain⟨r,h5,h6,h7,h8,h9,h10⟩:=CO (P:=P) hm h4
   refine kG (m:=false) (u:=[]) (fun n=>?_) aC (df rfl (by simp[Op.operands])) h10
   simp only[bW,h1,h3,Option.bind_some,h5,h6,h7,h8,h9]
  ·rename_i E hi
   rw[hi] at hu
   split at h4
   ·obtain⟨r,h5,h6,h7,h8,h9,h10,h11⟩:=Cr h4
    refine kG (m:=false) (u:=[]) (fun n=>?_) aC (df rfl (by simp[Op.operands])) h11
    simp only[bW,h1,h3,Option.bind_some,h5,h6,h7,h8,h9,h10,Option.map_some]
   ·obtain⟨r,h5,h6⟩:=fin hu h4
    exact kG (m:=false) (u:=[]) h5 aC (df rfl (by simp[Op.operands])) h6
  ·obtain⟨r,h5,h6⟩:=fin hu h4
   exact kG (m:=false) (u:=[]) h5 aC (df rfl (by simp[Op.operands])) h6
 ·obtain⟨d,h1,h2⟩:=bl hk
  obtain⟨r,h5,h6⟩:=E4 h2
  exact kG (m:=false) (fun n=>by simp only[bW,h1,Option.bind_some,h5,Option.map_some]) aC (bH rfl _) h6
 ·rename_i b args Ts
  split at hk
  ·obtain⟨vs,h1,h2⟩:=gw hk
   split at h2
   ·rename_i d e T T' eT
    split at h2
    ·rename_i c
     have hne:T≠T':=by rintro rfl;simp at c
     obtain⟨ti,l1,h3⟩:=ap h2
     obtain⟨ti',l1',h3⟩:=ap h3
     obtain⟨r,u,vu,h5,h6,h7⟩:=rK hΘ (hΘ _ _ l1) (hΘ _ _ l1') hn h3
     refine EY (m:=false) hn ?_ h6 (fun k hk=>?_) h7
     ·simp only[bW,h1,Option.bind_some,eT,af,cy,hne,if_false,h5]
     ·rcases List.mem_cons.1 hk with rfl|hk
      ·exact List.mem_cons_self ..
      ·refine List.mem_cons_of_mem _ (df (l:=args.toList) rfl (by simp[Op.operands,Call.operands]) k hk)
    ·rename_i c
     obtain rfl:=Nat.eq_of_beq_eq_true c
     obtain⟨ti,l1,h3⟩:=ap h2
     split at h3
     ·obtain⟨r,u,vu,h5,h6,h7⟩:=nh hΘ (hΘ _ _ l1) hn h3
      refine EY (m:=false) hn ?_ h6 (fun k hk=>?_) h7
      ·simp only[bW,h1,Option.bind_some,eT,af,cy,if_true,h5]
      ·rcases List.mem_cons.1 hk with rfl|hk
       ·exact List.mem_cons_self ..
       ·refine List.mem_cons_of_mem _ (df (l:=args.toList) rfl (by simp[Op.operands,Call.operands]) k hk)
     ·split at h3
      ·obtain⟨ei,l2,h3⟩:=ap h3
       obtain⟨τ,h3⟩:=z9 h3
       obtain⟨u1,v1,g1,p1,h3⟩:=yc (P:=P) (N:=N) h3
       obtain⟨cl,h3⟩:=h3.ok
       obtain⟨vs,h1,h3⟩:=gw h3
       split at h3
       ·rename_i d e
        have p0:=(p1 g1 fun k hk=>hk).1
        have hn':=pk hn p0 cl
        obtain⟨r,u,vu,h5,h6,h7⟩:=nh hΘ (hΘ _ _ l1) hn' h3
        refine⟨r,_,_,tH p1 (dq (Dm (m:=false) hn' ?_ h6) (fun k hk=>?_)),h7⟩
        ·simp only[bW,h1,Option.bind_some,eT,af,cy,if_true,h5]
        ·rcases List.mem_cons.1 hk with rfl|hk
         ·exact List.mem_cons_self ..
         ·refine List.mem_cons_of_mem _ (df (l:=args.toList) rfl (by simp[Op.operands,Call.operands]) k hk)
       ·exact h3.elim
      ·exact h3.elim
   ·exact h2.elim
  ·obtain⟨vs,h1,h2⟩:=gw hk
   obtain⟨r,u,vu,h5,h6,h7⟩:=p8 (m:=false) hΘ h2
   exact kG (m:=false) (fun n=>by simp only[bW,h1,Option.bind_some,h5]) h6 (df rfl (by simp[Op.operands,Call.operands])) h7
 ·rename_i f args Ts
  obtain⟨vs,h1,h2⟩:=gw hk
  obtain⟨os,fs,h2⟩:=h2
  obtain⟨r,vu,gl,h3,h4⟩:=lJ (N:=N) (o:=⟨dst,.call ⟨.value (.func f),args,Ts⟩,ty,pos,after,guard⟩) hn ⟨args,Ts,.inl ⟨rfl,h1⟩⟩ h2
  refine⟨r,vu,_,dq h3 (fun k hk=>?_),h4⟩
  simpa[Op.operands,Call.operands] using hk
 ·rename_i k args Ts
  obtain⟨c,h1,h2⟩:=du hk
  split at h2
  ·rename_i f cs
   obtain⟨vs,h3,h2⟩:=gw h2
   obtain⟨os,fs,h2⟩:=h2
   obtain⟨r,vu,gl,h3,h4⟩:=lJ (N:=N) (o:=⟨dst,.call ⟨.value (.tmp k),args,Ts⟩,ty,pos,after,guard⟩) hn ⟨args,Ts,.inr (.inl ⟨k,af cs,af vs,rfl,h1,h3,by simp[bt]⟩)⟩ h2
   refine⟨r,vu,_,dq h3 (fun k hk=>?_),h4⟩
   simpa[Op.operands,Call.operands] using hk
  ·exact h2.elim
 ·rename_i x m args Ts
  obtain⟨c,h1,h2⟩:=du hk
  split at h2
  ·rename_i T v
   obtain⟨f,b,hm,h2⟩:=h2
   obtain⟨r0,hr,h2⟩:=AK hΘ h2
   obtain⟨vs,h3,h2⟩:=gw h2
   obtain⟨os,fs,h2⟩:=h2
   obtain⟨r,vu,gl,h4,h5⟩:=lJ (N:=N) (o:=⟨dst,.call ⟨.invoke x m,args,Ts⟩,ty,pos,after,guard⟩) hn ⟨args,Ts,.inr (.inr ⟨x,m,T,v.toD,r0.toD,b,af vs,rfl,h1,hm,hr,h3,rfl⟩)⟩ h2
   refine⟨r,vu,_,dq h4 (fun k hk=>?_),h5⟩
   simpa[Op.operands,Call.operands] using hk
  ·exact h2.elim
 ·obtain⟨b,h1,h2⟩:=bl hk
  split at h2
  ·obtain⟨r,h3,h4⟩:=bl h2
   have h1':aA (dK t) _=some (.bool true):=h1
   exact kG (m:=false) (fun n=>by simp only[bW,h1',h3,Option.map_some]) aC (bH rfl _) h4
  ·obtain⟨r,h3,h4⟩:=bl h2
   have h1':aA (dK t) _=some (.bool false):=h1
   exact kG (m:=false) (fun n=>by simp only[bW,h1',h3,Option.map_some]) aC (bH rfl _) h4
  ·rename_i b
   cases b with
   |true=>
    obtain⟨r,h3,h4⟩:=bl (h2.1 rfl)
    have h1':aA (dK t) _=some (.bool true):=h1
    exact kG (m:=false) (fun n=>by simp only[bW,h1',h3,Option.map_some]) aC (bH rfl _) h4
   |false=>
    obtain⟨r,h3,h4⟩:=bl (h2.2 rfl)
    have h1':aA (dK t) _=some (.bool false):=h1
    exact kG (m:=false) (fun n=>by simp only[bW,h1',h3,Option.map_some]) aC (bH rfl _) h4
  ·exact h2.elim
 ·obtain⟨ti,l1,h2⟩:=ap hk
  split at h2
  ·rename_i z hz
   refine EY (m:=false) (u:=[((n,0),.var _ (af z.cells))]) hn ?_ (gQ hn rfl) (fun k hk=>?_) h2
   ·simp only[bW,(hΘ _ _ l1).zero z hz,Option.map_some,aK];rfl
   ·rcases List.mem_cons.1 hk with rfl|hk
    ·exact List.mem_cons_self ..
    ·exact bH rfl _ k hk
  ·exact h2.elim
 ·obtain⟨v,h1,h2⟩:=bl hk
  obtain⟨c,h3⟩:=h2.ok
  refine EY (m:=false) (u:=[((n,0),.var _ (af v.cells))]) hn ?_ (gQ hn rfl) (fun k hk=>?_) h3
  ·simp only[bW,h1,Option.bind_some,d5,c,if_true,aK];rfl
  ·rcases List.mem_cons.1 hk with rfl|hk
   ·exact List.mem_cons_self ..
   ·exact bH rfl _ k hk
 ·rename_i T ps
  obtain⟨vs,h1,h2⟩:=wc hk
  obtain⟨ti,l1,h2⟩:=ap h2
  have hu:=(hΘ _ _ l1).und
  have hz:=(hΘ _ _ l1).zero
  split at h2
  ·rename_i fs zs e ez
   rw[e] at hu
   obtain⟨cs,h3,h4⟩:=sk h2
   have hz':=hz _ ez
   simp only[V.toD] at hz'
   exact kG (m:=false) (fun n=>by simp only[bW,h1,Option.bind_some,nc,hu.2,hz',h3,Option.map_some];rfl) aC (bH rfl _) h4
  ·rename_i M E zs e ez
   rw[e] at hu
   obtain⟨ei,l2,h2⟩:=ap h2
   obtain⟨c,h4⟩:=h2.ok
   have hz':=hz _ ez
   simp only[V.toD] at hz'
   have hv:vs=[]:=List.isEmpty_iff.1 c
   subst hv
   have hpl:gG P T=some []:=by
    have hs:=(hΘ _ _ l2).size
    unfold sizeT at hs
    obtain⟨i,hi,_⟩:=Option.map_eq_some_iff.1 hs
    unfold gG
    rw[show P.underlying T=some (.array M E) from hu]
    simp only[hi,Option.map_some]
   exact kG (m:=false) (fun n=>by simp only[bW,h1,Option.bind_some,nc,hpl,hz',tW,eR,Option.map_some];rfl) aC (bH rfl _) h4
  ·exact h2.elim
 ·rename_i T len ps
  obtain⟨vs,h1,h2⟩:=r9 hk
  obtain⟨ti,l1,h2⟩:=ap h2
  have hu:=(hΘ _ _ l1).und
  split at h2
  ·rename_i E e
   rw[e] at hu
   obtain⟨ei,l2,h2⟩:=ap h2
   have hei:=hΘ _ _ l2
   obtain⟨c,h2⟩:=h2.ok
   simp only[Bool.and_eq_true,decide_eq_true_eq] at c
   obtain⟨⟨⟨⟨c1,c2⟩,c3⟩,c4⟩,c5⟩:=c
   obtain⟨r,u,vu,h5,h6,h7⟩:=uf (show P.underlying T=some (.slice E) from hu) (hei.elem c1 c2) c3 c4 c5 hn h2
   refine EY (m:=false) hn (by simp only[bW,h1,Option.bind_some,h5]) h6 (fun k hk=>?_) h7
   rcases List.mem_cons.1 hk with rfl|hk
   ·exact List.mem_cons_self ..
   ·exact List.mem_cons_of_mem _ (df rfl (by simp[Op.operands]) k hk)
  ·exact h2.elim
 ·obtain⟨v,h1,h2⟩:=bl hk
  obtain⟨r,h3,h4,h5⟩:=Cy h2
  exact kG (m:=false) (fun n=>by simp only[bW,h1,Option.bind_some,h3,if_true,h4]) aC (bH rfl _) h5
 ·obtain⟨v,h1,h2⟩:=du hk
  obtain⟨ti,l1,h2⟩:=ap h2
  obtain⟨si,l2,h2⟩:=ap h2
  obtain⟨r,h3,h4⟩:=yN hΘ (hΘ _ _ l1) (hΘ _ _ l2) h2
  exact kG (m:=false) (fun n=>by simp only[bW,h1,Option.bind_some,h3,Option.map_some]) aC (df rfl (by simp[Op.operands])) h4
 ·obtain⟨v,h1,h2⟩:=bl hk
  obtain⟨ti,l1,h2⟩:=ap h2
  obtain⟨c,h2⟩:=h2.ok
  exact kG (m:=false) (fun n=>by simp only[bW,h1,Option.bind_some,tG (hΘ _ _ l1).und c,if_true];rfl) aC (bH rfl _) h2
 ·rename_i f first captured
  obtain⟨c,h2⟩:=hk.ok
  obtain⟨vs,h1,h2⟩:=wb h2
  exact kG (m:=false) (fun n=>by simp only[bW,Nat.eq_of_beq_eq_true c,if_true,h1,Option.map_some];rfl) aC (bH rfl _) h2
 ·obtain⟨v,h1,h2⟩:=bl hk
  obtain⟨ti,l1,h2⟩:=ap h2
  obtain⟨r,h3,h4⟩:=t8 (hΘ _ _ l1) h2
  exact kG (m:=false) (fun n=>by simp only[bW,h1,Option.bind_some,h3,Option.map_some]) aC (bH rfl _) h4
 ·obtain⟨a,h1,h2⟩:=bl hk
  obtain⟨b,h3,h4⟩:=bl h2
  obtain⟨ti,l1,h4⟩:=ap h4
  have hu:=(hΘ _ _ l1).und
  split at h4
  ·rename_i E k1 a k2 b e _
   rw[e] at hu
   obtain⟨ei,l2,h4⟩:=ap h4
   have hei:=hΘ _ _ l2
   split at h4
   ·rename_i z τ hz hτ
    obtain⟨c,h4⟩:=h4.ok
    simp only[Bool.and_eq_true,beq_iff_eq,decide_eq_true_eq] at c
    obtain⟨⟨c1,c2⟩,c3⟩:=c
    obtain⟨x,hx,h5⟩:=Ex h4
    obtain⟨h6,h7,h8⟩:=h5
    refine EY (m:=false) (u:=[((n,0),.row E ((List.replicate a.toNat x).map (ab τ)))]) hn ?_ (gQ hn rfl) (fun k hk=>?_) h8
    ·have h1':aA (dK t) _=some (.int k1 a):=h1
     have h3':aA (dK t) _=some (.int k2 b):=h3
     simp only[bW,h1',h3',Option.bind_some,vM,show P.underlying _=some (.slice E) from hu,hei.elem (by rw[hz];rfl) c1,hei.zero z hz]
     rw[if_pos]
     ·simp only[nzM,Bool.false_eq_true,if_false,hx,List.map_replicate];rfl
     ·refine⟨h6.1,h6.2,h7,?_⟩
      simp only[Gc,Bool.and_eq_true,beq_iff_eq]
      refine⟨?_,by rw[aK];exact iO _ c3⟩
      have h9:=congrArg (fun d:D=>d.cells.length) hx
      simp only[dX,List.length_map,(dt τ x).1] at h9
      omega
    ·rcases List.mem_cons.1 hk with rfl|hk
     ·exact List.mem_cons_self ..
     ·exact bH rfl _ k hk
   ·exact h4.elim
  ·exact h4.elim
 ·rename_i T x lo hi
  obtain⟨v,h1,h2⟩:=du hk
  obtain⟨lo',h3,h4⟩:=se h2
  obtain⟨hi',h5,h6⟩:=se h4
  obtain⟨ti,l1,h6⟩:=ap h6
  obtain⟨q,r,u,vu,h7,h8,h9⟩:=x6 hΘ (hΘ _ _ l1) hn h6
  cases q with
  |true=>
   exact EY (m:=true) hn (by simp only[bW,h1,h3,h5,Option.bind_some,h7]) h8 (fun k hk=>hk) h9
  |false=>
   exact kG (m:=false) (fun n'=>by
    simp only[bW,h1,h3,h5,Option.bind_some]
    rw[yr rfl (m':=(n,0))]
    exact h7) h8 (fun k hk=>hk) h9
 ·rename_i T x f
  obtain⟨v,h1,h2⟩:=bl hk
  obtain⟨ti,l1,h2⟩:=ap h2
  have hu:=(hΘ _ _ l1).und
  split at h2
  ·rename_i fs cs e _
   rw[e] at hu
   obtain⟨g,g1,h2⟩:=gE h2
   obtain⟨gi,l2,h2⟩:=ap h2
   obtain⟨r,h3,h4⟩:=br (hΘ _ _ l2) h2
   exact kG (m:=false) (fun n=>by
    have h1':aA (dK t) _=some (.agg (af cs)):=h1
    simp only[bW,h1',Option.bind_some,vN,(hu.1 f g.1 g.2.1 g.2.2 g1).1,h3,Option.map_some]) aC (bH rfl _) h4
  ·exact h2.elim
 ·obtain⟨v,h1,h2⟩:=bl hk
  obtain⟨i,h3,h4⟩:=bl h2
  obtain⟨ti,l1,h4⟩:=ap h4
  have hu:=(hΘ _ _ l1).und
  split at h4
  ·rename_i s k i e _
   rw[e] at hu
   refine kG (m:=false) (u:=[]) (fun n=>?_) aC (bH rfl _) h4.2
   have h1':aA (dK t) _=some (.str s):=h1
   have h3':aA (dK t) _=some (.int k i):=h3
   simp only[bW,h1',h3',Option.bind_some,nd,show P.underlying _=some .string from hu]
   rw[if_pos h4.1]
   rfl
  ·rename_i m E cs k i e _
   rw[e] at hu
   obtain⟨ei,l2,h4⟩:=ap h4
   obtain⟨r,h5,h6⟩:=br (hΘ _ _ l2) h4.2
   refine kG (m:=false) (u:=[]) (fun n=>?_) aC (bH rfl _) h6
   have h1':aA (dK t) _=some (.agg (af cs)):=h1
   have h3':aA (dK t) _=some (.int k i):=h3
   simp only[bW,h1',h3',Option.bind_some,nd,show P.underlying _=some (.array m E) from hu,(hΘ _ _ l2).size]
   rw[if_pos h4.1,h5]
   rfl
  ·exact h4.elim
 ·obtain⟨v,h1,h2⟩:=bl hk
  split at h2
  ·rename_i cs
   obtain⟨r,h3,h4⟩:=gE h2
   exact kG (m:=false) (fun n=>by
    have h1':aA (dK t) _=some (.tup (af cs)):=h1
    simp only[bW,h1',Option.bind_some,jS,bt,List.getElem?_map,h3,Option.map_some]) aC (bH rfl _) h4
  ·exact h2.elim
 ·exact hk.elim

end Go.Proofs.YthmfppknagbkeaaGreat.Am
