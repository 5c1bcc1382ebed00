/- The plain machine: a row into which an element is put, by the shelf's contract of slices.Insert. Runs: a member is searched and put among the voters (by the shelf's contracts of slices.BinarySearch and slices.Insert). Runs while events are applied: what is asked of a run, what is added. Runs while events are applied: plain laws. Runs while events are applied: what a member proposes. Runs while events are applied: votes, deliveries, what the faulty member does. Runs while events are applied: deliveries, what the faulty member does. The lock of a run, under the numbers of this program. The plain -/
import Derived.Shelf.Spec.SlicesInsertGrow
import Derived.Shelf.Slices.SearchI
import Derived.Shelf.Slices.Empties
import Derived.Conc.MuLone
import Derived.Defers
import Derived.Test.YthmfppknagbkeaaGreatDoorA47
set_option linter.unusedSimpArgs false
set_option linter.unusedVariables false
set_option maxHeartbeats 1000000
namespace Go.Proofs.YthmfppknagbkeaaGreatDoor.Am
open Go Go.Shelf Go.RowKit
variable {P:Program} {w0:World} {S:SD} {A:Nat→Prop} {N:Nat} {ρ:Id→Pl} {t:List (Nat×D)} {h:HL} {a:Act} {w:World}
theorem Sim.rowAt (s:Sim P w0 S A N ρ t h a w){b n:Id}{E:TypeId}{xs zs:List D}{w':World}{p:Pl}{c':Array Value}(hb:look h b=some (.row E xs))(hn:look h n=none)
  (hfr:Fr (fun k=>k=(ρ b).blk) w w') (hp:p.blk=(ρ b).blk∨w.heap.size≤p.blk) (hpw:p.blk<w'.heap.size) (hc:w'.heap[p.blk]?=some (.cells c' E (0,0))) (hcs:c'.size=p.cap*p.sz) (hl:zs.length=p.len) (hle:p.len≤p.cap)
  (hmax:p.cap≤maxLen) (hpos:0<p.sz) (hsT:(P.info? E).map (·.size)=some p.sz) (hwf:∀e∈zs,wfC p.sz e) (hv:∀i j,i<zs.length→j<p.sz→∀ok W,Rep ok W ((zs.getD i .undef).cells.getD j .undef) (c'.getD (i*p.sz+j) undef)):
  Ext h ρ (d6 ρ n p)∧Sim P w0 S A N (d6 ρ n p) t (puts [(b,.gone),(n,.row E zs)] h) a w':=by
 refine⟨Ext.at hn _,?_⟩
 have hpu:puts [(b,Blk.gone),(n,.row E zs)] h=put n (.row E zs) (put b .gone h):=rfl
 rw[hpu]
 have hbn:b≠n:=by rintro rfl;rw[hn] at hb;cases hb
 have hown:=s.own b _ hb rfl
 have key:∀b' y,look (put n (.row E zs) (put b .gone h)) b'=some y→y.live=true→b'≠n→look h b'=some y∧b'≠b:=by
  intro b' y hy hl hne
  rw[ai,if_neg hne,ai] at hy
  by_cases e:b'=b
  ·simp only[e,if_true,Option.some.injEq] at hy
   subst hy
   simp[Blk.live] at hl
  ·simp only[e,if_false] at hy
   exact⟨hy,e⟩
 have hlv:∀b',Live h b'→Live (put n (.row E zs) (put b .gone h)) b'∧d6 ρ n p b'=ρ b':=fun b' hb'=>⟨hb'.put.put,aK ρ _ (hb'.ne hn)⟩
 have hok:∀k,okOf A ρ h w k→okOf A (d6 ρ n p) (put n (.row E zs) (put b .gone h)) w' k∧w'.heap[k]?=w.heap[k]?:=by
  rintro k ⟨hk,hm'⟩
  have hkb:=hm' b _ hb rfl
  refine⟨⟨⟨Nat.lt_of_lt_of_le hk.1 hfr.size,hk.2⟩,fun b' y hy hmu=>?_⟩,hfr.block k hk.1 (Ne.symm hkb)⟩
  by_cases e:b'=n
  ·subst e
   rw[av]
   rcases hp with hp|hp
   ·rw[hp];exact hkb
   ·have:=hk.1;omega
  ·rw[aK ρ _ e]
   exact hm' b' y (key b' y hy (bg hmu) e).1 hmu
 have hpS:S p.blk∨w0.heap.size≤p.blk:=by
  rcases hp with hp|hp
  ·rw[hp];exact hown.2
  ·exact .inr (Nat.le_trans s.fr.size hp)
 refine s.step (s.fr.andThen hfr fun k _ hk=>by subst hk;exact hown.2) hlv hok (fun b' y hy=>?_) hfr.size (fun b1 b2 y1 y2 hy1 hy2 hl1 hl2 he=>?_)
 ·by_cases e:b'=n
  ·subst e
   rw[ai] at hy
   simp only[if_true,Option.some.injEq] at hy
   subst hy
   refine .inr ⟨?_,fun _=>by rw[av];exact⟨hpw,hpS⟩⟩
   simp only[BlkOK,av]
   exact⟨c',hc,hcs,hl,hle,hmax,hpos,hsT,hwf,fun i j hi hj=>.pure (hv i j hi hj _ _)⟩
  ·by_cases hl:y.live=true
   ·obtain⟨q1,q2⟩:=key b' y hy hl e
    exact .inl ⟨q1,fun hmu=>hfr.block _ (s.own b' y q1 hl).1 fun he=>q2 (s.inj b' b y _ q1 hb hl rfl he)⟩
   ·by_cases e3:b'=b
    ·rw[ai,if_neg e,ai,if_pos e3] at hy
     obtain rfl:=Option.some.inj hy
     exact .inr ⟨trivial,fun h=>absurd h hl⟩
    ·rw[ai,if_neg e,ai,if_neg e3] at hy
     exact .inl ⟨hy,fun hmu=>absurd (bg hmu) hl⟩
 ·have oth:∀b' y,look h b'=some y→y.live=true→b'≠b→(ρ b').blk≠p.blk:=by
   intro b' y hy hl hne he
   rcases hp with hp|hp
   ·exact hne (s.inj b' b y _ hy hb hl rfl (he.trans hp))
   ·have:=(s.own b' y hy hl).1;omega
  by_cases e1:b1=n<;>by_cases e2:b2=n
  ·rw[e1,e2]
  ·subst e1
   obtain⟨q1,q2⟩:=key b2 y2 hy2 hl2 e2
   rw[av,aK ρ _ e2] at he
   exact absurd he.symm (oth b2 y2 q1 hl2 q2)
  ·subst e2
   obtain⟨q1,q2⟩:=key b1 y1 hy1 hl1 e1
   rw[av,aK ρ _ e1] at he
   exact absurd he (oth b1 y1 q1 hl1 q2)
  ·rw[aK ρ _ e1,aK ρ _ e2] at he
   exact s.inj b1 b2 y1 y2 (key b1 y1 hy1 hl1 e1).1 (key b2 y2 hy2 hl2 e2).1 hl1 hl2 he
theorem ch (g:Nat):∀(vs:List Value) (o:Nat) (w:World),∃hp:Array Obj,w.setCells g o vs={w with heap:=hp}∧hp.size=w.heap.size∧(∀k,k≠g→hp[k]?=w.heap[k]?)∧∀c E fr,w.heap[g]?=some (.cells c E fr)→∃c':Array Value,hp[g]?=some (.cells c' E fr)∧c'.size=c.size
 |[],o,w=>⟨w.heap,rfl,rfl,fun _ _=>rfl,fun c E fr h=>⟨c,h,rfl⟩⟩
 |v::r,o,w=>by
  obtain⟨hp,e1,e2,e3,e4⟩:=ch g r (o+1) (w.setCell ⟨g,o,none⟩ v)
  refine⟨hp,by rw[World.setCells,e1];rfl,by rw[e2];simp[World.setCell],fun k hk=>?_,fun c E fr hc=>?_⟩
  ·rw[e3 k hk]
   simp[World.setCell,Array.getElem?_modify,Ne.symm hk]
  ·have hlt:=(Array.getElem?_eq_some_iff.1 hc).1
   obtain⟨c',h1,h2⟩:=e4 (c.setIfInBounds o v) E fr (by
    simp only[World.setCell]
    rw[Array.getElem?_modify,if_pos rfl,hc]
    rfl)
   exact⟨c',h1,by rw[h2];simp⟩
theorem dk {w:World}{g j:Nat}{c:Array Value}{E:TypeId}{fr:Nat×Nat}(h:w.heap[g]?=some (.cells c E fr)):w.cell? ⟨g,j,none⟩=c[j]?:=by simp[World.cell?,h]
theorem rA {w:World}{g j:Nat}{c:Array Value}{E:TypeId}(h:w.heap[g]?=some (.cells c E (0,0))):w.frozen? ⟨g,j,none⟩=false:=by simp[World.frozen?,h]
theorem uC {w:World}{g:Nat}{c:Array Value}{E:TypeId}{fr:Nat×Nat}(h:w.heap[g]?=some (.cells c E fr)):w.shape? g=some (E,c.size):=by simp[World.shape?,h]
def cu (xs:List Int)(i:Nat)(m:Int):List Int:=xs.take i++[m]++xs.drop i
theorem ip {xs:List Int}{i:Nat}(m:Int)(h:i≤xs.length):(cu xs i m).length=xs.length+1:=by
 simp only[cu,List.length_append,List.length_take,List.length_singleton,List.length_drop];omega
theorem mK {xs:List Int}{i j:Nat}(m:Int)(h:i≤xs.length):(cu xs i m)[j]?=if j<i then xs[j]? else if j=i then some m else xs[j-1]?:=by
 have h1:(xs.take i).length=i:=by rw[List.length_take];omega
 unfold cu
 rw[List.append_assoc]
 by_cases c1:j<i
 ·rw[if_pos c1,List.getElem?_append_left (by omega),List.getElem?_take,if_pos c1]
 ·rw[if_neg c1,List.getElem?_append_right (by omega),h1]
  by_cases c2:j=i
  ·subst c2
   simp
  ·rw[if_neg c2,List.getElem?_append_right (by simp;omega),List.getElem?_drop]
   congr 1
   simp
   omega
set_option maxHeartbeats 1000000 in
theorem zN {ρ0 : Go.Shelf.Ren} (L : Lays2.n21 P ρ0) {f : FuncId} (hf : ρ0.f 21 = f) (hfn : ∃ fn, P.funcs[f]? = some fn ∧ fn.body.isNone = false ∧ (fn.name == "runtime.NumGoroutine") = false) {h : HL} {b c n : Id} {xs : List Int} {m : Int} {place : Nat} {E E2 : TypeId} (hE : ρ0.t 3 = E)
  (hb:look h b=some (.row E (xs.map (.int .i64)))) (hc:look h c=some (.row E2 [.int .i64 m])) (hbc:b≠c) (hn:look h n=none) (hpl:place≤xs.length) (hlen:xs.length≤1000000):
  Con P f [.ref b,.int .i64 place,.ref c] h (.ref n) (puts [(b,.gone),(n,.row E ((cu xs place m).map (.int .i64)))] h):=by
 subst hf hE
 refine⟨hfn,fun w A ρ vs s hl hcv=>?_⟩
 obtain⟨v0,v1,v2,rfl⟩:∃v0 v1 v2,vs= #[v0,v1,v2]:=by
  have h3:vs.size=3:=hl.symm
  refine⟨vs[0],vs[1],vs[2],Array.ext (by simp[h3]) fun i h1 h2=>?_⟩
  match i,h2 with
  |0,_=>rfl
  |1,_=>rfl
  |2,_=>rfl
 obtain⟨-,e0⟩:=(hcv 0 (by simp)).ref_inv
 have e1:=(hcv 1 (by simp)).int_inv
 obtain⟨-,e2⟩:=(hcv 2 (by simp)).ref_inv
 have e0:v0= .slice (some ⟨(ρ b).blk,0,none⟩) (ρ b).len (ρ b).cap:=e0
 have e1:v1= .int .i64 place:=e1
 have e2:v2= .slice (some ⟨(ρ c).blk,0,none⟩) (ρ c).len (ρ c).cap:=e2
 subst e0 e1 e2
 obtain⟨cb,g1,g2,g3,g4,g5,g6,g7,g8,g9⟩:=s.blk b _ hb
 obtain⟨cc,k1,k2,k3,k4,k5,k6,k7,k8,k9⟩:=s.blk c _ hc
 have hne:(ρ b).blk≠(ρ c).blk:=fun he=>hbc (s.inj b c _ _ hb hc rfl rfl he)
 have hsz:(ρ b).sz=1:=by
  have:=L.i3
  cases hi:P.info? (ρ0.t 3) with
  |none=>rw[hi] at this;cases this
  |some i=>
   rw[hi] at this g7
   simp only[Option.map_some,Option.some.injEq,Prod.mk.injEq] at this g7
   omega
 have hsE:(P.info? (ρ0.t 3)).map (·.size)=some 1:=by rw[g7,hsz]
 have hcl:(ρ c).len=1:=by simpa using k3.symm
 rw[hsz,Nat.mul_one] at g2
 simp only[List.length_map] at g3
 have hmax:(ρ b).cap≤9223372036854775807:=by have:=g5;unfold maxLen at this;omega
 have hsc:(ρ c).sz=1:=by
  have:=(k8 (D.int .i64 m) (by simp)).1
  exact this.symm
 have hcell:∀(j:Nat) (x:Int),xs[j]?=some x→cb[j]?=some (Value.int .i64 x):=fun j x hx=>by
  have hj:=(List.getElem?_eq_some_iff.1 hx).1
  have h1:=g9 j 0 (by simpa using hj) (by omega)
  rw[hsz,Nat.mul_one,Nat.add_zero] at h1
  have h2:((xs.map (D.int .i64)).getD j .undef).cells.getD 0 .undef= .int .i64 x:=by
   simp only[List.getD_eq_getElem?_getD,List.getElem?_map,hx,Option.map_some,Option.getD_some]
   rfl
  rw[h2] at h1
  have h3:=h1.int_inv
  have hjc:j<cb.size:=by omega
  rw[Array.getD_eq_getD_getElem?,Array.getElem?_eq_getElem hjc,Option.getD_some] at h3
  rw[Array.getElem?_eq_getElem hjc,h3]
 have hccell:cc[0]?=some (Value.int .i64 m):=by
  have h1:=k9 0 0 (by simp) (by omega)
  have h3:=h1.int_inv
  have hjc:0<cc.size:=by rw[k2,hsc];omega
  rw[Nat.zero_mul,Nat.zero_add,Array.getD_eq_getD_getElem?,Array.getElem?_eq_getElem hjc,Option.getD_some] at h3
  rw[Array.getElem?_eq_getElem hjc,h3]
 have hcs:∀j v,(xs.map (Value.int .i64))[j]?=some v→w.cell? ⟨(ρ b).blk,0+j,none⟩=some v:=fun j v hv=>by
  rw[List.getElem?_map] at hv
  obtain⟨x,hx,rfl⟩:=Option.map_eq_some_iff.1 hv
  rw[Nat.zero_add,dk g1]
  exact hcell j x hx
 have hvs:∀j v,[Value.int .i64 m][j]?=some v→w.cell? ⟨(ρ c).blk,0+j,none⟩=some v:=fun j v hv=>by
  cases j with
  |zero=>
   simp only[List.getElem?_cons_zero,Option.some.injEq] at hv
   subst hv
   rw[dk k1]
   exact hccell
  |succ j=>simp at hv
 have h1c:∀v∈xs.map (Value.int .i64),v.oneCell'=true:=fun v hv=>by
  obtain⟨x,-,rfl⟩:=List.mem_map.1 hv
  rfl
 have h1v:∀v∈[Value.int .i64 m],v.oneCell'=true:=fun v hv=>by
  rw[List.mem_singleton.1 hv]
  rfl
 have hwf:∀e∈(cu xs place m).map (D.int .i64),wfC 1 e:=fun e he=>by
  obtain⟨x,-,rfl⟩:=List.mem_map.1 he
  exact⟨rfl,rfl⟩
 have hzl:((cu xs place m).map (D.int .i64)).length=xs.length+1:=by rw[List.length_map,ip m hpl]
 have fin:∀(w':World) (p:Pl) (c':Array Value),Fr (fun k=>k=(ρ b).blk) w w'→(p.blk=(ρ b).blk∨w.heap.size≤p.blk)→p.blk<w'.heap.size→w'.heap[p.blk]?=some (.cells c' (ρ0.t 3) (0,0))→c'.size=p.cap→p.len=xs.length+1→p.len≤p.cap→p.cap≤maxLen→p.sz=1→
   (∀(j:Nat) (x:Int),(cu xs place m)[j]?=some x→c'[j]?=some (Value.int .i64 x))→∃u ρ',Ending.returned (.slice (some ⟨p.blk,0,none⟩) p.len p.cap)= .returned u∧(∀b',Live h b'→ρ' b'=ρ b'∧Live (puts [(b,.gone),(n,.row (ρ0.t 3) ((cu xs place m).map (.int .i64)))] h) b')∧
    Sim P w (sQ ρ h) A 0 ρ' [] (puts [(b,.gone),(n,.row (ρ0.t 3) ((cu xs place m).map (.int .i64)))] h) fI w'∧C ρ' (Live (puts [(b,.gone),(n,.row (ρ0.t 3) ((cu xs place m).map (.int .i64)))] h)) (okOf A ρ' (puts [(b,.gone),(n,.row (ρ0.t 3) ((cu xs place m).map (.int .i64)))] h) w') w' (.ref n) u:=by
  intro w' p c' f1 f2 f3 f4 f5 f6 f7 f8 f9 f10
  obtain⟨q1,q2⟩:=s.rowAt (zs:=(cu xs place m).map (D.int .i64)) hb hn f1 f2 f3 f4 (by rw[f9,Nat.mul_one];exact f5) (by rw[hzl,f6]) f7 f8 (by omega) (by rw[f9];exact hsE) (by rw[f9];exact hwf) (fun i j hi hj ok W=>by
   rw[f9] at hj⊢
   obtain rfl:j=0:=by omega
   rw[List.length_map] at hi
   have hx:(cu xs place m)[i]?=some ((cu xs place m)[i]):=List.getElem?_eq_getElem hi
   have h2:(((cu xs place m).map (D.int .i64)).getD i .undef).cells.getD 0 .undef= .int .i64 ((cu xs place m)[i]):=by
    simp only[List.getD_eq_getElem?_getD,List.getElem?_map,hx,Option.map_some,Option.getD_some]
    rfl
   rw[h2,Nat.mul_one,Nat.add_zero,Array.getD_eq_getD_getElem?,f10 i _ hx,Option.getD_some]
   exact .int _ _)
  refine⟨_,d6 ρ n p,rfl,fun b' hb'=>⟨q1 b' hb',hb'.put.put⟩,q2,?_⟩
  have hL:Live (puts [(b,Blk.gone),(n,.row (ρ0.t 3) ((cu xs place m).map (.int .i64)))] h) n:=by
   show Live (put n _ (put b _ h)) n
   unfold Live;rw[ai];simp
  have:=C.ref (ρ:=d6 ρ n p) (L:=Live (puts [(b,Blk.gone),(n,.row (ρ0.t 3) ((cu xs place m).map (.int .i64)))] h)) (ok:=okOf A (d6 ρ n p) (puts [(b,Blk.gone),(n,.row (ρ0.t 3) ((cu xs place m).map (.int .i64)))] h) w') (w:=w') n hL
  simpa only[av] using this
 have hcapb:(ρ b).blk<w.heap.size:=(s.own b _ hb rfl).1
 rw[←g3,hcl]
 by_cases hroom:xs.length+1≤(ρ b).cap
 ·by_cases hpe:place<xs.length
  ·-- shifted
   refine(Any2.slices_Insert_int_shift L (ρ b).blk 0 xs.length (ρ b).cap place (ρ c).blk 0 1 (ρ c).cap (xs.map (Value.int .i64)) [Value.int .i64 m] w hpe (by omega) hroom (by omega) (Ne.symm hne) (by simp) rfl hcs (fun j hj=>?_) (fun j _=>rA g1) hvs h1c h1v E2 (ρ0.t 3) cc.size cb.size (uC k1) (uC g1) (by omega) (rA k1) (rA k1)).mono ?_
   ·rw[Nat.zero_add,dk g1,Array.getElem?_eq_getElem (by omega)];rfl
   ·rintro e w' ⟨rfl,rfl⟩
    have hb0:∀j,j<cb.size→(w.drew.cell? ⟨(ρ b).blk,j,none⟩)=some cb[j]!:=fun j hj=>by
     have:w.drew.cell? ⟨(ρ b).blk,j,none⟩=w.cell? ⟨(ρ b).blk,j,none⟩:=rfl
     rw[this,dk g1,getElem!_pos cb j hj,Array.getElem?_eq_getElem hj]
    obtain⟨hp1,a1,a2,a3,a4⟩:=ch (ρ b).blk ((xs.map (Value.int .i64)).drop place) (0+(place+1)) w.drew
    obtain⟨c1,a5,a6⟩:=a4 cb _ _ g1
    obtain⟨hp2,b1,b2,b3,b4⟩:=ch (ρ b).blk [Value.int .i64 m] (0+place) (w.drew.setCells (ρ b).blk (0+(place+1)) ((xs.map (Value.int .i64)).drop place))
    obtain⟨c2,b5,b6⟩:=b4 c1 _ _ (by rw[a1];exact a5)
    have hdl:((xs.map (Value.int .i64)).drop place).length=xs.length-place:=by simp
    refine fin _ ⟨(ρ b).blk,(ρ b).cap,1,xs.length+1⟩ c2 ?_ (.inl rfl) ?_ (by rw[b1];exact b5) (by show c2.size=(ρ b).cap;rw[b6,a6,g2]) rfl hroom g5 rfl (fun j x hx=>?_)
    ·rw[b1,a1]
     exact⟨rfl,rfl,rfl,by show w.heap.size≤hp2.size;rw[b2,a1];show w.heap.size≤hp1.size;rw[a2];exact Nat.le_refl _,fun k hk hne2=>by
      show hp2[k]?=_
      rw[b3 k hne2,a1]
      show hp1[k]?=_
      rw[a3 k hne2];rfl⟩
    ·rw[b1];show _<hp2.size;rw[b2,a1];show _<hp1.size;rw[a2];exact hcapb
    ·have hj:j<xs.length+1:=by have:=(List.getElem?_eq_some_iff.1 hx).1;rw[ip m hpl] at this;exact this
     have e:c2[j]?=((w.drew.setCells (ρ b).blk (0+(place+1)) ((xs.map (Value.int .i64)).drop place)).setCells (ρ b).blk (0+place) [Value.int .i64 m]).cell? ⟨(ρ b).blk,j,none⟩:=by
      rw[b1];exact(dk (w:={(w.drew.setCells (ρ b).blk (0+(place+1)) ((xs.map (Value.int .i64)).drop place)) with heap:=hp2}) b5).symm
     rw[e]
     rw[mK m hpl] at hx
     by_cases q1:j=place
     ·subst q1
      rw[if_neg (by omega),if_pos rfl] at hx
      obtain rfl:=Option.some.inj hx
      have:=World.cell?_setCells_in (ρ b).blk [Value.int .i64 m] (0+j) (w.drew.setCells (ρ b).blk (0+(j+1)) ((xs.map (Value.int .i64)).drop j)) (fun i hi=>by
       have hi0:i=0:=by simpa using hi
       subst hi0
       refine isSome_setCells _ _ _ _ (fun q hq=>?_) _ ?_
       ·rw[hb0 _ (by rw[hdl] at hq;omega)];rfl
       ·rw[hb0 _ (by omega)];rfl) 0 (by simp)
      rw[show 0+j+0=j by omega] at this
      exact this
     ·rw[World.cell?_setCells_out _ _ _ _ _ (fun _ _=>by simp;omega)]
      by_cases q2:j<place
      ·rw[if_pos q2] at hx
       rw[World.cell?_setCells_out _ _ _ _ _ (fun _ _=>by simp;omega),show w.drew.cell? ⟨(ρ b).blk,j,none⟩=w.cell? ⟨(ρ b).blk,j,none⟩ from rfl,dk g1]
       exact hcell j x hx
      ·rw[if_neg q2,if_neg q1] at hx
       have:=World.cell?_setCells_in (ρ b).blk ((xs.map (Value.int .i64)).drop place) (0+(place+1)) w.drew (fun i hi=>by
        rw[hb0 _ (by rw[hdl] at hi;omega)];rfl) (j-(place+1)) (by rw[hdl];omega)
       rw[show 0+(place+1)+(j-(place+1))=j by omega] at this
       rw[this]
       have h5:xs[j-1]'(by omega)=x:=by rw[List.getElem?_eq_getElem (by omega)] at hx;exact Option.some.inj hx
       congr 1
       rw[List.getElem_drop,List.getElem_map]
       congr 1
       rw[←h5]
       congr 1
       omega
  ·-- at the end,in place
   obtain rfl:place=xs.length:=by omega
   refine(Any2.slices_Insert_int_end_room L (ρ b).blk 0 xs.length (ρ b).cap (ρ c).blk 0 1 (ρ c).cap [Value.int .i64 m] w (by omega) hroom (by omega) rfl (fun j hj=>?_) (fun j _=>rA g1) hvs h1v).mono ?_
   ·rw[dk g1,Array.getElem?_eq_getElem (by omega)];rfl
   ·rintro e w' ⟨rfl,rfl⟩
    obtain⟨hp1,a1,a2,a3,a4⟩:=ch (ρ b).blk [Value.int .i64 m] (0+xs.length) w
    obtain⟨c1,a5,a6⟩:=a4 cb _ _ g1
    refine fin _ ⟨(ρ b).blk,(ρ b).cap,1,xs.length+1⟩ c1 ?_ (.inl rfl) ?_ (by rw[a1];exact a5) (by show c1.size=(ρ b).cap;rw[a6,g2]) rfl hroom g5 rfl (fun j x hx=>?_)
    ·rw[a1]
     exact⟨rfl,rfl,rfl,by show w.heap.size≤hp1.size;rw[a2];exact Nat.le_refl _,fun k hk hne2=>a3 k hne2⟩
    ·rw[a1];show _<hp1.size;rw[a2];exact hcapb
    ·have hj:j<xs.length+1:=by have:=(List.getElem?_eq_some_iff.1 hx).1;rw[ip m hpl] at this;exact this
     have e:c1[j]?=(w.setCells (ρ b).blk (0+xs.length) [Value.int .i64 m]).cell? ⟨(ρ b).blk,j,none⟩:=by
      rw[a1];exact(dk (w:={w with heap:=hp1}) a5).symm
     rw[e]
     rw[mK m hpl] at hx
     by_cases q1:j=xs.length
     ·subst q1
      rw[if_neg (by omega),if_pos rfl] at hx
      obtain rfl:=Option.some.inj hx
      have:=World.cell?_setCells_in (ρ b).blk [Value.int .i64 m] (0+xs.length) w (fun i hi=>by
       have hi0:i=0:=by simpa using hi
       subst hi0
       rw[dk g1,Array.getElem?_eq_getElem (by omega)];rfl) 0 (by simp)
      rw[show 0+xs.length+0=xs.length by omega] at this
      exact this
     ·rw[if_pos (by omega)] at hx
      rw[World.cell?_setCells_out _ _ _ _ _ (fun _ _=>by simp;omega),dk g1]
      exact hcell j x hx
 ·by_cases hpe:place<xs.length
  ·refine(Any2.slices_Insert_int_grow L (ρ b).blk 0 xs.length (ρ b).cap place (ρ c).blk 0 1 (ρ c).cap (xs.map (Value.int .i64)) [Value.int .i64 m] w hpe (by omega) (by omega) (by omega) (by omega) (by simp) rfl hcs hvs h1c h1v).mono ?_
   rintro e w' ⟨rfl,rfl⟩
   have hG:=grownCap_ge w (xs.length+1) (ρ b).cap (ρ0.t 3)
   have hGm:grownCap w (xs.length+1) (ρ b).cap (ρ0.t 3)≤maxLen:=grownCap_le_maxLen w _ _ _ (by unfold maxLen;omega)
   generalize grownCap w (xs.length+1) (ρ b).cap (ρ0.t 3)=G at *
   obtain⟨ROW,hROW⟩:∃ROW:Array Value,ROW=((xs.map (Value.int .i64)).take place).toArray++Builtin.zeroCells (Value.int .i64 0).cells (xs.length+1-place)++Builtin.zeroCells (Value.int .i64 0).cells (G-(xs.length+1)):=⟨_,rfl⟩
   rw[←hROW]
   have hRs:ROW.size=G:=by
    rw[hROW]
    simp[Builtin.zeroCells,Value.cells]
    omega
   have hRg:∀j,j<place→ROW[j]?=(xs[j]?).map (Value.int .i64):=fun j hj=>by
    have h1:j<((xs.map (Value.int .i64)).take place).toArray.size:=by simp;omega
    rw[hROW,Array.append_assoc,Array.getElem?_append_left h1]
    simp[List.getElem?_take,hj]
   obtain⟨W0,hW0⟩:∃W0,W0=(w.alloc (.cells ROW (ρ0.t 3))).drew:=⟨_,rfl⟩
   rw[←hW0]
   have zh:W0.heap=w.heap.push (.cells ROW (ρ0.t 3)):=by rw[hW0];rfl
   have z0:W0.heap[w.heap.size]?=some (.cells ROW (ρ0.t 3) (0,0)):=by rw[zh];simp
   have zs:W0.heap.size=w.heap.size+1:=by rw[zh];simp
   have zo:∀k,k<w.heap.size→W0.heap[k]?=w.heap[k]?:=fun k hk=>by rw[zh,Array.getElem?_push,if_neg (by omega)]
   have z1:W0.os=w.os∧W0.tape=w.tape∧W0.output=w.output:=by rw[hW0];exact⟨rfl,rfl,rfl⟩
   obtain⟨hp1,a1,a2,a3,a4⟩:=ch w.heap.size [Value.int .i64 m] place W0
   obtain⟨c1,a5,a6⟩:=a4 ROW _ _ z0
   obtain⟨hp2,b1,b2,b3,b4⟩:=ch w.heap.size ((xs.map (Value.int .i64)).drop place) (place+1) (W0.setCells w.heap.size place [Value.int .i64 m]).drew
   obtain⟨c2,b5,b6⟩:=b4 c1 _ _ (by rw[a1];exact a5)
   have hdl:((xs.map (Value.int .i64)).drop place).length=xs.length-place:=by simp
   refine fin _ ⟨w.heap.size,G,1,xs.length+1⟩ c2 ?_ (.inr (Nat.le_refl _)) ?_ (by rw[b1];exact b5) (by show c2.size=G;rw[b6,a6,hRs]) rfl hG hGm rfl (fun j x hx=>?_)
   ·rw[b1,a1]
    refine⟨z1.1,z1.2.1,z1.2.2,by show w.heap.size≤hp2.size;rw[b2,a1];show w.heap.size≤hp1.size;rw[a2];omega,fun k hk _=>?_⟩
    show hp2[k]?=_
    rw[b3 k (by omega),a1]
    show hp1[k]?=_
    rw[a3 k (by omega)]
    exact zo k hk
   ·rw[b1];show _<hp2.size;rw[b2,a1];show _<hp1.size;rw[a2,zs];show w.heap.size<_;omega
   ·have hj:j<xs.length+1:=by have:=(List.getElem?_eq_some_iff.1 hx).1;rw[ip m hpl] at this;exact this
    have e:c2[j]?=(((W0.setCells w.heap.size place [Value.int .i64 m]).drew).setCells w.heap.size (place+1) ((xs.map (Value.int .i64)).drop place)).cell? ⟨w.heap.size,j,none⟩:=by
     rw[b1];exact(dk (w:={(W0.setCells w.heap.size place [Value.int .i64 m]).drew with heap:=hp2}) b5).symm
    rw[e]
    have hs0:∀i,i<G→(W0.cell? ⟨w.heap.size,i,none⟩).isSome=true:=fun i hi=>by rw[dk z0,Array.getElem?_eq_getElem (by omega)];rfl
    have hdr:∀x,(W0.setCells w.heap.size place [Value.int .i64 m]).drew.cell? x=(W0.setCells w.heap.size place [Value.int .i64 m]).cell? x:=fun _=>rfl
    rw[mK m hpl] at hx
    by_cases q1:place<j
    ·rw[if_neg (by omega),if_neg (by omega)] at hx
     have:=World.cell?_setCells_in w.heap.size ((xs.map (Value.int .i64)).drop place) (place+1) (W0.setCells w.heap.size place [Value.int .i64 m]).drew (fun i hi=>by
      rw[hdr]
      refine isSome_setCells _ _ _ _ (fun q hq=>?_) _ (hs0 _ (by rw[hdl] at hi;omega))
      have hq0:q=0:=by simpa using hq
      exact hs0 _ (by omega)) (j-(place+1)) (by rw[hdl];omega)
     rw[show place+1+(j-(place+1))=j by omega] at this
     rw[this]
     have h5:xs[j-1]'(by omega)=x:=by rw[List.getElem?_eq_getElem (by omega)] at hx;exact Option.some.inj hx
     congr 1
     rw[List.getElem_drop,List.getElem_map]
     congr 1
     rw[←h5]
     congr 1
     omega
    ·rw[World.cell?_setCells_out _ _ _ _ _ (fun _ _=>by simp;omega),hdr]
     by_cases q2:j=place
     ·subst q2
      rw[if_neg (by omega),if_pos rfl] at hx
      obtain rfl:=Option.some.inj hx
      have:=World.cell?_setCells_in w.heap.size [Value.int .i64 m] j W0 (fun i hi=>by
       have hi0:i=0:=by simpa using hi
       exact hs0 _ (by omega)) 0 (by simp)
      rw[Nat.add_zero] at this
      exact this
     ·rw[if_pos (by omega)] at hx
      rw[World.cell?_setCells_out _ _ _ _ _ (fun _ _=>by simp;omega),dk z0,hRg j (by omega),hx]
      rfl
  ·obtain rfl:place=xs.length:=by omega
   refine(Any2.slices_Insert_int_end_grow L (some ⟨(ρ b).blk,0,none⟩) xs.length (ρ b).cap (ρ c).blk 0 1 (ρ c).cap (xs.map (Value.int .i64)) [Value.int .i64 m] w (by omega) (by omega) (by omega) (by omega) (by simp) rfl (fun h=>by cases h) (fun a ha j v hv=>by cases ha;rw[cW];exact hcs j v hv) hvs h1v).mono ?_
   rintro e w' ⟨rfl,rfl⟩
   have hG:=grownCap_ge w (xs.length+1) (ρ b).cap (ρ0.t 3)
   have hGm:grownCap w (xs.length+1) (ρ b).cap (ρ0.t 3)≤maxLen:=grownCap_le_maxLen w _ _ _ (by unfold maxLen;omega)
   generalize grownCap w (xs.length+1) (ρ b).cap (ρ0.t 3)=G at *
   obtain⟨ROW,hROW⟩:∃ROW:Array Value,ROW=(xs.map (Value.int .i64)++[Value.int .i64 m]).toArray++Builtin.zeroCells (Value.int .i64 0).cells (G-(xs.length+1)):=⟨_,rfl⟩
   rw[←hROW]
   have hRs:ROW.size=G:=by
    rw[hROW]
    simp[Builtin.zeroCells,Value.cells]
    omega
   have zh:(w.drew.alloc (.cells ROW (ρ0.t 3))).heap=w.heap.push (.cells ROW (ρ0.t 3)):=rfl
   refine fin _ ⟨w.heap.size,G,1,xs.length+1⟩ ROW ⟨rfl,rfl,rfl,by rw[zh];simp,fun k hk _=>by rw[zh,Array.getElem?_push,if_neg (by omega)]⟩ (.inr (Nat.le_refl _)) (by rw[zh];simp) (by rw[zh];simp) hRs rfl hG hGm rfl (fun j x hx=>?_)
   have hj:j<xs.length+1:=by have:=(List.getElem?_eq_some_iff.1 hx).1;rw[ip m hpl] at this;exact this
   have h1:j<(xs.map (Value.int .i64)++[Value.int .i64 m]).toArray.size:=by simp;omega
   have h2:cu xs xs.length m=xs++[m]:=by simp[cu]
   rw[h2] at hx
   rw[hROW,Array.getElem?_append_left h1]
   have h3:xs.map (Value.int .i64)++[Value.int .i64 m]=(xs++[m]).map (Value.int .i64):=by simp
   rw[h3,List.getElem?_toArray,List.getElem?_map,hx]
   rfl
end Go.Proofs.YthmfppknagbkeaaGreatDoor.Am
namespace Go.Proofs.YthmfppknagbkeaaGreatDoor.Am
open Go Go.Shelf Go.RowKit
attribute [local irreducible] Mk bk Ari eD ky iB br b8 fY er At
set_option maxRecDepth 10000
theorem Con.out {P:Program}{f:FuncId}{ds:List D}{hin hout hout':HL}{r:D}(h:Con P f ds hin r hout)(he:∀b,look hout' b=look hout b):Con P f ds hin r hout':=by
 refine⟨h.1,fun w A ρ vs s hl hc=>(h.2 w A ρ vs s hl hc).mono ?_⟩
 rintro e w' ⟨u,ρ',h1,h2,h3,h4⟩
 have hl:∀b,Live hout b→Live hout' b:=fun b hb=>by
  unfold Live at hb⊢
  rw[he]
  exact hb
 exact⟨u,ρ',h1,fun b hb=>⟨(h2 b hb).1,hl b (h2 b hb).2⟩,h3.congr (fun _=>rfl) he,h4.mono (fun b hb=>⟨hl b hb,rfl⟩) fun k hk=>⟨⟨hk.1,fun b y hy hmu=>hk.2 b y (by rw[←he];exact hy) hmu⟩,rfl⟩⟩
def vW:Go.Shelf.Ren:=⟨fun|25=>201|31=>216|32=>217|37=>223|n=>n,fun|22=>22|3=>3|4=>4|40=>225|0=>0|n=>n,fun|n=>n⟩
theorem Bk:Go.Proofs.Lays2.n25 Tryz.prog vW where
  mixed:=by kernel_rfl
  f25:=Tryz.func201.trans (congrArg some (by kernel_rfl))
  f31:=Tryz.func216.trans (congrArg some (by kernel_rfl))
  f32:=Tryz.func217.trans (congrArg some (by kernel_rfl))
  f37:=Tryz.func223.trans (congrArg some (by kernel_rfl))
  t0:=Tryz.underlying0
  a0:=Tryz.isAgg0
  z0:=Tryz.sizeOf0
  v0:=Tryz.zeroValue0
  t3:=Tryz.underlying3
  a3:=Tryz.isAgg3
  z3:=Tryz.sizeOf3
  v3:=Tryz.zeroValue3
  t4:=Tryz.underlying4
  a4:=Tryz.isAgg4
  z4:=Tryz.sizeOf4
  v4:=Tryz.zeroValue4
  t22:=Tryz.underlying22
  a22:=Tryz.isAgg22
  z22:=Tryz.sizeOf22
  v22:=Tryz.zeroValue22
  t40:=Tryz.underlying225
  a40:=Tryz.isAgg225
  z40:=Tryz.sizeOf225
  v40:=Tryz.zeroValue225
def vV:Go.Shelf.Ren:=⟨fun|21=>202|27=>218|28=>219|35=>224|39=>207|n=>n,fun|22=>22|3=>3|4=>4|0=>0|n=>n,fun|n=>n⟩
theorem GE:Go.Proofs.Lays2.n21 Tryz.prog vV where
  mixed:=by kernel_rfl
  f21:=Tryz.func202.trans (congrArg some (by kernel_rfl))
  f27:=Tryz.func218.trans (congrArg some (by kernel_rfl))
  f28:=Tryz.func219.trans (congrArg some (by kernel_rfl))
  f35:=Tryz.func224.trans (congrArg some (by kernel_rfl))
  f39:=Tryz.func207.trans (congrArg some (by kernel_rfl))
  t0:=Tryz.underlying0
  a0:=Tryz.isAgg0
  z0:=Tryz.sizeOf0
  v0:=Tryz.zeroValue0
  t3:=Tryz.underlying3
  a3:=Tryz.isAgg3
  z3:=Tryz.sizeOf3
  v3:=Tryz.zeroValue3
  t4:=Tryz.underlying4
  a4:=Tryz.isAgg4
  z4:=Tryz.sizeOf4
  v4:=Tryz.zeroValue4
  t22:=Tryz.underlying22
  a22:=Tryz.isAgg22
  z22:=Tryz.sizeOf22
  v22:=Tryz.zeroValue22
  i3:=by kernel_rfl
theorem mZ (w:World)(q:Nat):Below w.heap.size w (w.drewN q):=⟨rfl,rfl,rfl,Nat.le_refl _,fun _ _=>rfl⟩
theorem AS (xs:List Int)(x:Int)(hs:xs.Pairwise (· ≤ ·))(hl:xs.length≤1000000):af Tryz.prog 201 [.lst (.int .i64) xs,.int .i64 x] [] (.tup [.int .i64 (xs.countP (· <x):Nat),.bool (xs.contains x)]) []:=by
 unfold af
 refine jU ⟨_,Tryz.func201,rfl,rfl⟩ fun w ok ρ vs hl2 hc=>?_
 obtain⟨v0,v1,rfl⟩:∃v0 v1,vs= #[v0,v1]:=by
  have h2:vs.size=2:=hl2.symm
  refine⟨vs[0],vs[1],Array.ext (by simp[h2]) fun i h1 h3=>?_⟩
  match i,h3 with
  |0,_=>rfl
  |1,_=>rfl
 have h0:C ρ (fun _=>False) ok w (.lst (xs.map (D.int .i64))) v0:=hc 0 (by simp[ah])
 have h1:C ρ (fun _=>False) ok w (.int .i64 x) v1:=hc 1 (by simp[ah])
 obtain rfl:=h1.int_inv
 have h0:=h0.lst_inv
 have fin:∀w':World,Below w.heap.size w w'→∀ok',Rep ok' w' ((V.tup [.int .i64 (xs.countP (· <x):Nat),.bool (xs.contains x)]).toD) (.tuple #[.int .i64 (xs.countP (· <x):Nat),.bool (xs.contains x)]):=fun w' _ ok'=>by
  refine .tup _ _ rfl fun i hi=>?_
  match i,hi with
  |0,_=>exact .int _ _
  |1,_=>exact .bool _
 cases xs with
 |nil=>
  obtain⟨a,cap,rfl⟩:∃a cap,v0= .slice a 0 cap:=by
   generalize hd:(([]:List Int).map (D.int .i64))=dl at h0
   cases h0 with
   |none a cap ha hcap=>exact⟨a,cap,rfl⟩
   |lst l n b off cap f hn=>subst hd;exact⟨_,cap,by rw[←hn];rfl⟩
  refine Calls.mono (Any.slices_BinarySearch_int_empty Bk a cap x w) ?_
  rintro e w' ⟨rfl,rfl⟩
  exact⟨_,rfl,Below.refl _ _,fin _ (Below.refl _ _)⟩
 |cons y ys=>
  obtain⟨b,off,cap,rfl,hcell⟩:∃b off cap,v0= .slice (some ⟨b,off,none⟩) (y::ys).length cap∧∀j,j<(y::ys).length→w.cell? ⟨b,off+j,none⟩=some (.int .i64 ((y::ys).getD j 0)):=by
   generalize hd:((y::ys).map (D.int .i64))=dl at h0
   cases h0 with
   |none a cap ha hcap=>cases hd
   |lst l n b off cap f hn hcap hmax hok hsz hpos hcc hr=>
    have hlen:(y::ys).length=n:=by rw[←hn,←hd];simp
    have hz:szl dl=1:=by rw[←hd];rfl
    refine⟨b,off,cap,by rw[hlen],fun j hj=>?_⟩
    have q1:=hcc j 0 (by omega) (by omega)
    have q2:=hr j 0 (by omega) (by omega)
    rw[hz,Nat.mul_one,Nat.add_zero] at q1
    have q3:(dl.getD j .undef).cells.getD 0 .undef= .int .i64 ((y::ys).getD j 0):=by
     rw[←hd]
     simp only[List.getD_eq_getElem?_getD,List.getElem?_map,List.getElem?_eq_getElem hj,Option.map_some,Option.getD_some]
     rfl
    rw[q3] at q2
    generalize f j 0=z at q1 q2
    cases q2
    exact q1
  refine Calls.mono (Any.slices_BinarySearch_int Bk b off (y::ys).length cap (y::ys) x w (Nat.le_refl _) (by omega) hcell (by rw[List.take_length];exact hs)) ?_
  rintro e w' ⟨rfl,q,rfl⟩
  rw[List.take_length]
  exact⟨_,rfl,mZ _ _,fin _ (mZ _ _)⟩
theorem DR (xss:List (Option (List Int)))(i:Nat)(xs:List Int)(m:Int)(place:Nat)(hi:xss[i]?=some (some xs))(hp:place≤xs.length)(hl:xs.length≤1000000):af Tryz.prog 202 [.hro 1 (some i),.int .i64 place,.ref 4] [(1,.frowx 3 (.int .i64) xss),(4,.row 3 (.int .i64) [m])]
  (.hro 1 (some xss.length)) [(1,.frowx 3 (.int .i64) (xss.set i none++[some (cu xs place m)])),(4,.row 3 (.int .i64) [m])]:=by
 have hil:=(List.getElem?_eq_some_iff.1 hi).1
 have l1:∀j,look (toH [(1,VB.frowx 3 (.int .i64) xss),(4,.row 3 (.int .i64) [m])]) (1,j)=(xss[j]?).map (rowX 3 (.int .i64)):=fun j=>by rw[ak];simp[look,VB.blks]
 have h1:look (toH [(1,VB.frowx 3 (.int .i64) xss),(4,.row 3 (.int .i64) [m])]) (1,i)=some (.row 3 (xs.map (.int .i64))):=by rw[l1,hi];rfl
 have h2:look (toH [(1,VB.frowx 3 (.int .i64) xss),(4,.row 3 (.int .i64) [m])]) (4,0)=some (.row 3 [.int .i64 m]):=by rw[ak];rfl
 have h3:look (toH [(1,VB.frowx 3 (.int .i64) xss),(4,.row 3 (.int .i64) [m])]) (1,xss.length)=none:=by rw[l1];simp
 have hc:=zN GE (f:=202) rfl ⟨_,Tryz.func202,rfl,rfl⟩ rfl h1 h2 (by simp) h3 hp hl
 unfold af
 refine hc.out fun b=>?_
 obtain⟨b1,b2⟩:=b
 show look (toH _) (b1,b2)=look (put (1,xss.length) _ (put (1,i) _ _)) (b1,b2)
 rw[ai,ai,ak,ak]
 by_cases e1:b1=1
 ·subst e1
  simp only[look,if_true,Option.bind_some,VB.blks,Prod.mk.injEq,true_and]
  by_cases e2:b2=xss.length
  ·subst e2
   rw[if_pos rfl]
   simp[rowX]
   exact⟨rfl,fun _ _=>rfl⟩
  ·rw[if_neg e2]
   by_cases e3:b2=i
   ·subst e3
    rw[if_pos rfl,List.map_append,List.getElem?_append_left (by simpa using hil)]
    simp[List.getElem?_set,hil,rowX]
   ·rw[if_neg e3,List.map_append]
    rcases Nat.lt_or_ge b2 xss.length with hlt|hge
    ·rw[List.getElem?_append_left (by simpa using hlt)]
     simp[List.getElem?_set,Ne.symm e3]
    ·rw[List.getElem?_eq_none (by simp;omega),List.getElem?_eq_none (by simpa using hge)]
 ·simp[look,e1]
end Go.Proofs.YthmfppknagbkeaaGreatDoor.Am
namespace Go.Proofs.YthmfppknagbkeaaGreatDoor.Am
open Go
attribute [local irreducible] Mk bk Ari eD ky iB br b8 fY er At af
set_option maxRecDepth 10000
abbrev rX (s:Int)(c l:List Int)(b:Int)(tabs:List (List (Option Vtx)))(xss:List (Option (List Int)))(ms:List PplM):VH:=[(0,.fvari 190 217 (.ob .vtx) tabs),(1,.frowx 3 (.int .i64) xss),(4,.var 112 [.int .i32 s,.int .u32 0,.lst (.int .i64) c,.lst (.int .i64) l,.int .i64 b,.ref 5,.ref 6]),(5,.row 144 (.hp 0) ((List.range tabs.length).map some)),(6,.row 50 (.pplm 1) ms)]
abbrev Ii (s:Int)(c l:List Int)(b:Int)(tabs:List (List (Option Vtx)))(xss:List (Option (List Int)))(ms:List PplM):VH:=[(0,.fvari 190 217 (.ob .vtx) tabs),(1,.frowx 3 (.int .i64) xss),(4,.var 112 [.int .i32 s,.int .u32 0,.lst (.int .i64) c,.lst (.int .i64) l,.int .i64 b,.ref 5,.ref 7]),(5,.row 144 (.hp 0) ((List.range tabs.length).map some)),(6,.gone),(7,.row 50 (.pplm 1) ms)]
def jg (tab:List (Option Vtx))(r n:Nat):List Int:=((List.range n).filter fun a:Nat=>(tab.getD (r*7+a) none).isSome).map fun a:Nat=>(a:Int)
theorem u9 (tab:List (Option Vtx))(r n:Nat):jg tab r (n+1)=if(tab.getD (r*7+n) none).isSome then jg tab r n++[(n:Int)] else jg tab r n:=by
 simp only[jg,List.range_succ,List.filter_append,List.map_append,List.filter_cons,List.filter_nil]
 split<;>simp
theorem yu (tab:List (Option Vtx))(r n:Nat):(jg tab r n).length≤n:=by
 simp only[jg,List.length_map]
 exact Nat.le_trans (List.length_filter_le _ _) (by simp)
theorem li {p q:Nat→Bool}{n:Nat}:∀m,n≤m→(∀a,a<n→p a=q a)→(∀a,n≤a→a<m→p a=false)→(List.range m).filter p=(List.range n).filter q
 |0,h,_,_=>by
  obtain rfl:n=0:=by omega
  rfl
 |m+1,h,h1,h2=>by
  rcases Nat.lt_or_ge n (m+1) with hlt|hge
  ·rw[List.range_succ,List.filter_append,li m (by omega) h1 (fun a ha hb=>h2 a ha (by omega)),List.filter_cons,h2 m (by omega) (by omega)]
   simp
  ·obtain rfl:n=m+1:=by omega
   exact List.filter_congr fun a ha=>h1 a (List.mem_range.1 ha)
theorem s7 {c:List Int}{g:List Vtx}(h:GraOK c g){r:Nat}(hr:r≤30):jg (az g) r 7=dJ g r:=by
 have h7:=(ao.1 h.com).2
 have ht:∀v∈g,fK v:=fun u hu=>bW h.com (h.vtx u hu)
 rw[←s6 h]
 unfold jg s5
 congr 1
 refine li 7 (by omega) (fun a ha=>?_) fun a ha hb=>?_
 ·have:=nZ ht (r:=r) (a:=a) (by omega) (by omega)
  rwa [show ((r:Int)*7+(a:Int)).toNat=r*7+a by omega] at this
 ·have h1:=nZ ht (r:=r) (a:=a) (by omega) (by omega)
  rw[show ((r:Int)*7+(a:Int)).toNat=r*7+a by omega] at h1
  rw[h1,Bool.eq_false_iff]
  intro h2
  obtain⟨v,hv,-,hva⟩:=aY.1 h2
  have:=(bc (h.vtx v hv)).2.1
  omega
theorem vI (s:Int)(c l:List Int)(b:Int)(tabs:List (List (Option Vtx)))(xss:List (Option (List Int)))(ms:List PplM)(m:Int):af Tryz.prog 166 [.ptr 4 0,.int .i64 m] (rX s c l b tabs xss ms) (.bool (bY c m && m !=b)) (rX s c l b tabs xss ms):=by
 refine aa aS Tryz.func166 rfl rfl false 3 7 rfl rfl rfl rfl fun K hK hb1 hb2=>?_;simp only[ae,enc,Nat.reduceAdd]
 clear hb1 hb2
 have hC:=dN c m
 cases h:bY c m<;>rw[h] at hC<;>(repeat' first|refine a9 ?_|refine sa fun xe hxe=>?_|refine sb (fun hq=>?_) fun hq=>?_|refine cr (hC) ?_|exact True.intro)<;>(refine⟨congrArg V.bool ?_,rfl⟩;(first|rfl|(simp;done)|(simp_all;done)|(rw[Bool.eq_iff_iff];(try simp at *);omega)|(simp_all;omega)))
theorem vO (s:Int)(c l:List Int)(b:Int)(tabs:List (List (Option Vtx)))(xss:List (Option (List Int)))(ms:List PplM)(i:Nat)(hi:i<ms.length)(hl:ms.length≤1000000):af Tryz.prog 170 [.ptr 4 0,.int .i64 (i:Int)] (rX s c l b tabs xss ms) (.eptr 6 i 0) (rX s c l b tabs xss ms):=by
 refine aa aS Tryz.func170 rfl rfl false 3 7 rfl rfl rfl rfl fun K hK hb1 hb2=>?_;simp only[ae,enc,Nat.reduceAdd]
 clear hb1 hb2
 (repeat' first|refine a9 ?_|refine sa fun xe hxe=>?_|refine sb (fun hq=>?_) fun hq=>?_|exact True.intro)
 exact⟨rfl,rfl⟩
theorem vN (s:Int)(c l:List Int)(b:Int)(tabs:List (List (Option Vtx)))(xss:List (Option (List Int)))(ms:List PplM)(i:Int)(hi:i<0∨(ms.length:Int)≤i)(hl:ms.length≤1000000):af Tryz.prog 170 [.ptr 4 0,.int .i64 i] (rX s c l b tabs xss ms) .nilp (rX s c l b tabs xss ms):=by
 refine aa aS Tryz.func170 rfl rfl false 3 7 rfl rfl rfl rfl fun K hK hb1 hb2=>?_;simp only[ae,enc,Nat.reduceAdd]
 clear hb1 hb2
 by_cases h0:i<0
 ·(repeat' first|refine a9 ?_|refine sa fun xe hxe=>?_|refine sb (fun hq=>?_) fun hq=>?_|exact True.intro)
  exact⟨rfl,rfl⟩
 ·(repeat' first|refine a9 ?_|refine sa fun xe hxe=>?_|refine sb (fun hq=>?_) fun hq=>?_|exact True.intro)
  exact⟨rfl,rfl⟩
theorem Ff (tabs:List (List (Option Vtx)))(k:Nat)(tab:List (Option Vtx))(r:Int)(hk:tabs[k]?=some tab)(ht:tab.length=217)(hr:0≤r∧r≤30):af Tryz.prog 168 [.hpo 0 (some k),.int .i64 r] [(0,.fvari 190 217 (.ob .vtx) tabs)] (.ref 4) [(0,.fvari 190 217 (.ob .vtx) tabs),(4,.row 3 (.int .i64) (jg tab r.toNat 7))]:=by
 obtain⟨n,rfl⟩:=Int.eq_ofNat_of_zero_le hr.1
 obtain⟨-,hr⟩:=hr
 rw[show (n:Int).toNat=n from rfl]
 refine aa aS Tryz.func168 rfl rfl false 0 4 rfl rfl rfl rfl fun K hK hb1 hb2=>?_;simp only[ae,enc,Nat.reduceAdd]
 clear hb1 hb2
 have hat:∀n,n<217→tab[n]?=some (tab.getD n none):=fun n hn=>by rw[List.getD_eq_getElem?_getD,List.getElem?_eq_getElem (by omega)];rfl
 obtain⟨e,he⟩:∃e:Nat→Option Vtx,∀j,e j=tab.getD (n*7+j) none:=⟨_,fun _=>rfl⟩
 have hg:∀j,j<7→tab[n*7+j]?=some (e j):=fun j hj=>by rw[he];exact hat _ (by omega)
 (repeat' first|refine a9 ?_|refine sa fun xe hxe=>?_|refine sb (fun hq=>?_) fun hq=>?_|exact True.intro)
 rename_i e0 h0 e1 h1 e2 h2 e3 h3 e4 h4 e5 h5
 obtain rfl:e0=e 0:=Option.some.inj (h0.symm.trans (hg 0 (by omega)))
 obtain rfl:e1=e 1:=Option.some.inj (h1.symm.trans (hg 1 (by omega)))
 obtain rfl:e2=e 2:=Option.some.inj (h2.symm.trans (hg 2 (by omega)))
 obtain rfl:e3=e 3:=Option.some.inj (h3.symm.trans (hg 3 (by omega)))
 obtain rfl:e4=e 4:=Option.some.inj (h4.symm.trans (hg 4 (by omega)))
 obtain rfl:e5=e 5:=Option.some.inj (h5.symm.trans (hg 5 (by omega)))
 obtain rfl:xe=e 6:=Option.some.inj (hxe.symm.trans (hg 6 (by omega)))
 clear h0 h1 h2 h3 h4 h5 hxe
 refine ab hK [] [5,13,14] (fun j:Nat=>⟨[(5,.ref 4),(13,.agg [.obo .vtx (e 0),.obo .vtx (e 1),.obo .vtx (e 2),.obo .vtx (e 3),.obo .vtx (e 4),.obo .vtx (e 5),.obo .vtx (e 6)]),(14,.int .i64 (j:Int))],[(0,.fvari 190 217 (.ob .vtx) tabs),(4,.row 3 (.int .i64) (jg tab n j))],5⟩) (fun j=>j≤7) (fun j=>7-j) 0 (by omega) rfl ?_
 intro j hj
 by_cases hjl:j<7
 ·have hs:=u9 tab n j
  have hll:=yu tab n j
  rw[←he] at hs
  obtain⟨j1,hj1⟩:∃j1,j1=j+1:=⟨_,rfl⟩
  have hji:((j1:Nat):Int)=(j:Int)+1:=by omega
  rw[←hj1] at hs
  obtain⟨o,ho⟩:∃o,o=e j:=⟨_,rfl⟩
  rw[←ho] at hs
  generalize jg tab n j=la at *
  obtain rfl|rfl|rfl|rfl|rfl|rfl|rfl:j=0∨j=1∨j=2∨j=3∨j=4∨j=5∨j=6:=by omega
  all_goals
   rw[←ho]
   cases o with
   |none=>
    (repeat' first|refine a9 ?_|refine sa fun xe hxe=>?_|refine sb (fun hq=>?_) fun hq=>?_|exact True.intro)
    refine⟨j1,by omega,by omega,?_⟩
    rw[hs,hji]
    rfl
   |some v=>
    (repeat' first|refine a9 ?_|refine sa fun xe hxe=>?_|refine sb (fun hq=>?_) fun hq=>?_|exact True.intro)
    refine⟨j1,by omega,by omega,?_⟩
    rw[hs,hji]
    rfl
 ·obtain rfl:j=7:=by omega
  (repeat' first|refine a9 ?_|refine sa fun xe hxe=>?_|refine sb (fun hq=>?_) fun hq=>?_|exact True.intro)
  exact⟨rfl,rfl⟩
theorem H4 (s:Int)(c l:List Int)(b:Int)(tabs:List (List (Option Vtx)))(xss:List (Option (List Int)))(ms:List PplM)(k:Nat)(g:List Vtx)(h:GraOK c g)(hk:tabs[k]?=some (az g)):af Tryz.prog 167 [.ptr 4 0,.hpo 0 (some k)] (rX s c l b tabs xss ms) (.int .i64 (fv c g)) (rX s c l b tabs xss ms):=by
 refine aa aS Tryz.func167 rfl rfl false 3 7 rfl rfl rfl rfl fun K hK hb1 hb2=>?_;simp only[ae,enc,Nat.reduceAdd]
 clear hb1 hb2
 (repeat' first|refine a9 ?_|refine sa fun xe hxe=>?_|refine sb (fun hq=>?_) fun hq=>?_|exact True.intro)
 refine ab hK [] [0,1,5] (fun k':Int=>⟨[(0,.ptr 4 0),(1,.hpo 0 (some k)),(5,.int .i64 k')],rX s c l b tabs xss ms,7⟩) (fun k=>(-1≤k∧k≤30)∧fv c g=ig c g (k+1).toNat) (fun k=>(k+1).toNat) 30 ⟨by simp,rfl⟩ rfl ?_
 rintro r ⟨hi,hh⟩
 by_cases hr:r<0
 ·(repeat' first|refine a9 ?_|refine sa fun xe hxe=>?_|refine sb (fun hq=>?_) fun hq=>?_|exact True.intro)
  rw[show (r+1).toNat=0 by omega] at hh
  exact⟨by rw[hh];rfl,rfl⟩
 ·have h1:=me h r
  have h2:=dA h1
  have h7:=(ao.1 h.com).2
  have ha:=Ff tabs k (az g) r hk (dh g) (by omega)
  rw[s7 h (r:=r.toNat) (by omega),show ((r.toNat:Nat):Int)=r by omega] at ha
  have h4:ig c g (r.toNat+1)=if quo c≤cR c (dJ g r.toNat) then(r.toNat:Int) else ig c g r.toNat:=rfl
  rw[show ((r.toNat:Nat):Int)=r by omega] at h4
  rw[show (r+1).toNat=r.toNat+1 by omega,h4] at hh
  by_cases h5:quo c≤cR c (dJ g r)
  ·rw[if_pos h5] at hh
   (repeat' first|refine a9 ?_|refine sa fun xe hxe=>?_|refine sb (fun hq=>?_) fun hq=>?_|refine cr (vP _ h.com) ?_|((with_reducible refine bl ?_);(conv=>whnf);(first|with_reducible refine bF (vS _ _ h.com (bf h1) (by omega)) ?_);conv=>whnf)|refine co (ha) ?_|exact True.intro)
   exact⟨by rw[hh],rfl⟩
  ·rw[if_neg h5] at hh
   (repeat' first|refine a9 ?_|refine sa fun xe hxe=>?_|refine sb (fun hq=>?_) fun hq=>?_|refine cr (vP _ h.com) ?_|((with_reducible refine bl ?_);(conv=>whnf);(first|with_reducible refine bF (vS _ _ h.com (bf h1) (by omega)) ?_);conv=>whnf)|refine co (ha) ?_|exact True.intro)
   exact⟨r-1,⟨by omega,by rw[hh];congr 1;omega⟩,by omega,rfl⟩
theorem vH (s:Int)(c l:List Int)(b:Int)(tabs:List (List (Option Vtx)))(xss:List (Option (List Int)))(ms:List PplM)(v:Vtx)(hc:comV c=true)(hv:vtxS c v=true)(hl:ms.length<220):af Tryz.prog 169 [.ptr 4 0,bA v] (rX s c l b tabs xss ms) (.bool true) (Ii s c l b tabs (xss++[some []]) (ms++[⟨v,some xss.length⟩])):=by
 refine aa aS Tryz.func169 rfl rfl false 3 7 rfl rfl rfl rfl fun K hK hb1 hb2=>?_;simp only[ae,enc,Nat.reduceAdd]
 clear hb1 hb2
 have h1:=gA c v
 rw[hc,hv,show (true && true)=true from rfl] at h1
 have hp:=lZ hc hv
 (repeat' first|refine a9 ?_|refine sa fun xe hxe=>?_|refine sb (fun hq=>?_) fun hq=>?_|refine cr (h1) ?_|((with_reducible refine bl ?_);(conv=>whnf);(first|with_reducible refine bF (m7 _ (Nat.le_trans hp (by omega))) ?_);conv=>whnf)|exact True.intro)
 exact⟨rfl,rfl⟩
theorem vG (s:Int)(c l:List Int)(b:Int)(tabs:List (List (Option Vtx)))(xss:List (Option (List Int)))(ms:List PplM)(v:Vtx)(hc:comV c=true)(hn:(vtxS c v && decide (ms.length<220))=false)(hl:ms.length≤1000000):af Tryz.prog 169 [.ptr 4 0,bA v] (rX s c l b tabs xss ms) (.bool false) (rX s c l b tabs xss ms):=by
 refine aa aS Tryz.func169 rfl rfl false 3 7 rfl rfl rfl rfl fun K hK hb1 hb2=>?_;simp only[ae,enc,Nat.reduceAdd]
 clear hb1 hb2
 have h1:=gA c v
 rw[hc,Bool.true_and] at h1
 cases hv:vtxS c v
 ·rw[hv] at h1
  (repeat' first|refine a9 ?_|refine sa fun xe hxe=>?_|refine sb (fun hq=>?_) fun hq=>?_|refine cr (h1) ?_|exact True.intro)
  exact⟨rfl,rfl⟩
 ·rw[hv] at h1 hn
  have hn:¬ms.length<220:=by simpa using hn
  (repeat' first|refine a9 ?_|refine sa fun xe hxe=>?_|refine sb (fun hq=>?_) fun hq=>?_|refine cr (h1) ?_|exact True.intro)
  exact⟨rfl,rfl⟩
theorem zz {xs:List Int}(h:xs.Pairwise (· < ·)):xs.Pairwise (· ≤ ·):=h.imp fun h=>Int.le_of_lt h
theorem AT (xss:List (Option (List Int)))(ms:List PplM)(i j:Nat)(v:Vtx)(xs:List Int)(m:Int)(hi:ms[i]?=some ⟨v,some j⟩)(hj:xss[j]?=some (some xs))(hs:xs.Pairwise (· < ·))(hl:xs.length≤1000000)(hm:xs.contains m=true):af Tryz.prog 173 [.eptr 4 i 0,.int .i64 m] [(1,.frowx 3 (.int .i64) xss),(4,.row 50 (.pplm 1) ms)]
  (.bool false) [(1,.frowx 3 (.int .i64) xss),(4,.row 50 (.pplm 1) ms)]:=by
 refine aa aS Tryz.func173 rfl rfl false 1 5 rfl rfl rfl rfl fun K hK hb1 hb2=>?_;simp only[ae,enc,Nat.reduceAdd]
 clear hb1 hb2
 have hb:=AS xs m (zz hs) hl
 rw[hm] at hb
 (repeat' first|refine a9 ?_|refine sa fun xe hxe=>?_|refine sb (fun hq=>?_) fun hq=>?_|((with_reducible refine iD ?_);(conv=>whnf))|((first|with_reducible refine bF (hb) ?_);conv=>whnf)|exact True.intro)
 exact⟨rfl,rfl⟩
theorem AU (xss:List (Option (List Int)))(ms:List PplM)(i j:Nat)(v:Vtx)(xs:List Int)(m:Int)(hi:ms[i]?=some ⟨v,some j⟩)(hj:xss[j]?=some (some xs))(hs:xs.Pairwise (· < ·))(hl:xs.length≤1000000)(hm:xs.contains m=false):af Tryz.prog 173 [.eptr 4 i 0,.int .i64 m] [(1,.frowx 3 (.int .i64) xss),(4,.row 50 (.pplm 1) ms)]
  (.bool true) [(1,.frowx 3 (.int .i64) (xss.set j none++[some (cu xs (xs.countP (· <m)) m)])),(4,.row 50 (.pplm 1) (ms.set i ⟨v,some xss.length⟩))]:=by
 refine aa aS Tryz.func173 rfl rfl false 1 5 rfl rfl rfl rfl fun K hK hb1 hb2=>?_;simp only[ae,enc,Nat.reduceAdd]
 clear hb1 hb2
 have hb:=AS xs m (zz hs) hl
 rw[hm] at hb
 have hp:xs.countP (· <m)≤xs.length:=List.countP_le_length
 have hC:=DR xss j xs m _ hj hp hl
 (repeat' first|refine a9 ?_|refine sa fun xe hxe=>?_|refine sb (fun hq=>?_) fun hq=>?_|refine co (hC) ?_|((with_reducible refine iD ?_);(conv=>whnf))|((first|with_reducible refine bF (hb) ?_);conv=>whnf)|exact True.intro)
 refine eK (by show xss.length≤(xss.set j none++[_]).length;simp) ?_
 (conv=>whnf)
 (repeat' first|refine a9 ?_|refine sa fun xe hxe=>?_|refine sb (fun hq=>?_) fun hq=>?_|refine co (hC) ?_|((with_reducible refine iD ?_);(conv=>whnf))|((first|with_reducible refine bF (hb) ?_);conv=>whnf)|exact True.intro)
 exact⟨rfl,rfl⟩
end Go.Proofs.YthmfppknagbkeaaGreatDoor.Am
namespace Go.Proofs.YthmfppknagbkeaaGreatDoor.Am
open Go
structure Rel (ps:List Ppl)(xss:List (Option (List Int)))(ms:List PplM):Prop where
 len:ms.length=ps.length
 get:∀(i:Nat) (p:Ppl),ps[i]?=some p→∃j:Nat,ms[i]?=some ⟨p.v,some j⟩∧xss[j]?=some (some p.members)
 inj:∀(i i':Nat) (v v':Vtx) (j:Nat),ms[i]?=some ⟨v,some j⟩→ms[i']?=some ⟨v',some j⟩→i=i'
theorem Ev (ps:List Ppl):Rel ps (ps.map fun p=>some p.members) (sd ps):=by
 refine⟨lC ps,fun i p h=>⟨i,we h,by rw[List.getElem?_map,h];rfl⟩,fun i i' v v' j h h'=>?_⟩
 have key:∀{i:Nat} {v:Vtx},(sd ps)[i]?=some ⟨v,some j⟩→i=j:=fun {i v} h=>by
  have hi:=(List.getElem?_eq_some_iff.1 h).1
  rw[lC] at hi
  rw[we (List.getElem?_eq_getElem hi)] at h
  injection h with h
  injection h with _ h
  exact Option.some.inj h
 rw[key h,key h']
theorem Rel.old {ps:List Ppl}{xss:List (Option (List Int))}{ms:List PplM}(h:Rel ps xss ms){i:Nat}{v:Vtx}{j:Nat}(hi:ms[i]?=some ⟨v,some j⟩):j<xss.length∧∃p,ps[i]?=some p∧p.v=v∧xss[j]?=some (some p.members):=by
 have hl:=(List.getElem?_eq_some_iff.1 hi).1
 rw[h.len] at hl
 obtain⟨j',h1,h2⟩:=h.get i _ (List.getElem?_eq_getElem hl)
 rw[h1] at hi
 injection hi with hi
 injection hi with e1 e2
 obtain rfl:=Option.some.inj e2
 exact⟨(List.getElem?_eq_some_iff.1 h2).1,_,List.getElem?_eq_getElem hl,e1,h2⟩
theorem Rel.add {ps:List Ppl}{xss:List (Option (List Int))}{ms:List PplM}(h:Rel ps xss ms)(v:Vtx):Rel (ps++[⟨v,[]⟩]) (xss++[some []]) (ms++[⟨v,some xss.length⟩]):=by
 refine⟨by simp[h.len],fun i p hi=>?_,fun i i' v1 v2 j h1 h2=>?_⟩
 ·rcases Nat.lt_or_ge i ps.length with hlt|hge
  ·rw[List.getElem?_append_left hlt] at hi
   obtain⟨j,h1,h2⟩:=h.get i p hi
   exact⟨j,by rw[List.getElem?_append_left (by rw[h.len];exact hlt)];exact h1,by rw[List.getElem?_append_left (List.getElem?_eq_some_iff.1 h2).1];exact h2⟩
  ·rw[List.getElem?_append_right hge] at hi
   have e:i=ps.length:=by
    have:=(List.getElem?_eq_some_iff.1 hi).1
    simp at this
    omega
   subst e
   simp at hi
   subst hi
   exact⟨xss.length,by rw[←h.len];simp,by simp⟩
 ·have key:∀{i:Nat} {v1:Vtx},(ms++[(⟨v,some xss.length⟩:PplM)])[i]?=some ⟨v1,some j⟩→(i<ms.length∧ms[i]?=some ⟨v1,some j⟩∧j<xss.length)∨(i=ms.length∧j=xss.length):=fun {i v1} hi=>by
   rcases Nat.lt_or_ge i ms.length with hlt|hge
   ·rw[List.getElem?_append_left hlt] at hi
    exact .inl ⟨hlt,hi,(h.old hi).1⟩
   ·rw[List.getElem?_append_right hge] at hi
    have e:i=ms.length:=by
     have:=(List.getElem?_eq_some_iff.1 hi).1
     simp at this
     omega
    subst e
    simp at hi
    exact .inr ⟨rfl,hi.2.symm⟩
  rcases key h1 with⟨a1,a2,a3⟩|⟨a1,a2⟩<;>rcases key h2 with⟨b1,b2,b3⟩|⟨b1,b2⟩
  ·exact h.inj _ _ _ _ _ a2 b2
  ·omega
  ·omega
  ·omega
theorem Rel.cast {ps:List Ppl}{xss:List (Option (List Int))}{ms:List PplM}(h:Rel ps xss ms){i:Nat}{v:Vtx}{j:Nat}(hi:ms[i]?=some ⟨v,some j⟩)(zs:List Int):Rel (ps.set i ⟨v,zs⟩) (xss.set j none++[some zs]) (ms.set i ⟨v,some xss.length⟩):=by
 have hil:=(List.getElem?_eq_some_iff.1 hi).1
 refine⟨by simp[h.len],fun k p hk=>?_,fun k k' v1 v2 j' h1 h2=>?_⟩
 ·rw[List.getElem?_set] at hk
  by_cases e:i=k
  ·subst e
   rw[if_pos rfl,if_pos (by rw[←h.len];exact hil)] at hk
   obtain rfl:=Option.some.inj hk
   exact⟨xss.length,by rw[List.getElem?_set,if_pos rfl,if_pos hil],by simp⟩
  ·rw[if_neg e] at hk
   obtain⟨j',a1,a2⟩:=h.get k p hk
   have hjl:=(List.getElem?_eq_some_iff.1 a2).1
   refine⟨j',by rw[List.getElem?_set,if_neg e];exact a1,?_⟩
   rw[List.getElem?_append_left (by simpa using hjl),List.getElem?_set,if_neg (fun he=>e (h.inj _ _ _ _ _ hi (he▸a1)))]
   exact a2
 ·have key:∀{k:Nat} {v1:Vtx},(ms.set i (⟨v,some xss.length⟩:PplM))[k]?=some ⟨v1,some j'⟩→(k≠i∧ms[k]?=some ⟨v1,some j'⟩∧j'<xss.length)∨(k=i∧j'=xss.length):=fun {k v1} hk=>by
   rw[List.getElem?_set] at hk
   by_cases e:i=k
   ·subst e
    rw[if_pos rfl,if_pos hil] at hk
    injection hk with hk
    injection hk with _ hk
    exact .inr ⟨rfl,(Option.some.inj hk).symm⟩
   ·rw[if_neg e] at hk
    exact .inl ⟨Ne.symm e,hk,(h.old hk).1⟩
  rcases key h1 with⟨a1,a2,a3⟩|⟨a1,a2⟩<;>rcases key h2 with⟨b1,b2,b3⟩|⟨b1,b2⟩
  ·exact h.inj _ _ _ _ _ a2 b2
  ·omega
  ·omega
  ·omega
theorem mL:∀{xs:List Int} {m:Int},xs.Pairwise (· < ·)→m∉xs→cu xs (xs.countP (· <m)) m=cH xs m
 |[],m,_,_=>rfl
 |x::l,m,h,hm=>by
  obtain⟨h1,h2⟩:=List.pairwise_cons.1 h
  simp only[List.mem_cons,not_or] at hm
  unfold cH
  by_cases c:x<m
  ·rw[if_pos c,←mL h2 hm.2,List.countP_cons,if_pos (by simpa using c)]
   simp[cu]
  ·have h0:l.countP (fun y=>decide (y<m))=0:=by
    rw[List.countP_eq_zero]
    intro y hy
    have:=h1 y hy
    simp only[decide_eq_true_eq]
    omega
   rw[if_neg c,if_neg (fun e=>hm.1 e.symm),List.countP_cons,if_neg (by simpa using c),h0]
   rfl
theorem tU:∀{xs:List Int} {m:Int},xs.Pairwise (· < ·)→m∈xs→cH xs m=xs
 |x::l,m,h,hm=>by
  obtain⟨h1,h2⟩:=List.pairwise_cons.1 h
  unfold cH
  rcases List.mem_cons.1 hm with rfl|hm
  ·rw[if_neg (by omega),if_pos rfl]
  ·rw[if_pos (h1 m hm),tU h2 hm]
theorem tc {w:Wrl}{i m:Int}(hi:m8 w i=true)(hs:(ay w i).members.Pairwise (· < ·))(hm:m∈(ay w i).members):gG w i m=w:=by
 obtain⟨h1,h2,-⟩:=gk hi
 unfold gG
 rw[tU hs hm]
 have:(⟨(ay w i).v,(ay w i).members⟩:Ppl)=ay w i:=rfl
 rw[this]
 have e:w.props.set i.toNat (ay w i)=w.props:=by
  apply List.ext_getElem?
  intro k
  rw[List.getElem?_set]
  by_cases e:i.toNat=k
  ·subst e;rw[if_pos rfl,if_pos h1,h2]
  ·rw[if_neg e]
 rw[e]
def jz (v:Vtx):Nat:=(v.round*7+v.author).toNat
theorem uK:∀(g:List Vtx) (t:List (Option Vtx)) (s:Nat) (a:Option Vtx),(∀x∈g,jz x≠s)→g.foldl (fun t v=>t.set (v.round*7+v.author).toNat (some v)) (t.set s a)=(g.foldl (fun t v=>t.set (v.round*7+v.author).toNat (some v)) t).set s a
 |[],_,_,_,_=>rfl
 |x::g,t,s,a,h=>by
  simp only[List.foldl_cons]
  have h1:(x.round*7+x.author).toNat≠s:=h x (by simp)
  rw[List.set_comm _ _ (Ne.symm h1)]
  exact uK g _ s a fun y hy=>h y (by simp[hy])
theorem uJ:∀(g:List Vtx) (t:List (Option Vtx)) (v:Vtx),(∀x∈g,jz x≠jz v)→(eu g v).foldl (fun t v=>t.set (v.round*7+v.author).toNat (some v)) t=(g.foldl (fun t v=>t.set (v.round*7+v.author).toNat (some v)) t).set (jz v) (some v)
 |[],_,_,_=>rfl
 |x::g,t,v,h=>by
  have h1:(x.round*7+x.author).toNat≠(v.round*7+v.author).toNat:=h x (by simp)
  unfold eu
  split
  ·simp only[List.foldl_cons]
   exact uJ g _ v fun y hy=>h y (by simp[hy])
  ·simp only[List.foldl_cons]
   rw[←uK g _ (jz v) (some v) fun y hy=>h y (by simp[hy]),List.set_comm _ _ (Ne.symm h1)]
   rfl
theorem Cq {g:List Vtx}{v:Vtx}(hg:∀x∈g,fK x)(hv:fK v)(hn:cA g v.round v.author=false):az (eu g v)=(az g).set (jz v) (some v):=by
 refine uJ g _ v fun x hx he=>?_
 obtain⟨⟨a1,a2⟩,a3,a4⟩:=hg x hx
 obtain⟨⟨b1,b2⟩,b3,b4⟩:=hv
 have:cA g v.round v.author=true:=aY.2 ⟨x,hx,by unfold jz at he;omega,by unfold jz at he;omega⟩
 rw[hn] at this
 cases this
theorem Bw {ps:List Ppl}{m r:Int}(hr:0≤r)(h:∀p∈ps,p.v.author=m→p.v.round+1≤r):jd ps m≤r:=by
 induction ps using ci with
 |h0=>exact hr
 |h l x ih=>
  rw[nP]
  have h1:=ih fun p hp=>h p (by simp[hp])
  split
  ·rename_i e
   have:=h x (by simp) e
   omega
  ·exact h1
end Go.Proofs.YthmfppknagbkeaaGreatDoor.Am
namespace Go.Proofs.YthmfppknagbkeaaGreatDoor.Am
open Go
attribute [local irreducible] Mk bk Ari eD ky iB br b8 fY er At af
set_option maxRecDepth 10000
abbrev rW (s:Int)(w:Wrl)(xss:List (Option (List Int)))(ms:List PplM):VH:=rX s w.com w.lead w.bad (w.views.map az) xss ms
abbrev IA (s:Int)(w:Wrl)(xss:List (Option (List Int)))(ms:List PplM):VH:=Ii s w.com w.lead w.bad (w.views.map az) xss ms
theorem iz {w:Wrl}(hw:WOK w){m:Int}(hm:0≤m∧m<w.com.length):(w.views.map az)[m.toNat]?=some (az (view w m))∧GraOK w.com (view w m):=by
 have hl:=hw.vlen
 have h:w.views[m.toNat]?=some (view w m):=by
  unfold view
  rw[List.getD_eq_getElem?_getD,List.getElem?_eq_getElem (by omega)]
  rfl
 exact⟨by rw[List.getElem?_map,h];rfl,cP (hw.gra _ (List.mem_of_getElem? h))⟩
theorem AQ {n:Nat}{m:Int}(hm:0≤m∧m<n):((List.range n).map some)[m.toNat]?=some (some m.toNat):=by
 rw[List.getElem?_map,List.getElem?_range (by omega)]
 rfl
theorem Ei {w:Wrl}{m d:Int}(h1:good w m=true)(h2:jd w.props m≤(fg w m d).round):ga w m d=(vtxS w.com (fg w m d) && decide (w.props.length<220)):=by
 have hd:vtxS w.com (fg w m d)=true→gM d 0 990=true:=fun h=>ar.2 (bc h).2.2.2.1
 unfold ga
 rw[h1,decide_eq_true h2]
 cases h:vtxS w.com (fg w m d)
 ·simp
 ·rw[hd h]
  simp
theorem Ej {w:Wrl}{m d:Int}{p:Ppl}(hp:p∈w.props)(h1:p.v.author=m)(h2:(fg w m d).round≤p.v.round):ga w m d=false:=by
 have:=Bv p hp h1
 unfold ga
 rw[decide_eq_false (p:=jd w.props m≤(fg w m d).round) (by omega)]
 simp
theorem GR {w:Wrl}{m d:Int}(h:fv w.com (view w m)<0):fg w m d=⟨0,m,[],d⟩:=by
 have:=(lm w.com (view w m) 31).1
 have:fv w.com (view w m)= -1:=by unfold fv at *;omega
 unfold fg
 rw[this]
 rfl
theorem GT {w:Wrl}{m d:Int}(h:0≤fv w.com (view w m)):fg w m d=⟨fv w.com (view w m)+1,m,dJ (view w m) (fv w.com (view w m)),d⟩:=by
 unfold fg
 rw[if_pos (by omega)]
theorem vw (E:TypeId)(t:Ty)(xs ys:List (Option (List t.den))):aF (VB.frowx E t xs)≤aF (VB.frowx E t (xs++ys)):=by
 show xs.length≤(xs++ys).length
 simp
set_option maxHeartbeats 1000000 in
theorem A7 (s:Int)(w:Wrl)(xss:List (Option (List Int)))(ms:List PplM)(hw:WOK w)(hR:Rel w.props xss ms)(m d:Int):af Tryz.prog 111 [.ptr 4 0,.int .i64 m,.int .i64 d] (rW s w xss ms) (.bool (ga w m d)) (if ga w m d then IA s w (xss++[some []]) (ms++[⟨fg w m d,some xss.length⟩]) else rW s w xss ms):=by
 refine aa aS Tryz.func111 rfl rfl false 3 7 rfl rfl rfl rfl fun K hK hb1 hb2=>?_;simp only[ae,enc,Nat.reduceAdd]
 clear hb1 hb2
 have hC:=vI s w.com w.lead w.bad (w.views.map az) xss ms m
 have hpl:=hw.plen
 have hml:=hR.len
 rw[show (bY w.com m && m !=w.bad)=good w m from rfl] at hC
 cases hg:good w m
 ·have hF:ga w m d=false:=by unfold ga;rw[hg];rfl
  rw[hg] at hC
  (repeat' first|refine a9 ?_|refine sa fun xe hxe=>?_|refine sb (fun hq=>?_) fun hq=>?_|refine cr (hC) ?_|exact True.intro)
  rw[hF]
  exact⟨rfl,rfl⟩
 ·rw[hg] at hC
  obtain⟨hm,-⟩:=cZ.1 hg
  obtain⟨hk,hG⟩:=iz hw hm
  have hvl:(w.views.map az).length=w.com.length:=by rw[List.length_map,hw.vlen]
  have hc:=hw.com
  have h7:=(ao.1 hc).2
  have hxv:=AQ (n:=(w.views.map az).length) (m:=m) (by rw[hvl];exact hm)
  have hrl:((List.range (w.views.map az).length).map some).length=w.com.length:=by simp[hvl,hw.vlen]
  have hno:=fun p hp=>Ej (w:=w) (m:=m) (d:=d) (p:=p) hp
  have heq:=Ei (w:=w) (m:=m) (d:=d) hg
  have hH:=H4 s w.com w.lead w.bad (w.views.map az) xss ms m.toNat (view w m) hG hk
  have hlt31:=lm w.com (view w m) 31
  have hT:=fun r h0 h1=>Ff (w.views.map az) m.toNat _ r hk (dh _) ⟨h0,h1⟩
  have hTe:=fun(r:Nat) (hr:r≤30)=>s7 hG hr
  have hAm:=me hG
  rw[show ig w.com (view w m) 31=fv w.com (view w m) from rfl] at hlt31
  rcases Int.lt_or_le (fv w.com (view w m)) 0 with hh|hh
  ·rw[GR hh] at hno heq⊢
   (repeat' first|refine a9 ?_|refine sa fun xe hxe=>?_|refine sb (fun hq=>?_) fun hq=>?_|refine cr (hC) ?_|refine cr (hH) ?_|exact True.intro)
   refine ab hK [] [0,1,7,45,46,47] (fun i:Nat=>⟨[(0,.ptr 4 0),(1,.int .i64 m),(7,.ptr 7 0),(45,.ref 6),(46,.int .i64 ms.length),(47,.int .i64 (i:Int))],rW s w xss ms++[(7,VB.var 48 [.int .i64 0,.int .i64 m,.nils,.int .i64 d])],8⟩) (fun i=>i≤w.props.length∧∀p∈w.props.take i,¬(p.v.author=m∧0≤p.v.round)) (fun i=>w.props.length-i) 0 (by simp) (by(conv=>whnf);rfl) ?_
   rintro i ⟨hi,hall⟩
   by_cases hlt:i<w.props.length
   ·have hxe:w.props[i]?=some w.props[i]:=List.getElem?_eq_getElem hlt
    have hsn:w.props.take (i+1)=w.props.take i++[w.props[i]]:=List.take_succ_eq_append_getElem hlt
    obtain⟨j,hj1,hj2⟩:=hR.get i _ hxe
    have hno:=hno _ (List.getElem_mem hlt)
    generalize w.props[i]=p at *
    by_cases c1:p.v.author=m
    ·by_cases c2:0≤p.v.round
     ·have hF:=hno c1 c2
      (repeat' first|refine a9 ?_|refine sa fun xe hxe=>?_|refine sb (fun hq=>?_) fun hq=>?_|exact True.intro)
      rw[hF]
      exact⟨rfl,rfl⟩
     ·(repeat' first|refine a9 ?_|refine sa fun xe hxe=>?_|refine sb (fun hq=>?_) fun hq=>?_|exact True.intro)
      exact⟨i+1,⟨by omega,by rw[hsn];exact aP hall fun h=>c2 h.2⟩,by omega,rfl⟩
    ·(repeat' first|refine a9 ?_|refine sa fun xe hxe=>?_|refine sb (fun hq=>?_) fun hq=>?_|exact True.intro)
     exact⟨i+1,⟨by omega,by rw[hsn];exact aP hall fun h=>c1 h.1⟩,by omega,rfl⟩
   ·rw[List.take_of_length_le (by omega)] at hall
    have heq:=heq (Bw (by show (0:Int)≤0;omega) fun p hp ha=>by
     have:=hall p hp
     show p.v.round+1≤0
     omega)
    cases hv:(vtxS w.com ⟨0,m,[],d⟩ && decide (w.props.length<220))
    ·rw[hv] at heq
     have hN:=vG s w.com w.lead w.bad (w.views.map az) xss ms ⟨0,m,[],d⟩ hc (by rw[hml];exact hv) (by omega)
     (repeat' first|refine a9 ?_|refine sa fun xe hxe=>?_|refine sb (fun hq=>?_) fun hq=>?_|refine cr (hN) ?_|exact True.intro)
     rw[heq]
     exact⟨rfl,rfl⟩
    ·rw[hv] at heq
     simp only[Bool.and_eq_true,decide_eq_true_eq] at hv
     have hY:=vH s w.com w.lead w.bad (w.views.map az) xss ms ⟨0,m,[],d⟩ hc hv.1 (by omega)
     (repeat' first|refine a9 ?_|refine sa fun xe hxe=>?_|refine sb (fun hq=>?_) fun hq=>?_|refine cr (hY) ?_|exact True.intro)
     refine eK (vw _ _ _ _) ?_
     (conv=>whnf)
     (repeat' first|refine a9 ?_|refine sa fun xe hxe=>?_|refine sb (fun hq=>?_) fun hq=>?_|refine cr (hY) ?_|exact True.intro)
     rw[heq]
     exact⟨rfl,rfl⟩
  ·rw[GT hh] at hno heq⊢
   have hT:=hT (fv w.com (view w m)) hh (by omega)
   rw[hTe (fv w.com (view w m)).toNat (by omega),show (((fv w.com (view w m)).toNat:Nat):Int)=fv w.com (view w m) by omega] at hT
   have hal:=dA (hAm (fv w.com (view w m)))
   (repeat' first|refine a9 ?_|refine sa fun xe hxe=>?_|refine sb (fun hq=>?_) fun hq=>?_|refine cr (hC) ?_|refine cr (hH) ?_|refine co (hT) ?_|exact True.intro)
   refine ab hK [] [0,1,7,45,46,47] (fun i:Nat=>⟨[(0,.ptr 4 0),(1,.int .i64 m),(7,.ptr 7 0),(45,.ref 6),(46,.int .i64 ms.length),(47,.int .i64 (i:Int))],rW s w xss ms++[(7,VB.var 48 [.int .i64 (fv w.com (view w m)+1),.int .i64 m,.ref 8,.int .i64 d]),(8,VB.row 3 (.int .i64) (dJ (view w m) (fv w.com (view w m))))],9⟩) (fun i=>i≤w.props.length∧∀p∈w.props.take i,¬(p.v.author=m∧(fv w.com (view w m)+1)≤p.v.round)) (fun i=>w.props.length-i) 0 (by simp) (by(conv=>whnf);rfl) ?_
   rintro i ⟨hi,hall⟩
   by_cases hlt:i<w.props.length
   ·have hxe:w.props[i]?=some w.props[i]:=List.getElem?_eq_getElem hlt
    have hsn:w.props.take (i+1)=w.props.take i++[w.props[i]]:=List.take_succ_eq_append_getElem hlt
    obtain⟨j,hj1,hj2⟩:=hR.get i _ hxe
    have hno:=hno _ (List.getElem_mem hlt)
    generalize w.props[i]=p at *
    by_cases c1:p.v.author=m
    ·by_cases c2:(fv w.com (view w m)+1)≤p.v.round
     ·have hF:=hno c1 c2
      (repeat' first|refine a9 ?_|refine sa fun xe hxe=>?_|refine sb (fun hq=>?_) fun hq=>?_|exact True.intro)
      rw[hF]
      exact⟨rfl,rfl⟩
     ·(repeat' first|refine a9 ?_|refine sa fun xe hxe=>?_|refine sb (fun hq=>?_) fun hq=>?_|exact True.intro)
      exact⟨i+1,⟨by omega,by rw[hsn];exact aP hall fun h=>c2 h.2⟩,by omega,rfl⟩
    ·(repeat' first|refine a9 ?_|refine sa fun xe hxe=>?_|refine sb (fun hq=>?_) fun hq=>?_|exact True.intro)
     exact⟨i+1,⟨by omega,by rw[hsn];exact aP hall fun h=>c1 h.1⟩,by omega,rfl⟩
   ·rw[List.take_of_length_le (by omega)] at hall
    have heq:=heq (Bw (by show (0:Int)≤(fv w.com (view w m)+1);omega) fun p hp ha=>by
     have:=hall p hp
     show p.v.round+1≤(fv w.com (view w m)+1)
     omega)
    cases hv:(vtxS w.com ⟨(fv w.com (view w m)+1),m,dJ (view w m) (fv w.com (view w m)),d⟩ && decide (w.props.length<220))
    ·rw[hv] at heq
     have hN:=vG s w.com w.lead w.bad (w.views.map az) xss ms ⟨(fv w.com (view w m)+1),m,dJ (view w m) (fv w.com (view w m)),d⟩ hc (by rw[hml];exact hv) (by omega)
     (repeat' first|refine a9 ?_|refine sa fun xe hxe=>?_|refine sb (fun hq=>?_) fun hq=>?_|refine cr (hN) ?_|exact True.intro)
     rw[heq]
     exact⟨rfl,rfl⟩
    ·rw[hv] at heq
     simp only[Bool.and_eq_true,decide_eq_true_eq] at hv
     have hY:=vH s w.com w.lead w.bad (w.views.map az) xss ms ⟨(fv w.com (view w m)+1),m,dJ (view w m) (fv w.com (view w m)),d⟩ hc hv.1 (by omega)
     (repeat' first|refine a9 ?_|refine sa fun xe hxe=>?_|refine sb (fun hq=>?_) fun hq=>?_|refine cr (hY) ?_|exact True.intro)
     refine eK (vw _ _ _ _) ?_
     (conv=>whnf)
     (repeat' first|refine a9 ?_|refine sa fun xe hxe=>?_|refine sb (fun hq=>?_) fun hq=>?_|refine cr (hY) ?_|exact True.intro)
     rw[heq]
     exact⟨rfl,rfl⟩
theorem Au {E:TypeId}{t:Ty}{xs:List (Option (List t.den))}{j:Nat}{o:Option (List t.den)}{ys:List (Option (List t.den))}:aF (VB.frowx E t xs)≤aF (VB.frowx E t (xs.set j o++ys)):=by
 show xs.length≤(xs.set j o++ys).length
 simp
theorem mC {w:Wrl}{i:Int}(hi:m8 w i=true):∃n:Nat,i=n∧n<w.props.length∧w.props[n]?=some (ay w i):=by
 obtain⟨h1,h2,-⟩:=gk hi
 have h0:=(ar.1 hi).1
 exact⟨i.toNat,by omega,h1,h2⟩
theorem wd {w:Wrl}{i:Int}(hi:m8 w i=false):i<0∨(w.props.length:Int)≤i:=by
 rw[Bool.eq_false_iff] at hi
 rcases Int.lt_or_le i 0 with h|h
 ·exact .inl h
 ·refine .inr ?_
  rcases Int.lt_or_le i w.props.length with h2|h2
  ·exact absurd (ar.2 ⟨h,by omega⟩) hi
  ·exact h2
theorem fp {w:Wrl}(hw:WOK w){p:Ppl}(hp:p∈w.props):vtxS w.com p.v=true∧cd w.com p.members=true:=by
 have:=hw.one p hp
 simpa[oneP] using this
theorem km {c:List Int}{v:Vtx}(hc:comV c=true)(h:vtxS c v=true):(v.parents≠[]→1≤v.round∧v.round≤31)∧(∀p∈v.parents,0≤p∧p≤6):=by
 obtain⟨h1,h2,h3,h4,h5,h6⟩:=bc h
 have h7:=(ao.1 hc).2
 refine⟨fun hne=>⟨?_,by omega⟩,fun p hp=>?_⟩
 ·rcases Int.lt_or_le v.round 1 with hlt|hge
  ·exact absurd (h5 (by omega)) hne
  ·exact hge
 ·have:=bf h3 p hp
  omega
theorem zV {w:Wrl}(hw:WOK w){m:Int}(hm:0≤m∧m<w.com.length){v:Vtx}(hv:vtxS w.com v=true):nh (az (view w m)) v=parOK (view w m) v:=by
 have hG:=(iz hw hm).2
 exact yh (fun u hu=>bW hw.com (hG.vtx u hu)) (km hw.com hv).1 (km hw.com hv).2
def tf (w:Wrl)(m i:Int)(k:Nat):Bool:=(k:Int) !=i && (slt (w.props.getD k p0).v (ay w i).v && (w.props.getD k p0).members.contains m)
theorem C3 {w:Wrl}{m i:Int}{k:Nat}(hk:k<w.props.length)(h:tf w m i k=true):C2 w m i=true:=List.any_eq_true.2 ⟨k,List.mem_range.2 hk,h⟩
theorem FI {w:Wrl}{m i:Int}(h:∀k,k<w.props.length→tf w m i k=false):C2 w m i=false:=by
 rw[Bool.eq_false_iff]
 intro h2
 obtain⟨k,hk,h3⟩:=List.any_eq_true.1 h2
 have:=h k (List.mem_range.1 hk)
 rw[show tf w m i k=true from h3] at this
 cases this
theorem DU (s:Int)(w:Wrl)(xss:List (Option (List Int)))(ms:List PplM)(hw:WOK w)(hR:Rel w.props xss ms)(m i:Int)(hi:m8 w i=false):af Tryz.prog 112 [.ptr 4 0,.int .i64 m,.int .i64 i] (rW s w xss ms) (.bool false) (rW s w xss ms):=by
 have hpl:=hw.plen
 have hml:=hR.len
 refine aa aS Tryz.func112 rfl rfl false 3 7 rfl rfl rfl rfl fun K hK hb1 hb2=>?_;simp only[ae,enc,Nat.reduceAdd]
 clear hb1 hb2
 have hP:=vN s w.com w.lead w.bad (w.views.map az) xss ms i (by rw[hml];exact wd hi) (by omega)
 (repeat' first|refine a9 ?_|refine sa fun xe hxe=>?_|refine sb (fun hq=>?_) fun hq=>?_|refine cr (hP) ?_|exact True.intro)
 exact⟨rfl,rfl⟩
set_option maxHeartbeats 1000000 in
theorem Gv (s:Int)(w:Wrl)(xss:List (Option (List Int)))(ms:List PplM)(hw:WOK w)(hR:Rel w.props xss ms)(m:Int)(i j:Nat)(hi:m8 w i=true)(hj1:ms[i]?=some ⟨(ay w i).v,some j⟩)(hj2:xss[j]?=some (some (ay w i).members)):af Tryz.prog 112 [.ptr 4 0,.int .i64 m,.int .i64 (i:Int)] (rW s w xss ms)
  (.bool (fX w m i && !(ay w i).members.contains m)) (if fX w m i && !(ay w i).members.contains m then rW s w (xss.set j none++[some (cH (ay w i).members m)]) (ms.set i ⟨(ay w i).v,some xss.length⟩) else rW s w xss ms):=by
 have hpl:=hw.plen
 have hml:=hR.len
 have hil:=(List.getElem?_eq_some_iff.1 hj1).1
 obtain⟨n,hn,hn1,hn2⟩:=mC hi
 obtain rfl:i=n:=by omega
 obtain⟨o1,o2⟩:=fp hw (List.mem_of_getElem? hn2)
 refine aa aS Tryz.func112 rfl rfl false 3 7 rfl rfl rfl rfl fun K hK hb1 hb2=>?_;simp only[ae,enc,Nat.reduceAdd]
 clear hb1 hb2
 have hP:=vO s w.com w.lead w.bad (w.views.map az) xss ms i (by omega) (by omega)
 have hC:=vI s w.com w.lead w.bad (w.views.map az) xss ms m
 rw[show (bY w.com m && m !=w.bad)=good w m from rfl] at hC
 cases hg:good w m
 ·have hF:fX w m i=false:=by unfold fX;rw[hg];rfl
  rw[hg] at hC
  (repeat' first|refine a9 ?_|refine sa fun xe hxe=>?_|refine sb (fun hq=>?_) fun hq=>?_|refine cr (hP) ?_|refine cr (hC) ?_|exact True.intro)
  rw[hF]
  exact⟨rfl,rfl⟩
 ·rw[hg] at hC
  obtain⟨hm,-⟩:=cZ.1 hg
  obtain⟨hk,hG⟩:=iz hw hm
  have hc:=hw.com
  have h7:=(ao.1 hc).2
  have hvl:(w.views.map az).length=w.com.length:=by rw[List.length_map,hw.vlen]
  have hxv:=AQ (n:=(w.views.map az).length) (m:=m) (by rw[hvl];exact hm)
  have hrl:((List.range (w.views.map az).length).map some).length=w.com.length:=by simp[hvl,hw.vlen]
  have hV:=zW (w.views.map az) m.toNat _ (ay w i).v hk (dh _) (km hc o1).1 (km hc o1).2
  rw[zV hw hm o1] at hV
  cases hp:parOK (view w m) (ay w i).v
  ·have hF:fX w m i=false:=by unfold fX;rw[hp];simp
   rw[hp] at hV
   (repeat' first|refine a9 ?_|refine sa fun xe hxe=>?_|refine sb (fun hq=>?_) fun hq=>?_|refine cr (hP) ?_|refine cr (hC) ?_|refine cr (hV) ?_|exact True.intro)
   rw[hF]
   exact⟨rfl,rfl⟩
  ·rw[hp] at hV
   have hB:fX w m i= !C2 w m i:=by unfold fX;rw[hg,hi,hp];simp
   (repeat' first|refine a9 ?_|refine sa fun xe hxe=>?_|refine sb (fun hq=>?_) fun hq=>?_|refine cr (hP) ?_|refine cr (hC) ?_|refine cr (hV) ?_|exact True.intro)
   refine ab hK [] [0,1,2,7,39,40,41] (fun k:Nat=>⟨[(0,.ptr 4 0),(1,.int .i64 m),(2,.int .i64 (i:Int)),(7,.eptr 6 i 0),(39,.ref 6),(40,.int .i64 ms.length),(41,.int .i64 (k:Int))],rW s w xss ms,7⟩) (fun k=>k≤w.props.length∧∀k',k'<k→tf w m i k'=false) (fun k=>w.props.length-k) 0 (by simp) (by(conv=>whnf);rfl) ?_
   rintro k ⟨hk1,hall⟩
   by_cases hlt:k<w.props.length
   ·have hxe:w.props[k]?=some w.props[k]:=List.getElem?_eq_getElem hlt
    obtain⟨jk,hq1,hq2⟩:=hR.get k _ hxe
    have hyes:=C3 (m:=m) (i:=(i:Int)) hlt
    have hgd:w.props.getD k p0=w.props[k]:=by rw[List.getD_eq_getElem?_getD,hxe];rfl
    have hD:tf w m i k=((k:Int) !=i && (slt w.props[k].v (ay w i).v && w.props[k].members.contains m)):=by unfold tf;rw[hgd]
    generalize w.props[k]=q at *
    have hS:=oN q.v (ay w i).v
    have hN:=gq q.members m
    have jd:tf w m i k=false→∀k',k'<k+1→tf w m i k'=false:=fun h k' hk'=>by
     rcases Nat.lt_or_ge k' k with h1|h1
     ·exact hall k' h1
     ·obtain rfl:k'=k:=by omega
      exact h
    by_cases c1:k=i
    ·have c2:((k:Int) !=i)=false:=by simp[c1]
     rw[c2,Bool.false_and] at hD
     (repeat' first|refine a9 ?_|refine sa fun xe hxe=>?_|refine sb (fun hq=>?_) fun hq=>?_|exact True.intro)
     exact⟨k+1,⟨by omega,jd hD⟩,by omega,rfl⟩
    ·have c2:((k:Int) !=i)=true:=by simp;omega
     rw[c2,Bool.true_and] at hD
     cases c3:slt q.v (ay w i).v
     ·rw[c3] at hD hS
      (repeat' first|refine a9 ?_|refine sa fun xe hxe=>?_|refine sb (fun hq=>?_) fun hq=>?_|refine cr (hS) ?_|exact True.intro)
      exact⟨k+1,⟨by omega,jd hD⟩,by omega,rfl⟩
     ·rw[c3,Bool.true_and] at hD
      rw[c3] at hS
      cases c4:q.members.contains m
      ·rw[c4] at hD hN
       (repeat' first|refine a9 ?_|refine sa fun xe hxe=>?_|refine sb (fun hq=>?_) fun hq=>?_|refine cr (hS) ?_|((with_reducible refine iD ?_);(conv=>whnf))|((first|with_reducible refine bF (hN) ?_);conv=>whnf)|exact True.intro)
       exact⟨k+1,⟨by omega,jd hD⟩,by omega,rfl⟩
      ·rw[c4] at hD hN
       rw[hyes hD] at hB
       (repeat' first|refine a9 ?_|refine sa fun xe hxe=>?_|refine sb (fun hq=>?_) fun hq=>?_|refine cr (hS) ?_|((with_reducible refine iD ?_);(conv=>whnf))|((first|with_reducible refine bF (hN) ?_);conv=>whnf)|exact True.intro)
       rw[hB]
       exact⟨rfl,rfl⟩
   ·rw[FI fun k' hk'=>hall k' (by omega)] at hB
    rw[hB]
    have hl:=dA o2
    have ha:=bG o2
    cases hm2:(ay w i).members.contains m
    ·have hY:=AU xss ms i j _ _ m hj1 hj2 ha (by omega) hm2
     rw[mL ha (by simpa using hm2)] at hY
     (repeat' first|refine a9 ?_|refine sa fun xe hxe=>?_|refine sb (fun hq=>?_) fun hq=>?_|refine cr (hY) ?_|exact True.intro)
     refine eK Au ?_
     (conv=>whnf)
     (repeat' first|refine a9 ?_|refine sa fun xe hxe=>?_|refine sb (fun hq=>?_) fun hq=>?_|refine cr (hY) ?_|exact True.intro)
     exact⟨rfl,rfl⟩
    ·have hY:=AT xss ms i j _ _ m hj1 hj2 ha (by omega) hm2
     (repeat' first|refine a9 ?_|refine sa fun xe hxe=>?_|refine sb (fun hq=>?_) fun hq=>?_|refine cr (hY) ?_|exact True.intro)
     exact⟨rfl,rfl⟩
theorem DJ (s:Int)(w:Wrl)(xss:List (Option (List Int)))(ms:List PplM)(hw:WOK w)(hR:Rel w.props xss ms)(m i:Int)(hi:m8 w i=false):af Tryz.prog 113 [.ptr 4 0,.int .i64 m,.int .i64 i] (rW s w xss ms) (.bool false) (rW s w xss ms):=by
 have hpl:=hw.plen
 have hml:=hR.len
 refine aa aS Tryz.func113 rfl rfl false 3 7 rfl rfl rfl rfl fun K hK hb1 hb2=>?_;simp only[ae,enc,Nat.reduceAdd]
 clear hb1 hb2
 have hP:=vN s w.com w.lead w.bad (w.views.map az) xss ms i (by rw[hml];exact wd hi) (by omega)
 (repeat' first|refine a9 ?_|refine sa fun xe hxe=>?_|refine sb (fun hq=>?_) fun hq=>?_|refine cr (hP) ?_|exact True.intro)
 exact⟨rfl,rfl⟩
abbrev wD (w:Wrl)(m:Int)(v:Vtx):List (List (Option Vtx)):=(w.views.map az).set m.toNat ((az (view w m)).set (jz v) (some v))
theorem EK {w:Wrl}(hw:WOK w){m:Int}(hm:0≤m∧m<w.com.length){v:Vtx}(hv:fK v):(az (view w m))[v.round.toNat * 7+v.author.toNat]?=some ((az (view w m)).getD (v.round.toNat * 7+v.author.toNat) none)∧((az (view w m)).getD (v.round.toNat * 7+v.author.toNat) none).isSome=cA (view w m) v.round v.author:=by
 obtain⟨⟨a1,a2⟩,a3,a4⟩:=hv
 have hG:=(iz hw hm).2
 have:=nZ (fun u hu=>bW hw.com (hG.vtx u hu)) (r:=v.round) (a:=v.author) ⟨a1,a2⟩ ⟨a3,a4⟩
 rw[show (v.round*7+v.author).toNat=v.round.toNat * 7+v.author.toNat by omega] at this
 exact⟨by rw[List.getD_eq_getElem?_getD,List.getElem?_eq_getElem (by rw[dh];omega)];rfl,this⟩
set_option maxHeartbeats 1000000 in
theorem Gh (s:Int)(w:Wrl)(xss:List (Option (List Int)))(ms:List PplM)(hw:WOK w)(hR:Rel w.props xss ms)(m:Int)(i j:Nat)(hi:m8 w i=true)(hj1:ms[i]?=some ⟨(ay w i).v,some j⟩)(hj2:xss[j]?=some (some (ay w i).members)):af Tryz.prog 113 [.ptr 4 0,.int .i64 m,.int .i64 (i:Int)] (rW s w xss ms)
  (.bool (cG w m i)) (if cG w m i then rX s w.com w.lead w.bad (wD w m (ay w i).v) xss ms else rW s w xss ms):=by
 have hpl:=hw.plen
 have hml:=hR.len
 have hil:=(List.getElem?_eq_some_iff.1 hj1).1
 obtain⟨n,hn,hn1,hn2⟩:=mC hi
 obtain rfl:i=n:=by omega
 obtain⟨o1,o2⟩:=fp hw (List.mem_of_getElem? hn2)
 refine aa aS Tryz.func113 rfl rfl false 3 7 rfl rfl rfl rfl fun K hK hb1 hb2=>?_;simp only[ae,enc,Nat.reduceAdd]
 clear hb1 hb2
 have hP:=vO s w.com w.lead w.bad (w.views.map az) xss ms i (by omega) (by omega)
 have hC:=vI s w.com w.lead w.bad (w.views.map az) xss ms m
 rw[show (bY w.com m && m !=w.bad)=good w m from rfl] at hC
 cases hg:good w m
 ·have hF:cG w m i=false:=by unfold cG;rw[hg];rfl
  rw[hg] at hC
  (repeat' first|refine a9 ?_|refine sa fun xe hxe=>?_|refine sb (fun hq=>?_) fun hq=>?_|refine cr (hP) ?_|refine cr (hC) ?_|exact True.intro)
  rw[hF]
  exact⟨rfl,rfl⟩
 ·rw[hg] at hC
  obtain⟨hm,-⟩:=cZ.1 hg
  obtain⟨hk,hG⟩:=iz hw hm
  have hc:=hw.com
  have h7:=(ao.1 hc).2
  have hvl:(w.views.map az).length=w.com.length:=by rw[List.length_map,hw.vlen]
  have hxv:=AQ (n:=(w.views.map az).length) (m:=m) (by rw[hvl];exact hm)
  have hrl:((List.range (w.views.map az).length).map some).length=w.com.length:=by simp[hvl,hw.vlen]
  have hV:=zW (w.views.map az) m.toNat _ (ay w i).v hk (dh _) (km hc o1).1 (km hc o1).2
  rw[zV hw hm o1] at hV
  have hD:=rM w.com (ay w i) hc o2
  obtain⟨hs1,hs2⟩:=EK hw hm (bW hc o1)
  obtain⟨⟨a1,a2⟩,a3,a4⟩:=bW hc o1
  have hpp:=lZ hc o1
  have htl:=dh (view w m)
  cases hd:don w.com (ay w i)
  ·have hF:cG w m i=false:=by unfold cG;rw[hd];simp
   rw[hd] at hD
   (repeat' first|refine a9 ?_|refine sa fun xe hxe=>?_|refine sb (fun hq=>?_) fun hq=>?_|refine cr (hP) ?_|refine cr (hC) ?_|((with_reducible refine iD ?_);(conv=>whnf))|((first|with_reducible refine bF (hD) ?_);conv=>whnf)|exact True.intro)
   rw[hF]
   exact⟨rfl,rfl⟩
  ·rw[hd] at hD
   cases hp:parOK (view w m) (ay w i).v
   ·have hF:cG w m i=false:=by unfold cG;rw[hp];simp
    rw[hp] at hV
    (repeat' first|refine a9 ?_|refine sa fun xe hxe=>?_|refine sb (fun hq=>?_) fun hq=>?_|refine cr (hP) ?_|refine cr (hC) ?_|refine cr (hV) ?_|((with_reducible refine bl ?_);(conv=>whnf);(first|with_reducible refine bF (m7 _ (Nat.le_trans hpp (by omega))) ?_);conv=>whnf)|((with_reducible refine iD ?_);(conv=>whnf))|((first|with_reducible refine bF (hD) ?_);conv=>whnf)|exact True.intro)
    rw[hF]
    exact⟨rfl,rfl⟩
   ·rw[hp] at hV
    have hB:cG w m i= !cA (view w m) (ay w i).v.round (ay w i).v.author:=by unfold cG;rw[hg,hi,hd,hp];simp
    cases ho:(az (view w m)).getD ((ay w i).v.round.toNat * 7+(ay w i).v.author.toNat) none with
    |some u=>
     rw[ho] at hs1 hs2
     rw[←hs2] at hB
     (repeat' first|refine a9 ?_|refine sa fun xe hxe=>?_|refine sb (fun hq=>?_) fun hq=>?_|refine cr (hP) ?_|refine cr (hC) ?_|refine cr (hV) ?_|((with_reducible refine bl ?_);(conv=>whnf);(first|with_reducible refine bF (m7 _ (Nat.le_trans hpp (by omega))) ?_);conv=>whnf)|((with_reducible refine iD ?_);(conv=>whnf))|((first|with_reducible refine bF (hD) ?_);conv=>whnf)|exact True.intro)
     rw[hB]
     exact⟨rfl,rfl⟩
    |none=>
     rw[ho] at hs1 hs2
     rw[←hs2] at hB
     (repeat' first|refine a9 ?_|refine sa fun xe hxe=>?_|refine sb (fun hq=>?_) fun hq=>?_|refine cr (hP) ?_|refine cr (hC) ?_|refine cr (hV) ?_|((with_reducible refine bl ?_);(conv=>whnf);(first|with_reducible refine bF (m7 _ (Nat.le_trans hpp (by omega))) ?_);conv=>whnf)|((with_reducible refine iD ?_);(conv=>whnf))|((first|with_reducible refine bF (hD) ?_);conv=>whnf)|exact True.intro)
     rw[hB]
     refine⟨rfl,?_⟩
     have e:jz (ay w i).v=(ay w i).v.round.toNat * 7+(ay w i).v.author.toNat:=by unfold jz;omega
     have e2:(wD w m (ay w i).v).length=(w.views.map az).length:=List.length_set ..
     show _=rX s w.com w.lead w.bad (wD w m (ay w i).v) xss ms
     delta rX
     rw[e2]
     delta wD
     rw[e]
theorem Dm {w:Wrl}{v:Vtx}(h1:v.author=w.bad)(h2:∀p∈w.props,gL p.v v=false):fZ w v=(vtxS w.com v && decide (w.props.length<220)):=by
 have h3:w.props.any (fun p=>gL p.v v)=false:=by
  rw[List.any_eq_false]
  intro p hp
  rw[h2 p hp]
  simp
 unfold fZ
 rw[h3,h1]
 cases h:vtxS w.com v
 ·simp
 ·have:=(bc h).2.1.1
  rw[decide_eq_true (p:=0≤w.bad) (by omega)]
  simp
set_option maxHeartbeats 1000000 in
theorem A0 (s:Int)(w:Wrl)(xss:List (Option (List Int)))(ms:List PplM)(hw:WOK w)(hR:Rel w.props xss ms)(v:Vtx):af Tryz.prog 114 [.ptr 4 0,bA v] (rW s w xss ms) (.bool (fZ w v)) (if fZ w v then IA s w (xss++[some []]) (ms++[⟨v,some xss.length⟩]) else rW s w xss ms):=by
 have hpl:=hw.plen
 have hml:=hR.len
 have hc:=hw.com
 refine aa aS Tryz.func114 rfl rfl false 3 7 rfl rfl rfl rfl fun K hK hb1 hb2=>?_;simp only[ae,enc,Nat.reduceAdd]
 clear hb1 hb2
 cases c1:v.author !=w.bad
 ·have ha:v.author=w.bad:=by simpa using c1
  (repeat' first|refine a9 ?_|refine sa fun xe hxe=>?_|refine sb (fun hq=>?_) fun hq=>?_|exact True.intro)
  refine ab hK [] [0,3,17,18,19] (fun k:Nat=>⟨[(0,.ptr 4 0),(3,.ptr 7 0),(17,.ref 6),(18,.int .i64 ms.length),(19,.int .i64 (k:Int))],rW s w xss ms++[(7,VB.var 48 (bA v).cells)],8⟩) (fun k=>k≤w.props.length∧∀p∈w.props.take k,gL p.v v=false) (fun k=>w.props.length-k) 0 (by simp) (by(conv=>whnf);rfl) ?_
  rintro k ⟨hk1,hall⟩
  by_cases hlt:k<w.props.length
  ·have hxe:w.props[k]?=some w.props[k]:=List.getElem?_eq_getElem hlt
   have hsn:w.props.take (k+1)=w.props.take k++[w.props[k]]:=List.take_succ_eq_append_getElem hlt
   obtain⟨jk,hq1,hq2⟩:=hR.get k _ hxe
   have hmem:=List.getElem_mem hlt
   generalize w.props[k]=q at *
   have hE:=kI q.v v
   cases c3:gL q.v v
   ·rw[c3] at hE
    (repeat' first|refine a9 ?_|refine sa fun xe hxe=>?_|refine sb (fun hq=>?_) fun hq=>?_|refine cr (hE) ?_|exact True.intro)
    exact⟨k+1,⟨by omega,by rw[hsn];exact aP hall c3⟩,by omega,rfl⟩
   ·have hF:fZ w v=false:=by
     unfold fZ
     rw[List.any_eq_true.2 ⟨q,hmem,c3⟩]
     simp
    rw[c3] at hE
    (repeat' first|refine a9 ?_|refine sa fun xe hxe=>?_|refine sb (fun hq=>?_) fun hq=>?_|refine cr (hE) ?_|exact True.intro)
    rw[hF]
    exact⟨rfl,rfl⟩
  ·rw[List.take_of_length_le (by omega)] at hall
   have heq:=Dm ha hall
   cases hv:(vtxS w.com v && decide (w.props.length<220))
   ·rw[hv] at heq
    have hN:=vG s w.com w.lead w.bad (w.views.map az) xss ms v hc (by rw[hml];exact hv) (by omega)
    (repeat' first|refine a9 ?_|refine sa fun xe hxe=>?_|refine sb (fun hq=>?_) fun hq=>?_|refine cr (hN) ?_|exact True.intro)
    rw[heq]
    exact⟨rfl,rfl⟩
   ·rw[hv] at heq
    simp only[Bool.and_eq_true,decide_eq_true_eq] at hv
    have hY:=vH s w.com w.lead w.bad (w.views.map az) xss ms v hc hv.1 (by omega)
    (repeat' first|refine a9 ?_|refine sa fun xe hxe=>?_|refine sb (fun hq=>?_) fun hq=>?_|refine cr (hY) ?_|exact True.intro)
    refine eK (vw _ _ _ _) ?_
    (conv=>whnf)
    (repeat' first|refine a9 ?_|refine sa fun xe hxe=>?_|refine sb (fun hq=>?_) fun hq=>?_|refine cr (hY) ?_|exact True.intro)
    rw[heq]
    exact⟨rfl,rfl⟩
 ·have hF:fZ w v=false:=by
   have:(v.author==w.bad)=false:=by simpa using c1
   unfold fZ
   rw[this]
   simp
  (repeat' first|refine a9 ?_|refine sa fun xe hxe=>?_|refine sb (fun hq=>?_) fun hq=>?_|exact True.intro)
  rw[hF]
  exact⟨rfl,rfl⟩
theorem DD (s:Int)(w:Wrl)(xss:List (Option (List Int)))(ms:List PplM)(hw:WOK w)(hR:Rel w.props xss ms)(i:Int)(hi:m8 w i=false):af Tryz.prog 115 [.ptr 4 0,.int .i64 i] (rW s w xss ms) (.bool false) (rW s w xss ms):=by
 have hpl:=hw.plen
 have hml:=hR.len
 refine aa aS Tryz.func115 rfl rfl false 3 7 rfl rfl rfl rfl fun K hK hb1 hb2=>?_;simp only[ae,enc,Nat.reduceAdd]
 clear hb1 hb2
 have hP:=vN s w.com w.lead w.bad (w.views.map az) xss ms i (by rw[hml];exact wd hi) (by omega)
 (repeat' first|refine a9 ?_|refine sa fun xe hxe=>?_|refine sb (fun hq=>?_) fun hq=>?_|refine cr (hP) ?_|exact True.intro)
 exact⟨rfl,rfl⟩
theorem Gb (s:Int)(w:Wrl)(xss:List (Option (List Int)))(ms:List PplM)(hw:WOK w)(hR:Rel w.props xss ms)(i j:Nat)(hi:m8 w i=true)(hj1:ms[i]?=some ⟨(ay w i).v,some j⟩)(hj2:xss[j]?=some (some (ay w i).members)):af Tryz.prog 115 [.ptr 4 0,.int .i64 (i:Int)] (rW s w xss ms)
  (.bool (ja w i && !(ay w i).members.contains w.bad)) (if ja w i && !(ay w i).members.contains w.bad then rW s w (xss.set j none++[some (cH (ay w i).members w.bad)]) (ms.set i ⟨(ay w i).v,some xss.length⟩) else rW s w xss ms):=by
 have hpl:=hw.plen
 have hml:=hR.len
 have hil:=(List.getElem?_eq_some_iff.1 hj1).1
 obtain⟨n,hn,hn1,hn2⟩:=mC hi
 obtain rfl:i=n:=by omega
 obtain⟨o1,o2⟩:=fp hw (List.mem_of_getElem? hn2)
 have hl:=dA o2
 have ha:=bG o2
 have h7:=(ao.1 hw.com).2
 refine aa aS Tryz.func115 rfl rfl false 3 7 rfl rfl rfl rfl fun K hK hb1 hb2=>?_;simp only[ae,enc,Nat.reduceAdd]
 clear hb1 hb2
 have hP:=vO s w.com w.lead w.bad (w.views.map az) xss ms i (by omega) (by omega)
 by_cases hb:0≤w.bad
 ·have hB:ja w i=true:=by unfold ja;rw[hi,decide_eq_true hb];rfl
  rw[hB]
  cases hm2:(ay w i).members.contains w.bad
  ·have hY:=AU xss ms i j _ _ w.bad hj1 hj2 ha (by omega) hm2
   rw[mL ha (by simpa using hm2)] at hY
   (repeat' first|refine a9 ?_|refine sa fun xe hxe=>?_|refine sb (fun hq=>?_) fun hq=>?_|refine cr (hP) ?_|refine cr (hY) ?_|exact True.intro)
   refine eK Au ?_
   (conv=>whnf)
   (repeat' first|refine a9 ?_|refine sa fun xe hxe=>?_|refine sb (fun hq=>?_) fun hq=>?_|refine cr (hP) ?_|refine cr (hY) ?_|exact True.intro)
   exact⟨rfl,rfl⟩
  ·have hY:=AT xss ms i j _ _ w.bad hj1 hj2 ha (by omega) hm2
   (repeat' first|refine a9 ?_|refine sa fun xe hxe=>?_|refine sb (fun hq=>?_) fun hq=>?_|refine cr (hP) ?_|refine cr (hY) ?_|exact True.intro)
   exact⟨rfl,rfl⟩
 ·have hB:ja w i=false:=by unfold ja;rw[decide_eq_false hb];rfl
  rw[hB]
  (repeat' first|refine a9 ?_|refine sa fun xe hxe=>?_|refine sb (fun hq=>?_) fun hq=>?_|refine cr (hP) ?_|exact True.intro)
  exact⟨rfl,rfl⟩
end Go.Proofs.YthmfppknagbkeaaGreatDoor.Am
namespace Go.Proofs.YthmfppknagbkeaaGreatDoor.Am
open Go
def Je:Go.Conc.Locks.MuLink:={lock:=109,unlock:=110,ilock:=164,iunlock:=165,lockSlow:=196,unlockSlow:=199,disable:=192,enable:=194,acquire:=195,relMerge:=197,cas32:=193,add32:=198,tMutex:=109,tIMutex:=107,tPMutex:=191,tPIMutex:=207,tPI32:=209,tUP:=211,tNoCopy:=104,tU32:=105}
theorem Br:Go.Conc.Locks.MuLib Tryz.prog Je:=
 ⟨Tryz.func109,Tryz.func110,Tryz.func164,Tryz.func165,Tryz.func192,Tryz.func194,Tryz.func195,Tryz.func197,Tryz.func193,Tryz.func198,Tryz.underlying107,Tryz.runUnderlying107,Tryz.sizeOf107,Tryz.isAgg107,Tryz.zeroValue107,Tryz.underlying109,Tryz.runUnderlying109,Tryz.sizeOf109,Tryz.isAgg109,Tryz.zeroValue109,Tryz.underlying191,Tryz.runUnderlying191,Tryz.sizeOf191,Tryz.isAgg191,Tryz.zeroValue191,Tryz.underlying207,Tryz.runUnderlying207,Tryz.sizeOf207,Tryz.isAgg207,Tryz.zeroValue207,Tryz.underlying209,Tryz.runUnderlying209,Tryz.sizeOf209,Tryz.isAgg209,Tryz.zeroValue209,Tryz.underlying211,Tryz.runUnderlying211,Tryz.sizeOf211,Tryz.isAgg211,Tryz.zeroValue211,Tryz.underlying104,Tryz.runUnderlying104,Tryz.sizeOf104,Tryz.isAgg104,Tryz.zeroValue104,Tryz.underlying21,Tryz.runUnderlying21,Tryz.sizeOf21,Tryz.isAgg21,Tryz.zeroValue21,(by kernel_rfl)⟩
end Go.Proofs.YthmfppknagbkeaaGreatDoor.Am
namespace Go.Proofs.YthmfppknagbkeaaGreatDoor.Am
open Go Go.RowKit
variable {P:Program} {w0:World} {S:SD} {A:Nat→Prop} {N:Nat} {ρ:Id→Pl} {t:List (Nat×D)} {h:HL} {a:Act} {w:World}
theorem pk {g:Nat}{c:Array Value}{T:TypeId}{v:Value}(hg:w.heap[g]?=some (.cells c T (0,0))):w.setCell ⟨g,0,none⟩ v=w.setRow g (c.setIfInBounds 0 v):=by
 have:w.heap.modify g (fun o=>match o with
   | .cells cs E fr=>.cells (cs.setIfInBounds 0 v) E fr
   |o=>o)=w.heap.modify g (fun o=>match o with
   | .cells _ E fr=>.cells (c.setIfInBounds 0 v) E fr
   |o=>o):=by
  apply Array.ext_getElem?
  intro i
  rw[Array.getElem?_modify,Array.getElem?_modify]
  by_cases e:g=i
  ·subst e
   simp[hg]
  ·simp[e]
 simp only[World.setCell,World.setRow]
 first|exact congrArg (fun x=>{w with heap:=x}) this|simpa using this
theorem Sim.cell0 (s:Sim P w0 S A N ρ t h a w){b:Id}{T:TypeId}{x:D}{cs:List D}(hb:look h b=some (.var T (x::cs)))(k:IntKind)(n:Int):Sim P w0 S A N ρ t (put b (.var T (.int k n::cs)) h) a (w.setCell ⟨(ρ b).blk,0,none⟩ (.int k n)):=by
 obtain⟨c,g1,g2,g3⟩:=s.blk b _ hb
 rw[pk g1]
 refine s.write hb rfl _ fun hC hR=>⟨_,setRow_heap w _ c _ T _ g1,by simpa using g2,fun j hj=>?_⟩
 have hpos:0<c.size:=by rw[g2];simp
 cases j with
 |zero=>
  have:(c.setIfInBounds 0 (.int k n)).getD 0 undef= .int k n:=by simp[Array.getD_eq_getD_getElem?,hpos]
  rw[this]
  exact C.int k n
 |succ j=>
  have:(c.setIfInBounds 0 (.int k n)).getD (j+1) undef=c.getD (j+1) undef:=by simp[Array.getD_eq_getD_getElem?,Array.getElem?_setIfInBounds_ne]
  rw[this]
  exact hC _ _ (g3 (j+1) (by simpa using hj))
theorem Sim.at0 (s:Sim P w0 S A N ρ t h a w){b:Id}{T:TypeId}{k:IntKind}{n:Int}{cs:List D}(hb:look h b=some (.var T (.int k n::cs))):w.cell? ⟨(ρ b).blk,0,none⟩=some (.int k n)∧w.frozen? ⟨(ρ b).blk,0,none⟩=false:=by
 obtain⟨c,g1,g2,g3⟩:=s.blk b _ hb
 have hpos:0<c.size:=by rw[g2];simp
 have h1:=(g3 0 (by simp)).int_inv
 rw[Array.getD_eq_getD_getElem?,Array.getElem?_eq_getElem hpos,Option.getD_some] at h1
 refine⟨?_,?_⟩
 ·simp[World.cell?,g1,Array.getElem?_eq_getElem hpos,h1]
 ·simp[World.frozen?,g1]
theorem HF {vs:Array Value}(h:1=vs.size):∃v,vs= #[v]:=by
 refine⟨vs[0],Array.ext (by simp;omega) fun i h1 h2=>?_⟩
 match i,h2 with
 |0,_=>rfl
theorem zM {L:Go.Conc.Locks.MuLink}(H:Go.Conc.Locks.MuLib P L){h:HL}{b:Id}{T:TypeId}{cs:List D}(hb:look h b=some (.var T (.int .i32 0::cs))):
  ∀hout:HL,(∀b',look hout b'=look (put b (.var T (.int .i32 1::cs)) h) b')→Con P L.lock [.ptr b 0] h (.tup []) hout:=by
 intro hout hh
 refine⟨⟨_,H.f_lock,rfl,rfl⟩,fun w A ρ vs s hl hcv=>?_⟩
 obtain⟨v,rfl⟩:=HF hl
 obtain⟨-,e0⟩:=(hcv 0 (by simp)).ptr_inv
 have e0:v= .pointer (some ⟨(ρ b).blk,0,none⟩):=e0
 subst e0
 obtain⟨q1,q2⟩:=s.at0 hb
 refine(Go.MuLone.lock_free H _ w q1 q2).mono ?_
 rintro e w' ⟨rfl,rfl⟩
 exact⟨_,ρ,rfl,fun b' hb'=>⟨rfl,by
  have:Live (put b (.var T (.int .i32 1::cs)) h) b':=hb'.put
  unfold Live at this⊢
  rw[hh]
  exact this⟩,(s.cell0 hb _ _).congr (fun _=>rfl) hh,.tup [] #[] rfl (fun i hi=>by simp at hi)⟩
theorem yy {L:Go.Conc.Locks.MuLink}(H:Go.Conc.Locks.MuLib P L){h:VH}{T:TypeId}{cs:List V}(hb:look h 4=some (.var T (.int .i32 0::cs))):af P L.lock [.ptr 4 0] h (.tup []) (put 4 (.var T (.int .i32 1::cs)) h):=by
 refine zM (cs:=ah cs) H (am (i:=0) hb rfl) _ fun b'=>?_
 obtain⟨b1,b2⟩:=b'
 rw[ak,ai,ai,ak]
 by_cases e:b1=4
 ·subst e
  rw[if_pos rfl,hb]
  cases b2 with
  |zero=>rw[if_pos rfl];rfl
  |succ j=>rw[if_neg (by simp)];rfl
 ·rw[if_neg e,if_neg (fun h=>e (Prod.mk.inj h).1)]
def dU (fu:FuncId)(g:Nat):Deferred:={target:=.fn (.func fu) #[],args:=#[]++ #[.pointer (some ⟨g,0,none⟩)]}
theorem Sim.defs {dfs:List Deferred}(s:Sim P w0 S A N ρ t h a w):Sim P w0 ⟨S.S,dfs⟩ A N ρ t h {a with defers:=dfs} w:=
 ⟨s.base,s.inS,s.fr,rfl,s.size,s.tmp,s.blk,s.own,s.inj,s.gl⟩
theorem SimS.defs {dfs:List Deferred}{ρ0:Id→Pl}{K:Id→Prop}{σ:St}(s:SimS P w0 S A N ρ0 K σ a w):SimS P w0 ⟨S.S,dfs⟩ A N ρ0 K σ {a with defers:=dfs} w:=by
 obtain⟨h1,h2,ρ,h3,h4⟩:=s
 exact⟨h1,h2,ρ,h3,h4.defs⟩
def qF (P:Program)(N:Nat)(K:Id→Prop)(fu:FuncId)(b:Id)(c:Code)(σ:St)(e:Exit)(σ':St):Prop:=
 ∀w0 S A ρ0 a w,S.dfs=[]→SimS P w0 S A N ρ0 K σ a w→c.wp P (fun e' a' w'=>e'=e∧SimS P w0 ⟨S.S,[dU fu (ρ0 b).blk]⟩ A N ρ0 K σ' a' w') a w
def Fx (P:Program)(N:Nat)(K:Id→Prop)(fu:FuncId)(b:Id)(c:Code)(Q:Exit→VSt→Prop)(σ:VSt):Prop:=∃e σ',qF P N K fu b c σ.toD e σ'.toD∧(eZ P N K σ'.toD→Q e σ')
variable {K:Id→Prop} {fu:FuncId} {b:Id} {Q:Exit→VSt→Prop} {σ:VSt}
theorem oo {c:Code}{σ:St}(h:¬eZ P N K σ)(e:Exit)(σ':St):qF P N K fu b c σ e σ':=fun w0 S A ρ0 a w _ hs=>absurd ⟨w0,S,A,ρ0,a,w,hs⟩ h
theorem nl {x y:Code}(h:At P N K x (fun e σ=>e= .normal∧Fx P N K fu b y Q σ) σ):Fx P N K fu b (.seq x y) Q σ:=by
 obtain⟨e,σ1,h1,h2⟩:=h
 rcases Classical.em (eZ P N K σ1.toD) with hr|hr
 ·obtain⟨rfl,e2,σ2,h3,h4⟩:=h2 hr
  refine⟨e2,σ2,fun w0 S A ρ0 a w hd hs=>wp_seq (wp_mono (h1 w0 S A ρ0 a w hs) ?_),h4⟩
  rintro e' a' w' ⟨rfl,hs'⟩
  exact h3 w0 S A ρ0 a' w' hd hs'
 ·rcases Classical.em (eZ P N K σ.toD) with hr0|hr0
  ·refine⟨e,σ1,fun w0 S A ρ0 a w hd hs=>wp_seq (wp_mono (h1 w0 S A ρ0 a w hs) ?_),fun h=>absurd h hr⟩
   rintro e' a' w' ⟨rfl,hs'⟩
   exact absurd ⟨_,_,_,_,_,_,hs'⟩ hr
  ·exact⟨.normal,σ1,oo hr0 _ _,fun h=>absurd h hr⟩
theorem s0 {x y:Code}(h:Fx P N K fu b x (fun e σ=>e= .normal∧At P N K y Q σ) σ):Fx P N K fu b (.seq x y) Q σ:=by
 obtain⟨e,σ1,h1,h2⟩:=h
 rcases Classical.em (eZ P N K σ1.toD) with hr|hr
 ·obtain⟨rfl,e2,σ2,h3,h4⟩:=h2 hr
  refine⟨e2,σ2,fun w0 S A ρ0 a w hd hs=>wp_seq (wp_mono (h1 w0 S A ρ0 a w hd hs) ?_),h4⟩
  rintro e' a' w' ⟨rfl,hs'⟩
  exact h3 w0 _ A ρ0 a' w' hs'
 ·refine⟨e,σ1,fun w0 S A ρ0 a w hd hs=>wp_seq (wp_mono (h1 w0 S A ρ0 a w hd hs) ?_),fun h=>absurd h hr⟩
  rintro e' a' w' ⟨rfl,hs'⟩
  exact absurd ⟨_,_,_,_,_,_,hs'⟩ hr
theorem uk {ops:Array Oper}{ρ0:Id→Pl}{Q:Exit→Act→World→Prop}{r:List Nat}:∀(L:List (Oper×Rc)) (k:Nat) (t:List (Nat×D)) (h:HL) (n:Nat) (a:Act) (w:World) (ρ:Id→Pl),TRun P ops N t h n L→(∀b:Id,n≤b.1→look h b=none)→
  (∀b,K b→Live h b)→(∀b,K b→ρ b=ρ0 b)→(∀i,i<L.length→ops[k+i]?=(L[i]?).map (·.1))→Sim P w0 S A N ρ t h a w→
  (∀ρ a w,(∀b,K b→ρ b=ρ0 b)→Sim P w0 S A N ρ (gK (fun _=>true) k L t) (fW (fun _=>true) k L h) a w→wpOps P ops Q r a w)→wpOps P ops Q (List.range' k L.length++r) a w
 |[],k,t,h,n,a,w,ρ,_,_,_,hρ,_,s,hq=>hq ρ a w hρ s
 |(o,rc)::L,k,t,h,n,a,w,ρ,hT,hn,hK,hρ,hops,s,hq=>by
  obtain⟨⟨rfl,h1,h2,h3⟩,h4,h5⟩:=hT
  simp only[List.length_cons,List.range'_succ,List.cons_append]
  rw[wpOps_cons]
  unfold wpOp
  have ho:ops[k]?=some o:=by simpa using hops 0 (by simp)
  rw[ho]
  simp only
  have hn':∀b:Id,rc.n'≤b.1→look (puts rc.u h) b=none:=by
   intro b hb
   rw[ax _ _ _ fun x hx e=>by have:=h2 x hx;rw[e] at this;omega]
   exact hn b (by omega)
  have jd:∀(ρ':Id→Pl) (v:Value) (w':World),Ext h ρ ρ'→Sim P w0 S A N ρ' (fh o.dst rc.d t) (puts rc.u h) (a.put o.dst v) w'→wpOps P ops Q (List.range' (k+1) L.length++r) (a.put o.dst v) w':=by
   intro ρ' v w' hex s'
   exact uk L (k+1) _ _ rc.n' _ w' ρ' h5 hn' (fun b hb=>ke _ _ _ (hK b hb)) (fun b hb=>(hex b (hK b hb)).trans (hρ b hb)) (fun i hi=>by rw[show k+1+i=k+(i+1) by omega];exact hops (i+1) (by simpa using hi)) s' hq
  rcases h4 with⟨g1,g2⟩|⟨g1,g2,g3,g4⟩
  ·rw[s.guard g1]
   simp only[if_true]
   left
   have hw:=g2 t h (fun x hx=>rfl) (fun b hb=>rfl) _ _ _ ρ a w s
   refine Reg.wp_exit_mono (K:=pE P w0 S A N ρ t h (puts rc.u h) a o.dst rc.d) ?_ hw
   rintro a' w' ⟨v,ρ',rfl,hex,q1,q2⟩
   exact jd ρ' v w' hex (q1.putO h3 q2)
  ·rw[s.guard g1]
   simp only[Bool.false_eq_true,if_false]
   refine jd ρ undef w (Ext.refl _ _) ?_
   rw[g2,g3]
   exact s.putO h3 (.tup [] #[] rfl fun i hi=>absurd hi (Nat.not_lt_zero i))
theorem wT {Θ:TT}(hΘ:Θ.ok P){id:Nat}{ops:Array Oper}{l:List Oper}{od:Oper}{x:Tmp}{Ts:Array TypeId}(hops:ops.toList=l++[od])(hod:od.op= .defer {callee:=.value (.func fu),args:=#[.tmp x],argTypes:=Ts}∧od.guard=none∧od.dst=none)
  (hx:x<N) (h:jM P Θ ops (fun _=>[]) false N l 0 [] σ (fun σ=>look (eq σ.t) x=some (.ptr b 0)∧K b∧Q .normal σ)):Fx P N K fu b (.region id ops false) Q σ:=by
 rcases Classical.em (¬eZ P N K σ.toD) with hr|hr
 ·exact⟨.normal,σ,oo hr _ _,fun h=>absurd h hr⟩
 have hr:=Classical.not_not.1 hr
 have hfr:ko σ:=by obtain⟨w0,S,A,ρ0,a,w,hs⟩:=hr;exact hs.1
 obtain⟨σ',⟨q1,q2,q3⟩,h2⟩:=lW hΘ hfr h
 obtain⟨L,l1,l2,l3,l4,l5,_⟩:=h2 [] fun h=>by cases h
 refine⟨.normal,σ',?_,fun _=>q3⟩
 rintro w0 S A ρ0 a w hd ⟨hn,hK,ρ,hρ,s⟩
 refine wp_region ?_
 have hll:L.length=l.length:=by rw[←l1,List.length_map]
 have hsz:ops.size=L.length+1:=by have:=congrArg List.length hops;simp only[Array.length_toList,List.length_append,List.length_singleton] at this;omega
 have hget:∀i:Nat,ops[i]?=(l++[od])[i]?:=fun i=>by rw[←hops];simp
 rw[hsz,List.range_eq_range',List.range'_concat]
 simp only[Nat.one_mul,Nat.zero_add]
 refine uk L 0 _ _ _ a w ρ l2 hn hK hρ (fun i hi=>?_) s fun ρ' a' w' hρ' s'=>?_
 ·rw[Nat.zero_add,hget,List.getElem?_append_left (by omega),←l1,List.getElem?_map]
 ·obtain⟨od1,od2,od3⟩:=hod
  have s2:=s'.congr (t':=eq σ'.t) (h':=toH σ'.h) (fun x=>(l3 x)) (fun b=>(l4 b))
  have hv:=(s2.tmp x _ q1).2
  obtain⟨-,hv⟩:=hv.ptr_inv
  rw[hρ' b q2] at hv
  have ho:ops[L.length]?=some od:=by rw[hget,hll,List.getElem?_append_right (Nat.le_refl _)];simp
  simp only[wpOps,ho]
  have hwant:Region.wanted od (yielded ops a'.tmps)=true:=by simp[Region.wanted,od2]
  rw[if_pos hwant]
  left
  have hex:(execOp a'.eval od).run P w'= .ok (.defer (dU fu (ρ0 b).blk)) w':=by
   have he:a'.eval (.tmp x)= .pointer (some ⟨(ρ0 b).blk,0,none⟩):=by
    rw[←hv];rfl
   obtain⟨dst,op,ty,pos,after,guard⟩:=od
   subst od1
   simp only[execOp,resolve,List.map_toArray,List.map_cons,List.map_nil,he]
   rfl
  unfold Oper.wp
  rw[hex,Oper.upon_defer,od3]
  have hdf:a'.defers=[]:=s2.defers.trans hd
  refine⟨trivial,l5,fun b hb=>?_,ρ',hρ',?_⟩
  ·have:=jH (fun _=>true) L 0 (toH σ.h) b (hK b hb)
   show Live (toH σ'.h) b
   unfold Live at this⊢
   rw[l4]
   exact this
  ·have:=s2.defs (dfs:=[dU fu (ρ0 b).blk])
   rw[hdf]
   exact this
theorem Di {w:World}{hin:HL}{ρ:Id→Pl}{fn:Func}{N:Nat}{σ:St}{a':Act}{w':World}{r:D}{hout:HL}{ρ1:Id→Pl}(hK:∀b,Live hin b→Live σ.h b)(hρ1:∀b,Live hin b→ρ1 b=ρ b)(s1:Sim P w (sQ ρ hin) A N ρ1 σ.t σ.h a' w')
  (hr:mc P fn.results.toList (Live hin) σ r hout):∃u,(results fn a'.tmps).run P w'= .ok u w'∧∃v ρ'',Ending.returned u= .returned v∧(∀b,Live hin b→ρ'' b=ρ b∧Live hout b)∧Sim P w (sQ ρ hin) A 0 ρ'' [] hout fI w'∧C ρ'' (Live hout) (okOf A ρ'' hout w') w' r v:=by
 obtain⟨ds',bs,g,hrds,hrn,hren,hkeep⟩:=hr
 obtain⟨vs',r1,r2,r3⟩:=s1.results (f:=G0 a'.tmps) (fun r=>by cases r<;>rfl) hrds
 have hone:=BD r2 r3
 have hrun:(results fn a'.tmps).run P w'= .ok (if h:vs'.toArray.size=1 then vs'.toArray[0] else .tuple vs'.toArray) w':=by
  rw[pb,Array.mapM_eq_mapM_toList,Sem.run_bind,map_eq_pure_bind,Sem.run_bind,r1]
  rfl
 generalize (if h:vs'.toArray.size=1 then vs'.toArray[0] else Value.tuple vs'.toArray)=u at *
 obtain⟨q1,q2,q3⟩:=s1.frz_ok bs
 have hcu:C ρ1 (Live (puts (frz σ.h bs) σ.h)) (okOf A ρ1 (puts (frz σ.h bs) σ.h) w') w' (one ds') u:=hone.mono (fun b hb=>⟨jr hb,rfl⟩) (fun k hk=>⟨⟨hk.1,fun b y hy hmu=>by
  rcases q2 b with q|⟨y',z1,z2⟩
  ·rw[q] at hy;exact hk.2 b y hy hmu
  ·rw[z2] at hy
   obtain rfl:=Option.some.inj hy
   rw[(ia z1).2.1] at hmu;cases hmu⟩,rfl⟩)
 obtain⟨s3,hok3⟩:=q1.ren (N':=0) (a':=fI) (t':=[]) hren rfl rfl (fun k d' hk=>by cases hk)
 exact⟨u,hrun,u,fun b=>ρ1 (g b),rfl,fun b hb=>⟨by show ρ1 (g b)=_;rw[(hkeep b hb (hK b hb)).1];exact hρ1 b hb,(hkeep b hb (hK b hb)).2⟩,s3,q1.rn hok3 hrn hcu⟩
theorem q8 {L : Go.Conc.Locks.MuLink} (H : Go.Conc.Locks.MuLib P L) {f : FuncId} {fn : Func} {c : Code} (hf : P.funcs[f]? = some fn) (hb : fn.body = some c) (hname : (fn.name == "runtime.NumGoroutine") = false) {N : Nat} {rs : List ResultVar} (hN : fn.ntmps = N) (hrs : fn.results.toList = rs) {ds : List D} {hin : HL} {n0 : Nat} {r : D} {hout : HL}
  (hl:ds.length≤N) (hn0:∀b:Id,n0≤b.1→look hin b=none) (hLb:Live hin b)
  (hF:(∀d∈ds,bnd 6 d)→(∀b x,look hin b=some x→bndB 6 x)→∃e σ,qF P N (Live hin) L.unlock b c ⟨pU ds,hin,n0⟩ e σ∧(eZ P N (Live hin) σ→(e= .normal∨e= .ret)∧∃T cs h2,look σ.h b=some (.var T (.int .i32 1::cs))∧(∀b',look h2 b'=look (put b (.var T (.int .i32 0::cs)) σ.h) b')∧mc P rs (Live hin) ⟨σ.t,h2,σ.n⟩ r hout)):Con P f ds hin r hout:=by
 subst hN hrs
 refine⟨⟨fn,hf,by rw[hb];rfl,hname⟩,fun w A ρ vs s hlen hv=>?_⟩
 obtain⟨e,σ,hA,hfin⟩:=hF (fun d hd=>by
  obtain⟨i,hi,rfl⟩:=a7 hd
  exact(hv i hi).bnd 6) (fun b x hx=>s.bndB 6 hx)
 refine calls_of_wp_defers hf hb ?_
 have hs0:SimS P w (sQ ρ hin) A fn.ntmps ρ (Live hin) ⟨pU ds,hin,n0⟩ {tmps:=vs++Array.replicate (fn.ntmps-vs.size) undef,defers:=[]} w:=by
  refine⟨hn0,fun b hb=>hb,ρ,fun b hb=>rfl,s.base,s.inS,s.fr,rfl,by simp;omega,fun k d hk=>?_,s.blk,s.own,s.inj,s.gl⟩
  have hk2:look ((ds.zipIdx 0).map fun x=>(x.2,x.1)) k=some d:=hk
  rw[mA] at hk2
  simp only[Nat.zero_le,if_true,Nat.sub_zero] at hk2
  have hk':k<ds.length:=(List.getElem?_eq_some_iff.1 hk2).1
  refine⟨by omega,?_⟩
  have:=hv k hk'
  rw[List.getD_eq_getElem?_getD,hk2] at this
  have hkv:k<vs.size:=by omega
  simpa[Array.getD_eq_getD_getElem?,Array.getElem?_append,hkv] using this
 refine wp_mono (hA _ _ _ ρ _ w rfl hs0) ?_
 clear hA
 rintro e' a' w' ⟨rfl,hs1⟩
 obtain⟨he,T,cs,h2,hlk,hh2,hres⟩:=hfin ⟨_,_,_,_,_,_,hs1⟩
 clear hfin
 obtain⟨hn,hK,ρ1,hρ1,s1⟩:=hs1
 have hdf:a'.defers=[dU L.unlock (ρ b).blk]:=s1.defers
 have hlv:Leaves P fn a'.tmps (fun e w'=>∃u ρ',e= .returned u∧(∀b,Live hin b→ρ' b=ρ b∧Live hout b)∧Sim P w (sQ ρ hin) A 0 ρ' [] hout fI w'∧C ρ' (Live hout) (okOf A ρ' hout w') w' r u) a'.defers .returning w':=by
  obtain⟨c1,c2⟩:=s1.at0 hlk
  rw[hρ1 b hLb] at c1 c2
  rw[hdf]
  refine leaves_cons (f:=L.unlock) (args:=#[.pointer (some ⟨(ρ b).blk,0,none⟩)]) (by simp) ?_ ?_
  ·simp[invoke,callFunc,H.f_unlock,go_sem]
   rfl
  ·refine(Go.MuLone.unlock_deferred H _ .returning w' c1 c2).mono ?_
   rintro e u' w'' ⟨rfl,rfl,rfl⟩
   have s2:=(s1.cell0 hlk .i32 0).defs (dfs:=[])
   rw[hρ1 b hLb] at s2
   exact Di (a':={a' with defers:=[]}) (σ:=⟨σ.t,h2,σ.n⟩) (fun b2 hb2=>by
    have:Live (put b (.var T (.int .i32 0::cs)) σ.h) b2:=(hK b2 hb2).put
    unfold Live at this⊢
    rw[hh2]
    exact this) hρ1 (s2.congr (fun _=>rfl) hh2) hres
 rcases he with rfl|rfl<;>exact hlv
def ET (σ:VSt)(Q:VSt→Prop):Prop:=match aC σ.h 4 with
 |some (.var T (.int .i32 1::cs))=>Q ⟨σ.t,put 4 (.var T (.int .i32 0::cs)) σ.h,σ.n⟩
 |_=>False
theorem CX {L : Go.Conc.Locks.MuLink} (H : Go.Conc.Locks.MuLib P L) {Θ : TT} (hΘ : Θ.ok P) {f : FuncId} {fn : Func} {c : Code} (hf : P.funcs[f]? = some fn) (hb : fn.body = some c) (hname : (fn.name == "runtime.NumGoroutine") = false) (pr : Bool) {vs : List V} {hin : VH} (m n0 : Nat) (hn0 : 4 + m = n0) (hlt : vY n0 hin = true) (hnd : gD (keysV hin) = true) (hl : Nat.ble vs.length fn.ntmps = true)
  (hlb:Live (toH hin) (4,0)) {R:V→VH→Prop} {r0:V} {hout0:VH} (h0:R r0 hout0)
  (h:∀K,KB m K→K (4,0)→(∀d∈ah vs,bnd 6 d)→(∀x∈hin,∀d∈x.2.blks,bndB 6 d)→Fx P fn.ntmps K L.unlock (4,0) c (Dh fun σ=>ET σ fun σ=>vt Θ fn.results.toList m pr σ fun r hout=>m3 (jm hin) r hout (R r)) ⟨ae vs 0,hin,n0⟩):∃r hout,R r hout∧af P f vs hin r hout:=by
 have hlen:(ah vs).length≤fn.ntmps:=by rw[aw];exact Nat.le_of_ble_eq_true hl
 have e1:pU (ah vs)=eq (ae vs 0):=ol vs 0
 have hfr:=p7 hlt
 have hK:KB m (Live (toH hin)):=by
  intro b hb
  rcases Nat.lt_or_ge b.1 (4+m) with hlt|hge
  ·exact hlt
  ·unfold Live at hb
   rw[hfr b (by omega)] at hb
   cases hb
 have hbnd:(∀b x,look (toH hin) b=some x→bndB 6 x)→∀x∈hin,∀d∈x.2.blks,bndB 6 d:=by
  rintro hq ⟨k,x⟩ hx d hd
  obtain⟨i,hi⟩:=List.getElem?_of_mem hd
  exact hq (k,i) d (am (fe (by rw[dz];exact fA hnd) hx) hi)
 rcases Classical.em ((∀d∈ah vs,bnd 6 d)∧∀b x,look (toH hin) b=some x→bndB 6 x) with hbb|hbb
 ·obtain⟨e,σ',h1,h2⟩:=h _ hK hlb hbb.1 (hbnd hbb.2)
  rcases Classical.em (eZ P fn.ntmps (Live (toH hin)) σ'.toD) with hr|hr
  ·have h3:=h2 hr
   have hfin:(e= .normal∨e= .ret)∧ET σ' fun σ=>vt Θ fn.results.toList m pr σ fun r hout=>m3 (jm hin) r hout (R r):=by
    cases e with
    |normal=>exact⟨.inl rfl,h3⟩
    |ret=>exact⟨.inr rfl,h3⟩
    |_=>exact h3.elim
   obtain⟨he,hfin⟩:=hfin
   unfold ET at hfin
   split at hfin
   ·rename_i T cs hlk
    rw[aD] at hlk
    obtain⟨r,hout1,q1,q2⟩:=xm hΘ hK hfin
    obtain⟨hout,q1,q2⟩:=tr (fun b hb hlt=>by
     unfold Live at hb
     rw[ak] at hb
     obtain⟨d,hd⟩:=Option.isSome_iff_exists.1 hb
     obtain⟨y,hy,-⟩:=Option.bind_eq_some_iff.1 hd
     simp only[jm,List.mem_filter]
     exact⟨by rw[←dz];exact List.mem_map.2 ⟨_,bT hy,rfl⟩,by simpa[Nat.blt_eq] using hlt⟩) q1 q2
    refine⟨r,hout,q2,q8 H hf hb hname rfl rfl hlen hfr hlb fun _ _=>⟨e,σ'.toD,?_,fun _=>⟨he,T,ah cs,toH (put 4 (.var T (.int .i32 0::cs)) σ'.h),am (i:=0) hlk rfl,fun b'=>?_,q1⟩⟩⟩
    ·rw[e1]
     exact h1
    ·show look (toH (put 4 (.var T (.int .i32 0::cs)) σ'.h)) b'=look (put (4,0) (.var T (ah (.int .i32 0::cs))) (toH σ'.h)) b'
     obtain⟨b1,b2⟩:=b'
     rw[ak,ai,ai,ak]
     by_cases e:b1=4
     ·subst e
      rw[if_pos rfl,hlk]
      cases b2 with
      |zero=>rw[if_pos rfl];rfl
      |succ j=>rw[if_neg (by simp)];rfl
     ·rw[if_neg e,if_neg (fun h=>e (Prod.mk.inj h).1)]
   ·exact hfin.elim
  ·refine⟨r0,hout0,h0,q8 H hf hb hname rfl rfl hlen hfr hlb fun _ _=>⟨e,σ'.toD,?_,fun h=>absurd h hr⟩⟩
   rw[e1]
   exact h1
 ·exact⟨r0,hout0,h0,q8 H hf hb hname rfl rfl hlen hfr hlb fun b1 b2=>absurd ⟨b1,b2⟩ hbb⟩
theorem w5 {L : Go.Conc.Locks.MuLink} (H : Go.Conc.Locks.MuLib P L) {Θ : TT} (hΘ : Θ.ok P) {f : FuncId} {fn : Func} {c : Code} (hf : P.funcs[f]? = some fn) (hb : fn.body = some c) (hname : (fn.name == "runtime.NumGoroutine") = false) (pr : Bool) {vs : List V} {hin : VH} (m n0 : Nat) (hn0 : 4 + m = n0) (hlt : vY n0 hin = true) (hnd : gD (keysV hin) = true) (hl : Nat.ble vs.length fn.ntmps = true) (hlb : Live (toH hin) (4, 0)) {r : V} {hout : VH}
  (h:∀K,KB m K→K (4,0)→(∀d∈ah vs,bnd 6 d)→(∀x∈hin,∀d∈x.2.blks,bndB 6 d)→Fx P fn.ntmps K L.unlock (4,0) c (Dh fun σ=>ET σ fun σ=>vt Θ fn.results.toList m pr σ fun r' hout'=>m3 (jm hin) r' hout' fun hout'=>r'=r∧hout'=hout) ⟨ae vs 0,hin,n0⟩):af P f vs hin r hout:=by
 obtain⟨r',hout',⟨rfl,rfl⟩,h2⟩:=CX H hΘ hf hb hname pr m n0 hn0 hlt hnd hl hlb (R:=fun r' hout'=>r'=r∧hout'=hout) ⟨rfl,rfl⟩ h
 exact h2

end Go.Proofs.YthmfppknagbkeaaGreatDoor.Am
