/- The plain machine: what is no more wanted is forgotten; a function's contract from its code. The plain machine: operands, literals, parts. The plain machine with types: kinds of data, values, blocks. The plain machine with types: what is known of the program's types; the parts of a step. The plain machine with types: what a step does to the blocks; loads. The plain machine with types: what is done ahead of an operation: rows are frozen, blocks are moved into families. The plain machine with types: scalars, stores, slices. The plain machine with types: stores, elements, addresses. The plain mac -/
import Derived.Test.YthmfppknagbkeaaGreatDoorA42
set_option linter.unusedSimpArgs false
set_option linter.unusedVariables false
set_option maxHeartbeats 1000000
namespace Go.Proofs.YthmfppknagbkeaaGreatDoor.Am
open Go Go.RowKit
variable {P:Program} {w0:World} {S:SD} {A:Nat→Prop} {N:Nat} {K:Id→Prop} {ρ:Id→Pl} {t:List (Nat×D)} {h h':HL} {a:Act} {w:World}
inductive Rn (h:HL) (g:Id→Id) (h':HL):D→D→Prop where
 |ref (b:Id) (hb:Live h (g b)→Live h' b):Rn h g h' (.ref (g b)) (.ref b)
 |ptr (b:Id) (o:Nat) (hb:Live h (g b)→Live h' b):Rn h g h' (.ptr (g b) o) (.ptr b o)
 |eptr (b:Id) (i o:Nat) (hb:Live h (g b)→Live h' b):Rn h g h' (.eptr (g b) i o) (.eptr b i o)
 |vref (b:Id) (o n:Nat) (hb:Live h (g b)→Live h' b):Rn h g h' (.vref (g b) o n) (.vref b o n)
 |lst (b:Id) (l:List D) (hb:look h b=some (.froz l)):Rn h g h' (.ref b) (.lst l)
 |box (b:Id) (cs:List D) (hb:look h b=some (.fvar cs)):Rn h g h' (.ptr b 0) (.box cs)
 |fwd (d d':D) (hd:Rn h g h' (fwd h d) d'):Rn h g h' d d'
 |pure (d:D) (hd:d.pure0=true):Rn h g h' d d
 |nils:Rn h g h' .nils (.lst [])
 |iptr (e:D) (o:Nat):Rn h g h' (.iptr e o) (.iptr e o)
 |gv (k:Nat):Rn h g h' (.gv k) (.gv k)
 |agg (cs cs':List D) (hl:cs.length=cs'.length) (hc:∀i,i<cs.length→Rn h g h' (cs.getD i .undef) (cs'.getD i .undef)):Rn h g h' (.agg cs) (.agg cs')
 |tup (cs cs':List D) (hl:cs.length=cs'.length) (hc:∀i,i<cs.length→Rn h g h' (cs.getD i .undef) (cs'.getD i .undef)):Rn h g h' (.tup cs) (.tup cs')
 |clo (f:FuncId) (cs cs':List D) (hl:cs.length=cs'.length) (hc:∀i,i<cs.length→Rn h g h' (cs.getD i .undef) (cs'.getD i .undef)):Rn h g h' (.clo f cs) (.clo f cs')
 |ifc (T:TypeId) (d d':D) (hd:Rn h g h' d d'):Rn h g h' (.ifc T d) (.ifc T d')
 |undef (d:D):Rn h g h' d .undef
 |junk:Rn h g h' .junk .junk
inductive RnB (h:HL) (g:Id→Id) (h':HL):Blk→Blk→Prop where
 |var (T:TypeId) (cs cs':List D) (hl:cs.length=cs'.length) (hc:∀i,i<cs.length→Rn h g h' (cs.getD i .undef) (cs'.getD i .undef)):RnB h g h' (.var T cs) (.var T cs')
 |row (E:TypeId) (l l':List D) (hl:l.length=l'.length) (hc:∀i,i<l.length→Rn h g h' (l.getD i .undef) (l'.getD i .undef)∧∀s,wfC s (l.getD i .undef)→wfC s (l'.getD i .undef)∧∀j,j<s→Rn h g h' ((l.getD i .undef).cells.getD j .undef) ((l'.getD i .undef).cells.getD j .undef)):RnB h g h' (.row E l) (.row E l')
 |froz (l:List D):RnB h g h' (.froz l) (.froz l)
 |fvar (cs:List D):RnB h g h' (.fvar cs) (.fvar cs)
 |gone (x:Blk):RnB h g h' x .gone
structure Ren (h:HL)(g:Id→Id)(h':HL):Prop where
 blk:∀b x',look h' b=some x'→∃x,look h (g b)=some x∧RnB h g h' x x'
 inj:∀b c x y,look h' b=some x→look h' c=some y→x.live=true→y.live=true→g b=g c→b=c
theorem RnB.live {g:Id→Id}{x x':Blk}(hr:RnB h g h' x x'):(x'.live=true→x.live=true)∧(x'.mutable=true→x.mutable=true):=by
 cases hr with
 |var T cs cs' hl hc=>exact⟨fun _=>rfl,fun _=>rfl⟩
 |row E l l' hl hc=>exact⟨fun _=>rfl,fun _=>rfl⟩
 |froz l=>exact⟨fun _=>rfl,fun h=>h⟩
 |fvar cs=>exact⟨fun _=>rfl,fun h=>h⟩
 |gone=>exact⟨fun h=>absurd h (by decide),fun h=>absurd h (by decide)⟩
theorem Sim.rn (s:Sim P w0 S A N ρ t h a w){g:Id→Id}{ok':Nat→Prop}(hok:∀k,okOf A ρ h w k→ok' k){d d':D}{v:Value}(hr:Rn h g h' d d'):C ρ (Live h) (okOf A ρ h w) w d v→C (fun b=>ρ (g b)) (Live h') ok' w d' v:=by
 induction hr generalizing v with
 |ref b hb=>intro hc;obtain⟨hl,rfl⟩:=hc.ref_inv;exact .ref (ρ:=fun b=>ρ (g b)) b (hb hl)
 |ptr b o hb=>intro hc;obtain⟨hl,rfl⟩:=hc.ptr_inv;exact .ptr (ρ:=fun b=>ρ (g b)) b o (hb hl)
 |eptr b i o hb=>intro hc;obtain⟨hl,rfl⟩:=hc.eptr_inv;exact .eptr (ρ:=fun b=>ρ (g b)) b i o (hb hl)
 |vref b o n hb=>intro hc;obtain⟨hl,hn,rfl⟩:=hc.vref_inv;exact .vref (ρ:=fun b=>ρ (g b)) b o n (hb hl) hn
 |lst b l hb=>intro hc;obtain⟨_,rfl⟩:=hc.ref_inv;exact .pure (Rep.mono (s.blk b _ hb) fun k hk=>⟨hok k hk,rfl⟩)
 |box b cs hb=>intro hc;obtain⟨_,rfl⟩:=hc.ptr_inv;exact .pure (Rep.mono (s.blk b _ hb) fun k hk=>⟨hok k hk,rfl⟩)
 |fwd d d' hd ih=>intro hc;exact ih (s.fwd hc)
 |pure d hd=>intro hc;exact .pure ((hc.rep0 hd).mono fun k hk=>⟨hok k hk,rfl⟩)
 |nils=>intro hc;obtain rfl:=hc.nils_inv;exact .pure (.none _ _ (fun _=>rfl) (by unfold maxLen;omega))
 |iptr e o=>
  intro hc
  obtain⟨b,off,f,rfl,h1,h2,h3⟩:=hc.iptr_inv
  exact .iptr e o b off f (hok b h1) h2 fun j hj=>(h3 j hj).mono fun k hk=>⟨hok k hk,rfl⟩
 |agg cs cs' hl hcs ih=>
  intro hc
  obtain⟨vs,rfl,h1,h2⟩:=hc.agg_inv
  exact .agg _ _ (by omega) fun i hi=>ih i (by omega) (h2 i (by omega))
 |tup cs cs' hl hcs ih=>
  intro hc
  obtain⟨vs,rfl,h1,h2⟩:=hc.tup_inv
  exact .tup _ _ (by omega) fun i hi=>ih i (by omega) (h2 i (by omega))
 |clo f cs cs' hl hcs ih=>
  intro hc
  obtain⟨vs,rfl,h1,h2⟩:=hc.clo_inv
  exact .clo _ _ _ (by omega) fun i hi=>ih i (by omega) (h2 i (by omega))
 |ifc T d d' hd ih=>
  intro hc
  obtain⟨v',rfl,h1⟩:=hc.ifc_inv
  exact .ifc _ _ _ (ih h1)
 |undef d=>intro hc;exact .any _
 |gv k=>intro hc;obtain⟨x,ad,rfl,h1,h2,h3⟩:=hc.gv_inv;exact .gv k x ad h1 (hok k h2) h3
 |junk=>intro hc;exact .junk _ hc.junk_inv
theorem Sim.ren (s:Sim P w0 S A N ρ t h a w){g:Id→Id}(hr:Ren h g h'){N':Nat}{a':Act}{t':List (Nat×D)}(hd:a'.defers=S.dfs)(hs:a'.tmps.size=N')
  (ht:∀k d',look t' k=some d'→k<N'∧∃d,C ρ (Live h) (okOf A ρ h w) w d (a'.tmps.getD k undef)∧Rn h g h' d d'):Sim P w0 S A N' (fun b=>ρ (g b)) t' h' a' w∧∀k,okOf A ρ h w k→okOf A (fun b=>ρ (g b)) h' w k:=by
 have hok:∀k,okOf A ρ h w k→okOf A (fun b=>ρ (g b)) h' w k:=by
  rintro k ⟨hk,hm⟩
  refine⟨hk,fun b x' hx hmu=>?_⟩
  obtain⟨x,h1,h2⟩:=hr.blk b x' hx
  exact hm _ x h1 (h2.live.2 hmu)
 refine⟨⟨s.base,s.inS,s.fr,hd,hs,fun k d' hk=>?_,fun b x' hx=>?_,fun b x' hx hl=>?_,fun b c x' y' hx hy hlx hly he=>?_,s.gl⟩,hok⟩
 ·obtain⟨h1,d,h2,h3⟩:=ht k d' hk
  exact⟨h1,s.rn hok h3 h2⟩
 ·obtain⟨x,h1,h2⟩:=hr.blk b x' hx
  have hb:=s.blk _ x h1
  cases h2 with
  |var T cs cs' hl hc=>
   obtain⟨c,c1,c2,c3⟩:=hb
   exact⟨c,c1,by omega,fun j hj=>s.rn hok (hc j (by omega)) (c3 j (by omega))⟩
  |row E l l' hl hc=>
   obtain⟨c,c1,c2,c3,c4,c5,c6,c7,c8,c9⟩:=hb
   refine⟨c,c1,c2,by rw[←hl];exact c3,c4,c5,c6,c7,fun e he=>?_,fun i j hi hj=>?_⟩
   ·obtain⟨i,hi,rfl⟩:=a7 he
    exact((hc i (by omega)).2 _ (c8 _ (aL (by omega)))).1
   ·exact s.rn hok (((hc i (by omega)).2 _ (c8 _ (aL (by omega)))).2 j hj) (c9 i j (by omega) hj)
  |froz l=>exact Rep.mono hb fun k hk=>⟨hok k hk,rfl⟩
  |fvar cs=>exact Rep.mono hb fun k hk=>⟨hok k hk,rfl⟩
  |gone x=>trivial
 ·obtain⟨x,h1,h2⟩:=hr.blk b x' hx
  exact s.own _ x h1 (h2.live.1 hl)
 ·obtain⟨x,h1,h2⟩:=hr.blk b x' hx
  obtain⟨y,h3,h4⟩:=hr.blk c y' hy
  exact hr.inj b c x' y' hx hy hlx hly (s.inj _ _ x y h1 h3 (h2.live.1 hlx) (h4.live.1 hly) he)
theorem CI {σ σ':St}{g:Id→Id}(hr:Ren σ.h g σ'.h)(ht:∀k d',look σ'.t k=some d'→∃d,look σ.t k=some d∧Rn σ.h g σ'.h d d')(hK:∀b,K b→Live σ.h b→g b=b∧Live σ'.h b)(hn:∀b:Id,σ'.n≤b.1→look σ'.h b=none):Weak P N K σ σ':=by
 rintro w0 S A ρ0 a w ⟨_,hK0,ρ,hρ,s⟩
 refine⟨hn,fun b hb=>(hK b hb (hK0 b hb)).2,fun b=>ρ (g b),fun b hb=>by show ρ (g b)=_;rw[(hK b hb (hK0 b hb)).1];exact hρ b hb,(s.ren hr s.defers s.size fun k d' hk=>?_).1⟩
 obtain⟨d,h1,h2⟩:=ht k d' hk
 exact⟨(s.tmp k d h1).1,d,(s.tmp k d h1).2,h2⟩
theorem CH {σ:St}(bs:List Id):Weak P N K σ ⟨σ.t,puts (frz σ.h bs) σ.h,σ.n⟩:=by
 rintro w0 S A ρ0 a w ⟨h1,hK0,ρ,hρ,s⟩
 refine⟨fun b hb=>pL (h1 b hb),fun b hb=>jr (hK0 b hb),ρ,hρ,(s.frz_ok bs).1⟩
def o9 (P:Program)(σ:St):ResultVar→Option D
 | .tmp k=>some ((look σ.t k).getD .undef)
 | .cell k T=>(look σ.t k).bind fun d=>if dr d then ca P σ.h T d else none
def one (ds:List D):D:=match ds with|[d]=>d|ds=>.tup ds
def mc (P:Program)(rs:List ResultVar)(K:Id→Prop)(σ:St)(r:D)(hout:HL):Prop:=
 ∃ds bs g,rs.mapM (o9 P σ)=some ds∧Rn (puts (frz σ.h bs) σ.h) g hout (one ds) r∧Ren (puts (frz σ.h bs) σ.h) g hout∧∀b,K b→Live σ.h b→g b=b∧Live hout b
theorem Sim.results (s:Sim P w0 S A N ρ t h a w){n:Nat}{f:ResultVar→Sem Value}(hf:∀r,f r=(match r with| .tmp t=>pure (a.tmps.getD t undef)| .cell x T=>do loadVar T (←asAddr (a.tmps.getD x undef)))):∀{rs:List ResultVar} {ds:List D},rs.mapM (o9 P ⟨t,h,n⟩)=some ds→
  ∃vs:List Value,(rs.mapM f).run P w= .ok vs w∧ds.length=vs.length∧∀i,i<ds.length→C ρ (Live h) (okOf A ρ h w) w (ds.getD i .undef) (vs.getD i undef)
 |[],ds,hd=>by
  simp at hd
  subst hd
  exact⟨[],by simp,rfl,by simp⟩
 |r::rs,ds,hd=>by
  simp only[List.mapM_cons,Option.bind_eq_bind,Option.bind_eq_some_iff,Option.pure_def,Option.some.injEq] at hd
  obtain⟨d,h1,ds',h2,rfl⟩:=hd
  obtain⟨vs,r1,r2,r3⟩:=s.results hf h2
  have hv:∃v,(f r).run P w= .ok v w∧C ρ (Live h) (okOf A ρ h w) w d v:=by
   rw[hf]
   cases r with
   |tmp k=>
    simp only[o9,Option.some.injEq] at h1
    subst h1
    refine⟨a.tmps.getD k undef,rfl,?_⟩
    cases hk:look t k with
    |none=>exact .any _
    |some d=>exact(s.tmp k d hk).2
   |cell k T=>
    simp only[o9] at h1
    obtain⟨d0,q1,q2⟩:=Option.bind_eq_some_iff.1 h1
    split at q2
    ·rename_i hp
     have hc:=(s.tmp k d0 q1).2
     obtain⟨ad,e⟩:=hc.isPtr_inv hp
     obtain⟨v,l1,l2⟩:=s.load q2 hc
     refine⟨v,?_,l2⟩
     show ((do loadVar T (←asAddr (a.tmps.getD k undef))):Sem Value).run P w= .ok v w
     rw[e] at l1⊢
     simpa[Instr.loadAt,Instr.sureAddr,asAddr] using l1
    ·cases q2
  obtain⟨v,v1,v2⟩:=hv
  refine⟨v::vs,by simp[v1,r1],by simp[r2],fun i hi=>?_⟩
  cases i with
  |zero=>simpa using v2
  |succ i=>simpa using r3 i (by simpa using hi)
def G0 (tmps:Array Value):ResultVar→Sem Value
 | .tmp t=>pure (tmps.getD t undef)
 | .cell x T=>do loadVar T (←asAddr (tmps.getD x undef))
theorem pb (fn:Func)(tmps:Array Value):results fn tmps=(fn.results.mapM (G0 tmps)>>=fun vs=>pure (if h:vs.size=1 then vs[0] else .tuple vs)):=rfl
theorem BD {L:Id→Prop}{ok:Nat→Prop}{ds:List D}{vs:List Value}(hl:ds.length=vs.length)(hc:∀i,i<ds.length→C ρ L ok w (ds.getD i .undef) (vs.getD i undef)):C ρ L ok w (one ds) (if h:vs.toArray.size=1 then vs.toArray[0] else .tuple vs.toArray):=by
 match ds,vs,hl with
 |[],[],_=>exact .tup [] #[] rfl fun i hi=>by simp at hi
 |[d],[v],_=>simpa[one] using hc 0 (by simp)
 |d::d'::ds,v::v'::vs,hl=>
  simp only[one]
  rw[dif_neg (by simp)]
  refine .tup _ _ (by simpa using hl) fun i hi=>?_
  have:=hc i hi
  rw[gP]
  exact this
def pU (ds:List D):List (Nat×D):=(ds.zipIdx 0).map fun x=>(x.2,x.1)
theorem mA:∀(ds:List D) (k b:Nat),look ((ds.zipIdx k).map fun x=>(x.2,x.1)) b=if k≤b then ds[b-k]? else none
 |[],k,b=>by simp[look]
 |x::bs,k,b=>by
  simp only[List.zipIdx_cons,List.map_cons,look,mA bs (k+1) b]
  by_cases h1:b=k
  ·subst h1;simp
  ·by_cases h2:k≤b
   ·rw[if_neg h1,if_pos (by omega),if_pos h2,show b-k=(b-(k+1))+1 by omega]
    rfl
   ·rw[if_neg h1,if_neg (by omega),if_neg h2]
def bnd:Nat→D→Prop
 |0,_=>True
 |k+1,.lst l=>l.length≤9223372036854775807∧∀e∈l,∀c∈e.cells,bnd k c
 |k+1,.agg cs=>∀c∈cs,bnd k c
 |k+1,.tup cs=>∀c∈cs,bnd k c
 |k+1,.box cs=>∀c∈cs,bnd k c
 |_+1,_=>True
theorem Rep.bnd {ok:Nat→Prop}{w:World}:∀(k:Nat) {d:D} {v:Value},Rep ok w d v→Am.bnd k d
 |0,_,_,_=>trivial
 |k+1,d,v,h=>by
  cases h with
  |none a cap ha hcap=>exact⟨by simp,fun e he=>by cases he⟩
  |lst l n b off cap f hn hcap hmax hok hsz hpos hc hr=>
   have hm:maxLen=9223372036854775807:=rfl
   refine⟨by omega,fun e he c hc'=>?_⟩
   obtain⟨i,hi,rfl⟩:=a7 he
   obtain⟨j,hj,rfl⟩:=a7 hc'
   have hs:=(hsz _ he).1
   exact(hr i j (by omega) (by omega)).bnd k
  |agg cs vs hl h=>intro c hc;obtain⟨i,hi,rfl⟩:=a7 hc;exact(h i hi).bnd k
  |tup cs vs hl h=>intro c hc;obtain⟨i,hi,rfl⟩:=a7 hc;exact(h i hi).bnd k
  |box cs b off f hok hpos hc hr=>intro c hc';obtain⟨i,hi,rfl⟩:=a7 hc';exact(hr i hi).bnd k
  |_=>trivial
theorem C.bnd {ρ:Id→Pl}{L:Id→Prop}{ok:Nat→Prop}{w:World}:∀(k:Nat) {d:D} {v:Value},C ρ L ok w d v→Am.bnd k d
 |0,_,_,_=>trivial
 |k+1,d,v,h=>by
  cases h with
  |pure h=>exact h.bnd (k+1)
  |agg cs vs hl h=>intro c hc;obtain⟨i,hi,rfl⟩:=a7 hc;exact(h i hi).bnd k
  |tup cs vs hl h=>intro c hc;obtain⟨i,hi,rfl⟩:=a7 hc;exact(h i hi).bnd k
  |_=>trivial
def bndB (k:Nat):Blk→Prop
 | .var _ cs=>∀c∈cs,bnd k c
 | .row _ l=>l.length≤9223372036854775807∧∀e∈l,∀c∈e.cells,bnd k c
 |_=>True
theorem Sim.bndB (s:Sim P w0 S A N ρ t h a w)(k:Nat){b:Id}{x:Blk}(hb:look h b=some x):Am.bndB k x:=by
 have hx:=s.blk b x hb
 cases x with
 |var T cs=>
  obtain⟨c,h1,h2,h3⟩:=hx
  intro e he
  obtain⟨i,hi,rfl⟩:=a7 he
  exact(h3 i hi).bnd k
 |row E l=>
  obtain⟨c,h1,h2,h3,h4,h5,h6,h7,h8,h9⟩:=hx
  have hm:maxLen=9223372036854775807:=rfl
  refine⟨by omega,fun e he d hd=>?_⟩
  obtain⟨i,hi,rfl⟩:=a7 he
  obtain⟨j,hj,rfl⟩:=a7 hd
  have hs:=(h8 _ he).1
  exact(h9 i j hi (by omega)).bnd k
 |_=>trivial
theorem vk {f : FuncId} {fn : Func} {c : Code} (hf : P.funcs[f]? = some fn) (hb : fn.body = some c) (hname : (fn.name == "runtime.NumGoroutine") = false) {N : Nat} {rs : List ResultVar} (hN : fn.ntmps = N) (hrs : fn.results.toList = rs) {ds : List D} {hin : HL} {n0 : Nat} {r : D} {hout : HL}
  (hl:ds.length≤N) (hn0:∀b:Id,n0≤b.1→look hin b=none)
  (hF:(∀d∈ds,bnd 6 d)→(∀b x,look hin b=some x→bndB 6 x)→∃e σ,Brings P N (Live hin) c ⟨pU ds,hin,n0⟩ e σ∧(eZ P N (Live hin) σ→(e= .normal∨e= .ret)∧mc P rs (Live hin) σ r hout)):Con P f ds hin r hout:=by
 subst hN hrs
 refine⟨⟨fn,hf,by rw[hb];rfl,hname⟩,fun w A ρ vs s hlen hv=>?_⟩
 obtain⟨e,σ,hA,hfin⟩:=hF (fun d hd=>by
  obtain⟨i,hi,rfl⟩:=a7 hd
  exact(hv i hi).bnd 6) (fun b x hx=>s.bndB 6 hx)
 refine calls_of_wp hf hb ?_
 have hs0:SimS P w (sQ ρ hin) A fn.ntmps ρ (Live hin) ⟨pU ds,hin,n0⟩ {tmps:=vs++Array.replicate (fn.ntmps-vs.size) undef,defers:=[]} w:=by
  refine⟨hn0,fun b hb=>hb,ρ,fun b hb=>rfl,s.base,s.inS,s.fr,rfl,by simp;omega,fun k d hk=>?_,s.blk,s.own,s.inj,s.gl⟩
  have hk2:look ((ds.zipIdx 0).map fun x=>(x.2,x.1)) k=some d:=hk
  rw[mA] at hk2
  simp only[Nat.zero_le,if_true,Nat.sub_zero] at hk2
  have hk':k<ds.length:=(List.getElem?_eq_some_iff.1 hk2).1
  refine⟨by omega,?_⟩
  have:=hv k hk'
  rw[List.getD_eq_getElem?_getD,hk2] at this
  have hkv:k<vs.size:=by omega
  simpa[Array.getD_eq_getD_getElem?,Array.getElem?_append,hkv] using this
 refine wp_mono (hA _ _ _ ρ _ w hs0) ?_
 clear hA
 rintro e' a' w' ⟨rfl,hs1⟩
 obtain⟨he,ds',bs,g,hrds,hrn,hren,hkeep⟩:=hfin ⟨_,_,_,_,_,_,hs1⟩
 clear hfin
 obtain⟨hn,hK,ρ1,hρ1,s1⟩:=hs1
 obtain⟨vs',r1,r2,r3⟩:=s1.results (f:=G0 a'.tmps) (fun r=>by cases r<;>rfl) hrds
 have hone:=BD r2 r3
 have hrun:(results fn a'.tmps).run P w'= .ok (if h:vs'.toArray.size=1 then vs'.toArray[0] else .tuple vs'.toArray) w':=by
  rw[pb,Array.mapM_eq_mapM_toList,Sem.run_bind,map_eq_pure_bind,Sem.run_bind,r1]
  rfl
 generalize (if h:vs'.toArray.size=1 then vs'.toArray[0] else Value.tuple vs'.toArray)=u at *
 obtain⟨q1,q2,q3⟩:=s1.frz_ok bs
 have hcu:C ρ1 (Live (puts (frz σ.h bs) σ.h)) (okOf A ρ1 (puts (frz σ.h bs) σ.h) w') w' (one ds') u:=hone.mono (fun b hb=>⟨jr hb,rfl⟩) (fun k hk=>⟨⟨hk.1,fun b y hy hmu=>by
  rcases q2 b with q|⟨y',z1,z2⟩
  ·rw[q] at hy;exact hk.2 b y hy hmu
  ·rw[z2] at hy
   obtain rfl:=Option.some.inj hy
   rw[(ia z1).2.1] at hmu;cases hmu⟩,rfl⟩)
 obtain⟨s3,hok3⟩:=q1.ren (N':=0) (a':=fI) (t':=[]) hren rfl rfl (fun k d' hk=>by cases hk)
 have fin:∃v ρ'',Ending.returned u= .returned v∧(∀b,Live hin b→ρ'' b=ρ b∧Live hout b)∧Sim P w (sQ ρ hin) A 0 ρ'' [] hout fI w'∧C ρ'' (Live hout) (okOf A ρ'' hout w') w' r v:=
  ⟨u,fun b=>ρ1 (g b),rfl,fun b hb=>⟨by show ρ1 (g b)=_;rw[(hkeep b hb (hK b hb)).1];exact hρ1 b hb,(hkeep b hb (hK b hb)).2⟩,s3,q1.rn hok3 hrn hcu⟩
 rcases he with rfl|rfl
 ·exact⟨s1.defers,u,hrun,fin⟩
 ·exact⟨s1.defers,u,hrun,fin⟩
end Go.Proofs.YthmfppknagbkeaaGreatDoor.Am
namespace Go.Proofs.YthmfppknagbkeaaGreatDoor.Am
open Go Go.RowKit
variable {P:Program} {t:List (Nat×D)} {h:HL} {n:Nat}
theorem tA {k:Nat}{x:Operand}{l:List (Nat×Operand)}{d:D}{ds:List (Nat×D)}(hx:aA t x=some d)(hl:evalPs t l=some ds):evalPs t ((k,x)::l)=some ((k,d)::ds):=by
 simp only[evalPs] at hl⊢
 simp[hx,hl]
theorem tz {x:Operand}{l:List Operand}{d:D}{ds:List D}(hx:aA t x=some d)(hl:evalDs t l=some ds):evalDs t (x::l)=some (d::ds):=by
 simp only[evalDs] at hl⊢
 simp[hx,hl]
theorem vn {place:Nat→Option (Nat×Nat)}{cs cs' r:List D}{i off size:Nat}{d:D}{l:List (Nat×D)}(hp:place i=some (off,size))(hw:d.whole=true)(hs:d.cells.length=size)(hl:off+size≤cs.length)(hc:aE cs off d.cells=cs')(hr:fH place cs' l=some r):fH place cs ((i,d)::l)=some r:=by
 subst hs hc
 simp only[fH,hp]
 rw[if_pos ⟨hw,by simp,hl⟩]
 exact hr
theorem Cs {T:TypeId}{cs:List D}{o:Nat}{d:D}(ha:isAggT P T=some false)(hd:cs[o]?=some d):ba P T cs o=some d:=by simp[ba,ha,hd]
theorem Fq {T:TypeId}{cs cs':List D}{o s:Nat}(ha:isAggT P T=some true)(hs:sizeT P T=some s)(hl:o+s≤cs.length)(hd:(cs.drop o).take s=cs'):ba P T cs o=some (.agg cs'):=by simp[ba,ha,hs,hl,hd]
theorem nB (h:HL)(d:D):(fwd h d).one=d.one:=by
 cases d
 case ref b=>simp only[fwd];split<;>rfl
 case ptr b o=>
  simp only[fwd]
  split
  ·rfl
  ·split<;>rfl
  ·rfl
 case eptr b i o=>simp only[fwd];split<;>rfl
 case vref b o n=>simp only[fwd];split<;>rfl
 all_goals simp[fwd,D.one]
theorem yD (h:HL)(d:D):(fwd h d).cells=d.cells.map (fwd h):=by
 by_cases hd:d.one=true
 ·rw[bD hd,bD (by rw[nB];exact hd)];rfl
 ·cases d with
  |agg cs=>simp only[fwd,D.cells,dC]
  |tup cs=>simp[fwd,D.cells]
  |undef=>simp[fwd,D.cells]
  |_=>exact absurd rfl hd
theorem xL (d:D):(nz0 d).one=d.one:=by cases d<;>rfl
def lv (h:HL)(d:D):D:=nzE (fwd h d)
theorem jq (h:HL)(d:D):(lv h d).cells=d.cells.map fun c=>nz0 (fwd h c):=by
 unfold lv
 rw[eM,yD,List.map_map]
 rfl
theorem Be {h:HL}{s:Nat}{d:D}(hw:wfC s d):wfC s (lv h d):=by
 refine⟨by rw[jq,List.length_map];exact hw.1,?_⟩
 have:=hw.2
 rw[List.all_eq_true] at this⊢
 rw[jq]
 intro x hx
 obtain⟨y,hy,rfl⟩:=List.mem_map.1 hx
 rw[xL,nB]
 exact this y hy
def cf (h:HL):Blk→Blk
 | .var T cs=>.var T (cs.map fun c=>nz0 (fwd h c))
 | .row E l=>.row E (l.map (lv h))
 |x=>x
theorem pK (h:HL)(x:Blk):(cf h x).mutable=x.mutable:=by cases x<;>rfl
theorem oQ (h:HL)(x:Blk):(cf h x).live=x.live:=by cases x<;>rfl
section
variable {w0:World} {S:SD} {A:Nat→Prop} {N:Nat} {ρ:Id→Pl} {a:Act} {w:World} {h':HL}
theorem Sim.last (s:Sim P w0 S A N ρ t h a w){b:Id}{x:Blk}(hb:look h b=some x):Sim P w0 S A N ρ t (put b (cf h x) h) a w:=by
 have hlv:∀b',Live h b'→Live (put b (cf h x) h) b'∧ρ b'=ρ b':=fun b' hb'=>⟨hb'.put,rfl⟩
 have key:∀b' y,look (put b (cf h x) h) b'=some y→(b'=b∧y=cf h x)∨(b'≠b∧look h b'=some y):=by
  intro b' y hy
  rw[ai] at hy
  by_cases e:b'=b
  ·rw[if_pos e] at hy;exact .inl ⟨e,(Option.some.inj hy).symm⟩
  ·rw[if_neg e] at hy;exact .inr ⟨e,hy⟩
 have hok:∀k,okOf A ρ h w k→okOf A ρ (put b (cf h x) h) w k∧w.heap[k]?=w.heap[k]?:=by
  rintro k ⟨hk,hm⟩
  refine⟨⟨hk,fun b' y hy hmu=>?_⟩,rfl⟩
  rcases key b' y hy with⟨rfl,rfl⟩|⟨_,hy⟩
  ·rw[pK] at hmu;exact hm b' x hb hmu
  ·exact hm b' y hy hmu
 have old:∀b' y,look (put b (cf h x) h) b'=some y→y.live=true→∃z,look h b'=some z∧z.live=true:=by
  intro b' y hy hl
  rcases key b' y hy with⟨rfl,rfl⟩|⟨_,hy⟩
  ·rw[oQ] at hl;exact⟨x,hb,hl⟩
  ·exact⟨y,hy,hl⟩
 refine s.step s.fr hlv hok (fun b' y hy=>?_) (Nat.le_refl _) (fun b1 b2 y1 y2 hy1 hy2 hl1 hl2 he=>?_)
 ·rcases key b' y hy with⟨rfl,rfl⟩|⟨e,hy⟩
  ·refine .inr ⟨?_,fun hl=>s.own b' x hb (by rw[oQ] at hl;exact hl)⟩
   have hbk:=s.blk b' x hb
   cases x with
   |var T cs=>
    obtain⟨c,h1,h2,h3⟩:=hbk
    refine⟨c,h1,by simpa using h2,fun j hj=>?_⟩
    have hj':j<cs.length:=by simpa using hj
    have:=(s.fwd (h3 j hj')).nz0.mono hlv hok
    simpa[List.getD_eq_getElem?_getD,hj'] using this
   |row E l=>
    obtain⟨c,h1,h2,h3,h4,h5,h6,h7,h8,h9⟩:=hbk
    refine⟨c,h1,h2,by simpa using h3,h4,h5,h6,h7,fun e he=>?_,fun i j hi hj=>?_⟩
    ·obtain⟨e0,he0,rfl⟩:=List.mem_map.1 he
     exact Be (h8 e0 he0)
    ·have hi':i<l.length:=by simpa using hi
     have hj':j<(l.getD i .undef).cells.length:=by rw[(h8 _ (aL hi')).1];exact hj
     have:=(s.fwd (h9 i j hi' hj)).nz0.mono hlv hok
     have e1:(l.map (lv h)).getD i .undef=lv h (l.getD i .undef):=by simp[List.getD_eq_getElem?_getD,hi']
     have e2:((l.getD i .undef).cells.map fun c=>nz0 (Am.fwd h c)).getD j .undef=nz0 (Am.fwd h ((l.getD i .undef).cells.getD j .undef)):=by
      rw[List.getD_eq_getElem?_getD,List.getElem?_map,List.getElem?_eq_getElem hj',List.getD_eq_getElem?_getD (i:=j),List.getElem?_eq_getElem hj'];rfl
     rw[e1,jq,e2]
     exact this
   |_=>exact BlkOK.mono hbk (Live.of_look hb) hlv hok (fun _=>rfl)
  ·exact .inl ⟨hy,fun _=>rfl⟩
 ·obtain⟨z1,a1,a2⟩:=old b1 y1 hy1 hl1
  obtain⟨z2,c1,c2⟩:=old b2 y2 hy2 hl2
  exact s.inj b1 b2 z1 z2 a1 c1 a2 c2 he
def vb:Blk→List Id
 | .var _ cs=>cs.flatMap aj
 | .row _ l=>l.flatMap fun e=>aj e
 |_=>[]
theorem ju {α β:Type}{f g:α→β}:∀{l:List α},(∀x∈l,f x=g x)→l.map f=l.map g
 |[],_=>rfl
 |x::l,hx=>by simp only[List.map_cons,hx x (List.mem_cons_self ..),ju fun y hy=>hx y (List.mem_cons_of_mem _ hy)]
theorem ua {x:Blk}(hb:∀b∈vb x,look h b=look h' b):cf h x=cf h' x:=by
 cases x with
 |var T cs=>simp only[cf];rw[ju fun c hc=>by rw[mn (h:=h) (h':=h') fun b h1=>hb b (List.mem_flatMap.2 ⟨c,hc,h1⟩)]]
 |row E l=>simp only[cf];rw[ju (f:=lv h) (g:=lv h') fun c hc=>by unfold lv;rw[mn (h:=h) (h':=h') fun b h1=>hb b (List.mem_flatMap.2 ⟨c,hc,h1⟩)]]
 |_=>rfl
theorem BH {o:Oper}{b:Id}{x:Blk}{d:D}{u1:HL}{f:List Nat}(hb:look h b=some x)(hf:b.1∈f∧∀c∈vb x,c.1∈f)(hd:OpS P N o t (puts [(b,cf h x)] h) d u1 f):OpS P N o t h d ([(b,cf h x)]++u1) f:=by
 intro t' h' ht ha w0 S A ρ a w s
 have hb':look h' b=some x:=by rw[←ha b hf.1];exact hb
 have e:cf h x=cf h' x:=ua fun c hc=>ha c (hf.2 c hc)
 rw[aN]
 have s1:Sim P w0 S A N ρ t' (puts [(b,cf h x)] h') a w:=by rw[e];exact s.last hb'
 refine Reg.wp_exit_mono (K:=pE P w0 S A N ρ t' (puts [(b,cf h x)] h') (puts u1 (puts [(b,cf h x)] h')) a o.dst d) ?_ (hd t' _ ht (ha.puts _) w0 S A ρ a w s1)
 rintro a' w' ⟨v,ρ2,rfl,g1,g2,g3⟩
 exact⟨v,ρ2,rfl,fun c hc=>g1 c (Live.put hc),g2,g3⟩
theorem mF {o:Oper}{d:D}{u:HL}{f:List Nat}(he:∀b,look h b=look h' b)(hd:OpS P N o t h d u f):OpS P N o t h' d u f:=
 fun t' h2 ht ha=>hd t' h2 ht fun b hb=>(he b).trans (ha b hb)
end
end Go.Proofs.YthmfppknagbkeaaGreatDoor.Am
namespace Go.Proofs.YthmfppknagbkeaaGreatDoor.Am
open Go Go.RowKit
structure Txn where
 a:Int
 b:Int
 s:Int
 e:Int
structure Led where
 b:List Int
 f:Int
structure Vtx where
 round:Int
 author:Int
 parents:List Int
 digest:Int
structure Ppl where
 v:Vtx
 members:List Int
structure Wrl where
 com:List Int
 lead:List Int
 bad:Int
 views:List (List Vtx)
 props:List Ppl
structure Evt where
 kind:Int
 a:Int
 b:Int
 v:Vtx
structure Slt where
 round:Int
 author:Int
deriving DecidableEq
structure VtxO where
 round:Int
 author:Int
 parents:Option Nat
 digest:Int
structure PplM where
 v:Vtx
 members:Option Nat
structure PplO where
 v:VtxO
 members:Option Nat
structure Nod where
 v:Vtx
 index:Int
 parents:Option Nat
structure Odd where
 v:Vtx
 wave:Int
inductive Ty where
 |int (k:IntKind)|bool|str|lst (t:Ty)|txn|led|vtx|ppl|wrl|evt|slt|odd|ob (t:Ty)
 |hr (k:Nat)|hp (k:Nat)|vtxo (k:Nat)|pplm (k:Nat)|pplo (k k':Nat)|nod (k:Nat)
 deriving DecidableEq
abbrev Ty.den:Ty→Type
 | .int _=>Int
 | .bool=>Bool
 | .str=>ByteArray
 | .lst t=>List t.den
 | .txn=>Txn
 | .led=>Led
 | .vtx=>Vtx
 | .ppl=>Ppl
 | .wrl=>Wrl
 | .evt=>Evt
 | .slt=>Slt
 | .odd=>Odd
 | .ob t=>Option t.den
 | .hr _=>Option Nat
 | .hp _=>Option Nat
 | .vtxo _=>VtxO
 | .pplm _=>PplM
 | .pplo ..=>PplO
 | .nod _=>Nod
def ey (l:List Int):D:=.lst (l.map (.int .i64))
def ft (v:Vtx):List D:=[.int .i64 v.round,.int .i64 v.author,ey v.parents,.int .i64 v.digest]
def Fw (l:List Vtx):D:=.lst (l.map fun v=>.agg (ft v))
def yU (p:Ppl):List D:=ft p.v++[ey p.members]
def l9 (k:Nat):Option Nat→D
 |some i=>.ref (k,i)
 |none=>.lst []
def m6 (k:Nat):Option Nat→D
 |some i=>.ptr (k,i) 0
 |none=>.nilp
def ag:(t:Ty)→t.den→D
 | .int k,n=>.int k n
 | .bool,b=>.bool b
 | .str,s=>.str s
 | .lst t,xs=>.lst (xs.map (ag t))
 | .txn,x=>.agg [.int .i64 x.a,.int .i64 x.b,.int .i64 x.s,.int .i64 x.e]
 | .led,x=>.agg [ey x.b,.int .i64 x.f]
 | .vtx,x=>.agg (ft x)
 | .ppl,x=>.agg (yU x)
 | .wrl,x=>.agg [ey x.com,ey x.lead,.int .i64 x.bad,.lst (x.views.map Fw),.lst (x.props.map fun p=>.agg (yU p))]
 | .evt,x=>.agg ([.int .i64 x.kind,.int .i64 x.a,.int .i64 x.b]++ft x.v)
 | .slt,x=>.agg [.int .i64 x.round,.int .i64 x.author]
 | .odd,x=>.agg (ft x.v++[.int .i64 x.wave])
 | .ob t,some x=>.box (ag t x).cells
 | .ob _,none=>.nilp
 | .hr k,o=>l9 k o
 | .hp k,o=>m6 k o
 | .vtxo k,x=>.agg [.int .i64 x.round,.int .i64 x.author,l9 k x.parents,.int .i64 x.digest]
 | .pplm k,x=>.agg (ft x.v++[l9 k x.members])
 | .pplo k k',x=>.agg [.int .i64 x.v.round,.int .i64 x.v.author,l9 k x.v.parents,.int .i64 x.v.digest,l9 k' x.members]
 | .nod k,x=>.agg (ft x.v++[.int .i64 x.index,l9 k x.parents])
inductive V where
 |int (k:IntKind) (n:Int)
 |bool (b:Bool)
 |tt
 |ff
 |str (s:ByteArray)
 |lst (t:Ty) (xs:List t.den)
 |box (t:Ty) (x:t.den)
 |agg (cs:List V)
 |tup (cs:List V)
 |nilp
 |nils
 |nilf
 |nili
 |ifc (T:TypeId) (v:V)
 |clo (f:FuncId) (cs:List V)
 |ref (b:Nat)
 |ptr (b o:Nat)
 |eptr (b i o:Nat)
 |iptr (t:Ty) (x:t.den) (o:Nat)
 |vref (b o n:Nat)
 |aptr (b p i:Nat)
 |fref (k i:Nat)
 |fptr (k i o:Nat)
 |feptr (k i j o:Nat)
 |faptr (k i p j:Nat)
 |hro (k:Nat) (o:Option Nat)
 |hpo (k:Nat) (o:Option Nat)
 |obo (t:Ty) (o:Option t.den)
 |gp (g:Nat)
 |gv (g:Nat)
 |undef
 |junk
mutual
def V.toD:V→D
 | .int k n=>.int k n
 | .bool b=>.bool b
 | .tt=>.bool true
 | .ff=>.bool false
 | .str s=>.str s
 | .lst t xs=>.lst (xs.map (ag t))
 | .box t x=>.box (ag t x).cells
 | .agg cs=>.agg (ah cs)
 | .tup cs=>.tup (ah cs)
 | .nilp=>.nilp
 | .nils=>.nils
 | .nilf=>.nilf
 | .nili=>.nili
 | .ifc T v=>.ifc T v.toD
 | .clo f cs=>.clo f (ah cs)
 | .ref b=>.ref (b,0)
 | .ptr b o=>.ptr (b,0) o
 | .eptr b i o=>.eptr (b,0) i o
 | .iptr t x o=>.iptr (ag t x) o
 | .vref b o n=>.vref (b,0) o n
 | .aptr b p i=>.ptr (b,0) (p+i)
 | .fref k i=>.ref (k,i)
 | .fptr k i o=>.ptr (k,i) o
 | .feptr k i j o=>.eptr (k,i) j o
 | .faptr k i p j=>.ptr (k,i) (p+j)
 | .hro k o=>l9 k o
 | .hpo k o=>m6 k o
 | .obo t o=>ag (.ob t) o
 | .gp g=>.gp g
 | .gv g=>.gv g
 | .undef=>.undef
 | .junk=>.junk
def ah:List V→List D
 |[]=>[]
 |v::l=>v.toD::ah l
end
theorem bI:∀l:List V,ah l=l.map V.toD
 |[]=>rfl
 |v::l=>by simp[ah,bI l]
def enc:(t:Ty)→t.den→V
 | .int k,n=>.int k n
 | .bool,b=>.bool b
 | .str,s=>.str s
 | .lst t,xs=>.lst t xs
 | .txn,x=>.agg [.int .i64 x.a,.int .i64 x.b,.int .i64 x.s,.int .i64 x.e]
 | .led,x=>.agg [.lst (.int .i64) x.b,.int .i64 x.f]
 | .vtx,x=>.agg [.int .i64 x.round,.int .i64 x.author,.lst (.int .i64) x.parents,.int .i64 x.digest]
 | .ppl,x=>.agg [.int .i64 x.v.round,.int .i64 x.v.author,.lst (.int .i64) x.v.parents,.int .i64 x.v.digest,.lst (.int .i64) x.members]
 | .wrl,x=>.agg [.lst (.int .i64) x.com,.lst (.int .i64) x.lead,.int .i64 x.bad,.lst (.lst .vtx) x.views,.lst .ppl x.props]
 | .evt,x=>.agg [.int .i64 x.kind,.int .i64 x.a,.int .i64 x.b,.int .i64 x.v.round,.int .i64 x.v.author,.lst (.int .i64) x.v.parents,.int .i64 x.v.digest]
 | .slt,x=>.agg [.int .i64 x.round,.int .i64 x.author]
 | .odd,x=>.agg [.int .i64 x.v.round,.int .i64 x.v.author,.lst (.int .i64) x.v.parents,.int .i64 x.v.digest,.int .i64 x.wave]
 | .ob t,o=>.obo t o
 | .hr k,o=>.hro k o
 | .hp k,o=>.hpo k o
 | .vtxo k,x=>.agg [.int .i64 x.round,.int .i64 x.author,.hro k x.parents,.int .i64 x.digest]
 | .pplm k,x=>.agg [.int .i64 x.v.round,.int .i64 x.v.author,.lst (.int .i64) x.v.parents,.int .i64 x.v.digest,.hro k x.members]
 | .pplo k k',x=>.agg [.int .i64 x.v.round,.int .i64 x.v.author,.hro k x.v.parents,.int .i64 x.v.digest,.hro k' x.members]
 | .nod k,x=>.agg [.int .i64 x.v.round,.int .i64 x.v.author,.lst (.int .i64) x.v.parents,.int .i64 x.v.digest,.int .i64 x.index,.hro k x.parents]
theorem ls (l:List Int):l.map (ag (.int .i64))=l.map (D.int .i64):=rfl
theorem iF:∀(t:Ty) (x:t.den),(enc t x).toD=ag t x
 | .int _,_| .bool,_| .str,_| .lst _,_| .txn,_| .ob _,_| .hr _,_| .hp _,_=>by simp[enc,ag,V.toD,ah]
 | .led,x=>by simp[enc,ag,V.toD,ah,ey,ls]
 | .vtx,x| .vtxo _,x=>by simp[enc,ag,V.toD,ah,ey,ls,ft]
 | .ppl,x| .pplm _,x| .pplo ..,x| .nod _,x| .odd,x=>by simp[enc,ag,V.toD,ah,ey,ls,ft,yU]
 | .wrl,x=>by
  have:(fun g=>D.lst (List.map (ag .vtx) g))=Fw:=funext fun g=>rfl
  have h2:(ag (.lst .vtx))=fun g=>D.lst (List.map (ag .vtx) g):=funext fun g=>rfl
  have h3:(ag .ppl)=fun p=>D.agg (yU p):=funext fun g=>rfl
  simp only[enc,ag,V.toD,ah,ey,h2,h3,this]
  rfl
 | .evt,x=>by simp[enc,ag,V.toD,ah,ey,ls,ft]
 | .slt,x=>by simp[enc,ag,V.toD,ah]
def Ty.sz:Ty→Nat
 | .txn=>4
 | .led=>2
 | .vtx=>4
 | .ppl=>5
 | .wrl=>5
 | .evt=>7
 | .slt=>2
 | .odd=>5
 | .vtxo _=>4
 | .pplm _=>5
 | .pplo ..=>5
 | .nod _=>6
 |_=>1
def Ty.pure:Ty→Bool
 | .hr _| .hp _| .vtxo _| .pplm _| .pplo .. | .nod _=>false
 |_=>true
theorem lq (k:Nat)(o:Option Nat):(l9 k o).one=true∧(l9 k o).cells=[l9 k o]:=by cases o<;>exact⟨rfl,rfl⟩
theorem lp (k:Nat)(o:Option Nat):(m6 k o).one=true∧(m6 k o).cells=[m6 k o]:=by cases o<;>exact⟨rfl,rfl⟩
theorem d8:∀(t:Ty) (x:t.den),wfC t.sz (ag t x)
 | .int _,_| .bool,_| .str,_| .lst _,_| .txn,_| .led,_| .vtx,_| .ppl,_| .wrl,_| .evt,_| .slt,_| .odd,_=>⟨rfl,rfl⟩
 | .ob _,some _| .ob _,none=>⟨rfl,rfl⟩
 | .hr k,o=>⟨by simp only[ag,(lq k o).2];rfl,by simp only[ag,(lq k o).2];simp[(lq k o).1]⟩
 | .hp k,o=>⟨by simp only[ag,(lp k o).2];rfl,by simp only[ag,(lp k o).2];simp[(lp k o).1]⟩
 | .vtxo _,⟨_,_,none,_⟩| .vtxo _,⟨_,_,some _,_⟩=>⟨rfl,rfl⟩
 | .pplm _,⟨_,none⟩| .pplm _,⟨_,some _⟩=>⟨rfl,rfl⟩
 | .pplo ..,⟨⟨_,_,none,_⟩,none⟩| .pplo ..,⟨⟨_,_,some _,_⟩,none⟩| .pplo ..,⟨⟨_,_,none,_⟩,some _⟩| .pplo ..,⟨⟨_,_,some _,_⟩,some _⟩=>⟨rfl,rfl⟩
 | .nod _,⟨_,_,none⟩| .nod _,⟨_,_,some _⟩=>⟨rfl,rfl⟩
theorem gU {t:Ty}(h:t.pure=true)(x:t.den):wfE t.sz (ag t x):=by
 cases t
 case ob t=>cases x<;>exact⟨rfl,rfl⟩
 all_goals first|exact⟨rfl,rfl⟩|cases h
theorem Ty.sz_pos:∀t:Ty,0<t.sz:=by intro t;cases t<;>simp[Ty.sz]
def kr (t t':Ty)(xs:List t'.den):Option (List t.den):=
 match decEq t' t with
 |isTrue h=>some (h▸xs)
 |isFalse _=>match xs with
  |[]=>some []
  |_=>none
theorem fa {t t':Ty}{xs:List t'.den}{ys:List t.den}(h:kr t t' xs=some ys):xs.map (ag t')=ys.map (ag t):=by
 unfold kr at h
 split at h
 ·rename_i e _
  subst e
  simp only[Option.some.injEq] at h
  subst h
  rfl
 ·split at h
  ·simp only[Option.some.injEq] at h
   subst h
   rfl
  ·cases h
def tb (t t':Ty)(x:t'.den):Option t.den:=
 match decEq t' t with
 |isTrue h=>some (h▸x)
 |isFalse _=>none
theorem ot {t t':Ty}{x:t'.den}{y:t.den}(h:tb t t' x=some y):ag t' x=ag t y:=by
 unfold tb at h
 split at h
 ·rename_i e _
  subst e
  simp only[Option.some.injEq] at h
  subst h
  rfl
 ·cases h
def nf:V→Option (List Int)
 | .lst t ps=>kr (.int .i64) t ps
 | .nils=>none
 |_=>none
theorem eU {v:V}{l:List Int}(h:nf v=some l):v.toD=ey l:=by
 unfold nf at h
 split at h
 ·simp only[V.toD];rw[fa h];rfl
 ·cases h
 ·cases h
def tl (k:Nat):V→Option (Option Nat)
 | .hro k' o=>bif Nat.beq k' k then some o else none
 | .fref k' i=>bif Nat.beq k' k then some (some i) else none
 | .lst _ []=>some none
 |_=>none
theorem jW {k:Nat}{v:V}{o:Option Nat}(h:tl k v=some o):v.toD=l9 k o:=by
 unfold tl at h
 split at h
 ·rename_i k' _
  cases hb:Nat.beq k' k with
  |true=>rw[hb] at h;cases Nat.eq_of_beq_eq_true hb;cases h;rfl
  |false=>rw[hb] at h;cases h
 ·rename_i k' _
  cases hb:Nat.beq k' k with
  |true=>rw[hb] at h;cases Nat.eq_of_beq_eq_true hb;cases h;rfl
  |false=>rw[hb] at h;cases h
 ·simp only[Option.some.injEq] at h;subst h;rfl
 ·cases h
def FM (k:Nat):V→Option (Option Nat)
 | .hpo k' o=>bif Nat.beq k' k then some o else none
 | .fptr k' i 0=>bif Nat.beq k' k then some (some i) else none
 | .nilp=>some none
 |_=>none
theorem C5 {k:Nat}{v:V}{o:Option Nat}(h:FM k v=some o):v.toD=m6 k o:=by
 unfold FM at h
 split at h
 ·rename_i k' _
  cases hb:Nat.beq k' k with
  |true=>rw[hb] at h;cases Nat.eq_of_beq_eq_true hb;cases h;rfl
  |false=>rw[hb] at h;cases h
 ·rename_i k' _
  cases hb:Nat.beq k' k with
  |true=>rw[hb] at h;cases Nat.eq_of_beq_eq_true hb;cases h;rfl
  |false=>rw[hb] at h;cases h
 ·simp only[Option.some.injEq] at h;subst h;rfl
 ·cases h
def FL (t:Ty):V→Option (Option t.den)
 | .obo t' o=>(match o with|none=>some none|some x=>(tb t t' x).map some)
 | .box t' x=>(tb t t' x).map some
 | .nilp=>some none
 |_=>none
theorem C4 {t:Ty}{v:V}{o:Option t.den}(h:FL t v=some o):v.toD=ag (.ob t) o:=by
 unfold FL at h
 split at h
 ·split at h
  ·simp only[Option.some.injEq] at h;subst h;rfl
  ·obtain⟨y,h1,rfl⟩:=Option.map_eq_some_iff.1 h
   simp only[V.toD,ag,ot h1]
 ·obtain⟨y,h1,rfl⟩:=Option.map_eq_some_iff.1 h
  simp only[V.toD,ag,ot h1]
 ·simp only[Option.some.injEq] at h;subst h;rfl
 ·cases h
def Hw:(t:Ty)→V→Option t.den
 | .int k,.int k' n=>match decEq k' k with
  |isTrue _=>some n
  |isFalse _=>none
 | .bool,.bool b=>some b
 | .bool,.tt=>some true
 | .bool,.ff=>some false
 | .str,.str s=>some s
 | .lst t,.lst t' xs=>kr t t' xs
 | .txn,.agg [.int .i64 a,.int .i64 b,.int .i64 s,.int .i64 e]=>some ⟨a,b,s,e⟩
 | .led,.agg [b,.int .i64 f]=>(nf b).map fun b=>⟨b,f⟩
 | .vtx,.agg [.int .i64 r,.int .i64 a,ps,.int .i64 d]=>(nf ps).map fun ps=>⟨r,a,ps,d⟩
 | .ppl,.agg [.int .i64 r,.int .i64 a,ps,.int .i64 d,ms]=>(nf ps).bind fun ps=>(nf ms).map fun ms=>⟨⟨r,a,ps,d⟩,ms⟩
 | .wrl,.agg [c,l,.int .i64 b,.lst t3 vs,.lst t4 ps]=>(nf c).bind fun c=>(nf l).bind fun l=>(kr (.lst .vtx) t3 vs).bind fun vs=>(kr .ppl t4 ps).map fun ps=>⟨c,l,b,vs,ps⟩
 | .evt,.agg [.int .i64 k,.int .i64 x,.int .i64 y,.int .i64 r,.int .i64 a,ps,.int .i64 d]=>(nf ps).map fun ps=>⟨k,x,y,⟨r,a,ps,d⟩⟩
 | .slt,.agg [.int .i64 r,.int .i64 a]=>some ⟨r,a⟩
 | .odd,.agg [.int .i64 r,.int .i64 a,ps,.int .i64 d,.int .i64 w]=>(nf ps).map fun ps=>⟨⟨r,a,ps,d⟩,w⟩
 | .ob t,v=>FL t v
 | .hr k,v=>tl k v
 | .hp k,v=>FM k v
 | .vtxo k,.agg [.int .i64 r,.int .i64 a,ps,.int .i64 d]=>(tl k ps).map fun ps=>⟨r,a,ps,d⟩
 | .pplm k,.agg [.int .i64 r,.int .i64 a,ps,.int .i64 d,ms]=>(nf ps).bind fun ps=>(tl k ms).map fun ms=>⟨⟨r,a,ps,d⟩,ms⟩
 | .pplo k k',.agg [.int .i64 r,.int .i64 a,ps,.int .i64 d,ms]=>(tl k ps).bind fun ps=>(tl k' ms).map fun ms=>⟨⟨r,a,ps,d⟩,ms⟩
 | .nod k,.agg [.int .i64 r,.int .i64 a,ps,.int .i64 d,.int .i64 i,ns]=>(nf ps).bind fun ps=>(tl k ns).map fun ns=>⟨⟨r,a,ps,d⟩,i,ns⟩
 |_,_=>none
theorem q9 {t:Ty}{v:V}{x:t.den}(h:Hw t v=some x):v.toD=ag t x:=by
 unfold Hw at h
 split at h
 ·split at h
  ·rename_i e _
   subst e
   simp only[Option.some.injEq] at h
   subst h
   rfl
  ·cases h
 ·simp only[Option.some.injEq] at h;subst h;rfl
 ·simp only[Option.some.injEq] at h;subst h;rfl
 ·simp only[Option.some.injEq] at h;subst h;rfl
 ·simp only[Option.some.injEq] at h;subst h;rfl
 ·simp only[V.toD,ag,fa h]
 ·simp only[Option.some.injEq] at h;subst h;rfl
 ·obtain⟨b',h1,rfl⟩:=Option.map_eq_some_iff.1 h
  simp only[V.toD,ah,ag,eU h1]
 ·obtain⟨b',h1,rfl⟩:=Option.map_eq_some_iff.1 h
  simp only[V.toD,ah,ag,ft,eU h1]
 ·obtain⟨b',h1,h⟩:=Option.bind_eq_some_iff.1 h
  obtain⟨c',h2,rfl⟩:=Option.map_eq_some_iff.1 h
  simp[V.toD,ah,ag,ft,yU,eU h1,eU h2]
 ·obtain⟨b',h1,h⟩:=Option.bind_eq_some_iff.1 h
  obtain⟨c',h2,h⟩:=Option.bind_eq_some_iff.1 h
  obtain⟨d',h3,h⟩:=Option.bind_eq_some_iff.1 h
  obtain⟨e',h4,rfl⟩:=Option.map_eq_some_iff.1 h
  simp only[V.toD,ah,ag,eU h1,eU h2,fa h3,fa h4]
  rfl
 ·obtain⟨b',h1,rfl⟩:=Option.map_eq_some_iff.1 h
  simp[V.toD,ah,ag,ft,eU h1]
 ·simp only[Option.some.injEq] at h;subst h;rfl
 ·obtain⟨b',h1,rfl⟩:=Option.map_eq_some_iff.1 h
  simp[V.toD,ah,ag,ft,eU h1]
 ·exact C4 h
 ·exact jW h
 ·exact C5 h
 ·obtain⟨b',h1,rfl⟩:=Option.map_eq_some_iff.1 h
  simp only[V.toD,ah,ag,jW h1]
 ·obtain⟨b',h1,h⟩:=Option.bind_eq_some_iff.1 h
  obtain⟨c',h2,rfl⟩:=Option.map_eq_some_iff.1 h
  simp[V.toD,ah,ag,ft,eU h1,jW h2]
 ·obtain⟨b',h1,h⟩:=Option.bind_eq_some_iff.1 h
  obtain⟨c',h2,rfl⟩:=Option.map_eq_some_iff.1 h
  simp[V.toD,ah,ag,jW h1,jW h2]
 ·obtain⟨b',h1,h⟩:=Option.bind_eq_some_iff.1 h
  obtain⟨c',h2,rfl⟩:=Option.map_eq_some_iff.1 h
  simp[V.toD,ah,ag,ft,eU h1,jW h2]
 ·cases h
inductive VB where
 |var (T:TypeId) (cs:List V)
 |vari (T:TypeId) (pre:List V) (m:Nat) (t:Ty) (xs:List t.den) (post:List V)
 |row (E:TypeId) (t:Ty) (xs:List t.den)
 |lit (E:TypeId) (vs:List V)
 |froz (t:Ty) (xs:List t.den)
 |fvb (t:Ty) (x:t.den)
 |fvar (T:TypeId) (t:Ty) (xs:List t.den)
 |fvari (T:TypeId) (m:Nat) (t:Ty) (xss:List (List t.den))
 |frow (E:TypeId) (t:Ty) (xss:List (List t.den))
 |frowx (E:TypeId) (t:Ty) (xss:List (Option (List t.den)))
 |moved (k i:Nat)
 |gone
def rowX (E:TypeId)(t:Ty):Option (List t.den)→Blk
 |some xs=>.row E (xs.map (ag t))
 |none=>.gone
def VB.blks:VB→List Blk
 | .var T cs=>[.var T (ah cs)]
 | .vari T pre _ t xs post=>[.var T (ah pre++xs.map (ag t)++ah post)]
 | .row E t xs=>[.row E (xs.map (ag t))]
 | .lit E vs=>[.row E (ah vs)]
 | .froz t xs=>[.froz (xs.map (ag t))]
 | .fvb t x=>[.fvar (ag t x).cells]
 | .fvar T t xs=>xs.map fun x=>.var T (ag t x).cells
 | .fvari T _ t xss=>xss.map fun xs=>.var T (xs.map (ag t))
 | .frow E t xss=>xss.map fun xs=>.row E (xs.map (ag t))
 | .frowx E t xss=>xss.map (rowX E t)
 | .moved k i=>[.moved (k,i)]
 | .gone=>[.gone]
def VB.sgl:VB→Bool
 | .fvar .. | .fvari .. | .frow .. | .frowx ..=>false
 |_=>true
theorem VB.sgl_ok {x:VB}(h:x.sgl=true):∃d,x.blks=[d]:=by cases x<;>first|exact⟨_,rfl⟩|cases h
abbrev VT:=List (Nat×V)
abbrev VH:=List (Nat×VB)
def eq:VT→List (Nat×D):=List.map fun p=>(p.1,p.2.toD)
def fam (k:Nat)(l:List Blk):HL:=l.zipIdx.map fun p=>((k,p.2),p.1)
def pQ:List Nat→VH→HL
 |_,[]=>[]
 |s,(k,x)::l=>(bif s.contains k then[] else fam k x.blks)++pQ (k::s) l
def toH (h:VH):HL:=pQ [] h
structure VSt where
 t:VT
 h:VH
 n:Nat
def VSt.toD (σ:VSt):St:=⟨eq σ.t,toH σ.h,σ.n⟩
theorem ue {κ α β:Type}[DecidableEq κ](f:α→β):∀(l:List (κ×α)) (k:κ),look (l.map fun p=>(p.1,f p.2)) k=(look l k).map f
 |[],k=>rfl
 |(x,d)::l,k=>by
  simp only[List.map_cons,look,ue f l k]
  split<;>rfl
theorem bU (t:VT)(k:Nat):look (eq t) k=(look t k).map V.toD:=ue _ _ _
theorem fb {κ α:Type}[DecidableEq κ]:∀(l m:List (κ×α)) (k:κ),look (l++m) k=match look l k with|some x=>some x|none=>look m k
 |[],m,k=>rfl
 |(x,a)::l,m,k=>by
  simp only[List.cons_append,look]
  split
  ·rfl
  ·exact fb l m k
theorem oU (k:Nat)(l:List Blk)(b:Id):look (fam k l) b=if b.1=k then l[b.2]? else none:=by
 have key:∀(l:List Blk) (s:Nat),look ((l.zipIdx s).map fun p=>((k,p.2),p.1)) b=if b.1=k∧s≤b.2 then l[b.2-s]? else none:=by
  intro l
  induction l with
  |nil=>intro s;simp[look]
  |cons x l ih=>
   intro s
   simp only[List.zipIdx_cons,List.map_cons,look,ih]
   obtain⟨b1,b2⟩:=b
   simp only[Prod.mk.injEq]
   by_cases h1:b1=k
   ·by_cases h2:b2=s
    ·subst h2;simp[h1]
    ·by_cases h3:s≤b2
     ·rw[if_neg (by simp[h2]),if_pos ⟨h1,by omega⟩,if_pos ⟨h1,h3⟩,show b2-s=(b2-(s+1))+1 by omega]
      rfl
     ·rw[if_neg (by simp[h2]),if_neg (by omega),if_neg (by omega)]
   ·simp[h1]
 unfold fam
 rw[key l 0]
 simp
theorem qj:∀(h:VH) (s:List Nat) (b:Id),look (pQ s h) b=if b.1∈s then none else(look h b.1).bind fun x=>x.blks[b.2]?
 |[],s,b=>by simp[pQ,look]
 |(k,x)::l,s,b=>by
  simp only[pQ,fb,qj l,look]
  by_cases hs:b.1∈s
  ·rw[if_pos (List.mem_cons_of_mem _ hs),if_pos hs]
   by_cases hk:k∈s
   ·simp[hk,look]
   ·have hc:s.contains k=false:=by simpa using hk
    have hne:b.1≠k:=fun e=>hk (e▸hs)
    rw[hc,cond_false,oU,if_neg hne]
  ·rw[if_neg hs]
   by_cases hb:b.1=k
   ·have hc:s.contains k=false:=by rw[←hb];simpa using hs
    rw[hc,cond_false,oU,if_pos hb,if_pos hb,if_pos (by rw[hb];exact List.mem_cons_self ..)]
    simp only[Option.bind_some]
    cases x.blks[b.2]?<;>rfl
   ·rw[if_neg hb,if_neg (by simp only[List.mem_cons,not_or];exact⟨hb,hs⟩)]
    have:look (bif s.contains k then[] else fam k x.blks) b=none:=by
     cases s.contains k with
     |true=>rfl
     |false=>rw[cond_false,oU,if_neg hb]
    rw[this]
theorem ak (h:VH)(b:Id):look (toH h) b=(look h b.1).bind fun x=>x.blks[b.2]?:=by
 unfold toH
 rw[qj]
 simp
inductive TK where
 |int (k:IntKind)|bool|str|slice (E:TypeId)|ptr (E:TypeId)|ifc|func
 |struct (fs:List (Nat×Nat×Nat))
 |arr (n:Nat) (E:TypeId)
structure TI where
 k:TK
 sz:Nat
 nb:Nat
 z:Option V
 ty:Option Ty
 own:Bool:=false
def TI.agg (ti:TI):Bool:=match ti.k with| .struct _=>true| .arr ..=>true|_=>false
def TK.ok (P:Program)(T:TypeId):TK→Prop
 | .int k=>P.underlying T=some (.int k)
 | .bool=>P.underlying T=some .bool
 | .str=>P.underlying T=some .string
 | .slice E=>P.underlying T=some (.slice E)
 | .ptr E=>P.underlying T=some (.pointer E)
 | .ifc=>tV P T=true
 | .func=>True
 | .struct fs=>(∀i ty off s,fs[i]?=some (ty,off,s)→rt P T i=some (ty,off)∧(0<s→gy P T i=some off))∧iN P T=some (fs.map fun f=>(f.2.1,f.2.2))
 | .arr n E=>P.underlying T=some (.array n E)
structure TI.ok (P:Program)(T:TypeId)(ti:TI):Prop where
 und:ti.k.ok P T
 size:sizeT P T=some ti.sz
 agg:isAggT P T=some ti.agg
 zero:∀z,ti.z=some z→ofZero P T=some z.toD
 elem:ti.z.isSome=true→0<ti.sz→elemT P T=some (ti.sz,ti.nb)
def vB:Value→V→Bool
 | .int k n,.int k' n'=>decide (k=k') && n==n'
 | .bool b,.bool b'=>b==b'
 | .string s,.str s'=>decide (s=s')
 | .pointer none,.nilp=>true
 | .slice none 0 0,.nils=>true
 | .nilFunc,.nilf=>true
 | .nilIface,.nili=>true
 |_,_=>false
theorem Fu {v:Value}{x:V}(h:vB v x=true):gh v=some x.toD:=by
 unfold vB at h
 split at h
 ·simp only[Bool.and_eq_true,decide_eq_true_eq,beq_iff_eq] at h
  obtain⟨rfl,rfl⟩:=h
  rfl
 ·simp only[beq_iff_eq] at h
  subst h
  rfl
 ·simp only[decide_eq_true_eq] at h
  subst h
  rfl
 ·rfl
 ·rfl
 ·rfl
 ·rfl
 ·cases h
def IC:List Value→List V→Bool
 |[],[]=>true
 |v::vs,x::xs=>vB v x && IC vs xs
 |_,_=>false
theorem CB:∀{vs:List Value} {xs:List V},IC vs xs=true→vs.mapM gh=some (ah xs)
 |[],[],_=>rfl
 |[],_::_,h=>by cases h
 |_::_,[],h=>by cases h
 |v::vs,x::xs,h=>by
  simp only[IC,Bool.and_eq_true] at h
  simp[List.mapM_cons,Fu h.1,CB h.2,ah]
def zB:Option Value→Option V→Bool
 |_,none=>true
 |some (.agg vs),some (.agg xs)=>IC vs.toList xs
 |some (.agg _),some _=>false
 |some v,some x=>vB v x
 |none,some _=>false
def kB (P:Program)(T:TypeId)(k:TK):Bool:=
 match k,P.underlying T with
 | .int k,some (.int k')=>decide (k=k')
 | .bool,some .bool=>true
 | .str,some .string=>true
 | .slice E,some (.slice E')=>E==E'
 | .ptr E,some (.pointer E')=>E==E'
 | .ifc,some (.interface _)=>true
 | .func,some (.func ..)=>true
 | .struct fs,some (.struct a)=>decide (fs.map (fun f=>(f.1,f.2.1))=a.toList.map fun f=>(f.type,f.offset)) && fs.all fun f=>match P.info? f.1 with|some i=>i.size==f.2.2|none=>false
 | .arr n E,some (.array n' E')=>n==n' && E==E'
 |_,_=>false
def I2 (P:Program)(T:TypeId)(ti:TI):Bool:=
 kB P T ti.k && (match P.info? T with
  |some i=>i.size==ti.sz && i.bytes==ti.nb && zB i.zero ti.z && (match i.zero with|some z=>z.cells.size==i.size|none=>true)
  |none=>false)
theorem qk {α β:Type}{f:α→Option β}{g:α→β}:∀{l:List α},(∀x∈l,f x=some (g x))→l.mapM f=some (l.map g)
 |[],_=>rfl
 |a::l,h=>by simp[List.mapM_cons,h a (List.mem_cons_self ..),qk fun x hx=>h x (List.mem_cons_of_mem _ hx)]
theorem It {P:Program}{T:TypeId}{i:TypeInfo}(hi:P.info? T=some i){z:V}(h:zB i.zero (some z)=true):ofZero P T=some z.toD:=by
 unfold ofZero
 rw[hi]
 simp only[Option.bind_some]
 unfold zB at h
 split at h
 ·rename_i e;cases e
 ·rename_i vs xs e1 e2
  simp only[Option.some.injEq] at e2
  subst e2
  rw[e1]
  simp only[CB h,Option.map_some,V.toD]
 ·cases h
 ·rename_i v x hne e1 e2
  simp only[Option.some.injEq] at e2
  subst e2
  rw[e1]
  split
  ·rename_i vs e
   simp only[Option.some.injEq] at e
   subst e
   exact absurd rfl (hne vs)
  ·rename_i e
   simp only[Option.some.injEq] at e
   subst e
   exact Fu h
  ·rename_i e;cases e
 ·cases h
theorem H9 {P:Program}{T:TypeId}{k:TK}(h:kB P T k=true):k.ok P T:=by
 unfold kB at h
 split at h
 ·rename_i e;simp only[decide_eq_true_eq] at h;subst h;exact e
 ·rename_i e;exact e
 ·rename_i e;exact e
 ·rename_i e;simp only[beq_iff_eq] at h;subst h;exact e
 ·rename_i e;simp only[beq_iff_eq] at h;subst h;exact e
 ·rename_i e;show tV P T=true;unfold tV;rw[e]
 ·trivial
 ·rename_i fs a e
  simp only[Bool.and_eq_true,decide_eq_true_eq,List.all_eq_true] at h
  obtain⟨h1,h2⟩:=h
  have hsz:∀f∈fs,∃i,P.info? f.1=some i∧i.size=f.2.2:=by
   intro f hf
   have:=h2 f hf
   split at this
   ·rename_i i hi;exact⟨i,hi,by simpa using this⟩
   ·cases this
  refine⟨fun i ty off s hi=>?_,?_⟩
  ·have hm:(fs.map fun f=>(f.1,f.2.1))[i]?=some (ty,off):=by rw[List.getElem?_map,hi];rfl
   rw[h1,List.getElem?_map] at hm
   obtain⟨fd,hfd,he⟩:=Option.map_eq_some_iff.1 hm
   simp only[Prod.mk.injEq] at he
   obtain⟨rfl,rfl⟩:=he
   have hfd':a[i]?=some fd:=by simpa using hfd
   obtain⟨ii,hi1,hi2⟩:=hsz _ (List.mem_of_getElem? hi)
   simp only at hi1 hi2
   refine⟨by unfold rt;simp[e,hfd'],fun hs=>?_⟩
   unfold gy
   have:sizeT P fd.type=some s:=by unfold sizeT;rw[hi1];simp[hi2]
   simp only[e,hfd',this]
   cases s with
   |zero=>omega
   |succ s=>rfl
  ·unfold iN
   simp only[e]
   have hl:a.toList.length=fs.length:=by have:=congrArg List.length h1;simpa using this.symm
   have key:∀(l:List Field) (gs:List (Nat×Nat×Nat)),gs.map (fun f=>(f.1,f.2.1))=l.map (fun f=>(f.type,f.offset))→(∀f∈gs,∃i,P.info? f.1=some i∧i.size=f.2.2)→
     (l.mapM fun f=>(P.info? f.type).map fun i=>(f.offset,i.size))=some (gs.map fun f=>(f.2.1,f.2.2)):=by
    intro l
    induction l with
    |nil=>
     intro gs hg _
     cases gs with
     |nil=>rfl
     |cons g gs=>simp at hg
    |cons x l ih=>
     intro gs hg hs
     cases gs with
     |nil=>simp at hg
     |cons g gs=>
      simp only[List.map_cons,List.cons.injEq,Prod.mk.injEq] at hg
      obtain⟨⟨g1,g2⟩,g3⟩:=hg
      obtain⟨i,hi1,hi2⟩:=hs g (List.mem_cons_self ..)
      rw[g1] at hi1
      simp[List.mapM_cons,hi1,ih gs g3 fun f hf=>hs f (List.mem_cons_of_mem _ hf),hi2,g2]
   exact key _ _ h1 hsz
 ·rename_i e;simp only[Bool.and_eq_true,beq_iff_eq] at h;obtain⟨rfl,rfl⟩:=h;exact e
 ·cases h
theorem Hk {P:Program}{T:TypeId}{ti:TI}(h:I2 P T ti=true):ti.ok P T:=by
 unfold I2 at h
 simp only[Bool.and_eq_true] at h
 obtain⟨hk,h⟩:=h
 split at h
 ·rename_i i hi
  simp only[Bool.and_eq_true,beq_iff_eq] at h
  obtain⟨⟨⟨h1,h2⟩,h3⟩,h4⟩:=h
  refine⟨H9 hk,by unfold sizeT;rw[hi];simp[h1],?_,fun z hz=>It hi (by rw[←hz];exact h3),fun hz hp=>?_⟩
  ·unfold isAggT TI.agg
   unfold kB at hk
   split at hk<;>simp_all
  ·unfold elemT
   rw[hi]
   simp only
   cases hzz:i.zero with
   |none=>
    rw[hzz] at h3
    cases hz':ti.z with
    |none=>rw[hz'] at hz;cases hz
    |some z=>rw[hz'] at h3;simp[zB] at h3
   |some z=>
    rw[hzz] at h4
    simp only[beq_iff_eq] at h4
    show (if z.cells.size=i.size∧0<i.size then some (i.size,i.bytes) else none)=_
    rw[if_pos ⟨h4,by omega⟩,h1,h2]
 ·cases h
abbrev TT:=List (Nat×TI)
def TT.ok (P:Program)(Θ:TT):Prop:=∀T ti,look Θ T=some ti→ti.ok P T
def TT.okB (P:Program)(Θ:TT):Bool:=Θ.all fun p=>I2 P p.1 p.2
theorem TT.okB_ok {P:Program}{Θ:TT}(h:Θ.okB P=true):Θ.ok P:=fun T ti hl=>Hk (by
 unfold TT.okB at h
 rw[List.all_eq_true] at h
 exact h _ (bT hl))
def bk (φ K:Prop):Prop:=φ∧K
def H6:IntKind→Int→Prop
 | .i8,n=>-128≤n∧n≤127
 | .i16,n=>-32768≤n∧n≤32767
 | .i32,n=>-2147483648≤n∧n≤2147483647
 | .i64,n=>-9223372036854775808≤n∧n≤9223372036854775807
 | .u8,n=>0≤n∧n≤255
 | .u16,n=>0≤n∧n≤65535
 | .u32,n=>0≤n∧n≤4294967295
 | .u64,n=>0≤n∧n≤18446744073709551615
theorem A3 {k:IntKind}{n:Int}(h:H6 k n):k.wrap n=n:=by
 unfold H6 at h
 cases k<;>simp only at h<;>(unfold IntKind.wrap;simp[IntKind.bits,IntKind.signed];omega)
def Ari (k:IntKind)(z:Int)(K:Int→Prop):Prop:=(H6 k z∧K z)∨K (k.wrap z)
theorem Ari.ok {k:IntKind}{z:Int}{K:Int→Prop}(h:Ari k z K):K (k.wrap z):=by
 rcases h with⟨h1,h2⟩|h
 ·rw[A3 h1];exact h2
 ·exact h
def eD {α:Type}(xs:List α)(i:Nat)(K:α→Prop):Prop:=∃x,xs[i]?=some x∧K x
def ky {α:Type}(xs:List α)(i:Int)(K:Nat→α→Prop):Prop:=0≤i∧∃x,xs[i.toNat]?=some x∧K i.toNat x
def iB (b:Bool)(A B:Prop):Prop:=(b=true→A)∧(b=false→B)
def aQ {α:Type}:List (Nat×α)→Nat→(α→Prop)→Prop
 |[],_,_=>False
 |(k,a)::l,x,K=>bif Nat.beq x k then K a else aQ l x K
theorem aq {α:Type}:∀{l:List (Nat×α)} {x:Nat} {K:α→Prop},aQ l x K→∃a,look l x=some a∧K a
 |[],_,_,h=>h.elim
 |(k,a)::l,x,K,h=>by
  simp only[aQ] at h
  simp only[look]
  by_cases e:x=k
  ·subst e
   simp only[Nat.beq_refl,cond_true] at h
   exact⟨a,by simp,h⟩
  ·have:Nat.beq x k=false:=by
    cases hb:Nat.beq x k with
    |false=>rfl
    |true=>exact absurd (Nat.eq_of_beq_eq_true hb) e
   rw[this] at h
   simp only[cond_false] at h
   rw[if_neg e]
   exact aq h
def dj (h:VH)(b:Nat)(K:VB→Prop):Prop:=aQ h b K
theorem aG {h:VH}{b:Nat}{K:VB→Prop}(hk:dj h b K):∃x,look h b=some x∧K x:=aq hk
theorem am {h:VH}{k i:Nat}{x:VB}{d:Blk}(h1:look h k=some x)(h2:x.blks[i]?=some d):look (toH h) (k,i)=some d:=by rw[ak,h1];exact h2
def wb:Value→Option V
 | .int k n=>some (.int k n)
 | .bool true=>some .tt
 | .bool false=>some .ff
 | .string s=>some (.str s)
 | .pointer none=>some .nilp
 | .slice none 0 0=>some .nils
 | .nilFunc=>some .nilf
 | .nilIface=>some .nili
 |_=>none
theorem yP {v:Value}{x:V}(h:wb v=some x):gh v=some x.toD:=by
 unfold wb at h
 split at h<;>first|(simp only[Option.some.injEq] at h;subst h;rfl)|cases h
def m4 (t:VT)(x:Operand)(K:V→Prop):Prop:=
 match x with
 | .tmp k=>aQ t k K
 | .const v=>(match wb v with|some d=>K d|none=>False)
 | .global g=>(match look Gl g with|some _=>K (.gp g)|none=>False)
 |_=>False
theorem bz {t:VT}{x:Operand}{K:V→Prop}(h:m4 t x K):∃v,aA (eq t) x=some v.toD∧K v:=by
 unfold m4 at h
 split at h
 ·obtain⟨v,h1,h2⟩:=aq h
  exact⟨v,by simp only[aA,bU,h1,Option.map_some],h2⟩
 ·split at h
  ·rename_i d hd
   exact⟨d,yP hd,h⟩
  ·exact h.elim
 ·rename_i g
  split at h
  ·rename_i y hy
   exact⟨.gp g,by simp[aA,hy,V.toD],h⟩
  ·exact h.elim
 ·exact h.elim
def FR (t:VT):List Operand→(List V→Prop)→Prop
 |[],K=>K []
 |x::l,K=>m4 t x fun v=>FR t l fun vs=>K (v::vs)
theorem xh {t:VT}:∀{l:List Operand} {K:List V→Prop},FR t l K→∃vs,evalDs (eq t) l=some (ah vs)∧K vs
 |[],K,h=>⟨[],rfl,h⟩
 |x::l,K,h=>by
  obtain⟨v,h1,h2⟩:=bz h
  obtain⟨vs,h3,h4⟩:=xh h2
  exact⟨v::vs,tz h1 h3,h4⟩
def uV (l:List (Nat×V)):List (Nat×D):=l.map fun p=>(p.1,p.2.toD)
def FS (t:VT):List (Nat×Operand)→(List (Nat×V)→Prop)→Prop
 |[],K=>K []
 |(k,x)::l,K=>m4 t x fun v=>FS t l fun vs=>K ((k,v)::vs)
theorem xi {t:VT}:∀{l:List (Nat×Operand)} {K:List (Nat×V)→Prop},FS t l K→∃vs,evalPs (eq t) l=some (uV vs)∧K vs
 |[],K,h=>⟨[],rfl,h⟩
 |(k,x)::l,K,h=>by
  obtain⟨v,h1,h2⟩:=bz h
  obtain⟨vs,h3,h4⟩:=xi h2
  exact⟨(k,v)::vs,tA h1 h3,h4⟩
def uh {α:Type}:List α→Nat→(α→Prop)→Prop
 |[],_,_=>False
 |c::_,0,K=>K c
 |_::cs,n+1,K=>uh cs n K
theorem iL {α:Type}:∀{l:List α} {n:Nat} {K:α→Prop},uh l n K→∃x,l[n]?=some x∧K x
 |[],_,_,h=>h.elim
 |c::_,0,K,h=>⟨c,rfl,h⟩
 |_::cs,n+1,K,h=>by
  obtain⟨x,h1,h2⟩:=iL (l:=cs) (n:=n) h
  exact⟨x,by simpa using h1,h2⟩
def px:List V→Nat→(List V→Prop)→Prop
 |_,0,K=>K []
 |[],_+1,_=>False
 |c::cs,n+1,K=>px cs n fun r=>K (c::r)
theorem lQ:∀{l:List V} {n:Nat} {K:List V→Prop},px l n K→n≤l.length∧K (l.take n)
 |l,0,K,h=>⟨Nat.zero_le _,by cases l<;>simpa[px] using h⟩
 |[],_+1,_,h=>h.elim
 |c::cs,n+1,K,h=>by
  obtain⟨h1,h2⟩:=lQ (l:=cs) (n:=n) h
  exact⟨by simpa using h1,by simpa using h2⟩
def Cj:List V→Nat→Nat→(List V→Prop)→Prop
 |l,0,s,K=>px l s K
 |[],_+1,_,_=>False
 |_::cs,o+1,s,K=>Cj cs o s K
theorem sA:∀{l:List V} {o s:Nat} {K:List V→Prop},Cj l o s K→o+s≤l.length∧K ((l.drop o).take s)
 |l,0,s,K,h=>by
  have h':px l s K:=by cases l<;>simpa[Cj] using h
  obtain⟨h1,h2⟩:=lQ h'
  exact⟨by omega,by simpa using h2⟩
 |[],_+1,_,_,h=>h.elim
 |_::cs,o+1,s,K,h=>by
  obtain⟨h1,h2⟩:=sA (l:=cs) (o:=o) h
  exact⟨by simp only[List.length_cons];omega,by simpa using h2⟩
def ul:List V→List V→(List V→Prop)→Prop
 |l,[],K=>K l
 |[],_::_,_=>False
 |_::l,x::m,K=>ul l m fun r=>K (x::r)
def pO:List V→Nat→List V→(List V→Prop)→Prop
 |l,0,m,K=>ul l m K
 |[],_+1,_,_=>False
 |c::l,o+1,m,K=>pO l o m fun r=>K (c::r)
theorem um:∀{l m:List V} {K:List V→Prop},ul l m K→m.length≤l.length∧K (m++l.drop m.length)
 |l,[],K,h=>⟨Nat.zero_le _,by cases l<;>simpa[ul] using h⟩
 |[],_::_,_,h=>h.elim
 |_::l,x::m,K,h=>by
  obtain⟨h1,h2⟩:=um (l:=l) (m:=m) h
  exact⟨by simpa using h1,by simpa using h2⟩
theorem gr:∀{l:List V} {o:Nat} {m:List V} {K:List V→Prop},pO l o m K→o+m.length≤l.length∧K (l.take o++m++l.drop (o+m.length))
 |l,0,m,K,h=>by
  have h':ul l m K:=by cases l<;>simpa[pO] using h
  obtain⟨h1,h2⟩:=um h'
  exact⟨by omega,by simpa using h2⟩
 |[],_+1,_,_,h=>h.elim
 |c::l,o+1,m,K,h=>by
  obtain⟨h1,h2⟩:=gr (l:=l) (o:=o) (m:=m) h
  refine⟨by simp only[List.length_cons];omega,?_⟩
  have:o+1+m.length=(o+m.length)+1:=by omega
  rw[this]
  simpa using h2
theorem aw (l:List V):(ah l).length=l.length:=by rw[bI,List.length_map]
theorem jJ (l m:List V)(o:Nat):aE (ah l) o (ah m)=ah (l.take o++m++l.drop (o+m.length)):=by
 simp only[aE,bI,List.map_append,List.map_take,List.map_drop,List.length_map]
def V.cells:V→List V
 | .agg cs=>cs
 |v=>[v]
theorem aJ (v:V):v.toD.cells=ah v.cells:=by
 cases v
 case hro k o=>cases o<;>rfl
 case hpo k o=>cases o<;>rfl
 case obo t o=>cases o<;>rfl
 all_goals rfl
def fk (ti:TI)(cs:List V)(o:Nat)(K:V→Prop):Prop:=bif ti.agg then Cj cs o ti.sz fun r=>K (.agg r) else uh cs o K
theorem bH {P:Program}{T:TypeId}{ti:TI}(ht:ti.ok P T){cs:List V}{o:Nat}{K:V→Prop}(h:fk ti cs o K):∃v,ba P T (ah cs) o=some v.toD∧K v:=by
 unfold fk at h
 have ha:=ht.agg
 cases hb:ti.agg with
 |true=>
  rw[hb] at h ha
  obtain⟨h1,h2⟩:=sA h
  refine⟨_,Fq ha ht.size (by rw[aw];exact h1) ?_,h2⟩
  simp only[bI,←List.map_take,←List.map_drop]
 |false=>
  rw[hb] at h ha
  obtain⟨v,h1,h2⟩:=iL h
  exact⟨v,Cs ha (by rw[bI,List.getElem?_map,h1];rfl),h2⟩
theorem sE {P:Program}{T:TypeId}{A B:List D}{o:Nat}{d:D}(h:ba P T A o=some d):ba P T (A++B) o=some d:=by
 unfold ba at h⊢
 cases h1:isAggT P T with
 |none=>rw[h1] at h;simp at h
 |some b=>
  cases b with
  |true=>
   cases h2:sizeT P T with
   |none=>rw[h1,h2] at h;simp at h
   |some s=>
    rw[h1,h2] at h
    simp only at h⊢
    split at h
    ·rename_i hle
     rw[if_pos (by rw[List.length_append];omega),←h]
     congr 2
     rw[List.drop_append_of_le_length (by omega),List.take_append_of_le_length (by rw[List.length_drop];omega)]
    ·cases h
  |false=>
   rw[h1] at h
   simp only at h⊢
   have hlt:=(List.getElem?_eq_some_iff.1 h).1
   rw[List.getElem?_append_left hlt]
   exact h
theorem pP {P:Program}{T:TypeId}{A B:List D}{o:Nat}{d:D}(h:ba P T B o=some d):ba P T (A++B) (A.length+o)=some d:=by
 unfold ba at h⊢
 cases h1:isAggT P T with
 |none=>rw[h1] at h;simp at h
 |some b=>
  cases b with
  |true=>
   cases h2:sizeT P T with
   |none=>rw[h1,h2] at h;simp at h
   |some s=>
    rw[h1,h2] at h
    simp only at h⊢
    split at h
    ·rename_i hle
     rw[if_pos (by rw[List.length_append];omega),←h]
     congr 2
     rw[List.drop_append,List.drop_of_length_le (by omega),List.nil_append,Nat.add_sub_cancel_left]
    ·cases h
  |false=>
   rw[h1] at h
   simp only at h⊢
   rw[List.getElem?_append_right (by omega)]
   simpa using h
def Chk (b:Bool)(K:Prop):Prop:=match b with|true=>K|false=>False
def Mk (b:Bool)(K:Prop):Prop:=b=true∧K
theorem Chk.ok {b:Bool}{K:Prop}(h:Chk b K):b=true∧K:=by cases b<;>first|exact h.elim|exact⟨rfl,h⟩
def eJ (n:Nat)(K:Nat→Prop):Prop:=
 match n with
 |0=>K 0|1=>K 1|2=>K 2|3=>K 3|4=>K 4|5=>K 5|6=>K 6|7=>K 7|8=>K 8|9=>K 9|10=>K 10|11=>K 11|12=>K 12|13=>K 13|14=>K 14|15=>K 15
 |16=>K 16|17=>K 17|18=>K 18|19=>K 19|20=>K 20|21=>K 21|22=>K 22|23=>K 23
 |n=>K n
theorem aW {n:Nat}{K:Nat→Prop}(h:eJ n K):K n:=by
 unfold eJ at h
 split at h<;>exact h
def eA:List Nat→(List Nat→Prop)→Prop
 |[],K=>K []
 |b::l,K=>eJ b fun b=>eA l fun l=>K (b::l)
theorem bw:∀{l:List Nat} {K:List Nat→Prop},eA l K→K l
 |[],K,h=>h
 |b::l,K,h=>bw (l:=l) (K:=fun l=>K (b::l)) (aW (K:=fun b=>eA l fun l=>K (b::l)) h)
def CP {α:Type}:List α→List α→(List α→Prop)→Prop
 |[],m,K=>K m
 |a::l,m,K=>CP l m fun r=>K (a::r)
theorem qM {α:Type}:∀{l m:List α} {K:List α→Prop},CP l m K→K (l++m)
 |[],m,K,h=>h
 |a::l,m,K,h=>qM (l:=l) (K:=fun r=>K (a::r)) h
def gD:List Nat→Bool
 |[]=>true
 |a::l=>!(l.contains a) && gD l
theorem fA:∀{l:List Nat},gD l=true→l.Nodup
 |[],_=>List.nodup_nil
 |a::l,hl=>by
  simp only[gD,Bool.and_eq_true,Bool.not_eq_true'] at hl
  exact List.nodup_cons.2 ⟨by simpa using hl.1,fA hl.2⟩
def aC {α:Type}:List (Nat×α)→Nat→Option α
 |[],_=>none
 |(k,a)::l,x=>bif Nat.beq x k then some a else aC l x
theorem aD {α:Type}:∀(l:List (Nat×α)) (x:Nat),aC l x=look l x
 |[],_=>rfl
 |(k,a)::l,x=>by
  simp only[aC,look,aD l x]
  by_cases e:x=k
  ·subst e;simp
  ·have:Nat.beq x k=false:=by
    cases hb:Nat.beq x k with
    |false=>rfl
    |true=>exact absurd (Nat.eq_of_beq_eq_true hb) e
   rw[this,if_neg e];rfl
def bE (h:VH)(u:HL)(vu:VH):Prop:=(∀b,look (puts u (toH h)) b=look (toH (puts vu h)) b)∧∀x∈u,x.1.1∈vu.map (·.1)
theorem aB {h:VH}:bE h [] []:=⟨fun _=>rfl,fun x hx=>by cases hx⟩
theorem n3 {h:VH}{u1 u2:HL}{v1 v2:VH}(h1:bE h u1 v1)(h2:bE (puts v1 h) u2 v2):bE h (u1++u2) (v1++v2):=by
 refine⟨fun b=>?_,fun x hx=>?_⟩
 ·rw[aN,aN,←h2.1 b]
  exact aV (h1.1 b)
 ·rw[List.map_append]
  rcases List.mem_append.1 hx with hx|hx
  ·exact List.mem_append_left _ (h1.2 x hx)
  ·exact List.mem_append_right _ (h2.2 x hx)
theorem sH {h:VH}{k:Nat}{y:VB}{u:HL}(hk:∀x∈u,x.1.1=k)(hu:∀i,look (puts u (toH h)) (k,i)=y.blks[i]?):bE h u [(k,y)]:=by
 refine⟨fun b=>?_,fun x hx=>by rw[hk x hx];exact List.mem_singleton.2 rfl⟩
 obtain⟨b1,b2⟩:=b
 rw[ak]
 show _=(look (put k y h) b1).bind _
 rw[ai]
 by_cases e:b1=k
 ·subst e;rw[if_pos rfl];exact hu b2
 ·rw[if_neg e,ax _ _ _ fun x hx he=>e (by rw[←hk x hx,he]),ak]
theorem lS {h:VH}{k:Nat}{y:VB}{d:Blk}(ho:∀i,i≠0→look (toH h) (k,i)=none)(hy:y.blks=[d]):bE h [((k,0),d)] [(k,y)]:=by
 refine sH (fun x hx=>by obtain rfl:=List.mem_singleton.1 hx;rfl) fun i=>?_
 show look (put (k,0) d (toH h)) (k,i)=_
 rw[ai,hy]
 cases i with
 |zero=>rw[if_pos rfl];rfl
 |succ i=>rw[if_neg (by simp),ho _ (by simp)];rfl
theorem BE {h:VH}{k:Nat}{x:VB}(h1:look h k=some x)(hs:x.sgl=true):∀i,i≠0→look (toH h) (k,i)=none:=by
 intro i hi
 obtain⟨d,hd⟩:=VB.sgl_ok hs
 rw[ak,h1]
 simp only[Option.bind_some,hd]
 cases i with
 |zero=>exact absurd rfl hi
 |succ i=>rfl
theorem eY {h:VH}{k:Nat}{x y:VB}{d:Blk}(h1:look h k=some x)(hs:x.sgl=true)(hy:y.blks=[d]):bE h [((k,0),d)] [(k,y)]:=lS (BE h1 hs) hy
theorem iW {h:VH}{n:Nat}{y:VB}{d:Blk}(hn:∀b:Id,n≤b.1→look (toH h) b=none)(hy:y.blks=[d]):bE h [((n,0),d)] [(n,y)]:=lS (fun i _=>hn (n,i) (Nat.le_refl _)) hy
theorem sG {h:VH}{k i:Nat}{x y:VB}{d:Blk}(h1:look h k=some x)(hy:y.blks=x.blks.set i d)(hi:i<x.blks.length):bE h [((k,i),d)] [(k,y)]:=by
 refine sH (fun x hx=>by obtain rfl:=List.mem_singleton.1 hx;rfl) fun j=>?_
 show look (put (k,i) d (toH h)) (k,j)=_
 rw[ai,ak,h1,hy]
 by_cases e:j=i
 ·subst e;rw[if_pos rfl,List.getElem?_set_self hi]
 ·rw[if_neg (by simp[e]),List.getElem?_set_ne (Ne.symm e)];rfl
theorem Cv {h:VH}{k:Nat}{x y:VB}{d:Blk}(h1:look h k=some x)(hy:y.blks=x.blks++[d]):bE h [((k,x.blks.length),d)] [(k,y)]:=by
 refine sH (fun x hx=>by obtain rfl:=List.mem_singleton.1 hx;rfl) fun j=>?_
 show look (put (k,x.blks.length) d (toH h)) (k,j)=_
 rw[ai,ak,h1,hy]
 by_cases e:j=x.blks.length
 ·subst e;rw[if_pos rfl];simp
 ·rw[if_neg (by simp[e])]
  simp only[Option.bind_some]
  by_cases hl:j<x.blks.length
  ·rw[List.getElem?_append_left hl]
  ·rw[List.getElem?_eq_none (by omega),List.getElem?_eq_none (by rw[List.length_append,List.length_singleton];omega)]
def oA (h:VH)(k:Nat):Bool:=match aC h k with|some x=>!x.sgl|none=>true
theorem oC {h:VH}{k i:Nat}(hf:oA h k=true){d:Blk}(hd:look (toH h) (k,i)=some d):(∃T cs,d= .var T cs)∨(∃E l,d= .row E l)∨d= .gone:=by
 rw[ak,←aD] at hd
 unfold oA at hf
 cases hl:aC h k with
 |none=>rw[hl] at hd;cases hd
 |some x=>
  rw[hl] at hf hd
  simp only[Option.bind_some] at hd
  cases x<;>simp[VB.sgl] at hf
  all_goals (simp only[VB.blks,List.getElem?_map] at hd;obtain⟨y,_,rfl⟩:=Option.map_eq_some_iff.1 hd)
  ·exact .inl ⟨_,_,rfl⟩
  ·exact .inl ⟨_,_,rfl⟩
  ·exact .inr (.inl ⟨_,_,rfl⟩)
  ·cases y with
   |none=>exact .inr (.inr rfl)
   |some y=>exact .inr (.inl ⟨_,_,rfl⟩)
theorem xl {h:VH}{k:Nat}(hf:oA h k=true)(i:Nat):fwd (toH h) (.ref (k,i))= .ref (k,i):=by
 simp only[fwd]
 split
 ·rename_i c hc;rcases oC hf hc with⟨_,_,e⟩|⟨_,_,e⟩|e<;>cases e
 ·rename_i c hc;rcases oC hf hc with⟨_,_,e⟩|⟨_,_,e⟩|e<;>cases e
 ·rfl
theorem rr {h:VH}{k:Nat}(hf:oA h k=true)(i o:Nat):fwd (toH h) (.ptr (k,i) o)= .ptr (k,i) o:=by
 simp only[fwd]
 split
 ·rename_i c hc;rcases oC hf hc with⟨_,_,e⟩|⟨_,_,e⟩|e<;>cases e
 ·rename_i c hc;rcases oC hf hc with⟨_,_,e⟩|⟨_,_,e⟩|e<;>cases e
 ·rfl
theorem An {h:VH}{k:Nat}(hf:oA h k=true)(i j o:Nat):fwd (toH h) (.eptr (k,i) j o)= .eptr (k,i) j o:=by
 simp only[fwd]
 split
 ·rename_i c hc;rcases oC hf hc with⟨_,_,e⟩|⟨_,_,e⟩|e<;>cases e
 ·rfl
theorem r6 (h:VH)(b:Nat):look (toH h) (b,0)=match aC h b with|some x=>x.blks[0]? |none=>none:=by
 rw[ak,←aD]
 cases aC h b<;>rfl
def Dn (h:VH)(b:Nat):V:=match aC h b with
 |some (.moved k i)=>.fref k i
 |some (.froz t xs)=>.lst t xs
 |_=>.ref b
theorem Do (h:VH)(b:Nat):fwd (toH h) (.ref (b,0))=(Dn h b).toD:=by
 simp only[fwd,r6,Dn]
 cases hl:aC h b with
 |none=>rfl
 |some x=>
  cases x with
  |fvar T t xs=>cases xs<;>rfl
  |fvari T m t xs=>cases xs<;>rfl
  |frow E t xs=>cases xs<;>rfl
  |frowx E t xs=>cases xs with|nil=>rfl|cons y _=>cases y<;>rfl
  |_=>rfl
def rC (h:VH)(b o:Nat):V:=match aC h b with
 |some (.moved k i)=>.fptr k i o
 |some (.fvb t x)=>(match o with|0=>.box t x|o+1=>(match enc t x with| .agg _=>.iptr t x (o+1)|_=>.undef))
 |_=>.ptr b o
theorem xp (h:VH)(b o:Nat)(hne:rC h b o≠ .undef):fwd (toH h) (.ptr (b,0) o)=(rC h b o).toD:=by
 unfold rC at hne⊢
 simp only[fwd,r6]
 cases hl:aC h b with
 |none=>rfl
 |some x=>
  cases x with
  |fvar T t xs=>cases xs<;>rfl
  |fvari T m t xs=>cases xs<;>rfl
  |frow E t xs=>cases xs<;>rfl
  |frowx E t xs=>cases xs with|nil=>rfl|cons y _=>cases y<;>rfl
  |fvb t x=>
   rw[hl] at hne
   cases o with
   |zero=>rfl
   |succ o=>
    simp only at hne⊢
    have e1:=iF t x
    cases he:enc t x with
    |agg cs=>
     rw[he] at e1
     simp only[VB.blks,List.getElem?_cons_zero,V.toD] at e1⊢
     rw[←e1]
     rfl
    |_=>rw[he] at hne;exact absurd rfl hne
  |_=>rfl
def yC (h:VH)(b:Nat):Option (Nat×Nat):=match aC h b with|some (.moved k i)=>some (k,i)|_=>none
theorem FZ (h:VH)(b i o:Nat):fwd (toH h) (.eptr (b,0) i o)=match yC h b with|some p=>.eptr p i o|none=>.eptr (b,0) i o:=by
 simp only[fwd,r6,yC]
 cases hl:aC h b with
 |none=>rfl
 |some x=>
  cases x with
  |fvar T t xs=>cases xs<;>rfl
  |fvari T m t xs=>cases xs<;>rfl
  |frow E t xs=>cases xs<;>rfl
  |frowx E t xs=>cases xs with|nil=>rfl|cons y _=>cases y<;>rfl
  |_=>rfl
theorem F0 (h:VH)(b o n:Nat):fwd (toH h) (.vref (b,0) o n)=match yC h b with|some p=>.vref p o n|none=>.vref (b,0) o n:=by
 simp only[fwd,r6,yC]
 cases hl:aC h b with
 |none=>rfl
 |some x=>
  cases x with
  |fvar T t xs=>cases xs<;>rfl
  |fvari T m t xs=>cases xs<;>rfl
  |frow E t xs=>cases xs<;>rfl
  |frowx E t xs=>cases xs with|nil=>rfl|cons y _=>cases y<;>rfl
  |_=>rfl
mutual
def cz (h:VH)(v:V)(K:V→Prop):Prop:=
 match v with
 | .ref b=>(match aC h b with
  |some (.moved k i)=>K (.fref k i)
  |some (.froz t xs)=>K (.lst t xs)
  |_=>K (.ref b))
 | .ptr b o=>(match aC h b with
  |some (.moved k i)=>K (.fptr k i o)
  |some (.fvb t x)=>(match o with|0=>K (.box t x)|o+1=>(match enc t x with| .agg _=>K (.iptr t x (o+1))|_=>False))
  |_=>K (.ptr b o))
 | .eptr b j o=>(match yC h b with|some (k,i)=>K (.feptr k i j o)|none=>K (.eptr b j o))
 | .vref b o n=>(match yC h b with|some _=>False|none=>K (.vref b o n))
 | .aptr b p j=>(match aC h b with
  |some (.moved k i)=>K (.faptr k i p j)
  |some (.fvb _ _)=>False
  |_=>K (.aptr b p j))
 | .fref k i=>Chk (oA h k) (K (.fref k i))
 | .fptr k i o=>Chk (oA h k) (K (.fptr k i o))
 | .feptr k i j o=>Chk (oA h k) (K (.feptr k i j o))
 | .faptr k i p j=>Chk (oA h k) (K (.faptr k i p j))
 | .hro k o=>Chk (oA h k) (K (.hro k o))
 | .hpo k o=>Chk (oA h k) (K (.hpo k o))
 | .agg cs=>kt h cs fun cs=>K (.agg cs)
 | .tup cs=>kt h cs fun cs=>K (.tup cs)
 | .clo f cs=>kt h cs fun cs=>K (.clo f cs)
 | .ifc T v=>cz h v fun v=>K (.ifc T v)
 | .int k n=>K (.int k n)
 | .bool b=>K (.bool b)
 | .tt=>K .tt
 | .ff=>K .ff
 | .str s=>K (.str s)
 | .lst t xs=>K (.lst t xs)
 | .box t x=>K (.box t x)
 | .nilp=>K .nilp
 | .nils=>K .nils
 | .nilf=>K .nilf
 | .nili=>K .nili
 | .gp g=>K (.gp g)
 | .gv g=>K (.gv g)
 | .iptr t x o=>K (.iptr t x o)
 | .obo t o=>K (.obo t o)
 | .undef=>K .undef
 | .junk=>K .junk
def kt (h:VH)(l:List V)(K:List V→Prop):Prop:=
 match l with
 |[]=>K []
 |v::l=>cz h v fun v=>kt h l fun l=>K (v::l)
end
mutual
theorem j3 {h:VH}:∀{v:V} {K:V→Prop},cz h v K→∃r,fwd (toH h) v.toD=r.toD∧K r
 | .ref b,K,hk=>by
  simp only[cz] at hk
  refine⟨Dn h b,Do h b,?_⟩
  unfold Dn
  cases hl:aC h b with
  |none=>rw[hl] at hk;exact hk
  |some x=>rw[hl] at hk;cases x<;>exact hk
 | .ptr b o,K,hk=>by
  simp only[cz] at hk
  have key:rC h b o≠ .undef∧K (rC h b o):=by
   unfold rC
   cases hl:aC h b with
   |none=>rw[hl] at hk;exact⟨by simp,hk⟩
   |some x=>
    rw[hl] at hk
    cases x with
    |fvb t x=>
     cases o with
     |zero=>exact⟨by simp,hk⟩
     |succ o=>
      simp only at hk⊢
      cases he:enc t x with
      |agg cs=>rw[he] at hk;exact⟨by simp,hk⟩
      |_=>rw[he] at hk;exact hk.elim
    |_=>exact⟨by simp,hk⟩
  exact⟨_,xp h b o key.1,key.2⟩
 | .eptr b j o,K,hk=>by
  simp only[cz] at hk
  have:=FZ h b j o
  split at hk<;>rename_i e<;>rw[e] at this
  ·exact⟨.feptr _ _ j o,this,hk⟩
  ·exact⟨.eptr b j o,this,hk⟩
 | .vref b o n,K,hk=>by
  simp only[cz] at hk
  have:=F0 h b o n
  split at hk<;>rename_i e<;>rw[e] at this
  ·exact hk.elim
  ·exact⟨.vref b o n,this,hk⟩
 | .aptr b p j,K,hk=>by
  simp only[cz] at hk
  have key:rC h b (p+j)≠ .undef∧∃r:V,(rC h b (p+j)).toD=r.toD∧K r:=by
   unfold rC
   cases hl:aC h b with
   |none=>rw[hl] at hk;exact⟨by simp,.aptr b p j,rfl,hk⟩
   |some x=>
    rw[hl] at hk
    cases x with
    |fvb t x=>exact hk.elim
    |moved k i=>exact⟨by simp,.faptr k i p j,rfl,hk⟩
    |_=>exact⟨by simp,.aptr b p j,rfl,hk⟩
  obtain⟨k1,r,k2,k3⟩:=key
  exact⟨r,(xp h b (p+j) k1).trans k2,k3⟩
 | .fref k i,K,hk=>by simp only[cz] at hk;obtain⟨c,hk⟩:=hk.ok;exact⟨_,by simp only[V.toD];exact xl c i,hk⟩
 | .fptr k i o,K,hk=>by simp only[cz] at hk;obtain⟨c,hk⟩:=hk.ok;exact⟨_,by simp only[V.toD];exact rr c i o,hk⟩
 | .feptr k i j o,K,hk=>by simp only[cz] at hk;obtain⟨c,hk⟩:=hk.ok;exact⟨_,by simp only[V.toD];exact An c i j o,hk⟩
 | .faptr k i p j,K,hk=>by simp only[cz] at hk;obtain⟨c,hk⟩:=hk.ok;exact⟨_,by simp only[V.toD];exact rr c i (p+j),hk⟩
 | .hro k o,K,hk=>by simp only[cz] at hk;obtain⟨c,hk⟩:=hk.ok;exact⟨.hro k o,by cases o with|none=>rfl|some i=>exact xl c i,hk⟩
 | .hpo k o,K,hk=>by simp only[cz] at hk;obtain⟨c,hk⟩:=hk.ok;exact⟨.hpo k o,by cases o with|none=>rfl|some i=>exact rr c i 0,hk⟩
 | .agg cs,K,hk=>by
  simp only[cz] at hk
  obtain⟨r,h1,h2⟩:=fJ hk
  exact⟨_,by simp only[fwd,V.toD,h1],h2⟩
 | .tup cs,K,hk=>by
  simp only[cz] at hk
  obtain⟨r,h1,h2⟩:=fJ hk
  exact⟨_,by simp only[fwd,V.toD,h1],h2⟩
 | .clo f cs,K,hk=>by
  simp only[cz] at hk
  obtain⟨r,h1,h2⟩:=fJ hk
  exact⟨_,by simp only[fwd,V.toD,h1],h2⟩
 | .ifc T v,K,hk=>by
  simp only[cz] at hk
  obtain⟨r,h1,h2⟩:=j3 hk
  exact⟨_,by simp only[fwd,V.toD,h1],h2⟩
 | .int k n,K,hk=>⟨.int k n,by simp only[V.toD,fwd],by simpa only[cz] using hk⟩
 | .bool b,K,hk=>⟨.bool b,by simp only[V.toD,fwd],by simpa only[cz] using hk⟩
 | .tt,K,hk=>⟨.tt,by simp only[V.toD,fwd],by simpa only[cz] using hk⟩
 | .ff,K,hk=>⟨.ff,by simp only[V.toD,fwd],by simpa only[cz] using hk⟩
 | .str s,K,hk=>⟨.str s,by simp only[V.toD,fwd],by simpa only[cz] using hk⟩
 | .lst t xs,K,hk=>⟨.lst t xs,by simp only[V.toD,fwd],by simpa only[cz] using hk⟩
 | .box t x,K,hk=>⟨.box t x,by simp only[V.toD,fwd],by simpa only[cz] using hk⟩
 | .nilp,K,hk=>⟨.nilp,by simp only[V.toD,fwd],by simpa only[cz] using hk⟩
 | .nils,K,hk=>⟨.nils,by simp only[V.toD,fwd],by simpa only[cz] using hk⟩
 | .nilf,K,hk=>⟨.nilf,by simp only[V.toD,fwd],by simpa only[cz] using hk⟩
 | .nili,K,hk=>⟨.nili,by simp only[V.toD,fwd],by simpa only[cz] using hk⟩
 | .gp g,K,hk=>⟨.gp g,by simp only[V.toD,fwd],by simpa only[cz] using hk⟩
 | .gv g,K,hk=>⟨.gv g,by simp only[V.toD,fwd],by simpa only[cz] using hk⟩
 | .iptr t x o,K,hk=>⟨.iptr t x o,by simp only[V.toD,fwd],by simpa only[cz] using hk⟩
 | .obo t o,K,hk=>⟨.obo t o,by cases o<;>simp only[V.toD,ag,fwd],by simpa only[cz] using hk⟩
 | .undef,K,hk=>⟨.undef,by simp only[V.toD,fwd],by simpa only[cz] using hk⟩
 | .junk,K,hk=>⟨.junk,by simp only[V.toD,fwd],by simpa only[cz] using hk⟩
theorem fJ {h:VH}:∀{l:List V} {K:List V→Prop},kt h l K→∃r,iI (toH h) (ah l)=ah r∧K r
 |[],K,hk=>⟨[],by simp only[ah,iI],by simpa only[kt] using hk⟩
 |v::l,K,hk=>by
  simp only[kt] at hk
  obtain⟨v',h1,h2⟩:=j3 hk
  obtain⟨l',h3,h4⟩:=fJ h2
  exact⟨v'::l',by simp only[ah,iI,h1,h3],h4⟩
end
def vq (t:VT)(h:VH)(x:Operand)(K:V→Prop):Prop:=m4 t x fun v=>cz h v K
theorem d9 {t:VT}{h:VH}{x:Operand}{K:V→Prop}(hk:vq t h x K):∃v,evalF (eq t) (toH h) x=some v.toD∧K v:=by
 obtain⟨v,h1,h2⟩:=bz hk
 obtain⟨r,h3,h4⟩:=j3 h2
 exact⟨r,by unfold evalF;rw[h1,Option.map_some,h3],h4⟩
def tw (t:VT)(h:VH):List Operand→(List V→Prop)→Prop
 |[],K=>K []
 |x::l,K=>vq t h x fun v=>tw t h l fun vs=>K (v::vs)
theorem iG {t:VT}{h:VH}:∀{l:List Operand} {K:List V→Prop},tw t h l K→∃vs,evalFs (eq t) (toH h) l=some (ah vs)∧K vs
 |[],K,hk=>⟨[],rfl,hk⟩
 |x::l,K,hk=>by
  obtain⟨v,h1,h2⟩:=d9 hk
  obtain⟨vs,h3,h4⟩:=iG h2
  refine⟨v::vs,?_,h4⟩
  simp only[evalFs] at h3⊢
  simp[List.mapM_cons,h1,h3,ah]
def Aj (t:VT)(h:VH):List (Nat×Operand)→(List (Nat×V)→Prop)→Prop
 |[],K=>K []
 |(k,x)::l,K=>vq t h x fun v=>Aj t h l fun vs=>K ((k,v)::vs)
theorem tv {t:VT}{h:VH}:∀{l:List (Nat×Operand)} {K:List (Nat×V)→Prop},Aj t h l K→∃vs,evalFPs (eq t) (toH h) l=some (uV vs)∧K vs
 |[],K,hk=>⟨[],rfl,hk⟩
 |(k,x)::l,K,hk=>by
  obtain⟨v,h1,h2⟩:=d9 hk
  obtain⟨vs,h3,h4⟩:=tv h2
  refine⟨(k,v)::vs,?_,h4⟩
  simp only[evalFPs] at h3⊢
  simp[List.mapM_cons,h1,h3,uV]
def fY {α:Type}(o:Option α)(A:Prop)(B:α→Prop):Prop:=(o=none→A)∧∀x,o=some x→B x
def V.whole:V→Bool
 | .tup _| .undef=>false
 |_=>true
def V.one:V→Bool
 | .agg _| .tup _| .undef=>false
 |_=>true
theorem eS (v:V):v.toD.whole=v.whole:=by
 cases v
 case hro k o=>cases o<;>rfl
 case hpo k o=>cases o<;>rfl
 case obo t o=>cases o<;>rfl
 all_goals rfl
theorem lB (v:V):v.toD.one=v.one:=by
 cases v
 case hro k o=>cases o<;>rfl
 case hpo k o=>cases o<;>rfl
 case obo t o=>cases o<;>rfl
 all_goals rfl
theorem kU (l:List V)(h:l.all V.one=true):(ah l).all D.one=true:=by
 rw[bI,List.all_map]
 rw[List.all_eq_true] at h⊢
 intro x hx
 simp only[Function.comp,lB]
 exact h x hx
theorem bC (t:Ty)(x:t.den):(ag t x).cells=ah (enc t x).cells:=by rw[←iF,aJ]
def AJ (t:Ty)(xs:List t.den)(j:Nat):Nat→(List V→Prop)→Prop
 |0,K=>bk (j≤xs.length) (K [])
 |n+1,K=>eD xs j fun e=>AJ t xs (j+1) n fun l=>K (enc t e::l)
theorem tK {t:Ty}{xs:List t.den}:∀{n j:Nat} {K:List V→Prop},AJ t xs j n K→∃l,j+n≤xs.length∧((xs.map (ag t)).drop j).take n=ah l∧K l
 |0,j,K,hk=>⟨[],hk.1,by simp[ah],hk.2⟩
 |n+1,j,K,hk=>by
  obtain⟨e,he,hk⟩:=hk
  obtain⟨l,h1,h2,h3⟩:=tK hk
  refine⟨enc t e::l,by omega,?_,h3⟩
  obtain⟨hj,rfl⟩:=List.getElem?_eq_some_iff.1 he
  rw[List.drop_eq_getElem_cons (by rw[List.length_map];exact hj),List.take_succ_cons,h2,List.getElem_map,ah,iF]
def nx (ti:TI)(x:VB)(i o:Nat)(K:V→Prop):Prop:=
 match x with
 | .fvar _ t xs=>eD xs i fun e=>fk ti (enc t e).cells o K
 |_=>False
def uc (ti:TI)(h:VH)(v:V)(K:V→Prop):Prop:=
 match v with
 | .ptr b o=>dj h b fun x=>(match x with
  | .var _ cs=>fk ti cs o K
  | .vari _ pre m _ xs post=>(match Nat.blt o pre.length with
   |true=>fk ti pre o K
   |false=>bk (xs.length=m∧pre.length+m≤o) (fk ti post (o-(pre.length+m)) K))
  | .fvb t e=>fk ti (enc t e).cells o K
  |_=>False)
 | .aptr b p i=>dj h b fun x=>(match x with
  | .vari _ pre _ t xs _=>Chk (Nat.beq p pre.length && !ti.agg && t.sz==1) (eD xs i fun e=>K (enc t e))
  |_=>False)
 | .eptr b i o=>dj h b fun x=>(match x with
  | .row _ t xs=>eD xs i fun e=>fk ti (enc t e).cells o K
  | .lit _ vs=>uh vs i fun e=>fk ti e.cells o K
  |_=>False)
 | .fptr k i o=>dj h k fun x=>nx ti x i o K
 | .hpo k p=>fY p False fun i=>dj h k fun x=>nx ti x i 0 K
 | .faptr k i p j=>dj h k fun x=>(match x with
  | .fvari _ _ t xss=>Chk (Nat.beq p 0 && t.sz==1) (eD xss i fun xs=>(match ti.agg with
   |false=>eD xs j fun e=>K (enc t e)
   |true=>AJ t xs j ti.sz fun l=>K (.agg l)))
  |_=>False)
 | .feptr k i j o=>dj h k fun x=>(match x with
  | .frow _ t xss=>eD xss i fun xs=>eD xs j fun e=>fk ti (enc t e).cells o K
  | .frowx _ t xss=>eD xss i fun ox=>fY ox False fun xs=>eD xs j fun e=>fk ti (enc t e).cells o K
  |_=>False)
 | .iptr t e o=>fk ti (enc t e).cells o K
 | .box t e=>fk ti (enc t e).cells 0 K
 | .obo t p=>fY p False fun e=>fk ti (enc t e).cells 0 K
 | .gp g=>fk ti [.gv g] 0 K
 |_=>False
theorem oB {P:Program}{T:TypeId}{ti:TI}(ht:ti.ok P T){h:VH}{k i o:Nat}{x:VB}(hx:look h k=some x){K:V→Prop}(hk:nx ti x i o K):∃r,ca P (toH h) T (.ptr (k,i) o)=some r.toD∧K r:=by
 unfold nx at hk
 split at hk
 ·rename_i T' t xs
  obtain⟨e,h4,h5⟩:=hk
  obtain⟨r,h6,h7⟩:=bH ht h5
  have hl:=am (i:=i) hx (d:=.var T' (ag t e).cells) (by simp only[VB.blks,List.getElem?_map,h4,Option.map_some])
  exact⟨r,by simp only[ca,hl,bC,h6],h7⟩
 ·exact hk.elim
theorem oS {P:Program}{T:TypeId}{ti:TI}(ht:ti.ok P T){h:VH}{v:V}{K:V→Prop}(hk:uc ti h v K):∃r,ca P (toH h) T v.toD=some r.toD∧K r:=by
 unfold uc at hk
 split at hk
 ·rename_i b o
  obtain⟨x,h1,h3⟩:=aG hk
  split at h3
  ·rename_i T' cs
   have hl:=am (i:=0) h1 (d:=.var T' (ah cs)) rfl
   obtain⟨r,h4,h5⟩:=bH ht h3
   exact⟨r,by simp only[V.toD,ca,hl,h4],h5⟩
  ·rename_i T' pre m t xs post
   have hl:=am (i:=0) h1 (d:=.var T' (ah pre++xs.map (ag t)++ah post)) rfl
   split at h3
   ·obtain⟨r,h4,h5⟩:=bH ht h3
    exact⟨r,by simp only[V.toD,ca,hl,List.append_assoc];exact sE h4,h5⟩
   ·obtain⟨⟨c1,c2⟩,h3⟩:=h3
    obtain⟨r,h4,h5⟩:=bH ht h3
    refine⟨r,?_,h5⟩
    simp only[V.toD,ca,hl]
    have h6:=pP (A:=ah pre++xs.map (ag t)) h4
    rw[List.length_append,List.length_map,aw,c1] at h6
    rw[show pre.length+m+(o-(pre.length+m))=o by omega] at h6
    exact h6
  ·rename_i t e
   have hl:=am (i:=0) h1 (d:=.fvar (ag t e).cells) rfl
   obtain⟨r,h4,h5⟩:=bH ht h3
   exact⟨r,by simp only[V.toD,ca,hl,bC,h4],h5⟩
  ·exact h3.elim
 ·rename_i b p i
  obtain⟨x,h1,h3⟩:=aG hk
  split at h3
  ·rename_i T' pre m t xs post
   have hl:=am (i:=0) h1 (d:=.var T' (ah pre++xs.map (ag t)++ah post)) rfl
   obtain⟨c,h3⟩:=h3.ok
   simp only[Bool.and_eq_true,Bool.not_eq_true',beq_iff_eq] at c
   obtain⟨⟨c1,c2⟩,c3⟩:=c
   obtain⟨e,h4,h5⟩:=h3
   have hp:p=pre.length:=Nat.eq_of_beq_eq_true c1
   refine⟨enc t e,?_,h5⟩
   simp only[V.toD,ca,hl,iF]
   have hlt:=(List.getElem?_eq_some_iff.1 h4).1
   have ha:=ht.agg
   rw[c2] at ha
   refine Cs ha ?_
   rw[List.append_assoc,List.getElem?_append_right (by rw[aw];omega),aw,hp,Nat.add_sub_cancel_left,List.getElem?_append_left (by simpa using hlt),List.getElem?_map,h4]
   rfl
  ·exact h3.elim
 ·rename_i b i o
  obtain⟨x,h1,h3⟩:=aG hk
  split at h3
  ·rename_i E t xs
   have hl:=am (i:=0) h1 (d:=.row E (xs.map (ag t))) rfl
   obtain⟨e,h4,h5⟩:=h3
   obtain⟨r,h6,h7⟩:=bH ht h5
   exact⟨r,by simp only[V.toD,ca,hl,List.getElem?_map,h4,Option.map_some,bC,h6],h7⟩
  ·rename_i E vs
   have hl:=am (i:=0) h1 (d:=.row E (ah vs)) rfl
   obtain⟨e,h4,h5⟩:=iL h3
   obtain⟨r,h6,h7⟩:=bH ht h5
   refine⟨r,?_,h7⟩
   simp only[V.toD,ca,hl,bI,List.getElem?_map,h4,Option.map_some,aJ]
   rw[←bI];exact h6
  ·exact h3.elim
 ·obtain⟨x,h1,h3⟩:=aG hk
  obtain⟨r,h4,h5⟩:=oB ht h1 h3
  exact⟨r,h4,h5⟩
 ·rename_i k p
  cases p with
  |none=>exact(hk.1 rfl).elim
  |some i=>
   obtain⟨x,h1,h3⟩:=aG (hk.2 i rfl)
   obtain⟨r,h4,h5⟩:=oB ht h1 h3
   exact⟨r,h4,h5⟩
 ·rename_i k i p j
  obtain⟨x,h1,h3⟩:=aG hk
  split at h3
  ·rename_i T' m t xss
   obtain⟨c,xs,h4,h8⟩:=h3.ok
   clear h3
   simp only[Bool.and_eq_true,beq_iff_eq] at c
   obtain⟨c1,c3⟩:=c
   have hl:=am (i:=i) h1 (d:=.var T' (xs.map (ag t))) (by simp only[VB.blks,List.getElem?_map,h4,Option.map_some])
   have hp:p=0:=Nat.eq_of_beq_eq_true c1
   subst hp
   have ha:=ht.agg
   split at h8
   ·rename_i c2
    rw[c2] at ha
    obtain⟨e,h5,h6⟩:=h8
    refine⟨enc t e,?_,h6⟩
    simp only[V.toD,ca,hl,iF]
    exact Cs ha (by rw[Nat.zero_add,List.getElem?_map,h5];rfl)
   ·rename_i c2
    rw[c2] at ha
    obtain⟨l,h5,h6,h7⟩:=tK h8
    refine⟨.agg l,?_,h7⟩
    simp only[V.toD,ca,hl]
    exact Fq ha ht.size (by rw[Nat.zero_add,List.length_map];exact h5) (by rw[Nat.zero_add];exact h6)
  ·exact h3.elim
 ·rename_i k i j o
  obtain⟨x,h1,h3⟩:=aG hk
  split at h3
  ·rename_i E t xss
   obtain⟨xs,h4,e,h5,h6⟩:=h3
   have hl:=am (i:=i) h1 (d:=.row E (xs.map (ag t))) (by simp only[VB.blks,List.getElem?_map,h4,Option.map_some])
   obtain⟨r,h7,h8⟩:=bH ht h6
   exact⟨r,by simp only[V.toD,ca,hl,List.getElem?_map,h5,Option.map_some,bC,h7],h8⟩
  ·rename_i E t xss
   obtain⟨ox,h4,h5⟩:=h3
   cases ox with
   |none=>exact(h5.1 rfl).elim
   |some xs=>
    obtain⟨e,h5,h6⟩:=h5.2 xs rfl
    have hl:=am (i:=i) h1 (d:=.row E (xs.map (ag t))) (by simp only[VB.blks,List.getElem?_map,h4,Option.map_some,rowX])
    obtain⟨r,h7,h8⟩:=bH ht h6
    exact⟨r,by simp only[V.toD,ca,hl,List.getElem?_map,h5,Option.map_some,bC,h7],h8⟩
  ·exact h3.elim
 ·obtain⟨r,h4,h5⟩:=bH ht hk
  exact⟨r,by simp only[V.toD,ca,bC,h4],h5⟩
 ·obtain⟨r,h4,h5⟩:=bH ht hk
  exact⟨r,by simp only[V.toD,ca,bC,h4],h5⟩
 ·rename_i t p
  cases p with
  |none=>exact(hk.1 rfl).elim
  |some e=>
   obtain⟨r,h4,h5⟩:=bH ht (hk.2 e rfl)
   exact⟨r,by simp only[V.toD,ag,ca,bC,h4],h5⟩
 ·obtain⟨r,h4,h5⟩:=bH ht hk
  exact⟨r,by simp only[V.toD,ca];exact h4,h5⟩
 ·exact hk.elim
variable {P:Program} {N:Nat}
def dS (P:Program)(N:Nat)(h:VH)(u:HL)(vu:VH)(f:List Nat):Prop:=
 bE h u vu∧∀o t d u1,OpS P N o t (puts u (toH h)) d u1 f→OpS P N o t (toH h) d (u++u1) f
theorem eh {h:VH}{f:List Nat}:dS P N h [] [] f:=⟨aB,fun o t d u1 hd=>hd⟩
theorem iP {h:VH}{u1 u2:HL}{v1 v2:VH}{f:List Nat}(h1:dS P N h u1 v1 f)(h2:dS P N (puts v1 h) u2 v2 f):dS P N h (u1++u2) (v1++v2) f:=by
 refine⟨n3 h1.1 h2.1,fun o t d u hd=>?_⟩
 rw[List.append_assoc]
 refine h1.2 o t d _ (mF (fun b=>(h1.1.1 b).symm) (h2.2 o t d u (mF (fun b=>?_) hd)))
 rw[aN]
 exact aV (h1.1.1 b)
theorem io {t:Ty}(ht:t.pure=true)(x:t.den):∀c∈(ag t x).cells,leaf c=some c:=by
 intro c hc
 have hp:=(gU ht x).2
 rw[List.all_eq_true] at hp
 have hne:c≠ .nils:=by
  rintro rfl
  cases t<;>simp[Ty.pure] at ht
  case ob t=>cases x<;>simp[ag,D.cells] at hc
  all_goals simp[ag,D.cells,ft,yU,ey] at hc
 unfold leaf
 rw[if_pos (hp c hc)]
 congr 1
 cases c<;>first|rfl|exact absurd rfl hne
theorem j8 {f:D→Option D}:∀{l:List D},(∀c∈l,f c=some c)→l.mapM f=some l
 |[],_=>rfl
 |c::l,hl=>by simp[List.mapM_cons,hl c (List.mem_cons_self ..),j8 fun d hd=>hl d (List.mem_cons_of_mem _ hd)]
theorem yW {t:Ty}(ht:t.pure=true)(x:t.den):o6 leaf (ag t x)=some (ag t x):=by
 by_cases hag:∃cs,ag t x= .agg cs
 ·obtain⟨cs,he⟩:=hag
  have:=io ht x
  rw[he] at this⊢
  simp only[o6,D.cells] at this⊢
  rw[j8 this]
  rfl
 ·have hc:(ag t x).cells=[ag t x]:=bR fun cs hcs=>hag ⟨cs,hcs⟩
  have h1:=io ht x (ag t x) (by rw[hc];exact List.mem_singleton.2 rfl)
  have h2:o6 leaf (ag t x)=leaf (ag t x):=by
   generalize ag t x=d at *
   cases d<;>first|rfl|exact absurd ⟨_,rfl⟩ hag
  rw[h2,h1]
theorem row_pure {t:Ty}(ht:t.pure=true)(xs:List t.den):(xs.map (ag t)).mapM (o6 leaf)=some (xs.map (ag t)):=
 j8 fun c hc=>by obtain⟨x,_,rfl⟩:=List.mem_map.1 hc;exact yW ht x
theorem Ay {h:VH}{b:Nat}{E:TypeId}{t:Ty}{xs:List t.den}(hb:look h b=some (.row E t xs))(ht:t.pure=true):frz (toH h) [(b,0)]=[((b,0),.froz (xs.map (ag t)))]:=by
 have hl:=am (i:=0) hb (d:=.row E (xs.map (ag t))) rfl
 simp[frz,frzB,hl,row_pure ht]
theorem Eh {h:VH}{b:Nat}{E:TypeId}{t:Ty}{xs:List t.den}{f:List Nat}(hb:look h b=some (.row E t xs))(ht:t.pure=true)(hf:b∈f):dS P N h (frz (toH h) [(b,0)]) [(b,.froz t xs)] f:=by
 refine⟨by rw[Ay hb ht];exact eY hb rfl rfl,fun o t d u1 hd=>xO (fun k hk=>?_) hd⟩
 simp only[j4,List.map_cons,List.map_nil,List.mem_singleton] at hk
 rw[hk];exact hf
theorem un {h:VH}{b:Nat}{x y:VB}{d:Blk}{f:List Nat}(hb:look h b=some x)(hx:x.blks=[d])(hy:y.blks=[cf (toH h) d])(hf:b∈f∧∀c∈vb d,c.1∈f):dS P N h [((b,0),cf (toH h) d)] [(b,y)] f:=by
 have hl:=am (i:=0) hb (d:=d) (by rw[hx];rfl)
 refine⟨lS (fun i hi=>?_) hy,fun o t d' u1 hd=>BH hl hf hd⟩
 rw[ak,hb]
 simp only[Option.bind_some,hx]
 cases i with
 |zero=>exact absurd rfl hi
 |succ i=>rfl
theorem Ef {h:VH}{b:Nat}{T:TypeId}{t:Ty}{x:t.den}{cs:List V}{f:List Nat}(hb:look h b=some (.var T cs))(hc:ah cs=(ag t x).cells)(ht:t.pure=true)(hf:b∈f):dS P N h (frz (toH h) [(b,0)]) [(b,.fvb t x)] f:=by
 have hl:=am (i:=0) hb (d:=.var T (ah cs)) rfl
 have hne:¬(ag t x).cells=[]:=by
  intro e
  have h1:=(d8 t x).1
  have h2:=t.sz_pos
  rw[e] at h1
  simp at h1
  omega
 have e:frz (toH h) [(b,0)]=[((b,0),.fvar (ag t x).cells)]:=by simp[frz,frzB,hl,hc,j8 (io ht x),hne]
 refine⟨by rw[e];exact eY hb rfl rfl,fun o t d u1 hd=>xO (fun k hk=>?_) hd⟩
 simp only[j4,List.map_cons,List.map_nil,List.mem_singleton] at hk
 rw[hk];exact hf
theorem lD {h:VH}{b k:Nat}{x y z:VB}{d:Blk}{f:List Nat}(hb:look h b=some x)(hx:x.blks=[d])(hl:d.live=true)(hk:look h k=some y)(hz:z.blks=y.blks++[d])(hbk:b≠k)(hf:b∈f∧k∈f):
  dS P N h [((b,0),.moved (k,y.blks.length)),((k,y.blks.length),d)] [(b,.moved k y.blks.length),(k,z)] f:=by
 have hlb:=am (i:=0) hb (d:=d) (by rw[hx];rfl)
 have hln:look (toH h) (k,y.blks.length)=none:=by rw[ak,hk];simp
 have hm:fS (toH h) [((b,0),(k,y.blks.length))]=some [((b,0),.moved (k,y.blks.length)),((k,y.blks.length),d)]:=by
  simp only[fS,hlb]
  rw[if_pos ⟨hl,hln⟩]
  rfl
 refine⟨?_,fun o t d' u1 hd=>yQ hm (fun g hg=>?_) hd⟩
 ·have h1:bE h [((b,0),.moved (k,y.blks.length))] [(b,.moved k y.blks.length)]:=lS (fun i hi=>by
   rw[ak,hb]
   simp only[Option.bind_some,hx]
   cases i with
   |zero=>exact absurd rfl hi
   |succ i=>rfl) rfl
  have hk':look (puts [(b,VB.moved k y.blks.length)] h) k=some y:=by
   show look (put b _ h) k=_
   rw[ai,if_neg (Ne.symm hbk)];exact hk
  have h2:=Cv (y:=z) hk' hz
  exact n3 h1 h2
 ·simp only[List.flatMap_cons,List.flatMap_nil,List.append_nil,j4,List.map_cons,List.map_nil,List.mem_cons,List.not_mem_nil,or_false] at hg
  rcases hg with rfl|rfl
  ·exact hf.1
  ·exact hf.2
inductive Sh where
 |any|frz|mr (k:Nat)|mp (k:Nat)|bx (t:Ty)
def Ty.shs:Ty→List Sh
 | .lst _=>[.frz]
 | .led=>[.frz,.any]
 | .vtx=>[.any,.any,.frz,.any]
 | .ppl=>[.any,.any,.frz,.any,.frz]
 | .wrl=>[.frz,.frz,.any,.frz,.frz]
 | .evt=>[.any,.any,.any,.any,.any,.frz,.any]
 | .odd=>[.any,.any,.frz,.any,.any]
 | .ob t=>[.bx t]
 | .hr k=>[.mr k]
 | .hp k=>[.mp k]
 | .vtxo k=>[.any,.any,.mr k,.any]
 | .pplm k=>[.any,.any,.frz,.any,.mr k]
 | .pplo k k'=>[.any,.any,.mr k,.any,.mr k']
 | .nod k=>[.any,.any,.frz,.any,.any,.mr k]
 |_=>[]
def yX {α:Type}(x:Nat)(a:α):List (Nat×α)→(List (Nat×α)→Prop)→Prop
 |[],K=>K [(x,a)]
 |(k,b)::l,K=>bif Nat.beq x k then K ((k,a)::l) else yX x a l fun l'=>K ((k,b)::l')
theorem nU {α:Type}{x:Nat}{a:α}:∀{l:List (Nat×α)} {K:List (Nat×α)→Prop},yX x a l K→K (put x a l)
 |[],K,h=>h
 |(k,b)::l,K,h=>by
  simp only[yX] at h
  simp only[put]
  by_cases e:x=k
  ·subst e
   simp only[Nat.beq_refl,cond_true] at h
   simpa using h
  ·have:Nat.beq x k=false:=by
    cases hb:Nat.beq x k with
    |false=>rfl
    |true=>exact absurd (Nat.eq_of_beq_eq_true hb) e
   rw[this] at h
   rw[if_neg e]
   exact nU h
def lF {α:Type}:List (Nat×α)→List (Nat×α)→(List (Nat×α)→Prop)→Prop
 |[],l,K=>K l
 |(x,a)::u,l,K=>yX x a l fun l'=>lF u l' K
theorem fV {α:Type}:∀{u l:List (Nat×α)} {K:List (Nat×α)→Prop},lF u l K→K (puts u l)
 |[],l,K,h=>h
 |(x,a)::u,l,K,h=>fV (u:=u) (nU (K:=fun l'=>lF u l' K) h)
def AL:V→List Nat
 | .ref b| .ptr b _| .eptr b _ _| .vref b _ _| .aptr b _ _=>[b]
 | .fref k _| .fptr k _ _| .feptr k _ _ _| .faptr k _ _ _| .hro k _| .hpo k _=>[k]
 |_=>[]
mutual
def ex:V→List Nat
 | .agg cs=>ec cs
 | .tup cs=>ec cs
 | .clo _ cs=>ec cs
 | .ifc _ v=>ex v
 |v=>AL v
def ec:List V→List Nat
 |[]=>[]
 |v::l=>ex v++ec l
end
mutual
theorem ic:∀(v:V),∀b∈aj v.toD,b.1∈ex v
 | .agg cs,b,hb=>by simp only[ex];exact cE cs b (by simpa only[V.toD,aj] using hb)
 | .tup cs,b,hb=>by simp only[ex];exact cE cs b (by simpa only[V.toD,aj] using hb)
 | .clo f cs,b,hb=>by simp only[ex];exact cE cs b (by simpa only[V.toD,aj] using hb)
 | .ifc T v,b,hb=>by simp only[ex];exact ic v b (by simpa only[V.toD,aj] using hb)
 | .ref c,b,hb| .ptr c _,b,hb| .eptr c _ _,b,hb| .vref c _ _,b,hb| .aptr c _ _,b,hb| .fref c _,b,hb| .fptr c _ _,b,hb| .feptr c _ _ _,b,hb| .faptr c _ _ _,b,hb=>by
  simp only[V.toD,aj,List.mem_singleton] at hb;subst hb;simp[ex,AL]
 | .hro k o,b,hb=>by
  cases o with
  |none=>cases hb
  |some i=>simp only[V.toD,l9,aj,List.mem_singleton] at hb;subst hb;simp[ex,AL]
 | .hpo k o,b,hb=>by
  cases o with
  |none=>cases hb
  |some i=>simp only[V.toD,m6,aj,List.mem_singleton] at hb;subst hb;simp[ex,AL]
 | .obo t o,b,hb=>by cases o<;>cases hb
 | .int ..,b,hb| .bool _,b,hb| .tt,b,hb| .ff,b,hb| .str _,b,hb| .lst ..,b,hb| .box ..,b,hb| .nilp,b,hb| .nils,b,hb| .nilf,b,hb| .nili,b,hb| .gp _,b,hb| .gv _,b,hb| .iptr ..,b,hb| .undef,b,hb| .junk,b,hb=>by cases hb
theorem cE:∀(l:List V),∀b∈aO (ah l),b.1∈ec l
 |[],b,hb=>by cases hb
 |v::l,b,hb=>by
  simp only[ah,aO,List.mem_append] at hb
  simp only[ec,List.mem_append]
  rcases hb with hb|hb
  ·exact .inl (ic v b hb)
  ·exact .inr (cE l b hb)
end
def HA:V→V
 | .nils=>.lst (.int .i64) []
 |v=>v
theorem Bz (v:V):(HA v).toD=nz0 v.toD:=by
 cases v
 case hro k o=>cases o<;>rfl
 case hpo k o=>cases o<;>rfl
 case obo t o=>cases o<;>rfl
 all_goals rfl
def gE:List V→List V
 |[]=>[]
 |v::l=>HA v::gE l
theorem lA:∀l:List V,ah (gE l)=(ah l).map nz0
 |[]=>rfl
 |v::l=>by simp only[gE,ah,List.map_cons,Bz,lA l]
def IZ (t:Ty)(cs:List V):V:=bif t.sz==1 then cs.headD .undef else .agg cs
def Dk (h:VH)(sh:Sh)(v:V)(K:VH→List Nat→Prop):Prop:=
 match sh,v with
 | .frz,.ref b=>(match aC h b with
  |some (.row _ t xs)=>Chk t.pure (K [(b,.froz t xs)] [b])
  |_=>K [] [])
 | .mr k,.ref b=>(match aC h b,aC h k with
  |some (.row E t xs),some (.frow E' t' xss)=>Chk (Nat.beq E E' && !Nat.beq b k) (match kr t' t xs with
   |some xs'=>K [(b,.moved k xss.length),(k,.frow E' t' (xss++[xs']))] [b,k]
   |none=>False)
  |some (.row E t xs),some (.frowx E' t' xss)=>Chk (Nat.beq E E' && !Nat.beq b k) (match kr t' t xs with
   |some xs'=>K [(b,.moved k xss.length),(k,.frowx E' t' (xss++[some xs']))] [b,k]
   |none=>False)
  |_,_=>K [] [])
 |_,_=>K [] []
theorem xo {h:VH}{sh:Sh}{v:V}{K:VH→List Nat→Prop}(hk:Dk h sh v K):∃u vu g,(∀f:List Nat,(∀k∈g,k∈f)→dS P N h u vu f)∧K vu g:=by
 unfold Dk at hk
 split at hk
 ·rename_i b
  split at hk
  ·rename_i E t xs hb
   obtain⟨c,hk⟩:=hk.ok
   rw[aD] at hb
   exact⟨_,_,_,fun f hf=>Eh hb c (hf b (by simp)),hk⟩
  ·exact⟨[],[],[],fun f _=>eh,hk⟩
 ·rename_i k b
  split at hk
  ·rename_i E t xs E' t' xss hb hk'
   obtain⟨c,hk⟩:=hk.ok
   simp only[Bool.and_eq_true,Bool.not_eq_true'] at c
   obtain⟨c1,c2⟩:=c
   obtain rfl:=Nat.eq_of_beq_eq_true c1
   have hbk:b≠k:=by rintro rfl;simp at c2
   rw[aD] at hb hk'
   split at hk
   ·rename_i xs' hx
    have hce:=fa hx
    have hpre:∀f:List Nat,(∀g∈[b,k],g∈f)→dS P N h [((b,0),.moved (k,(VB.frow E t' xss).blks.length)),((k,(VB.frow E t' xss).blks.length),.row E (xs.map (ag t)))] [(b,.moved k (VB.frow E t' xss).blks.length),(k,.frow E t' (xss++[xs']))] f:=fun f hf=>
     lD hb rfl rfl hk' (by simp only[VB.blks,List.map_append,List.map_cons,List.map_nil,hce]) hbk ⟨hf b (by simp),hf k (by simp)⟩
    have e:(VB.frow E t' xss).blks.length=xss.length:=by simp[VB.blks]
    rw[e] at hpre
    exact⟨_,_,_,hpre,hk⟩
   ·exact hk.elim
  ·rename_i E t xs E' t' xss hb hk'
   obtain⟨c,hk⟩:=hk.ok
   simp only[Bool.and_eq_true,Bool.not_eq_true'] at c
   obtain⟨c1,c2⟩:=c
   obtain rfl:=Nat.eq_of_beq_eq_true c1
   have hbk:b≠k:=by rintro rfl;simp at c2
   rw[aD] at hb hk'
   split at hk
   ·rename_i xs' hx
    have hce:=fa hx
    have hpre:∀f:List Nat,(∀g∈[b,k],g∈f)→dS P N h [((b,0),.moved (k,(VB.frowx E t' xss).blks.length)),((k,(VB.frowx E t' xss).blks.length),.row E (xs.map (ag t)))] [(b,.moved k (VB.frowx E t' xss).blks.length),(k,.frowx E t' (xss++[some xs']))] f:=fun f hf=>
     lD hb rfl rfl hk' (by simp only[VB.blks,List.map_append,List.map_cons,List.map_nil,rowX,hce]) hbk ⟨hf b (by simp),hf k (by simp)⟩
    have e:(VB.frowx E t' xss).blks.length=xss.length:=by simp[VB.blks]
    rw[e] at hpre
    exact⟨_,_,_,hpre,hk⟩
   ·exact hk.elim
  ·exact⟨[],[],[],fun f _=>eh,hk⟩
 ·exact⟨[],[],[],fun f _=>eh,hk⟩
def Ar (h:VH):List Sh→List V→(VH→VH→List Nat→Prop)→Prop
 |sh::shs,v::vs,K=>Dk h sh v fun vu g=>lF vu h fun h1=>Ar h1 shs vs fun h2 vu2 g2=>K h2 (vu++vu2) (g++g2)
 |_,_,K=>K h [] []
theorem tF:∀{shs:List Sh} {vs:List V} {h:VH} {K:VH→VH→List Nat→Prop},Ar h shs vs K→∃u vu g,(∀f:List Nat,(∀k∈g,k∈f)→dS P N h u vu f)∧K (puts vu h) vu g
 |[],vs,h,K,hk=>⟨[],[],[],fun f _=>eh,by cases vs<;>exact hk⟩
 |sh::shs,[],h,K,hk=>⟨[],[],[],fun f _=>eh,hk⟩
 |sh::shs,v::vs,h,K,hk=>by
  obtain⟨u1,v1,g1,p1,hk⟩:=xo (P:=P) (N:=N) hk
  have hk:=fV hk
  obtain⟨u2,v2,g2,p2,hk⟩:=tF hk
  refine⟨u1++u2,v1++v2,g1++g2,fun f hf=>iP (p1 f fun k hk=>hf k (List.mem_append_left _ hk)) (p2 f fun k hk=>hf k (List.mem_append_right _ hk)),?_⟩
  rw[aN]
  exact hk
def uL (h:VH)(b:Nat)(T:TypeId)(cs:List V)(t:Ty)(K:VH→VH→List Nat→t.den→List V→Prop):Prop:=
 Ar h t.shs cs fun h1 vu1 g1=>(match aC h1 b with
  |some (.var T' cs')=>Chk (Nat.beq T T') (kt h1 cs' fun cs2=>(match Hw t (IZ t (gE cs2)) with
   |some x=>Chk (lenB (gE cs2) t.sz) (lF [(b,.var T (gE cs2))] h1 fun h2=>K h2 (vu1++[(b,.var T (gE cs2))]) (g1++b::ec cs') x (gE cs2))
   |none=>False))
  |_=>False)
where
 lenB:List V→Nat→Bool
 |[],0=>true
 |_::l,n+1=>lenB l n
 |_,_=>false
theorem xE:∀{l:List V} {n:Nat},uL.lenB l n=true→l.length=n
 |[],0,_=>rfl
 |_::l,n+1,h=>by simp[xE (l:=l) (n:=n) h]
 |[],_+1,h=>by cases h
 |_::_,0,h=>by cases h
theorem yN {t:Ty}{cs:List V}{x:t.den}(hl:cs.length=t.sz)(hd:(IZ t cs).toD=ag t x):ah cs=(ag t x).cells:=by
 unfold IZ at hd
 by_cases hs:t.sz=1
 ·have e:(t.sz==1)=true:=by simp[hs]
  rw[e,cond_true] at hd
  rw[hs] at hl
  match cs,hl with
  |[c],_=>
   simp only[List.headD_cons] at hd
   have h1:=(d8 t x).2
   have hone:(ag t x).one=true:=by
    cases hq:ag t x with
    |agg ds=>
     have hlen:=(d8 t x).1
     rw[hq,hs] at hlen
     cases t<;>simp[Ty.sz] at hs<;>first|(cases hq;done)|(simp[ag] at hq;done)|(cases x<;>simp[ag,l9,m6] at hq;done)
    |tup ds=>cases t<;>first|(simp[ag] at hq;done)|(cases x<;>simp[ag,l9,m6] at hq;done)
    |undef=>cases t<;>first|(simp[ag] at hq;done)|(cases x<;>simp[ag,l9,m6] at hq;done)
    |_=>rfl
   rw[bD hone,←hd]
   rfl
 ·have e:(t.sz==1)=false:=by simp[hs]
  rw[e,cond_false] at hd
  rw[←hd]
  rfl
theorem vD {h:VH}{T:TypeId}{cs cs2:List V}(hf:iI (toH h) (ah cs)=ah cs2):cf (toH h) (.var T (ah cs))= .var T (ah (gE cs2)):=by
 simp only[cf]
 rw[lA,←hf,dC,List.map_map]
 rfl
theorem uM {h:VH}{b:Nat}{T:TypeId}{cs:List V}{t:Ty}{K:VH→VH→List Nat→t.den→List V→Prop}(hk:uL h b T cs t K):∃u vu g x cs2,(∀f:List Nat,(∀k∈g,k∈f)→dS P N h u vu f)∧look (puts vu h) b=some (.var T cs2)∧ah cs2=(ag t x).cells∧b∈g∧K (puts vu h) vu g x cs2:=by
 unfold uL at hk
 obtain⟨u1,v1,g1,p1,hk⟩:=tF (P:=P) (N:=N) hk
 split at hk
 ·rename_i T' cs' hb
  obtain⟨c,hk1⟩:=hk.ok
  obtain rfl:=Nat.eq_of_beq_eq_true c
  rw[aD] at hb
  obtain⟨cs2,f1,hk⟩:=fJ hk1
  split at hk
  ·rename_i x hx
   obtain⟨c2,hk⟩:=hk.ok
   have hk:=fV hk
   have hlast:=vD (T:=T) f1
   refine⟨u1++[((b,0),cf (toH (puts v1 h)) (.var T (ah cs')))],v1++[(b,.var T (gE cs2))],g1++b::ec cs',x,gE cs2,fun f hf=>iP (p1 f fun k hk=>hf k (List.mem_append_left _ hk)) (un (y:=.var T (gE cs2)) hb rfl (by rw[hlast];rfl) ⟨hf b (by simp),fun c hc=>hf c.1 ?_⟩),?_,yN (xE c2) (q9 hx),by simp,?_⟩
   ·refine List.mem_append_right _ (List.mem_cons_of_mem _ (cE cs' c ?_))
    rw[eG]
    exact hc
   ·rw[aN]
    show look (put b _ _) b=_
    rw[ai];simp
   ·rw[aN];exact hk
  ·exact hk.elim
 ·exact hk.elim
def FX (h:VH)(sh:Sh)(v:V)(K:VH→List Nat→Prop):Prop:=
 match sh,v with
 | .bx t,.ptr b 0=>(match aC h b with
  |some (.var T cs)=>Chk t.pure (uL h b T cs t fun _ vu g x _=>K (vu++[(b,.fvb t x)]) g)
  |_=>K [] [])
 | .mp k,.ptr b 0=>(match aC h b,aC h k with
  |some (.var T cs),some (.fvar _ t _)=>Chk (!Nat.beq b k) (uL h b T cs t fun h2 vu g x _=>(match aC h2 k with
   |some (.fvar T' t' xs)=>Chk (Nat.beq T T') (match tb t' t x with
    |some x'=>K (vu++[(b,.moved k xs.length),(k,.fvar T' t' (xs++[x']))]) (k::g)
    |none=>False)
   |_=>False))
  |some (.vari T [] _ t xs []),some (.fvari T' m t' xss)=>Chk (!Nat.beq b k && Nat.beq T T') (match kr t' t xs with
   |some xs'=>K [(b,.moved k xss.length),(k,.fvari T' m t' (xss++[xs']))] [b,k]
   |none=>False)
  |_,_=>K [] [])
 |sh,v=>Dk h sh v K
theorem Dj {h:VH}{sh:Sh}{v:V}{K:VH→List Nat→Prop}(hk:FX h sh v K):∃u vu g,(∀f:List Nat,(∀k∈g,k∈f)→dS P N h u vu f)∧K vu g:=by
 unfold FX at hk
 split at hk
 ·rename_i t b
  split at hk
  ·rename_i T cs hb
   obtain⟨c,hk⟩:=hk.ok
   obtain⟨u,vu,g,x,cs2,p1,p2,p3,p4,hk⟩:=uM (P:=P) (N:=N) hk
   exact⟨_,_,_,fun f hf=>iP (p1 f hf) (Ef p2 p3 c (hf b p4)),hk⟩
  ·exact⟨[],[],[],fun f _=>eh,hk⟩
 ·rename_i k b
  split at hk
  ·rename_i T cs T0 t xs0 hb hk0
   obtain⟨c,hk⟩:=hk.ok
   have hbk:b≠k:=by rintro rfl;simp at c
   obtain⟨u,vu,g,x,cs2,p1,p2,p3,p4,hk⟩:=uM (P:=P) (N:=N) hk
   split at hk
   ·rename_i T' t' xs hk'
    obtain⟨c1,hk⟩:=hk.ok
    obtain rfl:=Nat.eq_of_beq_eq_true c1
    rw[aD] at hk'
    split at hk
    ·rename_i x' hx
     have hpre:∀f:List Nat,(∀g'∈k::g,g'∈f)→dS P N (puts vu h) [((b,0),.moved (k,(VB.fvar T t' xs).blks.length)),((k,(VB.fvar T t' xs).blks.length),.var T (ah cs2))] [(b,.moved k (VB.fvar T t' xs).blks.length),(k,.fvar T t' (xs++[x']))] f:=fun f hf=>
      lD p2 rfl rfl hk' (by simp only[VB.blks,List.map_append,List.map_cons,List.map_nil,p3,ot hx]) hbk ⟨hf b (List.mem_cons_of_mem _ p4),hf k (by simp)⟩
     have e:(VB.fvar T t' xs).blks.length=xs.length:=by simp[VB.blks]
     rw[e] at hpre
     exact⟨_,_,_,fun f hf=>iP (p1 f fun k hk=>hf k (List.mem_cons_of_mem _ hk)) (hpre f hf),hk⟩
    ·exact hk.elim
   ·exact hk.elim
  ·rename_i T m0 t xs T' m t' xss hb hk0
   obtain⟨c,hk⟩:=hk.ok
   simp only[Bool.and_eq_true] at c
   have hbk:b≠k:=by rintro rfl;simp at c
   obtain rfl:=Nat.eq_of_beq_eq_true c.2
   rw[aD] at hb hk0
   split at hk
   ·rename_i xs' hx
    have e:(VB.fvari T m t' xss).blks.length=xss.length:=by simp[VB.blks]
    have hpre:∀f:List Nat,(∀g'∈[b,k],g'∈f)→dS P N h [((b,0),.moved (k,(VB.fvari T m t' xss).blks.length)),((k,(VB.fvari T m t' xss).blks.length),.var T (xs'.map (ag t')))] [(b,.moved k (VB.fvari T m t' xss).blks.length),(k,.fvari T m t' (xss++[xs']))] f:=fun f hf=>
     lD hb (by simp only[VB.blks,ah,List.nil_append,List.append_nil,fa hx]) rfl hk0 (by simp only[VB.blks,List.map_append,List.map_cons,List.map_nil]) hbk ⟨hf b (by simp),hf k (by simp)⟩
    rw[e] at hpre
    exact⟨_,_,_,hpre,hk⟩
   ·exact hk.elim
  ·exact⟨[],[],[],fun f _=>eh,hk⟩
 ·exact xo hk
def xn (h:VH):List Sh→List V→(VH→VH→List Nat→Prop)→Prop
 |sh::shs,v::vs,K=>FX h sh v fun vu g=>lF vu h fun h1=>xn h1 shs vs fun h2 vu2 g2=>K h2 (vu++vu2) (g++g2)
 |_,_,K=>K h [] []
theorem oE:∀{shs:List Sh} {vs:List V} {h:VH} {K:VH→VH→List Nat→Prop},xn h shs vs K→∃u vu g,(∀f:List Nat,(∀k∈g,k∈f)→dS P N h u vu f)∧K (puts vu h) vu g
 |[],vs,h,K,hk=>⟨[],[],[],fun f _=>eh,by cases vs<;>exact hk⟩
 |sh::shs,[],h,K,hk=>⟨[],[],[],fun f _=>eh,hk⟩
 |sh::shs,v::vs,h,K,hk=>by
  obtain⟨u1,v1,g1,p1,hk⟩:=Dj (P:=P) (N:=N) hk
  have hk:=fV hk
  obtain⟨u2,v2,g2,p2,hk⟩:=oE hk
  refine⟨u1++u2,v1++v2,g1++g2,fun f hf=>iP (p1 f fun k hk=>hf k (List.mem_append_left _ hk)) (p2 f fun k hk=>hf k (List.mem_append_right _ hk)),?_⟩
  rw[aN]
  exact hk
end Go.Proofs.YthmfppknagbkeaaGreatDoor.Am
namespace Go.Proofs.YthmfppknagbkeaaGreatDoor.Am
open Go Go.RowKit
def mg (op:BinOp)(tk:TK)(d e:V)(K:V→Prop):Prop:=
 match d,e with
 | .int k x,.int k' y=>(match decEq k k' with
  |isTrue _=>(match op with
   | .add=>Ari k (x+y) fun z=>K (.int k z)
   | .sub=>Ari k (x-y) fun z=>K (.int k z)
   | .mul=>Ari k (x*y) fun z=>K (.int k z)
   | .quo=>bk (y≠0) (Ari k (x.tdiv y) fun z=>K (.int k z))
   | .rem=>bk (y≠0) (K (.int k (x.tmod y)))
   | .and=>K (.int k (k.wrap (BitVec.ofInt k.bits x &&& BitVec.ofInt k.bits y).toNat))
   | .or=>K (.int k (k.wrap (BitVec.ofInt k.bits x|||BitVec.ofInt k.bits y).toNat))
   | .xor=>K (.int k (k.wrap (BitVec.ofInt k.bits x^^^BitVec.ofInt k.bits y).toNat))
   | .eql=>K (.bool (x==y))
   | .neq=>K (.bool (x !=y))
   | .lss=>K (.bool (decide (x<y)))
   | .leq=>K (.bool (decide (x≤y)))
   | .gtr=>K (.bool (decide (y<x)))
   | .geq=>K (.bool (decide (y≤x)))
   |_=>False)
  |isFalse _=>False)
 | .str x,.str y=>(match op with
  | .add=>bk (x.size+y.size≤9223372036854775807) (K (.str (x++y)))
  | .eql=>K (.bool (x.toList==y.toList))
  | .neq=>K (.bool !(x.toList==y.toList))
  |_=>False)
 | .bool x,.bool y=>(match tk,op with
  | .bool,.eql=>K (.bool (x==y))
  | .bool,.neq=>K (.bool !(x==y))
  |_,_=>False)
 | .bool x,.tt=>(match tk,op with
  | .bool,.eql=>K (.bool x)
  | .bool,.neq=>K (.bool !x)
  |_,_=>False)
 | .bool x,.ff=>(match tk,op with
  | .bool,.eql=>K (.bool !x)
  | .bool,.neq=>K (.bool x)
  |_,_=>False)
 |d,.nils=>slN d fun r=>(match tk,op with
  | .slice _,.eql=>K (.bool r)
  | .slice _,.neq=>K (.bool !r)
  |_,_=>False)
 |d,e=>nilK d e fun r=>(match tk,op with
  | .ptr _,.eql=>K (.bool r)
  | .ptr _,.neq=>K (.bool !r)
  |_,_=>False)
where
 slN (v:V) (K:Bool→Prop):Prop:=match v with
  | .nils=>K true
  | .lst _ (_::_)=>K false
  | .ref _| .vref .. | .fref ..=>K false
  | .hro _ (some _)=>K false
  |_=>False
 isN (v:V) (K:Bool→Prop):Prop:=match v with
  | .nilp=>K true
  | .ptr .. | .eptr .. | .aptr .. | .iptr .. | .box .. | .fptr .. | .feptr .. | .faptr ..=>K false
  | .hpo _ o=>K o.isNone
  | .obo _ o=>K o.isNone
  |_=>False
 nilK (d e:V) (K:Bool→Prop):Prop:=match d,e with
  | .nilp,e=>isN e K
  |d,.nilp=>isN d K
  |_,_=>False
def b9 (P:Program)(op:BinOp)(T:TypeId)(d e:D):Option D:=
 match dI op d e with
 |some r=>some r
 |none=>(match bL P op T d e with
  |some r=>some r
  |none=>bm op T P d e)
theorem rR {v:V}{K:Bool→Prop}(hk:mg.isN v K):∃r,((r=true∧v.toD= .nilp)∨(r=false∧dr v.toD=true∧v.toD≠ .nilp))∧K r:=by
 unfold mg.isN at hk
 split at hk
 ·exact⟨true,.inl ⟨rfl,rfl⟩,hk⟩
 all_goals first|exact hk.elim|exact⟨false,.inr ⟨rfl,rfl,by simp[V.toD]⟩,hk⟩|skip
 ·rename_i k o
  cases o with
  |none=>exact⟨true,.inl ⟨rfl,rfl⟩,hk⟩
  |some i=>exact⟨false,.inr ⟨rfl,rfl,by simp[V.toD,m6]⟩,hk⟩
 ·rename_i t o
  cases o with
  |none=>exact⟨true,.inl ⟨rfl,rfl⟩,hk⟩
  |some i=>exact⟨false,.inr ⟨rfl,rfl,by simp[V.toD,ag]⟩,hk⟩
theorem Hd {v:V}{K:Bool→Prop}(hk:mg.slN v K):∃r,tY v.toD=some r∧(∀op,dI op v.toD .nils=none)∧K r:=by
 unfold mg.slN at hk
 split at hk
 ·exact⟨true,rfl,fun _=>rfl,hk⟩
 ·exact⟨false,rfl,fun _=>rfl,hk⟩
 ·exact⟨false,rfl,fun _=>rfl,hk⟩
 ·exact⟨false,rfl,fun _=>rfl,hk⟩
 ·exact⟨false,rfl,fun _=>rfl,hk⟩
 ·exact⟨false,rfl,fun _=>rfl,hk⟩
 ·exact hk.elim
theorem Bt {d e:V}{K:Bool→Prop}(hk:mg.nilK d e K):∃r,K r:=by
 unfold mg.nilK at hk
 split at hk
 ·obtain⟨r,_,h2⟩:=rR hk;exact⟨r,h2⟩
 ·obtain⟨r,_,h2⟩:=rR hk;exact⟨r,h2⟩
 ·exact hk.elim
theorem xJ {P:Program}{op:BinOp}{T E:TypeId}(hu:P.underlying T=some (.pointer E)){d e:V}{K:Bool→Prop}(hk:mg.nilK d e K):
  ∃r,b9 P .eql T d.toD e.toD=some (.bool r)∧b9 P .neq T d.toD e.toD=some (.bool !r)∧K r:=by
 unfold mg.nilK at hk
 have key:∀x:D,dr x=true→x≠ .nilp→(∀op,dI op .nilp x=none∧dI op x .nilp=none):=by
  intro x hx hn op
  cases x<;>simp[dr] at hx<;>exact⟨rfl,rfl⟩
 split at hk
 ·obtain⟨r,h1,h2⟩:=rR hk
  refine⟨r,?_,?_,h2⟩<;>rcases h1 with⟨rfl,h1⟩|⟨rfl,h1,h3⟩
  ·simp[b9,V.toD,h1,dI,bL,hu]
  ·simp only[b9,V.toD,(key _ h1 h3 _).1,bL,hu]
   generalize e.toD=x at *
   cases x<;>simp[dr] at h1<;>simp[dr]
  ·simp[b9,V.toD,h1,dI,bL,hu]
  ·simp only[b9,V.toD,(key _ h1 h3 _).1,bL,hu]
   generalize e.toD=x at *
   cases x<;>simp[dr] at h1<;>simp[dr]
 ·obtain⟨r,h1,h2⟩:=rR hk
  refine⟨r,?_,?_,h2⟩<;>rcases h1 with⟨rfl,h1⟩|⟨rfl,h1,h3⟩
  ·simp[b9,V.toD,h1,dI,bL,hu]
  ·simp only[b9,V.toD,(key _ h1 h3 _).2,bL,hu]
   generalize d.toD=x at *
   cases x<;>simp[dr] at h1<;>simp[dr]
  ·simp[b9,V.toD,h1,dI,bL,hu]
  ·simp only[b9,V.toD,(key _ h1 h3 _).2,bL,hu]
   generalize d.toD=x at *
   cases x<;>simp[dr] at h1<;>simp[dr]
 ·exact hk.elim
theorem CS {P:Program}{op:BinOp}{T:TypeId}{tk:TK}(ht:tk.ok P T){d e:V}{K:V→Prop}(hk:mg op tk d e K):∃r,b9 P op T d.toD e.toD=some r.toD∧K r:=by
 unfold mg at hk
 split at hk
 ·rename_i k x k' y
  split at hk
  ·rename_i e' _
   subst e'
   split at hk
   ·exact⟨_,by simp only[b9,V.toD,dI,if_true],hk.ok⟩
   ·exact⟨_,by simp only[b9,V.toD,dI,if_true],hk.ok⟩
   ·exact⟨_,by simp only[b9,V.toD,dI,if_true],hk.ok⟩
   ·exact⟨_,by simp only[b9,V.toD,dI,if_true,if_neg hk.1],hk.2.ok⟩
   ·exact⟨_,by simp only[b9,V.toD,dI,if_true,if_neg hk.1],hk.2⟩
   all_goals first|exact hk.elim|exact⟨_,by simp only[b9,V.toD,dI,if_true],hk⟩
  ·exact hk.elim
 ·split at hk
  ·exact⟨_,by simp only[b9,V.toD,dI,if_pos hk.1],hk.2⟩
  all_goals first|exact hk.elim|exact⟨_,by simp only[b9,V.toD,dI],hk⟩
 ·split at hk
  ·have hu:P.underlying T=some .bool:=ht
   exact⟨_,by simp[b9,V.toD,dI,bL,bm,hu],hk⟩
  ·have hu:P.underlying T=some .bool:=ht
   exact⟨_,by simp[b9,V.toD,dI,bL,bm,hu],hk⟩
  ·exact hk.elim
 ·rename_i x
  split at hk
  ·have hu:P.underlying T=some .bool:=ht
   exact⟨.bool x,by cases x<;>simp[b9,V.toD,dI,bL,bm,hu],hk⟩
  ·have hu:P.underlying T=some .bool:=ht
   exact⟨.bool !x,by cases x<;>simp[b9,V.toD,dI,bL,bm,hu],hk⟩
  ·exact hk.elim
 ·rename_i x
  split at hk
  ·have hu:P.underlying T=some .bool:=ht
   exact⟨.bool !x,by cases x<;>simp[b9,V.toD,dI,bL,bm,hu],hk⟩
  ·have hu:P.underlying T=some .bool:=ht
   exact⟨.bool x,by cases x<;>simp[b9,V.toD,dI,bL,bm,hu],hk⟩
  ·exact hk.elim
 ·obtain⟨r,h1,h2,h3⟩:=Hd hk
  clear hk
  split at h3
  ·rename_i E
   have hu:P.underlying T=some (.slice E):=ht
   exact⟨.bool r,by simp only[b9,show V.nils.toD=D.nils from rfl,h2,bL,hu,h1,Option.map_some,V.toD],h3⟩
  ·rename_i E
   have hu:P.underlying T=some (.slice E):=ht
   exact⟨.bool !r,by simp only[b9,show V.nils.toD=D.nils from rfl,h2,bL,hu,h1,Option.map_some,V.toD],h3⟩
  ·exact h3.elim
 ·split at hk
  ·rename_i E
   obtain⟨r,h1,h2,h3⟩:=xJ (op:=.eql) (show P.underlying T=some (.pointer E) from ht) hk
   exact⟨.bool r,h1,h3⟩
  ·rename_i E
   obtain⟨r,h1,h2,h3⟩:=xJ (op:=.eql) (show P.underlying T=some (.pointer E) from ht) hk
   exact⟨.bool !r,h2,h3⟩
  ·exact(Bt hk).elim fun _ h=>h.elim
def AZ (op:BinOp)(cn:Bool)(d e:V)(K:V→Prop):Prop:=
 match d,e with
 | .nili,.nili=>(match cn with|true=>eqn true|false=>False)
 | .nili,.gv _=>eqn false
 | .nili,.ifc ..=>eqn false
 | .gv _,.nili=>eqn false
 | .ifc ..,.nili=>eqn false
 |_,_=>False
where
 eqn (b:Bool):Prop:=match op with
  | .eql=>K (.bool b)
  | .neq=>K (.bool !b)
  |_=>False
theorem DL {P:Program}{op:BinOp}{T:TypeId}{cn:Bool}(ht:tV P T=true){d e:V}{K:V→Prop}(hk:AZ op cn d e K):
  ∃r,dI op d.toD e.toD=none∧bL P op T d.toD e.toD=none∧bm op T P d.toD e.toD=none∧eE P op T cn d.toD e.toD=some r.toD∧K r:=by
 obtain⟨ms,hu⟩:∃ms,P.underlying T=some (.interface ms):=by
  unfold tV at ht
  split at ht
  ·exact⟨_,by assumption⟩
  ·cases ht
 have key:∀(x y:D) (b:Bool),dI op x y=none→(jc x=some true∧jc y=some true∧b=true∧cn=true∨jc x=some true∧jc y=some false∧b=false∨jc x=some false∧jc y=some true∧b=false)→AZ.eqn op K b→
   ∃r:V,dI op x y=none∧bL P op T x y=none∧bm op T P x y=none∧eE P op T cn x y=some r.toD∧K r:=by
  intro x y b h0 h hq
  have h1:bL P op T x y=none:=by simp[bL,hu]
  have h2:bm op T P x y=none:=by simp[bm,hu]
  unfold AZ.eqn at hq
  split at hq
  ·refine⟨.bool b,h0,h1,h2,?_,hq⟩
   rcases h with⟨a1,a2,rfl,a4⟩|⟨a1,a2,rfl⟩|⟨a1,a2,rfl⟩<;>cases x<;>simp only[jc,Option.some.injEq,reduceCtorEq] at a1<;>cases y<;>simp only[jc,Option.some.injEq,reduceCtorEq] at a2<;>first|(simp[eE,hu,jc,V.toD, *];done)|(cases a1;done)|(cases a2;done)
  ·refine⟨.bool !b,h0,h1,h2,?_,hq⟩
   rcases h with⟨a1,a2,rfl,a4⟩|⟨a1,a2,rfl⟩|⟨a1,a2,rfl⟩<;>cases x<;>simp only[jc,Option.some.injEq,reduceCtorEq] at a1<;>cases y<;>simp only[jc,Option.some.injEq,reduceCtorEq] at a2<;>first|(simp[eE,hu,jc,V.toD, *];done)|(cases a1;done)|(cases a2;done)
  ·exact hq.elim
 unfold AZ at hk
 split at hk
 ·split at hk
  ·exact key _ _ true rfl (.inl ⟨rfl,rfl,rfl,rfl⟩) hk
  ·exact hk.elim
 ·exact key _ _ false rfl (.inr (.inl ⟨rfl,rfl,rfl⟩)) hk
 ·exact key _ _ false rfl (.inr (.inl ⟨rfl,rfl,rfl⟩)) hk
 ·exact key _ _ false rfl (.inr (.inr ⟨rfl,rfl,rfl⟩)) hk
 ·exact key _ _ false rfl (.inr (.inr ⟨rfl,rfl,rfl⟩)) hk
 ·exact hk.elim
def Hh (op:BinOp)(d e:V)(K:V→Prop):Prop:=
 match d,e with
 | .agg [.int k x,.int k2 x2],.agg [.int k' y,.int k2' y2]=>bk (k=k'∧k2=k2') (match op with
  | .eql=>K (.bool (x==y && x2==y2))
  | .neq=>K (.bool !(x==y && x2==y2))
  |_=>False)
 |_,_=>False
theorem EM {P:Program}{op:BinOp}{T:TypeId}(ht:Cu P T=true){d e:V}{K:V→Prop}(hk:Hh op d e K):
  ∃r:V,dI op d.toD e.toD=none∧bL P op T d.toD e.toD=none∧bm op T P d.toD e.toD=none∧(∀cn,eE P op T cn d.toD e.toD=none)∧kz P op T d.toD e.toD=some r.toD∧K r:=by
 obtain⟨fs,hu⟩:∃fs,P.underlying T=some (.struct fs):=by
  unfold Cu at ht
  split at ht
  ·exact⟨_,by assumption⟩
  ·cases ht
 unfold Hh at hk
 split at hk
 ·rename_i k x k2 x2 k' y k2' y2
  obtain⟨⟨rfl,rfl⟩,hk⟩:=hk
  have h0:∀(p q:List D),dI op (.agg p) (.agg q)=none:=fun p q=>by cases op<;>rfl
  have h1:∀(p q:D),bL P op T p q=none:=fun p q=>by simp[bL,hu]
  have h2:∀(p q:D),bm op T P p q=none:=fun p q=>by simp[bm,hu]
  have h3:∀cn (p q:D),eE P op T cn p q=none:=fun cn p q=>by simp[eE,hu]
  split at hk
  ·exact⟨_,h0 _ _,h1 _ _,h2 _ _,fun cn=>h3 cn _ _,by simp only[V.toD,ah,kz,ht,and_self,if_true],hk⟩
  ·exact⟨_,h0 _ _,h1 _ _,h2 _ _,fun cn=>h3 cn _ _,by simp only[V.toD,ah,kz,ht,and_self,if_true],hk⟩
  ·exact hk.elim
 ·exact hk.elim
def Fm (P:Program)(T:TypeId):Bool:=match P.underlying T with|some (.pointer E)=>(match sizeT P E with|some n=>n !=0|none=>false)|_=>false
def GO (P:Program)(T:TypeId)(op:BinOp)(h:VH)(k k':Nat)(o o':Option Nat)(K:V→Prop):Prop:=
 fY o False fun i=>fY o' False fun j=>Chk (Nat.beq k k') (dj h k fun x=>(match x with
  | .fvar _ _ xs=>eD xs i fun _=>eD xs j fun _=>Mk (Fm P T) (match op with
   | .eql=>K (.bool (decide (i=j)))
   | .neq=>K (.bool !(decide (i=j)))
   |_=>False)
  |_=>False))
theorem Eb {P:Program}{T:TypeId}{op:BinOp}{h:VH}{k k':Nat}{o o':Option Nat}{K:V→Prop}(hk:GO P T op h k k' o o' K):
  ∃r:V,dI op (V.hpo k o).toD (V.hpo k' o').toD=none∧bL P op T (V.hpo k o).toD (V.hpo k' o').toD=none∧bm op T P (V.hpo k o).toD (V.hpo k' o').toD=none∧(∀cn,eE P op T cn (V.hpo k o).toD (V.hpo k' o').toD=none)∧kz P op T (V.hpo k o).toD (V.hpo k' o').toD=none∧iC P op T (toH h) (V.hpo k o).toD (V.hpo k' o').toD=some r.toD∧K r:=by
 unfold GO at hk
 cases o with
 |none=>exact(hk.1 rfl).elim
 |some i=>
  have hk:=hk.2 i rfl
  cases o' with
  |none=>exact(hk.1 rfl).elim
  |some j=>
   have hk:=hk.2 j rfl
   obtain⟨c,hq⟩:=hk.ok
   obtain rfl:=Nat.eq_of_beq_eq_true c
   obtain⟨x,x1,hk⟩:=aG hq
   split at hk
   ·rename_i T' t' xs
    obtain⟨x,g1,y,g2,hm,hk⟩:=hk
    have l1:look (toH h) (k,i)=some (.var T' (ag t' x).cells):=am x1 (by simp[VB.blks,g1])
    have l2:look (toH h) (k,j)=some (.var T' (ag t' y).cells):=am x1 (by simp[VB.blks,g2])
    unfold Fm at hm
    split at hm
    ·rename_i E hu
     split at hm
     ·rename_i n hn
      have hn0:n≠0:=by simpa using hm
      have e:decide ((k,i)=(k,j)∧True)=decide (i=j):=by simp
      split at hk
      ·exact⟨.bool (decide (i=j)),rfl,by simp[bL,hu,V.toD,m6],by simp[bm,hu],fun cn=>by simp[eE,hu],rfl,by simp only[V.toD,m6,iC,hu,hn,l1,l2];rw[if_pos hn0,e],hk⟩
      ·exact⟨.bool !(decide (i=j)),rfl,by simp[bL,hu,V.toD,m6],by simp[bm,hu],fun cn=>by simp[eE,hu],rfl,by simp only[V.toD,m6,iC,hu,hn,l1,l2];rw[if_pos hn0,e],hk⟩
      ·exact hk.elim
     ·cases hm
    ·cases hm
   ·exact hk.elim
def I3 (op:UnOp)(d:V)(K:V→Prop):Prop:=
 match d,op with
 | .int k n,.neg=>Ari k (0-n) fun z=>K (.int k z)
 | .bool b,.not=>K (.bool !b)
 | .tt,.not=>K .ff
 | .ff,.not=>K .tt
 |_,_=>False
theorem Hl {op:UnOp}{d:V}{K:V→Prop}(hk:I3 op d K):∃r,Hu op d.toD=some r.toD∧K r:=by
 unfold I3 at hk
 split at hk
 ·exact⟨_,by simp only[V.toD,Hu],hk.ok⟩
 ·exact⟨_,by simp only[V.toD,Hu],hk⟩
 ·exact⟨.ff,rfl,hk⟩
 ·exact⟨.tt,rfl,hk⟩
 ·exact hk.elim
def qD (v:V)(cs:List V):V:=match v with| .agg _=>.agg cs|_=>cs.headD .undef
theorem zl {v:V}{cs:List V}:(qD v cs).toD=bq v.toD (ah cs):=by
 unfold qD bq
 cases v
 case hro k o=>cases o<;>cases cs<;>rfl
 case hpo k o=>cases o<;>cases cs<;>rfl
 case obo t o=>cases o<;>cases cs<;>rfl
 all_goals first|rfl|(cases cs<;>rfl)
def th (t:Ty)(v:V)(K:t.den→Prop):Prop:=match Hw t v with|some x=>K x|none=>False
theorem jV {t:Ty}{v:V}{K:t.den→Prop}(h:th t v K):∃x,v.toD=ag t x∧K x:=by
 unfold th at h
 split at h
 ·rename_i x hx
  exact⟨x,q9 hx,h⟩
 ·exact h.elim
def oR:List V→Nat→Bool
 |[],0=>true
 |_::l,n+1=>oR l n
 |_,_=>false
theorem fP:∀{l:List V} {n:Nat},oR l n=true→l.length=n
 |[],0,_=>rfl
 |_::l,n+1,h=>by simp[fP (l:=l) (n:=n) h]
 |[],_+1,h=>by cases h
 |_::_,0,h=>by cases h
theorem nc {A B m:List D}{o:Nat}(h:o+m.length≤A.length):aE (A++B) o m=aE A o m++B:=by
 unfold aE
 rw[List.take_append_of_le_length (by omega),List.drop_append_of_le_length (by omega)]
 simp[List.append_assoc]
theorem lN {A B m:List D}{o:Nat}:aE (A++B) (A.length+o) m=A++aE B o m:=by
 unfold aE
 rw[List.take_append,List.drop_append]
 have e1:A.length+o-A.length=o:=by omega
 have e2:A.length+o+m.length-A.length=o+m.length:=by omega
 rw[e1,e2,List.take_of_length_le (by omega),List.drop_of_length_le (by omega)]
 simp[List.append_assoc]
theorem po {l:List D}{i:Nat}{d:D}(h:i<l.length):aE l i [d]=l.set i d:=by
 unfold aE
 rw[List.set_eq_take_append_cons_drop,if_pos h]
 simp
def sy (ti:TI)(h:VH)(d v:V)(K:V→VH→Prop):Prop:=
 match d with
 | .ptr b o=>dj h b fun x=>(match x with
  | .var T' cs=>Chk (v.whole && oR v.cells ti.sz && v.cells.all V.one) (pO cs o v.cells fun cs'=>K .undef [(b,.var T' cs')])
  | .vari T' pre m t xs post=>Chk (v.whole && oR v.cells ti.sz && v.cells.all V.one) (match Nat.blt o pre.length with
   |true=>pO pre o v.cells fun pre'=>K .undef [(b,.vari T' pre' m t xs post)]
   |false=>bk (xs.length=m∧pre.length+m≤o) (pO post (o-(pre.length+m)) v.cells fun post'=>K .undef [(b,.vari T' pre m t xs post')]))
  |_=>False)
 |_=>False
theorem jO {P:Program}{h:HL}{T T':TypeId}{b:Id}{o:Nat}{cs:List D}{e:D}(hb:look h b=some (.var T' cs))(hw:e.whole=true)(hs:sizeT P T=some e.cells.length)(hl:o+e.cells.length≤cs.length)(h1:e.cells.all D.one=true):
  eF P h T (.ptr b o) e=some [(b,.var T' (aE cs o e.cells))]:=by
 simp only[eF,hb]
 rw[if_pos ⟨hw,hs,hl,h1⟩]
theorem wP {P:Program}{h:HL}{T E:TypeId}{b:Id}{i o:Nat}{l:List D}{x e:D}(hb:look h b=some (.row E l))(hx:l[i]?=some x)(hw:e.whole=true)(hs:sizeT P T=some e.cells.length)(hl:o+e.cells.length≤x.cells.length)(h1:e.cells.all D.one=true):
  eF P h T (.eptr b i o) e=some [(b,.row E (l.set i (bq x (aE x.cells o e.cells))))]:=by
 simp only[eF,hb,hx]
 rw[if_pos ⟨hw,hs,hl,h1⟩]
theorem wA {P:Program}{T:TypeId}{ti:TI}(ht:ti.ok P T){h:VH}{d v:V}{K:V→VH→Prop}(hk:sy ti h d v K):∃u vu,eF P (toH h) T d.toD v.toD=some u∧bE h u vu∧K .undef vu:=by
 unfold sy at hk
 split at hk
 ·rename_i b o
  obtain⟨z,h1,h3⟩:=aG hk
  split at h3
  ·rename_i T' cs
   obtain⟨hc,h4⟩:=h3.ok
   simp only[Bool.and_eq_true] at hc
   obtain⟨⟨c1,c2⟩,c3⟩:=hc
   obtain⟨h5,h6⟩:=gr h4
   have hl:=am (i:=0) h1 (d:=.var T' (ah cs)) rfl
   refine⟨_,_,jO (o:=o) (e:=v.toD) hl (by rw[eS];exact c1) (by rw[ht.size,aJ,aw,fP c2]) (by rw[aJ,aw,aw];exact h5) (by rw[aJ];exact kU _ c3),?_,h6⟩
   exact eY h1 rfl (by simp only[VB.blks,aJ,jJ])
  ·rename_i T' pre m t xs post
   obtain⟨hc,h4⟩:=h3.ok
   simp only[Bool.and_eq_true] at hc
   obtain⟨⟨c1,c2⟩,c3⟩:=hc
   have hl:=am (i:=0) h1 (d:=.var T' (ah pre++xs.map (ag t)++ah post)) rfl
   split at h4
   ·obtain⟨h5,h6⟩:=gr h4
    refine⟨_,_,jO (o:=o) (e:=v.toD) hl (by rw[eS];exact c1) (by rw[ht.size,aJ,aw,fP c2]) (by rw[aJ,aw,List.length_append,List.length_append,aw];omega) (by rw[aJ];exact kU _ c3),?_,h6⟩
    refine eY h1 rfl ?_
    simp only[VB.blks]
    have es:aE (ah pre++xs.map (ag t)++ah post) o v.toD.cells=ah (pre.take o++v.cells++pre.drop (o+v.cells.length))++xs.map (ag t)++ah post:=by
     rw[aJ,List.append_assoc (ah pre),nc (by rw[aw,aw];exact h5),jJ];simp only[List.append_assoc]
    rw[es]
   ·obtain⟨⟨n1,n2⟩,h4⟩:=h4
    obtain⟨h5,h6⟩:=gr h4
    refine⟨_,_,jO (o:=o) (e:=v.toD) hl (by rw[eS];exact c1) (by rw[ht.size,aJ,aw,fP c2]) (by rw[aJ,aw,List.length_append,List.length_append,aw,aw,List.length_map];omega) (by rw[aJ];exact kU _ c3),?_,h6⟩
    refine eY h1 rfl ?_
    simp only[VB.blks]
    have e:o=(ah pre++xs.map (ag t)).length+(o-(pre.length+m)):=by rw[List.length_append,aw,List.length_map];omega
    rw[e,aJ,lN,jJ]
    have e2:(ah pre++xs.map (ag t)).length+(o-(pre.length+m))-(pre.length+m)=o-(pre.length+m):=by omega
    rw[e2]
  ·exact h3.elim
 ·exact hk.elim
def Hj (h:VH)(d:V)(K:Option (Ty×Nat)→Prop):Prop:=
 match d with
 | .aptr b _ _=>(match aC h b with|some (.vari _ _ _ t _ _)=>K (some (t,0))|_=>K none)
 | .eptr b _ o=>(match aC h b with|some (.row _ t _)=>K (some (t,o))|_=>K none)
 | .fptr k _ o=>(match aC h k with|some (.fvar _ t _)=>K (some (t,o))|_=>K none)
 | .faptr k _ _ _=>(match aC h k with|some (.fvari _ _ t _)=>K (some (t,0))|_=>K none)
 | .feptr k _ _ o=>(match aC h k with|some (.frow _ t _)=>K (some (t,o))|_=>K none)
 |_=>K none
theorem ES {h:VH}{d:V}{K:Option (Ty×Nat)→Prop}(hk:Hj h d K):∃r,K r:=by
 unfold Hj at hk
 split at hk<;>first|exact⟨_,hk⟩|(split at hk<;>exact⟨_,hk⟩)
def yc (ti:TI)(h:VH)(d v:V)(K:V→VH→Prop):Prop:=
 Chk (v.whole && oR v.cells ti.sz && v.cells.all V.one) (match d with
 | .aptr b p i=>dj h b fun x=>(match x with
  | .vari T' pre m t xs post=>Chk (Nat.beq p pre.length && ti.sz==1 && t.sz==1 && v.one) (th t (HA v) fun e=>bk (i<xs.length) (K .undef [(b,.vari T' pre m t (xs.set i e) post)]))
  |_=>False)
 | .eptr b i o=>dj h b fun x=>(match x with
  | .row E t xs=>eD xs i fun e=>pO (enc t e).cells o (gE v.cells) fun cs'=>th t (qD (enc t e) cs') fun e'=>K .undef [(b,.row E t (xs.set i e'))]
  |_=>False)
 | .fptr k i o=>dj h k fun x=>(match x with
  | .fvar T' t xs=>eD xs i fun e=>pO (enc t e).cells o (gE v.cells) fun cs'=>th t (qD (enc t e) cs') fun e'=>K .undef [(k,.fvar T' t (xs.set i e'))]
  |_=>False)
 | .faptr k i p j=>dj h k fun x=>(match x with
  | .fvari T' m t xss=>Chk (Nat.beq p 0 && ti.sz==1 && t.sz==1 && v.one) (th t (HA v) fun e=>eD xss i fun xs=>bk (j<xs.length) (K .undef [(k,.fvari T' m t (xss.set i (xs.set j e)))]))
  |_=>False)
 | .feptr k i j o=>dj h k fun x=>(match x with
  | .frow E t xss=>eD xss i fun xs=>eD xs j fun e=>pO (enc t e).cells o (gE v.cells) fun cs'=>th t (qD (enc t e) cs') fun e'=>K .undef [(k,.frow E t (xss.set i (xs.set j e')))]
  |_=>False)
 |_=>False)
theorem m9 (v:V):(nzE v.toD).cells=ah (gE v.cells):=by rw[eM,aJ,lA]
theorem qp (d:D):(nzE d).whole=d.whole:=by cases d<;>rfl
theorem ui (l:List V):(gE l).length=l.length:=by
 have:=congrArg List.length (lA l)
 rwa [aw,List.length_map,aw] at this
theorem BA {v:V}(h:v.cells.all V.one=true):(nzE v.toD).cells.all D.one=true:=by
 rw[eM,aJ]
 have:=kU _ h
 rw[List.all_eq_true] at this⊢
 intro x hx
 obtain⟨y,hy,rfl⟩:=List.mem_map.1 hx
 rw[xL]
 exact this y hy
theorem fQ {α β:Type}(f:α→β)(l:List α)(i:Nat)(x:α):(l.set i x).map f=(l.map f).set i (f x):=by simp[List.map_set]
theorem rk {t:Ty}{e e':t.den}{o:Nat}{v:V}(h1:o+(gE v.cells).length≤(enc t e).cells.length)(h2:(qD (enc t e) ((enc t e).cells.take o++gE v.cells++(enc t e).cells.drop (o+(gE v.cells).length))).toD=ag t e'):
  bq (ag t e) (aE (ag t e).cells o (nzE v.toD).cells)=ag t e':=by
 rw[←h2,zl,iF,bC,m9,jJ]
theorem wB {P:Program}{T:TypeId}{ti:TI}(ht:ti.ok P T){h:VH}{d v:V}{K:V→VH→Prop}(hk:yc ti h d v K):∃u vu,eF P (toH h) T d.toD (nzE v.toD)=some u∧bE h u vu∧K .undef vu:=by
 obtain⟨c0,hk⟩:=Chk.ok hk
 simp only[Bool.and_eq_true] at c0
 obtain⟨⟨c1,c2⟩,c3⟩:=c0
 have hw:(nzE v.toD).whole=true:=by rw[qp,eS];exact c1
 have hlen:(nzE v.toD).cells.length=ti.sz:=by rw[m9,aw,ui,fP c2]
 have hs:sizeT P T=some (nzE v.toD).cells.length:=by rw[ht.size,hlen]
 have h1:=BA c3
 have one:v.one=true→(nzE v.toD).cells=[(HA v).toD]:=by
  intro ho
  have:v.cells=[v]:=by cases v<;>first|rfl|cases ho
  rw[m9,this]
  rfl
 split at hk
 ·rename_i b p i _
  obtain⟨x,hb,hk⟩:=aG hk
  split at hk
  ·rename_i T' pre m t xs post
   obtain⟨c,hk⟩:=hk.ok
   simp only[Bool.and_eq_true,beq_iff_eq] at c
   obtain⟨⟨⟨d1,d2⟩,d3⟩,d4⟩:=c
   have hp:p=pre.length:=Nat.eq_of_beq_eq_true d1
   obtain⟨e,he,hi,hk⟩:=jV hk
   have hl:=am (i:=0) hb (d:=.var T' (ah pre++xs.map (ag t)++ah post)) rfl
   refine⟨_,_,jO (o:=p+i) (e:=nzE v.toD) hl hw hs (by rw[hlen,d2,List.length_append,List.length_append,aw,List.length_map];omega) h1,?_,hk⟩
   refine eY hb rfl ?_
   simp only[VB.blks]
   have es:aE (ah pre++xs.map (ag t)++ah post) (p+i) (nzE v.toD).cells=ah pre++(xs.set i e).map (ag t)++ah post:=by
    rw[one d4,he,hp,List.append_assoc (ah pre),show pre.length+i=(ah pre).length+i by rw[aw],lN,nc (by simp;omega),po (by simpa using hi),fQ]
    simp only[List.append_assoc]
   rw[es]
  ·exact hk.elim
 ·rename_i b i o _
  obtain⟨x,hb,hk⟩:=aG hk
  split at hk
  ·rename_i E t xs
   obtain⟨e,he,hk⟩:=hk
   obtain⟨h5,hk⟩:=gr hk
   obtain⟨e',he',hk⟩:=jV hk
   have hl:=am (i:=0) hb (d:=.row E (xs.map (ag t))) rfl
   refine⟨_,_,wP (x:=ag t e) (e:=nzE v.toD) hl (by rw[List.getElem?_map,he];rfl) hw hs (by rw[m9,aw,bC,aw];exact h5) h1,?_,hk⟩
   refine eY hb rfl ?_
   simp only[VB.blks]
   rw[rk h5 he',fQ]
  ·exact hk.elim
 ·rename_i k i o _
  obtain⟨x,hb,hk⟩:=aG hk
  split at hk
  ·rename_i T' t xs
   obtain⟨e,he,hk⟩:=hk
   obtain⟨h5,hk⟩:=gr hk
   obtain⟨e',he',hk⟩:=jV hk
   have hl:=am (i:=i) hb (d:=.var T' (ag t e).cells) (by simp only[VB.blks,List.getElem?_map,he,Option.map_some])
   refine⟨_,_,jO (e:=nzE v.toD) hl hw hs (by rw[m9,aw,bC,aw];exact h5) h1,?_,hk⟩
   have hi:=(List.getElem?_eq_some_iff.1 he).1
   refine sG hb ?_ (by simpa[VB.blks] using hi)
   simp only[VB.blks]
   rw[fQ]
   have hc:=iV (e:=ag t e) (m:=(nzE v.toD).cells) (o:=o) (by rw[m9,aw,bC,aw];exact h5) (fun y hy=>bD (by rw[List.all_eq_true] at h1;exact h1 y hy))
   rw[rk h5 he'] at hc
   rw[hc]
  ·exact hk.elim
 ·rename_i k i p j _
  obtain⟨x,hb,hk⟩:=aG hk
  split at hk
  ·rename_i T' m t xss
   obtain⟨c,hk1⟩:=hk.ok
   simp only[Bool.and_eq_true,beq_iff_eq] at c
   obtain⟨⟨⟨d1,d2⟩,d3⟩,d4⟩:=c
   have hp:p=0:=Nat.eq_of_beq_eq_true d1
   subst hp
   obtain⟨e,he,xs,hx,hj,hk⟩:=jV hk1
   have hl:=am (i:=i) hb (d:=.var T' (xs.map (ag t))) (by simp only[VB.blks,List.getElem?_map,hx,Option.map_some])
   refine⟨_,_,jO (o:=0+j) (e:=nzE v.toD) hl hw hs (by rw[hlen,d2,List.length_map];omega) h1,?_,hk⟩
   have hi:=(List.getElem?_eq_some_iff.1 hx).1
   refine sG hb ?_ (by simpa[VB.blks] using hi)
   simp only[VB.blks]
   rw[fQ,one d4,he,Nat.zero_add,po (by simpa using hj),fQ]
  ·exact hk.elim
 ·rename_i k i j o _
  obtain⟨x,hb,hk⟩:=aG hk
  split at hk
  ·rename_i E t xss
   obtain⟨xs,hx,e,he,hk⟩:=hk
   obtain⟨h5,hk⟩:=gr hk
   obtain⟨e',he',hk⟩:=jV hk
   have hl:=am (i:=i) hb (d:=.row E (xs.map (ag t))) (by simp only[VB.blks,List.getElem?_map,hx,Option.map_some])
   refine⟨_,_,wP (x:=ag t e) (e:=nzE v.toD) hl (by rw[List.getElem?_map,he];rfl) hw hs (by rw[m9,aw,bC,aw];exact h5) h1,?_,hk⟩
   have hi:=(List.getElem?_eq_some_iff.1 hx).1
   refine sG hb ?_ (by simpa[VB.blks] using hi)
   simp only[VB.blks]
   rw[fQ,rk h5 he',fQ]
  ·exact hk.elim
 ·exact hk.elim
def vJ:List V→(List Int→Prop)→Prop
 |[],K=>K []
 | .int .i64 n::l,K=>vJ l fun r=>K (n::r)
 |_::_,_=>False
theorem qh:∀{l:List V} {K:List Int→Prop},vJ l K→∃ns:List Int,ah l=ns.map (D.int .i64)∧K ns
 |[],K,h=>⟨[],rfl,h⟩
 |v::l,K,h=>by
  cases v<;>try exact h.elim
  rename_i k n
  cases k<;>try exact h.elim
  obtain⟨ns,h1,h2⟩:=qh (l:=l) h
  exact⟨n::ns,by simp[ah,V.toD,h1],h2⟩
def V.pure0:V→Bool
 | .int .. | .bool _| .tt| .ff| .str _| .lst .. | .box .. | .nilp| .nils| .nilf| .nili=>true
 |_=>false
theorem jP (l:List V)(h:l.all V.pure0=true):(ah l).all D.pure0=true:=by
 rw[bI,List.all_map]
 rw[List.all_eq_true] at h⊢
 intro x hx
 have:=h x hx
 cases x<;>first|rfl|cases this
theorem oy {t:Ty}(h:t.sz=1)(hp:t.pure=true)(xs:List t.den):(xs.map (ag t)).all D.pure0=true:=by
 rw[List.all_eq_true]
 intro y hy
 obtain⟨z,_,rfl⟩:=List.mem_map.1 hy
 have h1:=gU hp z
 rw[h] at h1
 have h2:=h1.1
 have h3:=h1.2
 match hc:(ag t z).cells,h2 with
 |[c],_=>
  rw[hc] at h3
  simp only[List.all_cons,List.all_nil,Bool.and_true] at h3
  by_cases hag:∃cs,ag t z= .agg cs
  ·obtain⟨cs,he⟩:=hag
   cases t<;>simp[Ty.sz] at h<;>first|(cases he;done)|(cases z<;>simp[ag,l9,m6] at he;done)
  ·have:=bR fun cs hcs=>hag ⟨cs,hcs⟩
   rw[this] at hc
   simp only[List.cons.injEq,and_true] at hc
   rw[hc];exact h3
def mj (h:VH)(v:V)(K:(t:Ty)→List t.den→Prop):Prop:=
 match v with
 | .lst t xs=>K t xs
 | .nils=>K (.int .i64) []
 | .ref b=>dj h b fun x=>(match x with
  | .row _ t xs=>K t xs
  | .froz t xs=>K t xs
  |_=>False)
 | .fref k i=>dj h k fun x=>(match x with
  | .frow _ t xss=>eD xss i fun xs=>K t xs
  | .frowx _ t xss=>eD xss i fun ox=>fY ox False fun xs=>K t xs
  |_=>False)
 | .hro k o=>fY o (K (.int .i64) []) fun i=>dj h k fun x=>(match x with
  | .frow _ t xss=>eD xss i fun xs=>K t xs
  | .frowx _ t xss=>eD xss i fun ox=>fY ox False fun xs=>K t xs
  |_=>False)
 | .vref b o n=>dj h b fun x=>(match x with
  | .var _ cs=>Chk (cs.all V.pure0) (Cj cs o n fun r=>vJ r fun ns=>K (.int .i64) ns)
  | .vari _ pre m t xs post=>Chk (pre.all V.pure0 && post.all V.pure0 && Nat.beq o pre.length && Nat.beq n m && t.sz==1 && t.pure) (bk (xs.length=m) (K t xs))
  |_=>False)
 |_=>False
theorem jX {h:VH}{v:V}{K:(t:Ty)→List t.den→Prop}(hk:mj h v K):∃t,∃xs:List (Ty.den t),elems (toH h) v.toD=some (xs.map (ag t))∧K t xs:=by
 unfold mj at hk
 split at hk
 ·exact⟨_,_,rfl,hk⟩
 ·exact⟨_,_,rfl,hk⟩
 ·rename_i b
  obtain⟨x,h1,h3⟩:=aG hk
  split at h3
  ·rename_i E t xs
   have hl:=am (i:=0) h1 (d:=.row E (xs.map (ag t))) rfl
   exact⟨_,_,by simp[elems,V.toD,hl],h3⟩
  ·rename_i t xs
   have hl:=am (i:=0) h1 (d:=.froz (xs.map (ag t))) rfl
   exact⟨_,_,by simp[elems,V.toD,hl],h3⟩
  ·exact h3.elim
 ·rename_i k i
  obtain⟨x,h1,h3⟩:=aG hk
  split at h3
  ·rename_i E t xss
   obtain⟨xs,h4,h5⟩:=h3
   have hl:=am (i:=i) h1 (d:=.row E (xs.map (ag t))) (by simp only[VB.blks,List.getElem?_map,h4,Option.map_some])
   exact⟨_,_,by simp[elems,V.toD,hl],h5⟩
  ·rename_i E t xss
   obtain⟨ox,h4,h5⟩:=h3
   cases ox with
   |none=>exact(h5.1 rfl).elim
   |some xs=>
    have hl:=am (i:=i) h1 (d:=.row E (xs.map (ag t))) (by simp only[VB.blks,List.getElem?_map,h4,Option.map_some,rowX])
    exact⟨_,_,by simp[elems,V.toD,hl],h5.2 xs rfl⟩
  ·exact h3.elim
 ·rename_i k o
  cases o with
  |none=>exact⟨.int .i64,[],rfl,hk.1 rfl⟩
  |some i=>
   obtain⟨x,h1,h3⟩:=aG (hk.2 i rfl)
   split at h3
   ·rename_i E t xss
    obtain⟨xs,h4,h5⟩:=h3
    have hl:=am (i:=i) h1 (d:=.row E (xs.map (ag t))) (by simp only[VB.blks,List.getElem?_map,h4,Option.map_some])
    exact⟨_,_,by simp[elems,V.toD,l9,hl],h5⟩
   ·rename_i E t xss
    obtain⟨ox,h4,h5⟩:=h3
    cases ox with
    |none=>exact(h5.1 rfl).elim
    |some xs=>
     have hl:=am (i:=i) h1 (d:=.row E (xs.map (ag t))) (by simp only[VB.blks,List.getElem?_map,h4,Option.map_some,rowX])
     exact⟨_,_,by simp[elems,V.toD,l9,hl],h5.2 xs rfl⟩
   ·exact h3.elim
 ·rename_i b o n
  obtain⟨x,h1,h3⟩:=aG hk
  split at h3
  ·rename_i T cs
   have hl:=am (i:=0) h1 (d:=.var T (ah cs)) rfl
   obtain⟨c1,h4⟩:=h3.ok
   obtain⟨h5,h6⟩:=sA h4
   obtain⟨ns,h7,h8⟩:=qh h6
   refine⟨.int .i64,ns,?_,h8⟩
   simp only[elems,V.toD,hl]
   rw[if_pos ⟨by rw[aw];exact h5,jP _ c1⟩]
   rw[show ns.map (ag (.int .i64))=ns.map (D.int .i64) from rfl,←h7]
   simp only[bI,List.map_take,List.map_drop]
  ·rename_i T pre m t xs post
   have hl:=am (i:=0) h1 (d:=.var T (ah pre++xs.map (ag t)++ah post)) rfl
   obtain⟨c1,h4⟩:=h3.ok
   simp only[Bool.and_eq_true,beq_iff_eq] at c1
   obtain⟨⟨⟨⟨⟨c1,c2⟩,c3⟩,c4⟩,c5⟩,c6⟩:=c1
   obtain⟨h5,h6⟩:=h4
   have hp:o=pre.length:=Nat.eq_of_beq_eq_true c3
   have hn:n=m:=Nat.eq_of_beq_eq_true c4
   refine⟨t,xs,?_,h6⟩
   simp only[elems,V.toD,hl]
   have hall:(ah pre++xs.map (ag t)++ah post).all D.pure0=true:=by
    rw[List.all_append,List.all_append,jP _ c1,jP _ c2,oy c5 c6]
    rfl
   rw[if_pos ⟨by rw[List.length_append,List.length_append,aw,List.length_map];omega,hall⟩]
   rw[List.append_assoc,hp,←aw pre,List.drop_left,hn,←h5]
   rw[show xs.length=(xs.map (ag t)).length by rw[List.length_map],List.take_left]
  ·exact h3.elim
 ·exact hk.elim
theorem pu (t:Ty)(xs:List t.den)(s:Nat)(h:t.sz=s):wC s (xs.map (ag t))=s:=EQ fun e he=>by
 obtain⟨x,_,rfl⟩:=List.mem_map.1 he
 rw[(d8 t x).1,h]
def GG (ti:TI)(h:VH)(v:V)(K:V→Prop):Prop:=
 match ti.k with
 | .str=>(match v with| .str s=>K (.int .i64 (s.size:Nat))|_=>False)
 | .slice _=>mj h v fun _ xs=>K (.int .i64 (xs.length:Nat))
 |_=>False
theorem DX {P:Program}{T:TypeId}{ti:TI}(ht:ti.ok P T){h:VH}{v:V}{K:V→Prop}(hk:GG ti h v K):∃r,qH P (toH h) T v.toD=some r.toD∧K r:=by
 have hu:=ht.und
 unfold GG at hk
 split at hk
 ·rename_i e
  rw[e] at hu
  split at hk
  ·exact⟨_,by simp only[qH,show P.underlying T=some .string from hu,V.toD],hk⟩
  ·exact hk.elim
 ·rename_i E e
  rw[e] at hu
  obtain⟨t,xs,h1,h2⟩:=jX hk
  exact⟨_,by simp only[qH,show P.underlying T=some (.slice E) from hu,h1,Option.map_some,List.length_map,V.toD],h2⟩
 ·exact hk.elim
def nj (Θ:TT)(ti:TI)(h:VH)(n:Nat)(d1 d2:V)(K:V→VH→Prop):Prop:=
 match ti.k with
 | .slice E=>aQ Θ E fun ei=>Chk (ei.z.isSome && decide (0<ei.sz)) (mj h d2 fun t ys=>(match d1 with
  | .ref b=>dj h b fun x=>(match x with
   | .row E' t' xs=>Chk (E'==E && t'.sz==ei.sz && !Nat.beq b n) (match kr t' t ys with
    |some ys'=>bk (jn ei.nb (xs.length+ys'.length)) (K (.ref n) [(b,.gone),(n,.row E t' (xs++ys'))])
    |none=>False)
   |_=>False)
  | .nils=>Chk (t.sz==ei.sz) (match ys with
   |[]=>K .nils []
   |y::ys'=>bk (jn ei.nb (ys'.length+1)) (K (.ref n) [(n,.row E t (y::ys'))]))
  |_=>False))
 |_=>False
theorem sJ {h:VH}{b n:Nat}{x y:VB}{d:Blk}(hn:∀c:Id,n≤c.1→look (toH h) c=none)(hb:look h b=some x)(hs:x.sgl=true)(hbn:b≠n)(hy:y.blks=[d]):bE h [((b,0),.gone),((n,0),d)] [(b,.gone),(n,y)]:=by
 have h1:bE h [((b,0),.gone)] [(b,.gone)]:=eY hb hs rfl
 have h2:bE (puts [(b,VB.gone)] h) [((n,0),d)] [(n,y)]:=lS (fun i hi=>by
  rw[←h1.1,ax _ _ _ (fun z hz e=>by obtain rfl:=List.mem_singleton.1 hz;simp only[Prod.mk.injEq] at e;exact hbn e.1)]
  exact hn (n,i) (Nat.le_refl _)) hy
 exact n3 h1 h2
theorem og {P:Program}{Θ:TT}(hΘ:Θ.ok P){T:TypeId}{ti:TI}(ht:ti.ok P T){h:VH}{n:Nat}(hn:∀c:Id,n≤c.1→look (toH h) c=none){d1 d2:V}{K:V→VH→Prop}(hk:nj Θ ti h n d1 d2 K):∃r u vu,gc P (toH h) (n,0) T d1.toD d2.toD=some (r.toD,u)∧bE h u vu∧K r vu:=by
 have hu:=ht.und
 unfold nj at hk
 split at hk
 ·rename_i E e
  rw[e] at hu
  obtain⟨ei,l1,h1⟩:=aq hk
  have hei:=hΘ _ _ l1
  obtain⟨c,h2⟩:=h1.ok
  simp only[Bool.and_eq_true,decide_eq_true_eq] at c
  obtain⟨t,ys,h3,h4⟩:=jX h2
  have hel:=hei.elem c.1 c.2
  unfold gc
  simp only[show P.underlying T=some (.slice E) from hu,hel,h3]
  split at h4
  ·rename_i b
   obtain⟨x,b1,h5⟩:=aG h4
   split at h5
   ·rename_i E' t' xs
    obtain⟨c2,h6⟩:=h5.ok
    simp only[Bool.and_eq_true,beq_iff_eq,Bool.not_eq_true'] at c2
    obtain⟨⟨rfl,c3⟩,c4⟩:=c2
    have hbn:b≠n:=by rintro rfl;simp at c4
    split at h6
    ·rename_i ys' hc
     have hce:=fa hc
     have hl:=am (i:=0) b1 (d:=.row E' (xs.map (ag t'))) rfl
     refine⟨.ref n,[((b,0),.gone),((n,0),.row E' ((xs++ys').map (ag t')))],_,?_,sJ hn b1 rfl hbn rfl,h6.2⟩
     rw[hce,if_pos (pu _ _ _ c3)]
     simp only[V.toD,hl]
     rw[if_pos ⟨trivial,by simpa using h6.1⟩]
     simp
    ·exact h6.elim
   ·exact h5.elim
  ·obtain⟨c3,h6⟩:=h4.ok
   simp only[beq_iff_eq] at c3
   rw[if_pos (pu _ _ _ c3)]
   split at h6
   ·exact⟨.nils,[],[],rfl,aB,h6⟩
   ·rename_i y ys'
    refine⟨.ref n,[((n,0),.row E ((y::ys').map (ag t)))],_,?_,iW hn rfl,h6.2⟩
    simp only[V.toD,List.map_cons]
    rw[if_pos (by simpa using h6.1)]
  ·exact h4.elim
 ·exact hk.elim
def oh (Θ:TT)(ti ti':TI)(h:VH)(n:Nat)(d1 d2:V)(K:V→VH→Prop):Prop:=
 match ti.k,ti'.k,d1,d2 with
 | .slice E,.int _,.ref b,.int _ m=>aQ Θ E fun ei=>dj h b fun x=>(match x,ei.z with
  | .row E' (.int k2) xs,some (.int k3 z)=>Chk (E'==E && Nat.beq ei.sz 1 && !Nat.beq b n && decide (k3=k2)) (bk (0<m∧m≤1000000) (bk (jn ei.nb (xs.length+m.toNat)) (K (.ref n) [(b,.gone),(n,.row E (.int k2) (xs++List.replicate m.toNat z))])))
  |_,_=>False)
 |_,_,_,_=>False
theorem sZ {P:Program}{Θ:TT}(hΘ:Θ.ok P){T T':TypeId}{ti ti':TI}(ht:ti.ok P T)(ht':ti'.ok P T'){h:VH}{n:Nat}(hn:∀c:Id,n≤c.1→look (toH h) c=none){d1 d2:V}{K:V→VH→Prop}(hk:oh Θ ti ti' h n d1 d2 K):∃r u vu,e8 P (toH h) (n,0) T T' d1.toD d2.toD=some (r.toD,u)∧bE h u vu∧K r vu:=by
 have hu:=ht.und
 have hu':=ht'.und
 unfold oh at hk
 split at hk
 ·rename_i E kn b k m e e'
  rw[e] at hu
  rw[e'] at hu'
  obtain⟨ei,l1,h1⟩:=aq hk
  have hei:=hΘ _ _ l1
  obtain⟨x,b1,h5⟩:=aG h1
  split at h5
  ·rename_i E' k2 xs k3 z hz
   obtain⟨c2,h6⟩:=h5.ok
   simp only[Bool.and_eq_true,beq_iff_eq,Bool.not_eq_true',decide_eq_true_eq] at c2
   obtain⟨⟨⟨rfl,c1⟩,c4⟩,rfl⟩:=c2
   have hs1:ei.sz=1:=Nat.eq_of_beq_eq_true c1
   have hbn:b≠n:=by rintro rfl;simp at c4
   obtain⟨h7,h8,h9⟩:=h6
   have hl:=am (i:=0) b1 (d:=.row E' (xs.map (ag (.int k3)))) rfl
   refine⟨.ref n,[((b,0),.gone),((n,0),.row E' ((xs++List.replicate m.toNat z).map (ag (.int k3))))],_,?_,sJ hn b1 rfl hbn rfl,h9⟩
   simp only[e8,V.toD,show P.underlying T=some (.slice E') from hu,show P.underlying T'=some (.int _) from hu',hl,hei.elem (by rw[hz];rfl) (by omega),hei.zero _ hz]
   rw[if_pos ⟨trivial,hs1,h7.1,h7.2,by simpa using h8⟩]
   simp[List.map_replicate,ag]
  ·exact h5.elim
 ·exact hk.elim
def xb:List V→Nat→(List V→Prop)→Prop
 |l,0,K=>K l
 |[],_+1,_=>False
 |_::cs,n+1,K=>xb cs n K
theorem tu:∀{l:List V} {n:Nat} {K:List V→Prop},xb l n K→n≤l.length∧K (l.drop n)
 |l,0,K,h=>⟨Nat.zero_le _,by cases l<;>simpa[xb] using h⟩
 |[],_+1,_,h=>h.elim
 |c::cs,n+1,K,h=>by
  obtain⟨h1,h2⟩:=tu (l:=cs) (n:=n) h
  exact⟨by simpa using h1,by simpa using h2⟩
def zT (Θ:TT)(ti:TI)(h:VH)(d e:V)(K:V→VH→Prop):Prop:=
 match ti.k,d with
 | .slice E,.vref b o m=>aQ Θ E fun ei=>Chk (ei.sz==1) (mj h e fun t ys=>Chk (t.sz==1 && t.pure) (dj h b fun x=>(match x with
  | .var T' cs=>px cs o fun pre=>xb cs (o+m) fun post=>bk (ys.length=m) (K (.int .i64 (ys.length:Nat)) [(b,.vari T' pre m t ys post)])
  |_=>False)))
 |_,_=>False
theorem zU {P:Program}{Θ:TT}(hΘ:Θ.ok P){T:TypeId}{ti:TI}(ht:ti.ok P T){h:VH}{d e:V}{K:V→VH→Prop}(hk:zT Θ ti h d e K):∃r u vu,mW P (toH h) T d.toD e.toD=some (r.toD,u)∧bE h u vu∧K r vu:=by
 have hu:=ht.und
 unfold zT at hk
 split at hk
 ·rename_i E b o m ek
  rw[ek] at hu
  obtain⟨ei,l1,h1⟩:=aq hk
  have hei:=hΘ _ _ l1
  obtain⟨c,h2⟩:=h1.ok
  simp only[beq_iff_eq] at c
  obtain⟨t,ys,h3,h4⟩:=jX h2
  obtain⟨c2,h4⟩:=h4.ok
  simp only[Bool.and_eq_true,beq_iff_eq] at c2
  obtain⟨x,b1,h5⟩:=aG h4
  split at h5
  ·rename_i T' cs
   have hl:=am (i:=0) b1 (d:=.var T' (ah cs)) rfl
   obtain⟨g1,h6⟩:=lQ h5
   obtain⟨g2,h7⟩:=tu h6
   obtain⟨h10,h11⟩:=h7
   refine⟨.int .i64 (ys.length:Nat),[((b,0),.var T' (ah (cs.take o)++ys.map (ag t)++ah (cs.drop (o+m))))],_,?_,eY b1 rfl rfl,h11⟩
   unfold mW
   have hsz:sizeT P E=some 1:=by rw[hei.size,c]
   simp only[show P.underlying T=some (.slice E) from hu,V.toD,hsz,h3,hl]
   have hmin:min (ys.map (ag t)).length m=ys.length:=by rw[List.length_map];omega
   have hall:(ys.map (ag t)).all D.pure0=true:=oy c2.1 c2.2 ys
   rw[hmin,if_pos ⟨by rw[aw];omega,hall⟩,List.take_of_length_le (by rw[List.length_map];omega)]
   simp only[aE,List.length_map,h10,bI,List.map_take,List.map_drop]
  ·exact h5.elim
 ·exact hk.elim
def IQ (g:Nat×Nat×Nat)(v:V)(K:V→Prop):Prop:=
 match v with
 | .ptr b o=>eJ (o+g.2.1) fun o'=>K (.ptr b o')
 | .eptr b j o=>eJ (o+g.2.1) fun o'=>K (.eptr b j o')
 | .fptr k i o=>eJ (o+g.2.1) fun o'=>K (.fptr k i o')
 | .feptr k i j o=>eJ (o+g.2.1) fun o'=>K (.feptr k i j o')
 | .iptr t e o=>eJ (o+g.2.1) fun o'=>K (.iptr t e o')
 | .hpo k p=>fY p False fun i=>K (.fptr k i g.2.1)
 | .box t e=>(match enc t e with
  | .agg _=>K (.iptr t e g.2.1)
  |_=>False)
 | .obo t p=>fY p False fun e=>(match enc t e with
  | .agg _=>K (.iptr t e g.2.1)
  |_=>False)
 |_=>False
theorem xk {P:Program}{T:TypeId}{i:Nat}{g:Nat×Nat×Nat}(hg:gy P T i=some g.2.1){t:Ty}{e:t.den}{K:V→Prop}(hk:match enc t e with| .agg _=>K (.iptr t e g.2.1)|_=>False):∃r,fm P T i (.box (ag t e).cells)=some r.toD∧K r:=by
 split at hk
 ·rename_i cs hc
  refine⟨_,?_,hk⟩
  simp only[V.toD,fm,hg,Option.map_some]
  have:=iF t e
  rw[hc] at this
  rw[←this]
  rfl
 ·exact hk.elim
theorem FW {P:Program}{T:TypeId}{i:Nat}{g:Nat×Nat×Nat}(hg:gy P T i=some g.2.1){v:V}{K:V→Prop}(hk:IQ g v K):∃r,fm P T i v.toD=some r.toD∧K r:=by
 unfold IQ at hk
 split at hk
 ·exact⟨_,by simp only[V.toD,fm,hg,Option.map_some],aW hk⟩
 ·exact⟨_,by simp only[V.toD,fm,hg,Option.map_some],aW hk⟩
 ·exact⟨_,by simp only[V.toD,fm,hg,Option.map_some],aW hk⟩
 ·exact⟨_,by simp only[V.toD,fm,hg,Option.map_some],aW hk⟩
 ·exact⟨_,by simp only[V.toD,fm,hg,Option.map_some],aW hk⟩
 ·rename_i k p
  cases p with
  |none=>exact(hk.1 rfl).elim
  |some i=>exact⟨.fptr k i g.2.1,by simp only[V.toD,m6,fm,hg,Option.map_some,Nat.zero_add],hk.2 i rfl⟩
 ·exact xk hg hk
 ·rename_i t p
  cases p with
  |none=>exact(hk.1 rfl).elim
  |some e=>exact xk hg (hk.2 e rfl)
 ·exact hk.elim
def yO (i s:Nat)(K:Nat→Prop):Prop:=match s with|1=>K i|s=>K (i*s)
theorem nN {i s:Nat}{K:Nat→Prop}(h:yO i s K):K (i*s):=by
 unfold yO at h
 split at h
 ·rw[Nat.mul_one];exact h
 ·exact h
def IW (Θ:TT)(ti:TI)(h:VH)(v:V)(i:Int)(K:V→Prop):Prop:=
 match ti.k with
 | .slice E=>aQ Θ E fun ei=>(match v with
  | .ref b=>dj h b fun x=>(match x with
   | .row E' t xs=>Chk (E'==E) (bk (0≤i∧i<(xs.length:Nat)) (K (.eptr b i.toNat 0)))
   | .lit E' vs=>Chk (E'==E) (bk (0≤i∧i<(vs.length:Nat)) (eJ i.toNat fun j=>K (.eptr b j 0)))
   | .froz t xs=>Chk (t.sz==ei.sz) (ky xs i fun _ e=>K (.iptr t e 0))
   |_=>False)
  | .fref k j=>dj h k fun x=>(match x with
   | .frow E' t xss=>Chk (E'==E) (eD xss j fun xs=>bk (0≤i∧i<(xs.length:Nat)) (K (.feptr k j i.toNat 0)))
   |_=>False)
  | .hro k p=>fY p False fun j=>dj h k fun x=>(match x with
   | .frow E' t xss=>Chk (E'==E) (eD xss j fun xs=>bk (0≤i∧i<(xs.length:Nat)) (K (.feptr k j i.toNat 0)))
   | .frowx E' t xss=>Chk (E'==E) (eD xss j fun ox=>fY ox False fun xs=>bk (0≤i∧i<(xs.length:Nat)) (K (.feptr k j i.toNat 0)))
   |_=>False)
  | .lst t xs=>Chk (t.sz==ei.sz) (ky xs i fun _ e=>K (.iptr t e 0))
  |_=>False)
 | .arr m E=>aQ Θ E fun ei=>bk (0≤i∧i<(m:Nat)) (match v with
  | .ptr b o=>dj h b fun x=>(match x with
   | .vari _ pre _ _ _ _=>(match Nat.beq o pre.length with
    |true=>eJ pre.length fun p=>yO i.toNat ei.sz fun j=>K (.aptr b p j)
    |false=>eJ (o+i.toNat * ei.sz) fun o'=>K (.ptr b o'))
   |_=>eJ (o+i.toNat * ei.sz) fun o'=>K (.ptr b o'))
  | .aptr b p j=>yO i.toNat ei.sz fun j'=>K (.aptr b p (j+j'))
  | .fptr k j o=>dj h k fun x=>(match x with
   | .fvari ..=>Chk (Nat.beq o 0) (yO i.toNat ei.sz fun j'=>K (.faptr k j 0 j'))
   |_=>eJ (o+i.toNat * ei.sz) fun o'=>K (.fptr k j o'))
  | .faptr k j p q=>yO i.toNat ei.sz fun j'=>K (.faptr k j p (q+j'))
  | .eptr b j o=>eJ (o+i.toNat * ei.sz) fun o'=>K (.eptr b j o')
  | .iptr t e o=>eJ (o+i.toNat * ei.sz) fun o'=>K (.iptr t e o')
  |_=>False)
 |_=>False
theorem AX {α:Type}{xs:List α}{i:Int}{x:α}(h0:0≤i)(h:xs[i.toNat]?=some x):i<(xs.length:Nat):=by
 have:=(List.getElem?_eq_some_iff.1 h).1
 omega
theorem xx {P:Program}{T E E':TypeId}{s:Nat}(hu':P.underlying T=some (.slice E))(hs:sizeT P E=some s){h:VH}{k j:Nat}{t:Ty}{xss:List (List t.den)}{xs:List t.den}(b1:look h k=some (.frow E' t xss))(c:E'=E)(hx:xss[j]?=some xs){ik:IntKind}{i:Int}(hi:0≤i∧i<(xs.length:Nat)):
  aR P (toH h) T (.ref (k,j)) (.int ik i)=some (V.feptr k j i.toNat 0).toD:=by
 subst c
 have hl:=am (i:=j) b1 (d:=.row E' (xs.map (ag t))) (by simp only[VB.blks,List.getElem?_map,hx,Option.map_some])
 unfold aR
 simp only[hu',hs,elems,hl,List.length_map]
 rw[if_pos hi]
 simp[V.toD]
theorem AR {P:Program}{T E E':TypeId}{s:Nat}(hu':P.underlying T=some (.slice E))(hs:sizeT P E=some s){h:VH}{k j:Nat}{t:Ty}{xss:List (Option (List t.den))}{xs:List t.den}(b1:look h k=some (.frowx E' t xss))(c:E'=E)(hx:xss[j]?=some (some xs)){ik:IntKind}{i:Int}(hi:0≤i∧i<(xs.length:Nat)):
  aR P (toH h) T (.ref (k,j)) (.int ik i)=some (V.feptr k j i.toNat 0).toD:=by
 subst c
 have hl:=am (i:=j) b1 (d:=.row E' (xs.map (ag t))) (by simp only[VB.blks,List.getElem?_map,hx,Option.map_some,rowX])
 unfold aR
 simp only[hu',hs,elems,hl,List.length_map]
 rw[if_pos hi]
 simp[V.toD]
theorem Ga {P:Program}{Θ:TT}(hΘ:Θ.ok P){T:TypeId}{ti:TI}(ht:ti.ok P T){h:VH}{v:V}{k:IntKind}{i:Int}{K:V→Prop}(hk:IW Θ ti h v i K):∃r,aR P (toH h) T v.toD (.int k i)=some r.toD∧K r:=by
 have hu:=ht.und
 unfold IW at hk
 split at hk
 ·rename_i E e
  rw[e] at hu
  have hu':P.underlying T=some (.slice E):=hu
  obtain⟨ei,l1,hk⟩:=aq hk
  have hs:=(hΘ _ _ l1).size
  split at hk
  ·rename_i b
   obtain⟨x,b1,h5⟩:=aG hk
   split at h5
   ·rename_i E' t xs
    have hl:=am (i:=0) b1 (d:=.row E' (xs.map (ag t))) rfl
    obtain⟨c,h6⟩:=h5.ok
    simp only[beq_iff_eq] at c
    subst c
    refine⟨_,?_,h6.2⟩
    unfold aR
    simp only[hu',hs,elems,V.toD,hl,List.length_map]
    rw[if_pos h6.1]
    simp
   ·rename_i E' vs
    have hl:=am (i:=0) b1 (d:=.row E' (ah vs)) rfl
    obtain⟨c,h6⟩:=h5.ok
    simp only[beq_iff_eq] at c
    subst c
    refine⟨_,?_,aW h6.2⟩
    unfold aR
    simp only[hu',hs,elems,V.toD,hl,aw]
    rw[if_pos h6.1]
    simp
   ·rename_i t xs
    have hl:=am (i:=0) b1 (d:=.froz (xs.map (ag t))) rfl
    obtain⟨c,h0,x,hx,h7⟩:=h5.ok
    simp only[beq_iff_eq] at c
    refine⟨_,?_,h7⟩
    unfold aR
    simp only[hu',hs,elems,V.toD,hl,List.length_map]
    rw[if_pos ⟨h0,AX h0 hx⟩]
    simp only[List.getElem?_map,hx,Option.map_some]
    rw[if_pos (by rw[(d8 t x).1,c])]
   ·exact h5.elim
  ·rename_i k' j
   obtain⟨x,b1,h5⟩:=aG hk
   split at h5
   ·obtain⟨c,h6⟩:=h5.ok
    simp only[beq_iff_eq] at c
    obtain⟨xs,hx,hi,h7⟩:=h6
    exact⟨_,xx hu' hs b1 c hx hi,h7⟩
   ·exact h5.elim
  ·rename_i k' p _
   cases p with
   |none=>exact(hk.1 rfl).elim
   |some j=>
    obtain⟨x,b1,h5⟩:=aG (hk.2 j rfl)
    split at h5
    ·obtain⟨c,h6⟩:=h5.ok
     simp only[beq_iff_eq] at c
     obtain⟨xs,hx,hi,h7⟩:=h6
     exact⟨_,xx hu' hs b1 c hx hi,h7⟩
    ·obtain⟨c,h6⟩:=h5.ok
     simp only[beq_iff_eq] at c
     obtain⟨ox,hx,h7⟩:=h6
     cases ox with
     |none=>exact(h7.1 rfl).elim
     |some xs=>
      obtain⟨hi,h7⟩:=h7.2 xs rfl
      exact⟨_,AR hu' hs b1 c hx hi,h7⟩
    ·exact h5.elim
  ·rename_i t xs _
   obtain⟨c,h0,x,hx,h7⟩:=hk.ok
   simp only[beq_iff_eq] at c
   refine⟨_,?_,h7⟩
   unfold aR
   simp only[hu',hs,elems,V.toD,List.length_map]
   rw[if_pos ⟨h0,AX h0 hx⟩]
   simp only[List.getElem?_map,hx,Option.map_some]
   rw[if_pos (by rw[(d8 t x).1,c])]
  ·exact hk.elim
 ·rename_i m E e
  rw[e] at hu
  have hu':P.underlying T=some (.array m E):=hu
  obtain⟨ei,l1,hk⟩:=aq hk
  have hs:=(hΘ _ _ l1).size
  obtain⟨hc,hk⟩:=hk
  unfold aR
  simp only[hu',hs]
  rw[if_pos hc]
  split at hk
  ·obtain⟨x,b1,h5⟩:=aG hk
   split at h5
   ·split at h5
    ·rename_i ho
     have ho':=Nat.eq_of_beq_eq_true ho
     exact⟨_,by simp only[V.toD,ho'],nN (aW h5)⟩
    ·exact⟨_,by simp only[V.toD],aW h5⟩
   ·exact⟨_,by simp only[V.toD],aW h5⟩
  ·exact⟨_,by simp only[V.toD,Nat.add_assoc],nN hk⟩
  ·obtain⟨x,b1,h5⟩:=aG hk
   split at h5
   ·obtain⟨c,h6⟩:=h5.ok
    have ho:=Nat.eq_of_beq_eq_true c
    exact⟨_,by simp only[V.toD,ho],nN h6⟩
   ·exact⟨_,by simp only[V.toD],aW h5⟩
  ·exact⟨_,by simp only[V.toD,Nat.add_assoc],nN hk⟩
  ·exact⟨_,by simp only[V.toD],aW hk⟩
  ·exact⟨_,by simp only[V.toD],aW hk⟩
  ·exact hk.elim
 ·exact hk.elim
def Ap (fs:List (Nat×Nat×Nat))(cs:List V):List (Nat×V)→(List V→Prop)→Prop
 |[],K=>K cs
 |(i,v)::l,K=>uh fs i fun f=>Chk (v.whole && oR v.cells f.2.2) (pO cs f.2.1 v.cells fun cs'=>Ap fs cs' l K)
theorem tC {fs:List (Nat×Nat×Nat)}:∀{ps:List (Nat×V)} {cs:List V} {K:List V→Prop},Ap fs cs ps K→∃cs',fH (fun i=>(fs.map fun f=>(f.2.1,f.2.2))[i]?) (ah cs) (uV ps)=some (ah cs')∧K cs'
 |[],cs,K,h=>⟨cs,rfl,h⟩
 |(i,v)::l,cs,K,h=>by
  obtain⟨f,h1,h2⟩:=iL h
  obtain⟨c,h3⟩:=h2.ok
  simp only[Bool.and_eq_true] at c
  obtain⟨h4,h5⟩:=gr h3
  obtain⟨cs',h6,h7⟩:=tC h5
  have hl:=fP c.2
  exact⟨cs',vn (off:=f.2.1) (size:=f.2.2) (by rw[List.getElem?_map,h1];rfl) (by rw[eS];exact c.1) (by rw[aJ,aw];exact hl) (by rw[aw];omega) (by rw[aJ,jJ]) h6,h7⟩
def t6:List (Nat×V)→Nat→Bool
 |[],_=>true
 |(i,_)::l,k=>Nat.beq i k && t6 l (k+1)
def pH (t:Ty):List (Nat×V)→Option (List t.den)
 |[]=>some []
 |(_,v)::l=>match Hw t (nzL v),pH t l with
  |some x,some xs=>some (x::xs)
  |_,_=>none
where
 nzL (v:V):V:=match v with
  | .agg cs=>.agg (gE cs)
  |v=>HA v
theorem rZ (v:V):(pH.nzL v).toD=nzE v.toD:=by
 unfold pH.nzL
 split
 ·simp only[V.toD,nzE,lA]
 ·rename_i hne
  rw[Bz]
  cases v
  case hro k o=>cases o<;>rfl
  case hpo k o=>cases o<;>rfl
  case obo t o=>cases o<;>rfl
  case agg cs=>exact absurd rfl (hne _)
  all_goals rfl
theorem w9 {t:Ty}:∀{l:List (Nat×V)} {xs:List t.den},pH t l=some xs→((uV l).map fun x=>nzE x.2)=xs.map (ag t)
 |[],xs,h=>by simp only[pH,Option.some.injEq] at h;subst h;rfl
 |(i,v)::l,xs,h=>by
  simp only[pH] at h
  split at h
  ·rename_i x xs' h1 h2
   simp only[Option.some.injEq] at h
   subst h
   have:=w9 h2
   simp only[uV,List.map_cons,List.map_map] at this⊢
   rw[←q9 h1,rZ]
   simp only[List.cons.injEq,true_and]
   exact this
  ·cases h
theorem t7:∀{l:List (Nat×V)} {k:Nat},t6 l k=true→(uV l).map (·.1)=List.range' k l.length
 |[],k,_=>rfl
 |(i,v)::l,k,h=>by
  simp only[t6,Bool.and_eq_true] at h
  have hi:i=k:=Nat.eq_of_beq_eq_true h.1
  have:=t7 h.2
  simp only[uV,List.map_cons,List.map_map,List.length_cons,List.range'_succ] at this⊢
  rw[hi]
  exact congrArg (k:: ·) this
def mh (len:Nat)(o:Option V)(dflt:Nat)(K:Nat→Prop):Prop:=
 match o with
 |none=>K dflt
 |some (.int _ i)=>bk (0≤i∧i≤(len:Nat)) (K i.toNat)
 |_=>False
theorem jQ {len dflt:Nat}{o:Option V}{K:Nat→Prop}(h:mh len o dflt K):∃k,fl len (o.map V.toD) dflt=some k∧(o=none→k=dflt)∧K k:=by
 unfold mh at h
 split at h
 ·exact⟨dflt,rfl,fun _=>rfl,h⟩
 ·exact⟨_,by simp only[Option.map_some,V.toD,fl];rw[if_pos h.1],fun e=>(by cases e),h.2⟩
 ·exact h.elim
def fF {α:Type}(xs:List α)(lo hi:Option V)(ll hh:Nat):List α:=
 match lo,hi with
 |none,none=>xs
 |none,_=>xs.take hh
 |_,none=>xs.drop ll
 |_,_=>(xs.take hh).drop ll
theorem CZ {α:Type}(xs:List α){lo hi:Option V}{ll hh:Nat}(h1:hi=none→hh=xs.length)(h2:lo=none→ll=0):fF xs lo hi ll hh=(xs.take hh).drop ll:=by
 unfold fF
 split
 ·rw[h1 rfl,h2 rfl];simp
 ·rw[h2 rfl];simp
 ·rw[h1 rfl];simp
 ·rfl
def yz (ei:TI){t:Ty}(xs:List t.den)(lo hi:Option V)(K:List t.den→Prop):Prop:=
 Chk (t.sz==ei.sz) (mh xs.length hi xs.length fun hh=>mh hh lo 0 fun ll=>K (fF xs lo hi ll hh))
def wu (Θ:TT)(ti:TI)(h:VH)(n:Nat)(v:V)(lo hi:Option V)(K:Bool→V→VH→Prop):Prop:=
 match ti.k with
 | .str=>(match v with
  | .str s=>mh s.size hi s.size fun hh=>mh hh lo 0 fun ll=>K false (.str (s.extract ll hh)) []
  |_=>False)
 | .slice E=>aQ Θ E fun ei=>(match v with
  | .lst t xs=>yz ei xs lo hi fun ys=>K false (.lst t ys) []
  | .nils=>yz ei (t:=.int .i64) [] lo hi fun ys=>K false (.lst (.int .i64) ys) []
  | .ref b=>dj h b fun x=>(match x with
   | .row E' t xs=>(match t.pure && !ti.own with
    |true=>Chk t.pure (yz ei xs lo hi fun ys=>K false (.lst t ys) [(b,.froz t xs)])
    |false=>Chk (match lo with|none=>!Nat.beq b n|_=>false) (yz ei xs none hi fun ys=>K true (.ref n) [(b,.gone),(n,.row E' t ys)]))
   | .froz t xs=>yz ei xs lo hi fun ys=>K false (.lst t ys) []
   |_=>False)
  |_=>False)
 | .arr m E=>(match v,lo,hi with
  | .ptr b o,none,none=>aQ Θ E fun _=>dj h b fun x=>(match x with
   | .var _ _=>Chk (decide (m≤maxLen)) (K false (.vref b o m) [])
   | .vari _ _ _ _ _ _=>Chk (decide (m≤maxLen)) (K false (.vref b o m) [])
   |_=>False)
  |_,_,_=>False)
 |_=>False
theorem kZ {P:Program}{E:TypeId}{ei:TI}(_:ei.ok P E){t:Ty}{xs:List t.den}{lo hi:Option V}{K:List t.den→Prop}(h:yz ei xs lo hi K):
  wC ei.sz (xs.map (ag t))=ei.sz∧∃hh ll ys,fl (xs.map (ag t)).length (hi.map V.toD) (xs.map (ag t)).length=some hh∧fl hh (lo.map V.toD) 0=some ll∧((xs.map (ag t)).take hh).drop ll=ys.map (ag t)∧K ys:=by
 obtain⟨c,h1⟩:=Chk.ok h
 simp only[beq_iff_eq] at c
 obtain⟨hh,b1,b2,h2⟩:=jQ h1
 obtain⟨ll,b3,b4,h3⟩:=jQ h2
 refine⟨pu _ _ _ c,hh,ll,_,by rw[List.length_map];exact b1,b3,?_,h3⟩
 rw[CZ xs b2 b4,←List.map_take,←List.map_drop]
theorem row_all {t:Ty}(ht:t.pure=true)(xs:List t.den):((xs.map (ag t)).all fun e=>e.cells.all D.pure0)=true:=by
 rw[List.all_eq_true]
 intro e he
 obtain⟨x,_,rfl⟩:=List.mem_map.1 he
 exact(gU ht x).2
theorem y8 {P:Program}{Θ:TT}(hΘ:Θ.ok P){T:TypeId}{ti:TI}(ht:ti.ok P T){h:VH}{n:Nat}(hn:∀c:Id,n≤c.1→look (toH h) c=none){v:V}{lo hi:Option V}{K:Bool→V→VH→Prop}(hk:wu Θ ti h n v lo hi K):∃q r u vu,d5 P (toH h) q (n,0) T v.toD (lo.map V.toD) (hi.map V.toD)=some (r.toD,u)∧bE h u vu∧K q r vu:=by
 have hu:=ht.und
 unfold wu at hk
 split at hk
 ·rename_i e
  rw[e] at hu
  split at hk
  ·rename_i s
   obtain⟨hh,b1,b2,h2⟩:=jQ hk
   obtain⟨ll,b3,b4,h3⟩:=jQ h2
   refine⟨_,_,[],_,?_,aB,h3⟩
   unfold d5
   simp only[show P.underlying T=some .string from hu,V.toD,b1,b3]
  ·exact hk.elim
 ·rename_i E e
  rw[e] at hu
  have hu':P.underlying T=some (.slice E):=hu
  obtain⟨ei,l1,hk⟩:=aq hk
  have hei:=hΘ _ _ l1
  unfold d5
  simp only[hu',hei.size]
  split at hk
  ·obtain⟨c,hh,ll,ys,b1,b2,b3,h3⟩:=kZ hei hk
   exact⟨_,_,[],_,by simp only[V.toD,elems,c,if_true,b1,b2,b3],aB,h3⟩
  ·obtain⟨c,hh,ll,ys,b1,b2,b3,h3⟩:=kZ hei hk
   simp only[List.map_nil] at c b1 b3
   exact⟨_,_,[],_,by simp only[V.toD,elems,c,if_true,b1,b2,b3],aB,h3⟩
  ·rename_i b _
   obtain⟨x,x1,h2⟩:=aG hk
   split at h2
   ·rename_i E' t xs
    have hl:=am (i:=0) x1 (d:=.row E' (xs.map (ag t))) rfl
    split at h2
    ·obtain⟨cp,h2⟩:=h2.ok
     obtain⟨c,hh,ll,ys,b1,b2,b3,h3⟩:=kZ hei h2
     refine⟨_,_,[((b,0),.froz (xs.map (ag t)))],_,?_,eY x1 rfl rfl,h3⟩
     simp only[V.toD,elems,hl,c,if_true,b1,b2,b3,Bool.false_eq_true,if_false,row_all cp]
    ·obtain⟨c0,h9⟩:=h2.ok
     clear h2
     cases lo with
     |some l=>cases c0
     |none=>
      have hbn:b≠n:=by rintro rfl;simp at c0
      obtain⟨c,hh,ll,ys,b1,b2,b3,h3⟩:=kZ hei h9
      simp only[Option.map_none,fl,Option.some.injEq] at b2
      subst b2
      refine⟨_,.ref n,[((b,0),.gone),((n,0),.row E' (ys.map (ag t)))],_,?_,sJ hn x1 rfl hbn rfl,h3⟩
      rw[List.drop_zero] at b3
      have e0:∀q:Nat,fl q (none:Option D) 0=some 0:=fun _=>rfl
      simp only[V.toD,elems,hl,c,if_true,b1,Option.map_none,e0,b3]
   ·rename_i t xs
    have hl:=am (i:=0) x1 (d:=.froz (xs.map (ag t))) rfl
    obtain⟨c,hh,ll,ys,b1,b2,b3,h3⟩:=kZ hei h2
    exact⟨false,_,[],_,by simp only[V.toD,elems,hl,c,if_true,b1,b2,b3],aB,h3⟩
   ·exact h2.elim
  ·exact hk.elim
 ·rename_i m E e
  rw[e] at hu
  split at hk
  ·obtain⟨ei,l1,hk⟩:=aq hk
   obtain⟨x,x1,h2⟩:=aG hk
   split at h2
   ·rename_i T' cs
    have hl:=am (i:=0) x1 (d:=.var T' (ah cs)) rfl
    obtain⟨c,h3⟩:=h2.ok
    simp only[decide_eq_true_eq] at c
    refine⟨_,_,[],_,?_,aB,h3⟩
    unfold d5
    simp only[show P.underlying T=some (.array m E) from hu,V.toD,(hΘ _ _ l1).size,Option.map_none,hl,if_pos c]
   ·rename_i T' pre m' t xs post
    have hl:=am (i:=0) x1 (d:=.var T' (ah pre++xs.map (ag t)++ah post)) rfl
    obtain⟨c,h3⟩:=h2.ok
    simp only[decide_eq_true_eq] at c
    refine⟨_,_,[],_,?_,aB,h3⟩
    unfold d5
    simp only[show P.underlying T=some (.array m E) from hu,V.toD,(hΘ _ _ l1).size,Option.map_none,hl,if_pos c]
   ·exact h2.elim
  ·exact hk.elim
 ·exact hk.elim
def qU (t:Ty)(xs:List t.den)(K:ByteArray→Prop):Prop:=
 match t,xs with
 | .int .u8,xs=>K ⟨(xs.map fun n:Int=>UInt8.ofNat n.toNat).toArray⟩
 |_,_=>False
theorem vg {t:Ty}{xs:List t.den}{K:ByteArray→Prop}(h:qU t xs K):∃bs,(xs.map (ag t)).mapM jR=some bs∧K ⟨bs.toArray⟩:=by
 unfold qU at h
 split at h
 ·rename_i xs
  refine⟨_,?_,h⟩
  rw[show xs.map (ag (.int .u8))=xs.map (D.int .u8) from rfl,List.mapM_map]
  exact qk (f:=jR∘D.int .u8) fun x _=>rfl
 ·exact h.elim
def zR (Θ:TT)(ti si:TI)(h:VH)(v:V)(K:V→Prop):Prop:=
 match ti.k with
 | .int k=>(match v,si.k with
  | .int _ n,.int _=>Ari k n fun z=>K (.int k z)
  |_,_=>False)
 | .str=>(match si.k with
  | .str=>(match v with
   | .str s=>K (.str s)
   |_=>False)
  | .slice E=>aQ Θ E fun ei=>(match ei.k with
   | .int .u8=>Chk (ei.sz==1) (mj h v fun t xs=>qU t xs fun s=>K (.str s))
   |_=>False)
  |_=>False)
 |_=>False
theorem zS {P:Program}{Θ:TT}(hΘ:Θ.ok P){S T:TypeId}{ti si:TI}(ht:ti.ok P T)(hs:si.ok P S){h:VH}{v:V}{K:V→Prop}(hk:zR Θ ti si h v K):∃r,kq P (toH h) S T v.toD=some r.toD∧K r:=by
 have hu:=ht.und
 have hv:=hs.und
 unfold zR at hk
 split at hk
 ·rename_i k e
  rw[e] at hu
  split at hk
  ·rename_i k1 n1 k2 e2
   rw[e2] at hv
   refine⟨_,?_,hk.ok⟩
   unfold kq
   simp only[show P.underlying T=some (.int k) from hu,show P.underlying S=some (.int k2) from hv,V.toD]
  ·exact hk.elim
 ·rename_i e
  rw[e] at hu
  split at hk
  ·rename_i e2
   rw[e2] at hv
   split at hk
   ·refine⟨_,?_,hk⟩
    unfold kq
    simp only[show P.underlying T=some .string from hu,show P.underlying S=some .string from hv,V.toD]
   ·exact hk.elim
  ·rename_i E e2
   rw[e2] at hv
   obtain⟨ei,l1,hk⟩:=aq hk
   have hei:=hΘ _ _ l1
   have hek:=hei.und
   split at hk
   ·rename_i e3
    rw[e3] at hek
    obtain⟨c,hk⟩:=hk.ok
    simp only[beq_iff_eq] at c
    obtain⟨t,xs,h1,h2⟩:=jX hk
    obtain⟨bs,h3,h4⟩:=vg h2
    refine⟨_,?_,h4⟩
    unfold kq
    have hsz:sizeT P E=some 1:=by rw[hei.size,c]
    simp only[show P.underlying T=some .string from hu,show P.underlying S=some (.slice E) from hv,show P.underlying E=some (.int .u8) from hek,hsz,h1,h3,V.toD]
   ·exact hk.elim
  ·exact hk.elim
 ·exact hk.elim
def xg (t:VT)(x:Option Operand)(K:Option V→Prop):Prop:=
 match x with
 |none=>K none
 |some x=>m4 t x fun v=>K (some v)
theorem tx {t:VT}{x:Option Operand}{K:Option V→Prop}(h:xg t x K):∃v,gV (eq t) x=some (v.map V.toD)∧K v:=by
 unfold xg at h
 split at h
 ·exact⟨none,rfl,h⟩
 ·obtain⟨v,h1,h2⟩:=bz h
  exact⟨some v,by simp only[gV,h1,Option.map_some],h2⟩

end Go.Proofs.YthmfppknagbkeaaGreatDoor.Am
