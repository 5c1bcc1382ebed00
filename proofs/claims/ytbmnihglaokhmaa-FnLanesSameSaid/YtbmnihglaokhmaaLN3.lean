/- The plain machine: one operation. An operation's step, beside others. The machine's operations are plain. A rule for a statement whose order is open (a region that draws its order): each operation is looked at once, in the order of the text, whatever order the run takes. Operations that change the world (calls, new blocks, stores) promise a value and a fact; all others read. The plain machine: an operation, in whatever state that agrees on what it looks at. Maps of numbers: the operations on them, beside others. Maps of numbers: the operations on them, in the plain machine. The plain machine:  -/
import Derived.LaidEqlPtr
import Derived.Laws.StructEq
import Derived.Orders
import Derived.Deep.Quiet
import Derived.BigRegion
import Derived.Below
import Derived.Maps.RangeRun
import Derived.Test.YtbmnihglaokhmaaLN2
set_option linter.unusedSimpArgs false
set_option linter.unusedVariables false
set_option maxHeartbeats 1000000
namespace Go.Proofs.Ytbmnihglaokhmaa.Am
open Go Go.RowKit
variable {P:Program} {w0:World} {S:SD} {A:Nat→Prop} {N:Nat} {ρ:Id→Pl} {t:List (Nat×D)} {h:HL} {a:Act} {w:World}
def dU:D→Bool
 | .ptr .. | .eptr .. | .iptr .. | .box _| .gp _=>true
 |_=>false
def qU:D→Option Bool
 | .nils=>some true
 | .lst (_::_)=>some false
 | .ref _=>some false
 | .vref ..=>some false
 |_=>none
def dn (P:Program)(op:BinOp)(T:TypeId)(d1 d2:D):Option D:=
 match P.underlying T with
 |some (.pointer _)=>(match d1,d2,op with
  | .nilp,.nilp,.eql=>some (.bool true)
  | .nilp,.nilp,.neq=>some (.bool false)
  | .nilp,d,.eql=>if dU d then some (.bool false) else none
  | .nilp,d,.neq=>if dU d then some (.bool true) else none
  |d,.nilp,.eql=>if dU d then some (.bool false) else none
  |d,.nilp,.neq=>if dU d then some (.bool true) else none
  |_,_,_=>none)
 |some (.slice _)=>(match d2,op with
  | .nils,.eql=>(qU d1).map .bool
  | .nils,.neq=>(qU d1).map fun b=>.bool !b
  |_,_=>none)
 |_=>none
def dj (op:BinOp)(T:TypeId)(P:Program)(d1 d2:D):Option D:=
 match P.underlying T with
 |some .bool=>(match d1,d2,op with
  | .bool x,.bool y,.eql=>some (.bool (x==y))
  | .bool x,.bool y,.neq=>some (.bool !(x==y))
  |_,_,_=>none)
 |_=>none
def iF:Operand→Bool
 | .const .nilIface=>true
 |_=>false
def mq (_:Program)(_:BinOp)(_:TypeId)(_:Bool)(_ _:D):Option D:=none
def my (_:Program)(_:BinOp)(_:TypeId)(_:HL)(_ _:D):Option D:=none
def Fp (P:Program)(T:TypeId):Bool:=match P.underlying T with|some (.int _)=>true|_=>false
def FF (P:Program)(T:TypeId):Bool:=
 match P.underlying T with
 |some (.struct fs)=>(match fs.toList with
  | [f, g] => (f.name != "_" && g.name != "_") && (Fp P f.type && Fp P g.type) && (f.offset == 0 && g.offset == 1) && !P.stoodInHeld T && !P.eqGuardType P.depth T
  |_=>false)
 |_=>false
def oo (_:Program)(_:BinOp)(_:TypeId)(_ _:D):Option D:=none
theorem eO {α β:Type}{f:α→Option β}:∀{l:List α} {l':List β},l.mapM f=some l'→l'.length=l.length∧∀i,i<l.length→∀x,l[i]?=some x→∃y,f x=some y∧l'[i]?=some y
 |[],l',h=>by simp at h;subst h;simp
 |d::l,l',h=>by
  simp only[gh,rC,bu,Option.pure_def,aK] at h
  obtain⟨d',h1,l2,h2,rfl⟩:=h
  obtain⟨e,ih⟩:=eO h2
  refine⟨by simp[e],fun i hi x hx=>?_⟩
  cases i with
  |zero=>simp at hx;subst hx;exact⟨d',h1,by simp⟩
  |succ i=>simpa using ih i (by simpa using hi) x (by simpa using hx)
def evalDs (t:List (Nat×D))(xs:List Operand):Option (List D):=xs.mapM (aW t)
def evalPs (t:List (Nat×D))(xs:List (Nat×Operand)):Option (List (Nat×D)):=xs.mapM fun x=>(aW t x.2).map fun d=>(x.1,d)
def iH (t:List (Nat×D)):Option Operand→Option (Option D)
 |none=>some none
 |some x=>(aW t x).map some
def yA (P:Program)(T:TypeId):Bool:=match P.underlying T with|some (.interface _)=>false|some _=>true|none=>false
def DG (P:Program)(T:TypeId):Bool:=match P.underlying T with|some (.interface _)=>true|_=>false
def lg (P:Program)(T:TypeId)(ok:Bool)(d:D):Option D:=
 if yA P T then(match d with
  | .ifc T' e=>if T'=T then some (if ok then .tup [e,.bool true] else e) else if ok then(ofZero P T).map fun z=>.tup [z,.bool false] else none
  | .nili=>if ok then(ofZero P T).map fun z=>.tup [z,.bool false] else none
  |_=>none) else none
theorem xq {T:TypeId}(h:yA P T=true):∃d,P.underlying T=some d∧∀x,d≠ .interface x:=by
 unfold yA at h
 split at h
 ·cases h
 ·rename_i d h1 h2;exact⟨d,h2,fun x e=>h1 x e⟩
 ·cases h
theorem vE {T xT:TypeId}{ok:Bool}{d d':D}{v:Value}{L:Id→Prop}{ok':Nat→Prop}(hd:lg P T ok d=some d')(hv:C ρ L ok' w d v):∃v',(Instr.typeAssert v xT T ok).run P w= .ok v' w∧C ρ L ok' w d' v':=by
 unfold lg at hd
 split at hd
 ·rename_i hi
  obtain⟨td,hu,hne⟩:=xq hi
  have pair:∀{e:D} {x:Value} {b:Bool},C ρ L ok' w e x→C ρ L ok' w (.tup [e,.bool b]) (.tuple #[x,.bool b]):=by
   intro e x b he
   refine .tup _ _ rfl fun i hi=>?_
   match i,hi with
   |0,_=>exact he
   |1,_=>exact .pure (.bool b)
  split at hd
  ·rename_i T' e
   obtain⟨x,rfl,hx⟩:=hv.ifc_inv
   split at hd
   ·rename_i hT
    subst hT
    simp only[aK] at hd
    subst hd
    cases ok with
    |true=>exact⟨.tuple #[x,.bool true],by cases td<;>simp[Instr.typeAssert,run_underlying hu]<;>exact absurd rfl (hne _),pair hx⟩
    |false=>exact⟨x,by cases td<;>simp[Instr.typeAssert,run_underlying hu]<;>exact absurd rfl (hne _),hx⟩
   ·rename_i hT
    split at hd
    ·rename_i hok
     subst hok
     obtain⟨z,hz,rfl⟩:=bj.1 hd
     obtain⟨zv,z1,z2,_⟩:=gq hz ok' w
     exact⟨.tuple #[zv,.bool false],by cases td<;>simp[Instr.typeAssert,run_underlying hu,hT,z1]<;>exact absurd rfl (hne _),pair (.pure z2)⟩
    ·cases hd
  ·obtain rfl:=hv.nili_inv
   split at hd
   ·rename_i hok
    subst hok
    obtain⟨z,hz,rfl⟩:=bj.1 hd
    obtain⟨zv,z1,z2,_⟩:=gq hz ok' w
    exact⟨.tuple #[zv,.bool false],by cases td<;>simp[Instr.typeAssert,run_underlying hu,z1]<;>exact absurd rfl (hne _),pair (.pure z2)⟩
   ·cases hd
  ·cases hd
 ·cases hd
def ng (P:Program)(h:HL)(T:TypeId)(d e:D):Option (D×HL):=
 match P.underlying T,d with
 |some (.slice E),.vref b o m=>(match sizeT P E,elems h e,look h b with
  |some 1,some ys,some (.var T' cs)=>if o+min ys.length m≤cs.length∧ys.all D.pure0=true then some (.int .i64 (min ys.length m:Nat),[(b,.var T' (bk cs o (ys.take m)))]) else none
  |_,_,_=>none)
 |_,_=>none
theorem Sim.copy (s:Sim P w0 S A N ρ t h a w){T T' ty:TypeId}{d e r:D}{u:HL}{v ve:Value}(hd:ng P h T d e=some (r,u))(hv:C ρ (Live h) (okOf A ρ h w) w d v)(hve:C ρ (Live h) (okOf A ρ h w) w e ve):
  ∃v' w',(Builtin.copy_ #[T,T'] ty #[v,ve]).run P w= .ok v' w'∧Sim P w0 S A N ρ t (puts u h) a w'∧C ρ (Live (puts u h)) (okOf A ρ (puts u h) w') w' r v':=by
 unfold ng at hd
 split at hd
 ·rename_i E b o m hu
  obtain⟨hl,hmx,rfl⟩:=hv.vref_inv
  split at hd
  ·rename_i ys T1 cs hs he hb
   split at hd
   ·rename_i hc
    obtain⟨hle,hp⟩:=hc
    rw[bc] at hp
    simp only[aK,bi] at hd
    obtain⟨rfl,rfl⟩:=hd
    obtain⟨a',cap,rfl,h1,h2,h3,h4⟩:=s.slice he hve
    obtain⟨c,g1,g2,g3⟩:=s.blk b _ hb
    have hlen:(ys.take m).length=min ys.length m:=by simp[Nat.min_comm]
    obtain⟨vs,k1,k2,k3⟩:∃vs:List Value,(Builtin.firstCells 1 (min ys.length m) (.slice a' ys.length cap)).run P w= .ok vs.toArray w∧vs.length=(ys.take m).length∧∀j,j<(ys.take m).length→C ρ (Live h) (okOf A ρ h w) w ((ys.take m).getD j .undef) (vs.getD j undef):=by
     by_cases hne:ys=[]
     ·subst hne
      refine⟨[],?_,by simp,fun j hj=>by simp at hj⟩
      cases a' with
      |none=>exact run_firstCells_none w _ _ _ _
      |some ad=>exact run_firstCells_some w 1 _ ad _ _ [] (by simp) (fun j v h=>by simp at h)
     ·obtain⟨b',off,f,rfl,p1,p2,p3,p4⟩:=h4 hne
      have hz:szl ys=1:=by
       cases ys with
       |nil=>exact absurd rfl hne
       |cons y ys=>simp[szl,cR (hp y (bh ..))]
      rw[hz] at p3 p4
      refine⟨(List.range (min ys.length m)).map fun i=>f i 0,run_firstCells_some w 1 _ _ _ _ _ (by simp) (fun j v hj=>?_),by simp[Nat.min_comm],fun j hj=>?_⟩
      ·have hj':j<min ys.length m:=by
        have:=(cz.1 hj).1
        simpa using this
       simp[hj'] at hj
       subst hj
       have:=p3 j 0 (by omega) (by omega)
       have e2:(⟨b',off,none⟩:Addr).add j=⟨b',off+j,none⟩:=by
        by_cases hj0:j=0
        ·subst hj0;rfl
        ·simp[Addr.add,hj0]
       rw[e2]
       simpa using this
      ·rw[hlen] at hj
       have hj2:j<ys.length:=by omega
       have hj3:j<m:=by omega
       have:=p4 j 0 hj2 (by omega)
       have e1:(ys.take m).getD j .undef=ys.getD j .undef:=by simp[aX,jt,hj3]
       have hm:ys.getD j .undef∈ys:=by rw[aX,a6 hj2];exact fh hj2
       rw[e1]
       rw[cR (hp _ hm)] at this
       have hj4:j<min ys.length m:=hj
       have e3:((List.range (min ys.length m)).map fun i=>f i 0).getD j undef=f j 0:=by
        rw[aX,cd,List.getElem?_range hj4]
        rfl
       rw[e3]
       exact this
    have hone:∀x∈vs,x.oneCell'=true:=by
     intro x hx
     obtain⟨j,hj,rfl⟩:=p6 hx
     have hj':j<(ys.take m).length:=by omega
     have hm:(ys.take m).getD j .undef∈ys:=by
      rw[aX,a6 hj'];exact pX (fh hj')
     have:=(k3 j hj').oneCell (kx (hp _ hm))
     simpa[aX,hj] using this
    have hst:=run_storeCells_at P (ρ b).blk o T1 vs 0 c w g1 (by omega) hone
    refine⟨_,w.setRow (ρ b).blk (c.toList.take o++vs++c.toList.drop (o+vs.length)).toArray,?_,s.write (y:=.var T1 (bk cs o (ys.take m))) hb rfl _ fun hC hR=>⟨_,setRow_heap w _ c _ T1 _ g1,?_,fun j hj=>?_⟩,.int _ _⟩
    ·have hmin:Nat.min ys.length m=min ys.length m:=rfl
     have hst':(storeCells ⟨(ρ b).blk,o,none⟩ vs).run P w= .ok () (w.setRow (ρ b).blk (c.toList.take o++vs++c.toList.drop (o+vs.length)).toArray):=by simpa using hst
     simp only[Builtin.copy_,run_underlying hu,Builtin.lenOf,bS hs,hmin,k1,Sem.run_bind,Sem.run_pure,Result.andThen_ok]
     simp[run_underlying hu,bS hs,hmin,k1,hst',Builtin.lenOf]
     rfl
    ·simp only[nC,bk]
     rw[bB _ _ _ (by have e:=nA (xs:=c);omega),bB _ _ _ (by omega)]
     simpa using g2
    ·rw[iD]
     have hj':j<cs.length:=by rw[bk,bB _ _ _ (by omega)] at hj;exact hj
     exact m7 (Q:=fun d v=>C _ _ _ _ d v) (by simpa using g2.symm) k2.symm (by omega) (fun j hj=>hC _ _ (by rw[←cB];exact g3 j hj)) (fun j hj=>hC _ _ (k3 j hj)) j hj'
   ·cases hd
  ·cases hd
 ·cases hd
def dp (P:Program)(m:Bool)(b:Builtin)(ds:List D)(Ts:List TypeId)(h:HL)(n:Nat):Option (D×HL):=
 match b,ds,Ts with
 | .len,[d],[T]=>(om P h T d).map fun r=>(r,[])
 | .append,[d,e],[T,T']=>if T=T' then gQ P h (n,0) T d e else fG P h (n,0) T T' d e
 | .copy,[d,e],[T,_]=>ng P h T d e
 | .min,[.int k x,.int k' y],_=>if k=k' then some (.int k (if y<x then y else x),[]) else none
 | .max,[.int k x,.int k' y],_=>if k=k' then some (.int k (if x<y then y else x),[]) else none
 |_,_,_=>none
def evalF (t:List (Nat×D))(h:HL)(x:Operand):Option D:=(aW t x).map (fwd h)
def evalFs (t:List (Nat×D))(h:HL)(xs:List Operand):Option (List D):=xs.mapM (evalF t h)
def evalFPs (t:List (Nat×D))(h:HL)(xs:List (Nat×Operand)):Option (List (Nat×D)):=xs.mapM fun x=>(evalF t h x.2).map fun d=>(x.1,d)
def cQ (P:Program)(m:Bool)(op:Op)(t:List (Nat×D))(h:HL)(n:Nat):Option (D×HL):=
 match op with
 | .move x=>(aW t x).map fun d=>(d,[])
 | .assign x=>(aW t x).map fun d=>(d,[])
 | .pick c x y=>(match aW t c with
  |some (.bool true)=>(aW t x).map fun d=>(d,[])
  |some (.bool false)=>(aW t y).map fun d=>(d,[])
  |_=>none)
 | .alloc T=>(ofZero P T).map fun z=>(.ptr (n,0) 0,[((n,0),.var T z.cells)])
 | .box T x=>(aW t x).bind fun d=>if d.whole=true then some (.ptr (n,0) 0,[((n,0),.var T d.cells)]) else none
 | .build T ps=>(evalPs t ps.toList).bind fun ds=>(oh P T ds).map fun d=>(d,[])
 | .buildSlice T len ps=>(evalFPs t h ps.toList).bind fun ds=>dC P (n,0) T len (ds.map fun x=>(x.1,nzE x.2))
 | .load T x=>(evalF t h x).bind fun d=>(cP P h T d).map fun d=>(d,[])
 | .store T x y=>(evalF t h x).bind fun d=>(evalF t h y).bind fun e=>(fk P h T d (nzM (!m) e)).map fun u=>(.undef,u)
 | .nilCheck x=>(aW t x).bind fun d=>if dU d then some (d,[]) else none
 | .binOp op T x y _=>(evalF t h x).bind fun d=>(evalF t h y).bind fun e=>(match eJ op d e with
  |some r=>some (r,[])
  |none=>(match dn P op T d e with
   |some r=>some (r,[])
   |none=>(match dj op T P d e with
    |some r=>some (r,[])
    |none=>(match mq P op T (iF x||iF y) d e with
     |some r=>some (r,[])
     |none=>(match oo P op T d e with
      |some r=>some (r,[])
      |none=>(my P op T h d e).map fun r=>(r,[]))))))
 | .unOp op _ x=>(aW t x).bind fun d=>(E0 op d).map fun d=>(d,[])
 | .convert src dst x=>(evalF t h x).bind fun d=>(jl P h src dst d).map fun d=>(d,[])
 | .makeInterface T x=>(aW t x).bind fun d=>if yA P T=true then some (.ifc T d,[]) else none
 | .makeFunc (.func f) first captured=>if first.size=0 then(evalDs t captured.toList).map fun ds=>(.clo f ds,[]) else none
 | .typeAssert x _ T ok=>(aW t x).bind fun d=>(lg P T ok d).map fun d=>(d,[])
 | .makeSlice T l c=>(aW t l).bind fun d=>(aW t c).bind fun e=>te P m (n,0) T d e
 | .slice T x lo hi none=>(evalF t h x).bind fun d=>(iH t lo).bind fun l=>(iH t hi).bind fun r=>eK P h m (n,0) T d l r
 | .fieldAddr T x f=>(aW t x).bind fun d=>(fj P T f d).map fun d=>(d,[])
 | .field T x f=>(aW t x).bind fun d=>(xr P T f d).map fun d=>(d,[])
 | .indexAddr T x i=>(evalF t h x).bind fun d=>(aW t i).bind fun e=>(bL P h T d e).map fun d=>(d,[])
 | .index T x i=>(aW t x).bind fun d=>(aW t i).bind fun e=>(ol P T d e).map fun d=>(d,[])
 | .extract x i=>(aW t x).bind fun d=>(iB i d).map fun d=>(d,[])
 | .call ⟨.builtin b,args,argTypes⟩=>(evalFs t h args.toList).bind fun ds=>dp P m b ds argTypes.toList h n
 |_=>none
theorem C.nz0 {L:Id→Prop}{ok:Nat→Prop}{d:D}{v:Value}(h:C ρ L ok w d v):C ρ L ok w (Am.nz0 d) v:=by
 by_cases hd:d= .nils
 ·subst hd
  obtain rfl:=h.nils_inv
  exact .pure (Rep.nz0 .nils)
 ·have:Am.nz0 d=d:=by cases d<;>first|rfl|exact absurd rfl hd
  rw[this];exact h
theorem C.nzE {L:Id→Prop}{ok:Nat→Prop}{d:D}{v:Value}(h:C ρ L ok w d v):C ρ L ok w (Am.nzE d) v:=by
 by_cases hd:∃cs,d= .agg cs
 ·obtain⟨cs,rfl⟩:=hd
  obtain⟨vs,rfl,hl,hc⟩:=h.agg_inv
  refine .agg _ _ (by simpa using hl) fun i hi=>?_
  have hi':i<cs.length:=by simpa using hi
  have:=(hc i hi').nz0
  simpa[aX,hi'] using this
 ·have:Am.nzE d=Am.nz0 d:=by cases d<;>first|rfl|exact absurd ⟨_,rfl⟩ hd
  rw[this];exact h.nz0
theorem C.nzM {L:Id→Prop}{ok:Nat→Prop}{d:D}{v:Value}(h:C ρ L ok w d v)(q:Bool):C ρ L ok w (Am.nzM q d) v:=by
 unfold Am.nzM;split
 ·exact h
 ·exact h.nzE
theorem eY {o:Oper}{v:Value}{w':World}{K:Act→World→Prop}{Q:Exit→Act→World→Prop}(hr:(execOp a.eval o).run P w= .ok (.value v) w')(hk:K (a.put o.dst v) w'):o.wp P a w K Q:=by
 unfold Oper.wp;rw[hr];exact hk
theorem Cj {o:Oper}{w':World}{K:Act→World→Prop}{Q:Exit→Act→World→Prop}(hr:(execOp a.eval o).run P w= .ok .skip w')(hk:K (a.put o.dst undef) w'):o.wp P a w K Q:=by
 unfold Oper.wp;rw[hr];exact hk
def zT (P:Program)(w0:World)(S:SD)(A:Nat→Prop)(N:Nat)(ρ:Id→Pl)(t:List (Nat×D))(h h':HL)(a:Act)(dst:Option Tmp)(d:D)(a':Act)(w':World):Prop:=
 ∃v ρ',a'=a.put dst v∧Ext h ρ ρ'∧Sim P w0 S A N ρ' t h' a w'∧C ρ' (Live h') (okOf A ρ' h' w') w' d v
theorem Sim.evalDs (s:Sim P w0 S A N ρ t h a w){xs:List Operand}{ds:List D}(hd:Am.evalDs t xs=some ds):ds.length=(xs.map a.eval).length∧∀i,i<ds.length→C ρ (Live h) (okOf A ρ h w) w (ds.getD i .undef) ((xs.map a.eval).getD i undef):=by
 obtain⟨e,q⟩:=eO hd
 refine⟨by simp[e],fun i hi=>?_⟩
 have hi':i<xs.length:=by omega
 obtain⟨y,hy1,hy2⟩:=q i hi' _ (a6 hi')
 have:=s.eval hy1
 simpa[aX,hy2,hi'] using this
theorem Sim.evalPs (s:Sim P w0 S A N ρ t h a w){xs:List (Nat×Operand)}{ds:List (Nat×D)}(hd:Am.evalPs t xs=some ds):ds.length=(xs.map fun x=>(x.1,a.eval x.2)).length∧
  ∀i,i<ds.length→(ds.getD i (0,.undef)).1=((xs.map fun x=>(x.1,a.eval x.2)).getD i (0,undef)).1∧C ρ (Live h) (okOf A ρ h w) w (ds.getD i (0,.undef)).2 ((xs.map fun x=>(x.1,a.eval x.2)).getD i (0,undef)).2:=by
 obtain⟨e,q⟩:=eO hd
 refine⟨by simp[e],fun i hi=>?_⟩
 have hi':i<xs.length:=by omega
 obtain⟨y,hy1,hy2⟩:=q i hi' _ (a6 hi')
 obtain⟨d,hd1,rfl⟩:=bj.1 hy1
 have:=s.eval hd1
 simp only[aX,hy2,cd,a6 hi',aM,e9]
 exact⟨trivial,this⟩
theorem C.isPtr_inv {L:Id→Prop}{ok:Nat→Prop}{d:D}{v:Value}(hp:dU d=true)(hc:C ρ L ok w d v):∃ad,v= .pointer (some ad):=by
 cases d<;>simp[dU] at hp
 ·cases hc.box_inv with|box _ b off f hok hpos hc hr=>exact⟨_,rfl⟩
 ·obtain⟨_,rfl⟩:=hc.ptr_inv;exact⟨_,rfl⟩
 ·obtain⟨_,rfl⟩:=hc.eptr_inv;exact⟨_,rfl⟩
 ·obtain⟨b,off,f,rfl,_⟩:=hc.iptr_inv;exact⟨_,rfl⟩
 ·obtain⟨x,ad,rfl,_⟩:=hc.gp_inv;exact⟨_,rfl⟩
theorem oW {d:D}{v:Value}{b:Bool}{L:Id→Prop}{ok:Nat→Prop}(h:qU d=some b)(hc:C ρ L ok w d v):∃a n c,v= .slice a n c∧a.isNone=b:=by
 unfold qU at h
 split at h
 ·cases h;cases hc with
  |pure h=>cases h;exact⟨_,_,_,rfl,rfl⟩
 ·cases h;cases hc with
  |pure h=>cases h;exact⟨_,_,_,rfl,rfl⟩
 ·cases h;cases hc with
  |pure h=>cases h
  |ref b hb=>exact⟨_,_,_,rfl,rfl⟩
 ·cases h;cases hc with
  |pure h=>cases h
  |vref b o n hb hn=>exact⟨_,_,_,rfl,rfl⟩
 ·cases h
theorem zW {op:BinOp}{T:TypeId}{x y:Operand}{d1 d2 d:D}{v1 v2:Value}{L:Id→Prop}{ok:Nat→Prop}(hd:dn P op T d1 d2=some d)(h1:C ρ L ok w d1 v1)(h2:C ρ L ok w d2 v2):
  ∃v,(do eqGuard op T x y v1 v2;binOp op T v1 v2:Sem Value).run P w= .ok v w∧Rep ok w d v:=by
 unfold dn at hd
 split at hd
 ·rename_i e hu
  have hg:∀(p q:Option Addr),eqGuard op T x y (.pointer p) (.pointer q)=pure ():=by intro p q;unfold eqGuard;split<;>rfl
  have r1:∀(q:Option Addr),(Op.equal T (.pointer none) (.pointer q)).run P w= .ok q.isNone w:=by
   intro q
   have:=fun(k:Nat)=>(show (Op.equalIn (k+1) T (.pointer none) (.pointer q)).run P w= .ok q.isNone w by simp[Op.equalIn,run_underlying hu])
   exact this 9999
  have r2:∀(ad:Addr),(Op.equal T (.pointer (some ad)) (.pointer none)).run P w= .ok false w:=by
   intro ad
   have:=fun(k:Nat)=>(show (Op.equalIn (k+1) T (.pointer (some ad)) (.pointer none)).run P w= .ok false w by simp[Op.equalIn,run_underlying hu])
   exact this 9999
  split at hd
  ·obtain rfl:=h1.nilp_inv;obtain rfl:=h2.nilp_inv
   simp only[aK] at hd;subst hd
   exact⟨_,by rw[hg];simp[binOp,r1],.bool _⟩
  ·obtain rfl:=h1.nilp_inv;obtain rfl:=h2.nilp_inv
   simp only[aK] at hd;subst hd
   exact⟨_,by rw[hg];simp[binOp,r1],.bool _⟩
  ·split at hd
   ·rename_i hp
    obtain rfl:=h1.nilp_inv;obtain⟨ad,rfl⟩:=h2.isPtr_inv hp
    simp only[aK] at hd;subst hd
    exact⟨_,by rw[hg];simp[binOp,r1],.bool _⟩
   ·cases hd
  ·split at hd
   ·rename_i hp
    obtain rfl:=h1.nilp_inv;obtain⟨ad,rfl⟩:=h2.isPtr_inv hp
    simp only[aK] at hd;subst hd
    exact⟨_,by rw[hg];simp[binOp,r1],.bool _⟩
   ·cases hd
  ·split at hd
   ·rename_i hp
    obtain rfl:=h2.nilp_inv;obtain⟨ad,rfl⟩:=h1.isPtr_inv hp
    simp only[aK] at hd;subst hd
    exact⟨_,by rw[hg];simp[binOp,r2],.bool _⟩
   ·cases hd
  ·split at hd
   ·rename_i hp
    obtain rfl:=h2.nilp_inv;obtain⟨ad,rfl⟩:=h1.isPtr_inv hp
    simp only[aK] at hd;subst hd
    exact⟨_,by rw[hg];simp[binOp,r2],.bool _⟩
   ·cases hd
  ·cases hd
 ·rename_i E hu
  have hg:∀(p q:Option Addr) (n c n' c':Nat),eqGuard op T x y (.slice p n c) (.slice q n' c')=pure ():=by intro p q n c n' c';unfold eqGuard;split<;>rfl
  have r1:∀(a:Option Addr) (n c:Nat),(Op.equal T (.slice a n c) (.slice none 0 0)).run P w= .ok a.isNone w:=by
   intro a n c
   have:=fun(k:Nat)=>(show (Op.equalIn (k+1) T (.slice a n c) (.slice none 0 0)).run P w= .ok a.isNone w by cases a<;>simp[Op.equalIn,run_underlying hu])
   exact this 9999
  have hn:∀{v:Value},C ρ L ok w .nils v→v= .slice none 0 0:=fun h=>by
   cases h with
   |pure h=>cases h;rfl
  split at hd
  ·obtain⟨b,hb,rfl⟩:=bj.1 hd
   obtain rfl:=hn h2;obtain⟨a,n,c,rfl,rfl⟩:=oW hb h1
   exact⟨_,by rw[hg];simp[binOp,r1],.bool _⟩
  ·obtain⟨b,hb,rfl⟩:=bj.1 hd
   obtain rfl:=hn h2;obtain⟨a,n,c,rfl,rfl⟩:=oW hb h1
   exact⟨_,by rw[hg];simp[binOp,r1],.bool _⟩
  ·cases hd
 ·cases hd
theorem vF {op:BinOp}{T:TypeId}{x y:Operand}{d1 d2 d:D}{v1 v2:Value}{L:Id→Prop}{ok:Nat→Prop}(hd:dj op T P d1 d2=some d)(h1:C ρ L ok w d1 v1)(h2:C ρ L ok w d2 v2):
  ∃v,(do eqGuard op T x y v1 v2;binOp op T v1 v2:Sem Value).run P w= .ok v w∧Rep ok w d v:=by
 unfold dj at hd
 split at hd
 ·rename_i hu
  have hg:∀p q,eqGuard op T x y (.bool p) (.bool q)=pure ():=by intro p q;unfold eqGuard;split<;>rfl
  have r1:∀p q,(Op.equal T (.bool p) (.bool q)).run P w= .ok (p==q) w:=by
   intro p q
   have:=fun(k:Nat)=>(show (Op.equalIn (k+1) T (.bool p) (.bool q)).run P w= .ok (p==q) w by simp[Op.equalIn,run_underlying hu])
   exact this 9999
  split at hd
  ·obtain rfl:=h1.bool_inv;obtain rfl:=h2.bool_inv
   simp only[aK] at hd;subst hd
   exact⟨_,by rw[hg];simp[binOp,r1],.bool _⟩
  ·obtain rfl:=h1.bool_inv;obtain rfl:=h2.bool_inv
   simp only[aK] at hd;subst hd
   exact⟨_,by rw[hg];simp[binOp,r1],.bool _⟩
  ·cases hd
 ·cases hd
theorem yB {op:BinOp}{T:TypeId}{x y:Operand}{d1 d2 d:D}{v1 v2:Value}{L:Id→Prop}{ok:Nat→Prop}(hd:mq P op T (iF x||iF y) d1 d2=some d)(h1:C ρ L ok w d1 v1)(h2:C ρ L ok w d2 v2):
  ∃v,(do eqGuard op T x y v1 v2;binOp op T v1 v2:Sem Value).run P w= .ok v w∧Rep ok w d v:=nomatch hd
theorem yD {op:BinOp}{T:TypeId}{x y:Operand}{d1 d2 d:D}{v1 v2:Value}{L:Id→Prop}{ok:Nat→Prop}(hd:oo P op T d1 d2=some d)(h1:C ρ L ok w d1 v1)(h2:C ρ L ok w d2 v2):
  ∃v,(do eqGuard op T x y v1 v2;binOp op T v1 v2:Sem Value).run P w= .ok v w∧Rep ok w d v:=nomatch hd
theorem Sim.ptrEq (s:Sim P w0 S A N ρ t h a w){op:BinOp}{T:TypeId}{x y:Operand}{d1 d2 d:D}{v1 v2:Value}{ok:Nat→Prop}(hd:my P op T h d1 d2=some d)(h1:C ρ (Live h) ok w d1 v1)(h2:C ρ (Live h) ok w d2 v2):
  ∃v,(do eqGuard op T x y v1 v2;binOp op T v1 v2:Sem Value).run P w= .ok v w∧Rep ok w d v:=nomatch hd
theorem Sim.evalF (s:Sim P w0 S A N ρ t h a w){x:Operand}{d:D}(hd:Am.evalF t h x=some d):C ρ (Live h) (okOf A ρ h w) w d (a.eval x):=by
 obtain⟨d0,h1,rfl⟩:=bj.1 hd
 exact s.fwd (s.eval h1)
theorem Sim.evalFs (s:Sim P w0 S A N ρ t h a w){xs:List Operand}{ds:List D}(hd:Am.evalFs t h xs=some ds):ds.length=(xs.map a.eval).length∧∀i,i<ds.length→C ρ (Live h) (okOf A ρ h w) w (ds.getD i .undef) ((xs.map a.eval).getD i undef):=by
 obtain⟨e,q⟩:=eO hd
 refine⟨by simp[e],fun i hi=>?_⟩
 have hi':i<xs.length:=by omega
 obtain⟨y,hy1,hy2⟩:=q i hi' _ (a6 hi')
 have:=s.evalF hy1
 simpa[aX,hy2,hi'] using this
theorem Sim.evalFPs (s:Sim P w0 S A N ρ t h a w){xs:List (Nat×Operand)}{ds:List (Nat×D)}(hd:Am.evalFPs t h xs=some ds):ds.length=(xs.map fun x=>(x.1,a.eval x.2)).length∧
  ∀i,i<ds.length→(ds.getD i (0,.undef)).1=((xs.map fun x=>(x.1,a.eval x.2)).getD i (0,undef)).1∧C ρ (Live h) (okOf A ρ h w) w (ds.getD i (0,.undef)).2 ((xs.map fun x=>(x.1,a.eval x.2)).getD i (0,undef)).2:=by
 obtain⟨e,q⟩:=eO hd
 refine⟨by simp[e],fun i hi=>?_⟩
 have hi':i<xs.length:=by omega
 obtain⟨y,hy1,hy2⟩:=q i hi' _ (a6 hi')
 obtain⟨d,hd1,rfl⟩:=bj.1 hy1
 have:=s.evalF hd1
 simp only[aX,hy2,cd,a6 hi',aM,e9]
 exact⟨trivial,this⟩
theorem oJ {xs:List Operand}{d:D}(hd:Am.evalFs t h xs=some [d]):∃x,xs=[x]∧Am.evalF t h x=some d:=by
 obtain⟨e,q⟩:=eO hd
 match xs,e with
 |[x],_=>
  obtain⟨y,h1,h2⟩:=q 0 (by simp) x rfl
  simp at h2
  exact⟨x,rfl,by rw[h1,h2]⟩
theorem fm {xs:List Operand}{d e:D}(hd:Am.evalFs t h xs=some [d,e]):∃x y,xs=[x,y]∧Am.evalF t h x=some d∧Am.evalF t h y=some e:=by
 obtain⟨el,q⟩:=eO hd
 match xs,el with
 |[x,y],_=>
  obtain⟨z1,h1,h2⟩:=q 0 (by simp) x rfl
  obtain⟨z2,h3,h4⟩:=q 1 (by simp) y rfl
  simp at h2 h4
  exact⟨x,y,rfl,by rw[h1,h2],by rw[h3,h4]⟩
theorem lD {bs:List Id}{b:Id}(hb:Live h b):Live (puts (frz h bs) h) b:=by
 unfold Live at *
 rw[cW]
 split
 ·rfl
 ·exact hb
theorem qj {bs:List Id}{b:Id}(hb:look h b=none):look (puts (frz h bs) h) b=none:=by
 rw[cW]
 have:frzB h b=none:=by unfold frzB;rw[hb]
 rw[this]
 simpa using hb
set_option maxHeartbeats 1000000 in
theorem Sim.op (s:Sim P w0 S A N ρ t h a w){m:Bool}{o:Oper}{n:Nat}{d:D}{u:HL}(hd:cQ P m o.op t h n=some (d,u))(hn:look h (n,0)=none):
  o.wp P a w (zT P w0 S A N ρ t h (puts u h) a o.dst d) (fun _ _ _=>False):=by
 obtain⟨dst,op,ty,pos,after,guard⟩:=o
 simp only at hd⊢
 have quiet:∀{v:Value} {d':D},(execOp a.eval ⟨dst,op,ty,pos,after,guard⟩).run P w= .ok (.value v) w→C ρ (Live h) (okOf A ρ h w) w d' v→d'=d→u=[]→Oper.wp P ⟨dst,op,ty,pos,after,guard⟩ a w (zT P w0 S A N ρ t h (puts u h) a dst d) (fun _ _ _=>False):=by
  rintro v d' hr hc rfl rfl
  exact eY hr ⟨v,ρ,rfl,Ext.refl _ _,s,hc⟩
 cases op<;>simp only[cQ] at hd
 case move x=>
  obtain⟨d',h1,h2⟩:=bj.1 hd
  simp only[bi] at h2
  exact quiet (by simp[execOp]) (s.eval h1) h2.1 h2.2.symm
 case assign x=>
  obtain⟨d',h1,h2⟩:=bj.1 hd
  simp only[bi] at h2
  exact quiet (by simp[execOp]) (s.eval h1) h2.1 h2.2.symm
 case pick c x y=>
  split at hd
  ·rename_i hc
   obtain⟨d',h1,h2⟩:=bj.1 hd
   simp only[bi] at h2
   exact quiet (by simp[execOp,(s.eval hc).bool_inv,asBool]) (s.eval h1) h2.1 h2.2.symm
  ·rename_i hc
   obtain⟨d',h1,h2⟩:=bj.1 hd
   simp only[bi] at h2
   exact quiet (by simp[execOp,(s.eval hc).bool_inv,asBool]) (s.eval h1) h2.1 h2.2.symm
  ·cases hd
 case alloc T=>
  obtain⟨z,h1,h2⟩:=bj.1 hd
  simp only[bi] at h2
  obtain⟨rfl,rfl⟩:=h2
  obtain⟨v,r1,r2,r3,_⟩:=gq h1 (okOf A ρ h w) w
  obtain⟨ρ',e0,e1,e2⟩:=s.newVar hn (T:=T) r3 (.pure r2)
  refine eY (v:=.pointer (some ⟨(ρ' (n,0)).blk,0,none⟩)) (w':=w.alloc (.cells v.cells T (0,0))) ?_ ⟨_,ρ',rfl,e0,e2,.ptr (n,0) 0 ?_⟩
  ·simp[execOp,Instr.alloc,r1,e1]
  ·show Live (put (n,0) _ h) (n,0)
   unfold Live;rw[aD];simp
 case box T x=>
  obtain⟨z,h1,h2⟩:=bu.1 hd
  split at h2
  ·rename_i hw
   simp only[aK,bi] at h2
   obtain⟨rfl,rfl⟩:=h2
   obtain⟨ρ',e0,e1,e2⟩:=s.newVar hn (T:=T) hw (s.eval h1)
   refine eY (v:=.pointer (some ⟨(ρ' (n,0)).blk,0,none⟩)) (w':=w.alloc (.cells (a.eval x).cells T (0,0))) ?_ ⟨_,ρ',rfl,e0,e2,.ptr (n,0) 0 ?_⟩
   ·simp[execOp,Instr.box,e1]
   ·show Live (put (n,0) _ h) (n,0)
    unfold Live;rw[aD];simp
  ·cases h2
 case build T ps=>
  obtain⟨ds,h1,h2⟩:=bu.1 hd
  obtain⟨d',h3,h4⟩:=bj.1 h2
  simp only[bi] at h4
  obtain⟨e,q⟩:=s.evalPs h1
  obtain⟨v,r1,r2⟩:=yy (P:=P) (vs:=ps.map fun x=>(x.1,a.eval x.2)) h3 (by simpa using e) (by simpa using q)
  exact quiet (by simp[execOp,r1]) r2 h4.1 h4.2.symm
 case buildSlice T len ps=>
  obtain⟨ds,h1,h2⟩:=bu.1 hd
  obtain⟨e,q⟩:=s.evalFPs h1
  obtain⟨v,w',ρ',r0,r1,r2,r3⟩:=s.buildSlice hn (vs:=ps.map fun x=>(x.1,a.eval x.2)) h2 (by simpa using e) (fun i hi=>by
   have hi':i<ds.length:=by simpa using hi
   have:=q i hi'
   have e1:(ds.map fun x=>(x.1,nzE x.2)).getD i (0,.undef)=((ds.getD i (0,.undef)).1,nzE (ds.getD i (0,.undef)).2):=by simp[aX,hi']
   rw[e1]
   exact⟨by simpa using this.1,by simpa using this.2.nzE⟩)
  exact eY (v:=v) (w':=w') (by simp[execOp,r1]) ⟨_,ρ',rfl,r0,r2,r3⟩
 case load T x=>
  obtain⟨z,h1,h2⟩:=bu.1 hd
  obtain⟨d',h3,h4⟩:=bj.1 h2
  simp only[bi] at h4
  obtain⟨v,r1,r2⟩:=s.load h3 (s.evalF h1)
  exact quiet (by simp[execOp,r1]) r2 h4.1 h4.2.symm
 case store T x y=>
  obtain⟨z1,h1,h2⟩:=bu.1 hd
  obtain⟨z2,h3,h4⟩:=bu.1 h2
  obtain⟨u',h7,h8⟩:=bj.1 h4
  simp only[bi] at h8
  obtain⟨rfl,rfl⟩:=h8
  obtain⟨w',r1,r2⟩:=s.store h7 (s.evalF h1) ((s.evalF h3).nzM _)
  exact Cj (by simp[execOp,r1]) ⟨_,ρ,rfl,Ext.refl _ _,r2,.any _⟩
 case nilCheck x=>
  obtain⟨z,h1,h2⟩:=bu.1 hd
  split at h2
  ·rename_i hp
   simp only[aK,bi] at h2
   have hc:=s.eval h1
   obtain⟨ad,e⟩:=hc.isPtr_inv hp
   exact quiet (v:=a.eval x) (by simp[execOp,e]) hc h2.1 h2.2.symm
  ·cases h2
 case binOp op T x y yT=>
  obtain⟨z1,h1,h2⟩:=bu.1 hd
  obtain⟨z2,h3,h4⟩:=bu.1 h2
  have fin:∀{r:D} {v:Value},(do eqGuard op T x y (a.eval x) (a.eval y);binOp op T (a.eval x) (a.eval y):Sem Value).run P w= .ok v w→Rep (okOf A ρ h w) w r v→r=d→u=[]→_:=fun hr hv e1 e2=>
   quiet (by simp only[execOp];rw[Sem.run_bind,hr];simp) (.pure hv) e1 e2
  split at h4
  ·rename_i r hr
   simp only[aK,bi] at h4
   obtain⟨v,r1,r2⟩:=Cm (P:=P) (T:=T) (x:=x) (y:=y) hr (s.evalF h1) (s.evalF h3)
   exact fin r1 r2 h4.1 h4.2.symm
  ·split at h4
   ·rename_i r hr
    simp only[aK,bi] at h4
    obtain⟨v,r1,r2⟩:=zW (P:=P) (T:=T) (x:=x) (y:=y) hr (s.evalF h1) (s.evalF h3)
    exact fin r1 r2 h4.1 h4.2.symm
   ·split at h4
    ·rename_i r hr
     simp only[aK,bi] at h4
     obtain⟨v,r1,r2⟩:=vF (P:=P) (T:=T) (x:=x) (y:=y) hr (s.evalF h1) (s.evalF h3)
     exact fin r1 r2 h4.1 h4.2.symm
    ·split at h4
     ·rename_i r hr
      simp only[aK,bi] at h4
      obtain⟨v,r1,r2⟩:=yB (P:=P) (T:=T) (x:=x) (y:=y) hr (s.evalF h1) (s.evalF h3)
      exact fin r1 r2 h4.1 h4.2.symm
     ·split at h4
      ·rename_i r hr
       simp only[aK,bi] at h4
       obtain⟨v,r1,r2⟩:=yD (P:=P) (T:=T) (x:=x) (y:=y) hr (s.evalF h1) (s.evalF h3)
       exact fin r1 r2 h4.1 h4.2.symm
      ·obtain⟨r,hr,h5⟩:=bj.1 h4
       simp only[bi] at h5
       obtain⟨v,r1,r2⟩:=s.ptrEq (T:=T) (x:=x) (y:=y) hr (s.evalF h1) (s.evalF h3)
       exact fin r1 r2 h5.1 h5.2.symm
 case unOp op T x=>
  obtain⟨z,h1,h2⟩:=bu.1 hd
  obtain⟨d',h3,h4⟩:=bj.1 h2
  simp only[bi] at h4
  obtain⟨v,r1,r2⟩:=DW (P:=P) h3 (s.eval h1)
  exact quiet (by simp[execOp,r1]) (.pure r2) h4.1 h4.2.symm
 case convert src dst' x=>
  obtain⟨z,h1,h2⟩:=bu.1 hd
  obtain⟨d',h3,h4⟩:=bj.1 h2
  simp only[bi] at h4
  obtain⟨v,r1,r2⟩:=s.conv h3 (s.evalF h1)
  exact quiet (by simp[execOp,r1]) r2 h4.1 h4.2.symm
 case makeInterface T x=>
  obtain⟨z,h1,h2⟩:=bu.1 hd
  split at h2
  ·rename_i hi
   simp only[aK,bi] at h2
   obtain⟨td,hu,hne⟩:=xq hi
   exact quiet (v:=.iface T (a.eval x)) (by cases td<;>simp[execOp,Instr.makeInterface,run_underlying hu]<;>exact absurd rfl (hne _)) (.ifc _ _ _ (s.eval h1)) h2.1 h2.2.symm
  ·cases h2
 case makeFunc fn first captured=>
  cases fn<;>simp only[reduceCtorEq] at hd
  rename_i f
  split at hd
  ·rename_i hz
   obtain⟨ds,h1,h2⟩:=bj.1 hd
   simp only[bi] at h2
   obtain⟨e,q⟩:=s.evalDs h1
   have hfe:first= #[]:=Array.eq_empty_of_size_eq_zero hz
   subst hfe
   refine quiet (v:=.func (.func f) #[] (captured.map a.eval)) (by simp[execOp,Instr.makeFunc]) (.clo f ds _ (by simpa using e) fun i hi=>?_) h2.1 h2.2.symm
   have:=q i hi
   rw[cB]
   simpa using this
  ·cases hd
 case typeAssert x xT T ok=>
  obtain⟨z,h1,h2⟩:=bu.1 hd
  obtain⟨d',h3,h4⟩:=bj.1 h2
  simp only[bi] at h4
  obtain⟨v,r1,r2⟩:=vE (P:=P) (xT:=xT) h3 (s.eval h1)
  exact quiet (by simp[execOp,r1]) r2 h4.1 h4.2.symm
 case makeSlice T l c=>
  obtain⟨z1,h1,h2⟩:=bu.1 hd
  obtain⟨z2,h3,h4⟩:=bu.1 h2
  obtain⟨v,w',ρ',r0,r1,r2,r3⟩:=s.make hn h4 (s.eval h1) (s.eval h3)
  exact eY (v:=v) (w':=w') (by simp[execOp,r1]) ⟨_,ρ',rfl,r0,r2,r3⟩
 case slice T x lo hi mx=>
  cases mx with
  |some m=>cases hd
  |none=>
   obtain⟨z,h1,h2⟩:=bu.1 hd
   obtain⟨l,h3,h4⟩:=bu.1 h2
   obtain⟨r,h5,h6⟩:=bu.1 h4
   have bo:∀{m:Option Operand} {r:Option D},iH t m=some r→(r=none∧m.map a.eval=none)∨∃d' v',r=some d'∧m.map a.eval=some v'∧C ρ (Live h) (okOf A ρ h w) w d' v':=by
    intro m r hm
    cases m with
    |none=>simp only[iH,aK] at hm;exact .inl ⟨hm.symm,rfl⟩
    |some x=>
     obtain⟨d',q1,q2⟩:=bj.1 hm
     exact .inr ⟨d',_,q2.symm,rfl,s.eval q1⟩
   obtain⟨v,ρ',r0,r1,r2,r3⟩:=s.cut h6 (fun _=>hn) (s.evalF h1) (bo h3) (bo h5)
   exact eY (v:=v) (w':=w) (by simp[execOp,r1]) ⟨_,ρ',rfl,r0,r2,r3⟩
 case fieldAddr T x f=>
  obtain⟨z,h1,h2⟩:=bu.1 hd
  obtain⟨d',h3,h4⟩:=bj.1 h2
  simp only[bi] at h4
  obtain⟨v,r1,r2⟩:=yz (P:=P) h3 (s.eval h1)
  exact quiet (by simp[execOp,r1]) r2 h4.1 h4.2.symm
 case field T x f=>
  obtain⟨z,h1,h2⟩:=bu.1 hd
  obtain⟨d',h3,h4⟩:=bj.1 h2
  simp only[bi] at h4
  obtain⟨v,r1,r2⟩:=zX (P:=P) h3 (s.eval h1)
  exact quiet (by simp[execOp,r1]) r2 h4.1 h4.2.symm
 case indexAddr T x i=>
  obtain⟨z1,h1,h2⟩:=bu.1 hd
  obtain⟨z2,h3,h4⟩:=bu.1 h2
  obtain⟨d',h5,h6⟩:=bj.1 h4
  simp only[bi] at h6
  obtain⟨v,r1,r2⟩:=s.indexAddr h5 (s.evalF h1) (s.eval h3)
  exact quiet (by simp[execOp,r1]) r2 h6.1 h6.2.symm
 case index T x i=>
  obtain⟨z1,h1,h2⟩:=bu.1 hd
  obtain⟨z2,h3,h4⟩:=bu.1 h2
  obtain⟨d',h5,h6⟩:=bj.1 h4
  simp only[bi] at h6
  obtain⟨v,r1,r2⟩:=yC (P:=P) h5 (s.eval h1) (s.eval h3)
  exact quiet (by simp[execOp,r1]) r2 h6.1 h6.2.symm
 case extract x i=>
  obtain⟨z,h1,h2⟩:=bu.1 hd
  obtain⟨d',h3,h4⟩:=bj.1 h2
  simp only[bi] at h4
  obtain⟨v,r1,r2⟩:=ta (P:=P) h3 (s.eval h1)
  exact quiet (by simp[execOp,r1]) r2 h4.1 h4.2.symm
 case call c=>
  obtain⟨callee,args,argTypes⟩:=c
  cases callee with
  |value f=>cases hd
  |invoke r nm=>cases hd
  |builtin b=>
   simp only at hd
   obtain⟨ds,hds,hd2⟩:=bu.1 hd
   clear hd
   have hd:=hd2
   clear hd2
   unfold dp at hd
   split at hd
   ·rename_i d1 T hta
    obtain⟨x,hca,h1⟩:=oJ hds
    have ea:args= #[x]:=Array.ext' (by simpa using hca)
    have et:argTypes= #[T]:=Array.ext' (by simpa using hta)
    subst ea et
    obtain⟨d',h3,h4⟩:=bj.1 hd
    simp only[bi] at h4
    obtain⟨v,r1,r2⟩:=s.len (ty:=ty) h3 (s.evalF h1)
    refine quiet (v:=v) ?_ r2 h4.1 h4.2.symm
    simp only[execOp,resolve,invoke,builtin,Sem.run_bind,Sem.run_pure,Result.andThen_ok,List.map_toArray,bI,dt,r1]
   ·rename_i z1 z2 T T' hta
    obtain⟨x,y,hca,h1,h3⟩:=fm hds
    have ea:args= #[x,y]:=Array.ext' (by simpa using hca)
    have et:argTypes= #[T,T']:=Array.ext' (by simpa using hta)
    subst ea et
    split at hd
    ·rename_i hT
     subst hT
     obtain⟨v,w',ρ',r0,r1,r2,r3⟩:=s.append (ty:=ty) hd (fun _=>hn) (s.evalF h1) (s.evalF h3)
     refine eY (v:=v) (w':=w') ?_ ⟨_,ρ',rfl,r0,r2,r3⟩
     simp only[execOp,resolve,invoke,builtin,Sem.run_bind,Sem.run_pure,Result.andThen_ok,List.map_toArray,bI,dt,r1]
    ·obtain⟨v,w',ρ',r0,r1,r2,r3⟩:=s.appendZ (ty:=ty) hd hn (s.evalF h1) (s.evalF h3)
     refine eY (v:=v) (w':=w') ?_ ⟨_,ρ',rfl,r0,r2,r3⟩
     simp only[execOp,resolve,invoke,builtin,Sem.run_bind,Sem.run_pure,Result.andThen_ok,List.map_toArray,bI,dt,r1]
   ·rename_i z1 z2 T T' hta
    obtain⟨x,y,hca,h1,h3⟩:=fm hds
    have ea:args= #[x,y]:=Array.ext' (by simpa using hca)
    have et:argTypes= #[T,T']:=Array.ext' (by simpa using hta)
    subst ea et
    obtain⟨v,w',r1,r2,r3⟩:=s.copy (ty:=ty) (T':=T') hd (s.evalF h1) (s.evalF h3)
    refine eY (v:=v) (w':=w') ?_ ⟨_,ρ,rfl,?_,r2,r3⟩
    ·simp only[execOp,resolve,invoke,builtin,Sem.run_bind,Sem.run_pure,Result.andThen_ok,List.map_toArray,bI,dt,r1]
    ·exact Ext.refl _ _
   ·rename_i k p k' q
    obtain⟨x,y,hca,h1,h3⟩:=fm hds
    have ea:args= #[x,y]:=Array.ext' (by simpa using hca)
    subst ea
    split at hd
    ·rename_i hk
     subst hk
     simp only[aK,bi] at hd
     refine quiet (v:=.int k (if q<p then q else p)) ?_ (.int _ _) hd.1 hd.2.symm
     simp[execOp,resolve,invoke,builtin,Builtin.min_,Builtin.min2,(s.evalF h1).int_inv,(s.evalF h3).int_inv]
    ·cases hd
   ·rename_i k p k' q
    obtain⟨x,y,hca,h1,h3⟩:=fm hds
    have ea:args= #[x,y]:=Array.ext' (by simpa using hca)
    subst ea
    split at hd
    ·rename_i hk
     subst hk
     simp only[aK,bi] at hd
     refine quiet (v:=.int k (if p<q then q else p)) ?_ (.int _ _) hd.1 hd.2.symm
     simp[execOp,resolve,invoke,builtin,Builtin.max_,Builtin.max2,(s.evalF h1).int_inv,(s.evalF h3).int_inv]
    ·cases hd
   ·cases hd
 all_goals cases hd
end Go.Proofs.Ytbmnihglaokhmaa.Am
namespace Go.Proofs.Ytbmnihglaokhmaa.Am
open Go Go.RowKit Go.Conc
section
variable {P:Program} {main:Bool} {dfs:List Deferred} {γ γ':Gh} {N:Nat} {ρ:Id→Pl} {t:List (Nat×D)} {h:HL} {a:Act} {w w1 w':World}
def sZ (P:Program)(dfs:List Deferred)(N:Nat)(ρ:Id→Pl)(t:List (Nat×D))(h h':HL)(a:Act)(dst:Option Tmp)(d:D)(γ':Gh)(a':Act)(w':World):Prop:=
 ∃v ρ',a'=a.put dst v∧Ext h ρ ρ'∧SimN P dfs γ' N ρ' t h' a w'∧C ρ' (Live h') (okOf (γ'.At w') ρ' h' w') w' d v
def CL (x:Next):Prop:=x= .skip∨∃v,x= .value v
theorem re [PhC P]{o:Oper}{d:D}{u:HL}(hl:∀w0 S A ρ a w,Sim P w0 S A N ρ t h a w→o.wp P a w (zT P w0 S A N ρ t h (puts u h) a o.dst d) (fun _ _ _=>False))
  (hp:∀w0 S A ρ a w,Sim P w0 S A N ρ t h a w→Plain P CL (execOp a.eval o)) (s:SimN P dfs γ N ρ t h a w):OpG P main o 1 γ a w (sZ P dfs N ρ t h (puts u h) a o.dst d):=by
 intro ops i rest b k cs Stop m hk ho hw hc
 refine GoesG.step rfl fun w1 h1=>?_
 have s1:=SimN.rely s h1
 have sp:Spoilt (γ.At w1) γ.S w1 (spoilW (γ.At w1) γ.S w1):=u9 _ _ _
 have sp':Spoilt (γ.At w1) (fun k=>γ.S k∨w1.heap.size≤k) w1 (spoilW (γ.At w1) γ.S w1):=sp.wide
 have s2:Sim P (spoilW (γ.At w1) γ.S w1) ⟨γ.S,dfs⟩ (γ.At w1) N ρ t h a (spoilW (γ.At w1) γ.S w1):=Sim.spoil s1 sp rfl rfl
 have hl1:=hl _ _ _ _ _ _ s1
 have hl2:=hl _ _ _ _ _ _ s2
 have hpl:=hp _ _ _ _ _ _ s1
 unfold Oper.wp at hl1 hl2
 cases hr:(execOp a.eval o).run P (spoilW (γ.At w1) γ.S w1) with
 |halt e w2=>rw[hr] at hl2;cases e<;>exact hl2.elim
 |ok x w2=>
  obtain⟨w',es',q1,q2,q3,q4⟩:=pM (n0:=w1.heap.size) (fun k hk=>.inr hk) hpl (es:=#[]) (aN _) sp' hr
  have hrun:(execOp a.eval o).run P w1= .ok x w':=by rw[←Sem.runT_fst P _ w1 #[],q1]
  have hev:(execOp a.eval o).events P w1 #[]=es':=by unfold Sem.events;rw[q1]
  rw[hrun] at hl1
  have hlist:∀e∈listed P b.fn a o w1,EvOK (γ.grow w1 w') w'.heap.size e:=by
   intro e he
   have:=mem_listed he
   rw[hev] at this
   rcases q4 e this with h|h
   ·simp at h
   ·exact .inl (h.mono (fun k hlt hk=>hk.elim (fun h=>h.elim (fun h=>.inl (.inl (.inl h))) fun h=>.inl (.inr h)) fun h=>.inl (.inl (.inr ⟨h,hlt⟩))) (fun k hlt hk=>hk.imp id fun h=>⟨h,hlt⟩) (aN _))
  have fin:∀v,zT P w1 ⟨γ.S,dfs⟩ (γ.At w1) N ρ t h (puts u h) a o.dst d (a.put o.dst v) w'→Gua γ w1 w' (listed P b.fn a o w1)∧GoesG P main Stop m (γ.grow w1 w') (G (b.at (a.put o.dst v) (.inRegion ops rest::k)) cs) w':=by
   rintro v ⟨v',ρ',e1,e2,e3,e4⟩
   exact⟨⟨e3.fr,hlist⟩,hc _ _ _ ⟨v',ρ',e1,e2,SimN.after e3,e4.mono (fun b hb=>⟨hb,rfl⟩) fun k hk=>⟨sC hk,rfl⟩⟩⟩
  rcases q2 with rfl|⟨v,rfl⟩
  ·rw[stepG_none ho hw hk hrun];exact fin undef hl1
  ·rw[stepG_value ho hw hk hrun];exact fin v hl1
end
end Go.Proofs.Ytbmnihglaokhmaa.Am
namespace Go.Proofs.Ytbmnihglaokhmaa.Am
open Go Go.RowKit Go.Conc
section
variable {P:Program} {w0:World} {S:SD} {A:Nat→Prop} {N:Nat} {ρ:Id→Pl} {t:List (Nat×D)} {h:HL} {a:Act} {w:World}
theorem ae {α:Type}{x:α}:Plain P aZ (pure x:Sem α):=trivial
theorem b9 {s:Sem Value}(h:Plain P aZ s):Plain P CL (do pure (.value (←s))):=h.bindM fun v _=>.inr ⟨v,rfl⟩
theorem C5 {s:Sem Unit}(h:Plain P aZ s):Plain P CL (do s;pure .skip):=h.bindM fun _ _=>.inl rfl
attribute [local irreducible] Plain Dead
theorem uD {T:TypeId}{b:Bool}{v:Value}:Plain P aZ (Instr.alloc T b v):=by
 unfold Instr.alloc
 (repeat' (with_reducible first|exact ae|exact aq|exact ay|exact aL|exact ar|exact aG|exact al|exact au|exact ai|exact ag|exact aF|exact aE|exact ab|exact ah|exact af|exact am|exact aw|exact ao|exact ax|exact ak|exact ap|refine(av _).bindM fun _ _=>?_|refine(aJ _).bindM fun _ _=>?_|refine(aH _).bindM fun _ _=>?_|refine(aV _).bindM fun _ _=>?_|refine(aO _).bindM fun _ _=>?_|refine(al).bindM fun _ _=>?_|refine(au).bindM fun _ _=>?_|refine(ai).bindM fun _ _=>?_|refine(ag).bindM fun _ _=>?_|refine(aF).bindM fun _ _=>?_|refine(aE).bindM fun _ _=>?_|refine(ab).bindM fun _ _=>?_|refine(ah).bindM fun _ _=>?_|refine(af).bindM fun _ _=>?_|refine(am).bindM fun _ _=>?_|refine(aw).bindM fun _ _=>?_|refine(ao).bindM fun _ _=>?_|refine(ax).bindM fun _ _=>?_|refine(ak).bindM fun _ _=>?_|refine(ap).bindM fun _ _=>?_|refine Plain.bindM (L:=aZ) ae fun _ _=>?_|refine Plain.bindM (L:=aZ) aG fun _ _=>?_|refine Plain.bindM (L:=aZ) ar fun _ _=>?_|refine Plain.bindM (L:=aZ) ay fun _ _=>?_|refine Plain.bindM (L:=aZ) aq fun _ _=>?_|split|dsimp only))
theorem kY {α γ:Type}{L:γ→Prop}{f:α→Sem γ}(hf:∀a,Plain P L (f a))(xs:Array α):Plain P aZ (xs.mapM f):=by
 rw[Array.mapM_eq_mapM_toList]
 exact Plain.map (pu hf _) fun _ _=>trivial
theorem uE {T:TypeId}{ps:Array (Nat×Value)}:Plain P aZ (Instr.build T ps):=by
 unfold Instr.build
 (repeat' (with_reducible first|exact ae|exact aq|exact ay|exact aL|exact ar|exact aG|exact al|exact au|exact ai|exact ag|exact aF|exact aE|exact ab|exact ah|exact af|exact am|exact aw|exact ao|exact ax|exact ak|exact ap|exact(kY (L:=aZ) (fun f=>(aJ _).bindM fun _ _=>ae) _)|refine(av _).bindM fun _ _=>?_|refine(aJ _).bindM fun _ _=>?_|refine(aH _).bindM fun _ _=>?_|refine(aV _).bindM fun _ _=>?_|refine(aO _).bindM fun _ _=>?_|refine(al).bindM fun _ _=>?_|refine(au).bindM fun _ _=>?_|refine(ai).bindM fun _ _=>?_|refine(ag).bindM fun _ _=>?_|refine(aF).bindM fun _ _=>?_|refine(aE).bindM fun _ _=>?_|refine(ab).bindM fun _ _=>?_|refine(ah).bindM fun _ _=>?_|refine(af).bindM fun _ _=>?_|refine(am).bindM fun _ _=>?_|refine(aw).bindM fun _ _=>?_|refine(ao).bindM fun _ _=>?_|refine(ax).bindM fun _ _=>?_|refine(ak).bindM fun _ _=>?_|refine(ap).bindM fun _ _=>?_|refine((kY (L:=aZ) (fun f=>(aJ _).bindM fun _ _=>ae) _)).bindM fun _ _=>?_|refine Plain.bindM (L:=aZ) ae fun _ _=>?_|refine Plain.bindM (L:=aZ) aG fun _ _=>?_|refine Plain.bindM (L:=aZ) ar fun _ _=>?_|refine Plain.bindM (L:=aZ) ay fun _ _=>?_|refine Plain.bindM (L:=aZ) aq fun _ _=>?_|split|dsimp only))
theorem mX {T:TypeId}{n:Nat}{ps:Array (Nat×Value)}:Plain P aZ (Instr.buildSlice T n ps):=by
 unfold Instr.buildSlice
 (repeat' (with_reducible first|exact ae|exact aq|exact ay|exact aL|exact ar|exact aG|exact al|exact au|exact ai|exact ag|exact aF|exact aE|exact ab|exact ah|exact af|exact am|exact aw|exact ao|exact ax|exact ak|exact ap|refine(av _).bindM fun _ _=>?_|refine(aJ _).bindM fun _ _=>?_|refine(aH _).bindM fun _ _=>?_|refine(aV _).bindM fun _ _=>?_|refine(aO _).bindM fun _ _=>?_|refine(al).bindM fun _ _=>?_|refine(au).bindM fun _ _=>?_|refine(ai).bindM fun _ _=>?_|refine(ag).bindM fun _ _=>?_|refine(aF).bindM fun _ _=>?_|refine(aE).bindM fun _ _=>?_|refine(ab).bindM fun _ _=>?_|refine(ah).bindM fun _ _=>?_|refine(af).bindM fun _ _=>?_|refine(am).bindM fun _ _=>?_|refine(aw).bindM fun _ _=>?_|refine(ao).bindM fun _ _=>?_|refine(ax).bindM fun _ _=>?_|refine(ak).bindM fun _ _=>?_|refine(ap).bindM fun _ _=>?_|refine Plain.bindM (L:=aZ) ae fun _ _=>?_|refine Plain.bindM (L:=aZ) aG fun _ _=>?_|refine Plain.bindM (L:=aZ) ar fun _ _=>?_|refine Plain.bindM (L:=aZ) ay fun _ _=>?_|refine Plain.bindM (L:=aZ) aq fun _ _=>?_|split|dsimp only))
theorem uJ {x:Value}{y:Nat}{c:BoundsCode}:Plain P aZ (Instr.sliceBound x y c):=by
 unfold Instr.sliceBound
 (repeat' (with_reducible first|exact ae|exact aq|exact ay|exact aL|exact ar|exact aG|exact al|exact au|exact ai|exact ag|exact aF|exact aE|exact ab|exact ah|exact af|exact am|exact aw|exact ao|exact ax|exact ak|exact ap|refine(av _).bindM fun _ _=>?_|refine(aJ _).bindM fun _ _=>?_|refine(aH _).bindM fun _ _=>?_|refine(aV _).bindM fun _ _=>?_|refine(aO _).bindM fun _ _=>?_|refine(al).bindM fun _ _=>?_|refine(au).bindM fun _ _=>?_|refine(ai).bindM fun _ _=>?_|refine(ag).bindM fun _ _=>?_|refine(aF).bindM fun _ _=>?_|refine(aE).bindM fun _ _=>?_|refine(ab).bindM fun _ _=>?_|refine(ah).bindM fun _ _=>?_|refine(af).bindM fun _ _=>?_|refine(am).bindM fun _ _=>?_|refine(aw).bindM fun _ _=>?_|refine(ao).bindM fun _ _=>?_|refine(ax).bindM fun _ _=>?_|refine(ak).bindM fun _ _=>?_|refine(ap).bindM fun _ _=>?_|refine Plain.bindM (L:=aZ) ae fun _ _=>?_|refine Plain.bindM (L:=aZ) aG fun _ _=>?_|refine Plain.bindM (L:=aZ) ar fun _ _=>?_|refine Plain.bindM (L:=aZ) ay fun _ _=>?_|refine Plain.bindM (L:=aZ) aq fun _ _=>?_|split|dsimp only))
theorem kw {b:Bool}{l c:Nat}{lo hi mx:Option Value}:Plain P aZ (Instr.sliceBounds b l c lo hi mx):=by
 unfold Instr.sliceBounds
 (repeat' (with_reducible first|exact ae|exact aq|exact ay|exact aL|exact ar|exact aG|exact al|exact au|exact ai|exact ag|exact aF|exact aE|exact ab|exact ah|exact af|exact am|exact aw|exact ao|exact ax|exact ak|exact ap|exact uJ|refine(av _).bindM fun _ _=>?_|refine(aJ _).bindM fun _ _=>?_|refine(aH _).bindM fun _ _=>?_|refine(aV _).bindM fun _ _=>?_|refine(aO _).bindM fun _ _=>?_|refine(al).bindM fun _ _=>?_|refine(au).bindM fun _ _=>?_|refine(ai).bindM fun _ _=>?_|refine(ag).bindM fun _ _=>?_|refine(aF).bindM fun _ _=>?_|refine(aE).bindM fun _ _=>?_|refine(ab).bindM fun _ _=>?_|refine(ah).bindM fun _ _=>?_|refine(af).bindM fun _ _=>?_|refine(am).bindM fun _ _=>?_|refine(aw).bindM fun _ _=>?_|refine(ao).bindM fun _ _=>?_|refine(ax).bindM fun _ _=>?_|refine(ak).bindM fun _ _=>?_|refine(ap).bindM fun _ _=>?_|refine(uJ).bindM fun _ _=>?_|refine Plain.bindM (L:=aZ) ae fun _ _=>?_|refine Plain.bindM (L:=aZ) aG fun _ _=>?_|refine Plain.bindM (L:=aZ) ar fun _ _=>?_|refine Plain.bindM (L:=aZ) ay fun _ _=>?_|refine Plain.bindM (L:=aZ) aq fun _ _=>?_|split|dsimp only))
theorem nu {T:TypeId}{x:Value}{lo hi mx:Option Value}:Plain P aZ (Instr.slice T x lo hi mx):=by
 unfold Instr.slice
 (repeat' (with_reducible first|exact ae|exact aq|exact ay|exact aL|exact ar|exact aG|exact al|exact au|exact ai|exact ag|exact aF|exact aE|exact ab|exact ah|exact af|exact am|exact aw|exact ao|exact ax|exact ak|exact ap|exact kw|refine(av _).bindM fun _ _=>?_|refine(aJ _).bindM fun _ _=>?_|refine(aH _).bindM fun _ _=>?_|refine(aV _).bindM fun _ _=>?_|refine(aO _).bindM fun _ _=>?_|refine(al).bindM fun _ _=>?_|refine(au).bindM fun _ _=>?_|refine(ai).bindM fun _ _=>?_|refine(ag).bindM fun _ _=>?_|refine(aF).bindM fun _ _=>?_|refine(aE).bindM fun _ _=>?_|refine(ab).bindM fun _ _=>?_|refine(ah).bindM fun _ _=>?_|refine(af).bindM fun _ _=>?_|refine(am).bindM fun _ _=>?_|refine(aw).bindM fun _ _=>?_|refine(ao).bindM fun _ _=>?_|refine(ax).bindM fun _ _=>?_|refine(ak).bindM fun _ _=>?_|refine(ap).bindM fun _ _=>?_|refine(kw).bindM fun _ _=>?_|refine Plain.bindM (L:=aZ) ae fun _ _=>?_|refine Plain.bindM (L:=aZ) aG fun _ _=>?_|refine Plain.bindM (L:=aZ) ar fun _ _=>?_|refine Plain.bindM (L:=aZ) ay fun _ _=>?_|refine Plain.bindM (L:=aZ) aq fun _ _=>?_|split|dsimp only))
theorem qr {T:TypeId}{x:Value}{lo hi mx:Option Value}:Plain P aZ (Instr.sliceAt T x lo hi mx):=by
 unfold Instr.sliceAt
 (repeat' (with_reducible first|exact ae|exact aq|exact ay|exact aL|exact ar|exact aG|exact al|exact au|exact ai|exact ag|exact aF|exact aE|exact ab|exact ah|exact af|exact am|exact aw|exact ao|exact ax|exact ak|exact ap|exact kw|exact nu|refine(av _).bindM fun _ _=>?_|refine(aJ _).bindM fun _ _=>?_|refine(aH _).bindM fun _ _=>?_|refine(aV _).bindM fun _ _=>?_|refine(aO _).bindM fun _ _=>?_|refine(al).bindM fun _ _=>?_|refine(au).bindM fun _ _=>?_|refine(ai).bindM fun _ _=>?_|refine(ag).bindM fun _ _=>?_|refine(aF).bindM fun _ _=>?_|refine(aE).bindM fun _ _=>?_|refine(ab).bindM fun _ _=>?_|refine(ah).bindM fun _ _=>?_|refine(af).bindM fun _ _=>?_|refine(am).bindM fun _ _=>?_|refine(aw).bindM fun _ _=>?_|refine(ao).bindM fun _ _=>?_|refine(ax).bindM fun _ _=>?_|refine(ak).bindM fun _ _=>?_|refine(ap).bindM fun _ _=>?_|refine(kw).bindM fun _ _=>?_|refine(nu).bindM fun _ _=>?_|refine Plain.bindM (L:=aZ) ae fun _ _=>?_|refine Plain.bindM (L:=aZ) aG fun _ _=>?_|refine Plain.bindM (L:=aZ) ar fun _ _=>?_|refine Plain.bindM (L:=aZ) ay fun _ _=>?_|refine Plain.bindM (L:=aZ) aq fun _ _=>?_|split|dsimp only))
theorem qq {T:TypeId}{x i:Value}:Plain P aZ (Instr.indexAt T x i):=by
 unfold Instr.indexAt
 (repeat' (with_reducible first|exact ae|exact aq|exact ay|exact aL|exact ar|exact aG|exact al|exact au|exact ai|exact ag|exact aF|exact aE|exact ab|exact ah|exact af|exact am|exact aw|exact ao|exact ax|exact ak|exact ap|refine(av _).bindM fun _ _=>?_|refine(aJ _).bindM fun _ _=>?_|refine(aH _).bindM fun _ _=>?_|refine(aV _).bindM fun _ _=>?_|refine(aO _).bindM fun _ _=>?_|refine(al).bindM fun _ _=>?_|refine(au).bindM fun _ _=>?_|refine(ai).bindM fun _ _=>?_|refine(ag).bindM fun _ _=>?_|refine(aF).bindM fun _ _=>?_|refine(aE).bindM fun _ _=>?_|refine(ab).bindM fun _ _=>?_|refine(ah).bindM fun _ _=>?_|refine(af).bindM fun _ _=>?_|refine(am).bindM fun _ _=>?_|refine(aw).bindM fun _ _=>?_|refine(ao).bindM fun _ _=>?_|refine(ax).bindM fun _ _=>?_|refine(ak).bindM fun _ _=>?_|refine(ap).bindM fun _ _=>?_|refine Plain.bindM (L:=aZ) ae fun _ _=>?_|refine Plain.bindM (L:=aZ) aG fun _ _=>?_|refine Plain.bindM (L:=aZ) ar fun _ _=>?_|refine Plain.bindM (L:=aZ) ay fun _ _=>?_|refine Plain.bindM (L:=aZ) aq fun _ _=>?_|split|dsimp only))
theorem uG {T:TypeId}{x i:Value}:Plain P aZ (Instr.index T x i):=by
 unfold Instr.index
 (repeat' (with_reducible first|exact ae|exact aq|exact ay|exact aL|exact ar|exact aG|exact al|exact au|exact ai|exact ag|exact aF|exact aE|exact ab|exact ah|exact af|exact am|exact aw|exact ao|exact ax|exact ak|exact ap|refine(av _).bindM fun _ _=>?_|refine(aJ _).bindM fun _ _=>?_|refine(aH _).bindM fun _ _=>?_|refine(aV _).bindM fun _ _=>?_|refine(aO _).bindM fun _ _=>?_|refine(al).bindM fun _ _=>?_|refine(au).bindM fun _ _=>?_|refine(ai).bindM fun _ _=>?_|refine(ag).bindM fun _ _=>?_|refine(aF).bindM fun _ _=>?_|refine(aE).bindM fun _ _=>?_|refine(ab).bindM fun _ _=>?_|refine(ah).bindM fun _ _=>?_|refine(af).bindM fun _ _=>?_|refine(am).bindM fun _ _=>?_|refine(aw).bindM fun _ _=>?_|refine(ao).bindM fun _ _=>?_|refine(ax).bindM fun _ _=>?_|refine(ak).bindM fun _ _=>?_|refine(ap).bindM fun _ _=>?_|refine Plain.bindM (L:=aZ) ae fun _ _=>?_|refine Plain.bindM (L:=aZ) aG fun _ _=>?_|refine Plain.bindM (L:=aZ) ar fun _ _=>?_|refine Plain.bindM (L:=aZ) ay fun _ _=>?_|refine Plain.bindM (L:=aZ) aq fun _ _=>?_|split|dsimp only))
theorem nH {T:TypeId}{x y:Value}:Plain P aZ (Instr.makeSlice T x y):=by
 unfold Instr.makeSlice
 (repeat' (with_reducible first|exact ae|exact aq|exact ay|exact aL|exact ar|exact aG|exact al|exact au|exact ai|exact ag|exact aF|exact aE|exact ab|exact ah|exact af|exact am|exact aw|exact ao|exact ax|exact ak|exact ap|refine(av _).bindM fun _ _=>?_|refine(aJ _).bindM fun _ _=>?_|refine(aH _).bindM fun _ _=>?_|refine(aV _).bindM fun _ _=>?_|refine(aO _).bindM fun _ _=>?_|refine(al).bindM fun _ _=>?_|refine(au).bindM fun _ _=>?_|refine(ai).bindM fun _ _=>?_|refine(ag).bindM fun _ _=>?_|refine(aF).bindM fun _ _=>?_|refine(aE).bindM fun _ _=>?_|refine(ab).bindM fun _ _=>?_|refine(ah).bindM fun _ _=>?_|refine(af).bindM fun _ _=>?_|refine(am).bindM fun _ _=>?_|refine(aw).bindM fun _ _=>?_|refine(ao).bindM fun _ _=>?_|refine(ax).bindM fun _ _=>?_|refine(ak).bindM fun _ _=>?_|refine(ap).bindM fun _ _=>?_|refine Plain.bindM (L:=aZ) ae fun _ _=>?_|refine Plain.bindM (L:=aZ) aG fun _ _=>?_|refine Plain.bindM (L:=aZ) ar fun _ _=>?_|refine Plain.bindM (L:=aZ) ay fun _ _=>?_|refine Plain.bindM (L:=aZ) aq fun _ _=>?_|split|dsimp only))
theorem uF {T:TypeId}{x:Value}{i:Nat}:Plain P aZ (Instr.field T x i):=by
 unfold Instr.field
 (repeat' (with_reducible first|exact ae|exact aq|exact ay|exact aL|exact ar|exact aG|exact al|exact au|exact ai|exact ag|exact aF|exact aE|exact ab|exact ah|exact af|exact am|exact aw|exact ao|exact ax|exact ak|exact ap|refine(av _).bindM fun _ _=>?_|refine(aJ _).bindM fun _ _=>?_|refine(aH _).bindM fun _ _=>?_|refine(aV _).bindM fun _ _=>?_|refine(aO _).bindM fun _ _=>?_|refine(al).bindM fun _ _=>?_|refine(au).bindM fun _ _=>?_|refine(ai).bindM fun _ _=>?_|refine(ag).bindM fun _ _=>?_|refine(aF).bindM fun _ _=>?_|refine(aE).bindM fun _ _=>?_|refine(ab).bindM fun _ _=>?_|refine(ah).bindM fun _ _=>?_|refine(af).bindM fun _ _=>?_|refine(am).bindM fun _ _=>?_|refine(aw).bindM fun _ _=>?_|refine(ao).bindM fun _ _=>?_|refine(ax).bindM fun _ _=>?_|refine(ak).bindM fun _ _=>?_|refine(ap).bindM fun _ _=>?_|refine Plain.bindM (L:=aZ) ae fun _ _=>?_|refine Plain.bindM (L:=aZ) aG fun _ _=>?_|refine Plain.bindM (L:=aZ) ar fun _ _=>?_|refine Plain.bindM (L:=aZ) ay fun _ _=>?_|refine Plain.bindM (L:=aZ) aq fun _ _=>?_|split|dsimp only))
theorem qo {x:Value}{i:Nat}:Plain P aZ (Instr.extract x i):=by
 unfold Instr.extract
 (repeat' (with_reducible first|exact ae|exact aq|exact ay|exact aL|exact ar|exact aG|exact al|exact au|exact ai|exact ag|exact aF|exact aE|exact ab|exact ah|exact af|exact am|exact aw|exact ao|exact ax|exact ak|exact ap|refine(av _).bindM fun _ _=>?_|refine(aJ _).bindM fun _ _=>?_|refine(aH _).bindM fun _ _=>?_|refine(aV _).bindM fun _ _=>?_|refine(aO _).bindM fun _ _=>?_|refine(al).bindM fun _ _=>?_|refine(au).bindM fun _ _=>?_|refine(ai).bindM fun _ _=>?_|refine(ag).bindM fun _ _=>?_|refine(aF).bindM fun _ _=>?_|refine(aE).bindM fun _ _=>?_|refine(ab).bindM fun _ _=>?_|refine(ah).bindM fun _ _=>?_|refine(af).bindM fun _ _=>?_|refine(am).bindM fun _ _=>?_|refine(aw).bindM fun _ _=>?_|refine(ao).bindM fun _ _=>?_|refine(ax).bindM fun _ _=>?_|refine(ak).bindM fun _ _=>?_|refine(ap).bindM fun _ _=>?_|refine Plain.bindM (L:=aZ) ae fun _ _=>?_|refine Plain.bindM (L:=aZ) aG fun _ _=>?_|refine Plain.bindM (L:=aZ) ar fun _ _=>?_|refine Plain.bindM (L:=aZ) ay fun _ _=>?_|refine Plain.bindM (L:=aZ) aq fun _ _=>?_|split|dsimp only))
theorem sH {T:TypeId}{x:Value}:Plain P aZ (Instr.loadAt T x):=by
 unfold Instr.loadAt
 (repeat' (with_reducible first|exact ae|exact aq|exact ay|exact aL|exact ar|exact aG|exact al|exact au|exact ai|exact ag|exact aF|exact aE|exact ab|exact ah|exact af|exact am|exact aw|exact ao|exact ax|exact ak|exact ap|refine(av _).bindM fun _ _=>?_|refine(aJ _).bindM fun _ _=>?_|refine(aH _).bindM fun _ _=>?_|refine(aV _).bindM fun _ _=>?_|refine(aO _).bindM fun _ _=>?_|refine(al).bindM fun _ _=>?_|refine(au).bindM fun _ _=>?_|refine(ai).bindM fun _ _=>?_|refine(ag).bindM fun _ _=>?_|refine(aF).bindM fun _ _=>?_|refine(aE).bindM fun _ _=>?_|refine(ab).bindM fun _ _=>?_|refine(ah).bindM fun _ _=>?_|refine(af).bindM fun _ _=>?_|refine(am).bindM fun _ _=>?_|refine(aw).bindM fun _ _=>?_|refine(ao).bindM fun _ _=>?_|refine(ax).bindM fun _ _=>?_|refine(ak).bindM fun _ _=>?_|refine(ap).bindM fun _ _=>?_|refine Plain.bindM (L:=aZ) ae fun _ _=>?_|refine Plain.bindM (L:=aZ) aG fun _ _=>?_|refine Plain.bindM (L:=aZ) ar fun _ _=>?_|refine Plain.bindM (L:=aZ) ay fun _ _=>?_|refine Plain.bindM (L:=aZ) aq fun _ _=>?_|split|dsimp only))
theorem qs {T:TypeId}{x y:Value}:Plain P (α:=Unit) aZ (Instr.storeAt T x y):=by
 unfold Instr.storeAt
 (repeat' (with_reducible first|exact ae|exact aq|exact ay|exact aL|exact ar|exact aG|exact al|exact au|exact ai|exact ag|exact aF|exact aE|exact ab|exact ah|exact af|exact am|exact aw|exact ao|exact ax|exact ak|exact ap|refine(av _).bindM fun _ _=>?_|refine(aJ _).bindM fun _ _=>?_|refine(aH _).bindM fun _ _=>?_|refine(aV _).bindM fun _ _=>?_|refine(aO _).bindM fun _ _=>?_|refine(al).bindM fun _ _=>?_|refine(au).bindM fun _ _=>?_|refine(ai).bindM fun _ _=>?_|refine(ag).bindM fun _ _=>?_|refine(aF).bindM fun _ _=>?_|refine(aE).bindM fun _ _=>?_|refine(ab).bindM fun _ _=>?_|refine(ah).bindM fun _ _=>?_|refine(af).bindM fun _ _=>?_|refine(am).bindM fun _ _=>?_|refine(aw).bindM fun _ _=>?_|refine(ao).bindM fun _ _=>?_|refine(ax).bindM fun _ _=>?_|refine(ak).bindM fun _ _=>?_|refine(ap).bindM fun _ _=>?_|refine Plain.bindM (L:=aZ) ae fun _ _=>?_|refine Plain.bindM (L:=aZ) aG fun _ _=>?_|refine Plain.bindM (L:=aZ) ar fun _ _=>?_|refine Plain.bindM (L:=aZ) ay fun _ _=>?_|refine Plain.bindM (L:=aZ) aq fun _ _=>?_|split|dsimp only))
theorem zr {T:TypeId}{x:Value}:Plain P aZ (Instr.box T x):=by
 unfold Instr.box
 (repeat' (with_reducible first|exact ae|exact aq|exact ay|exact aL|exact ar|exact aG|exact al|exact au|exact ai|exact ag|exact aF|exact aE|exact ab|exact ah|exact af|exact am|exact aw|exact ao|exact ax|exact ak|exact ap|refine(av _).bindM fun _ _=>?_|refine(aJ _).bindM fun _ _=>?_|refine(aH _).bindM fun _ _=>?_|refine(aV _).bindM fun _ _=>?_|refine(aO _).bindM fun _ _=>?_|refine(al).bindM fun _ _=>?_|refine(au).bindM fun _ _=>?_|refine(ai).bindM fun _ _=>?_|refine(ag).bindM fun _ _=>?_|refine(aF).bindM fun _ _=>?_|refine(aE).bindM fun _ _=>?_|refine(ab).bindM fun _ _=>?_|refine(ah).bindM fun _ _=>?_|refine(af).bindM fun _ _=>?_|refine(am).bindM fun _ _=>?_|refine(aw).bindM fun _ _=>?_|refine(ao).bindM fun _ _=>?_|refine(ax).bindM fun _ _=>?_|refine(ak).bindM fun _ _=>?_|refine(ap).bindM fun _ _=>?_|refine Plain.bindM (L:=aZ) ae fun _ _=>?_|refine Plain.bindM (L:=aZ) aG fun _ _=>?_|refine Plain.bindM (L:=aZ) ar fun _ _=>?_|refine Plain.bindM (L:=aZ) ay fun _ _=>?_|refine Plain.bindM (L:=aZ) aq fun _ _=>?_|split|dsimp only))
theorem sF {T U:TypeId}{x:Value}{b:Bool}:Plain P aZ (Instr.typeAssert x T U b):=by
 unfold Instr.typeAssert
 (repeat' (with_reducible first|exact ae|exact aq|exact ay|exact aL|exact ar|exact aG|exact al|exact au|exact ai|exact ag|exact aF|exact aE|exact ab|exact ah|exact af|exact am|exact aw|exact ao|exact ax|exact ak|exact ap|refine(av _).bindM fun _ _=>?_|refine(aJ _).bindM fun _ _=>?_|refine(aH _).bindM fun _ _=>?_|refine(aV _).bindM fun _ _=>?_|refine(aO _).bindM fun _ _=>?_|refine(al).bindM fun _ _=>?_|refine(au).bindM fun _ _=>?_|refine(ai).bindM fun _ _=>?_|refine(ag).bindM fun _ _=>?_|refine(aF).bindM fun _ _=>?_|refine(aE).bindM fun _ _=>?_|refine(ab).bindM fun _ _=>?_|refine(ah).bindM fun _ _=>?_|refine(af).bindM fun _ _=>?_|refine(am).bindM fun _ _=>?_|refine(aw).bindM fun _ _=>?_|refine(ao).bindM fun _ _=>?_|refine(ax).bindM fun _ _=>?_|refine(ak).bindM fun _ _=>?_|refine(ap).bindM fun _ _=>?_|refine Plain.bindM (L:=aZ) ae fun _ _=>?_|refine Plain.bindM (L:=aZ) aG fun _ _=>?_|refine Plain.bindM (L:=aZ) ar fun _ _=>?_|refine Plain.bindM (L:=aZ) ay fun _ _=>?_|refine Plain.bindM (L:=aZ) aq fun _ _=>?_|split|dsimp only))
theorem uH {T:TypeId}{x:Value}:Plain P aZ (Instr.makeInterface T x):=by
 unfold Instr.makeInterface
 (repeat' (with_reducible first|exact ae|exact aq|exact ay|exact aL|exact ar|exact aG|exact al|exact au|exact ai|exact ag|exact aF|exact aE|exact ab|exact ah|exact af|exact am|exact aw|exact ao|exact ax|exact ak|exact ap|refine(av _).bindM fun _ _=>?_|refine(aJ _).bindM fun _ _=>?_|refine(aH _).bindM fun _ _=>?_|refine(aV _).bindM fun _ _=>?_|refine(aO _).bindM fun _ _=>?_|refine(al).bindM fun _ _=>?_|refine(au).bindM fun _ _=>?_|refine(ai).bindM fun _ _=>?_|refine(ag).bindM fun _ _=>?_|refine(aF).bindM fun _ _=>?_|refine(aE).bindM fun _ _=>?_|refine(ab).bindM fun _ _=>?_|refine(ah).bindM fun _ _=>?_|refine(af).bindM fun _ _=>?_|refine(am).bindM fun _ _=>?_|refine(aw).bindM fun _ _=>?_|refine(ao).bindM fun _ _=>?_|refine(ax).bindM fun _ _=>?_|refine(ak).bindM fun _ _=>?_|refine(ap).bindM fun _ _=>?_|refine Plain.bindM (L:=aZ) ae fun _ _=>?_|refine Plain.bindM (L:=aZ) aG fun _ _=>?_|refine Plain.bindM (L:=aZ) ar fun _ _=>?_|refine Plain.bindM (L:=aZ) ay fun _ _=>?_|refine Plain.bindM (L:=aZ) aq fun _ _=>?_|split|dsimp only))
theorem wT {f:Fn}{x y:Array Value}:Plain P aZ (Instr.makeFunc f x y):=by
 unfold Instr.makeFunc
 (repeat' (with_reducible first|exact ae|exact aq|exact ay|exact aL|exact ar|exact aG|exact al|exact au|exact ai|exact ag|exact aF|exact aE|exact ab|exact ah|exact af|exact am|exact aw|exact ao|exact ax|exact ak|exact ap|refine(av _).bindM fun _ _=>?_|refine(aJ _).bindM fun _ _=>?_|refine(aH _).bindM fun _ _=>?_|refine(aV _).bindM fun _ _=>?_|refine(aO _).bindM fun _ _=>?_|refine(al).bindM fun _ _=>?_|refine(au).bindM fun _ _=>?_|refine(ai).bindM fun _ _=>?_|refine(ag).bindM fun _ _=>?_|refine(aF).bindM fun _ _=>?_|refine(aE).bindM fun _ _=>?_|refine(ab).bindM fun _ _=>?_|refine(ah).bindM fun _ _=>?_|refine(af).bindM fun _ _=>?_|refine(am).bindM fun _ _=>?_|refine(aw).bindM fun _ _=>?_|refine(ao).bindM fun _ _=>?_|refine(ax).bindM fun _ _=>?_|refine(ak).bindM fun _ _=>?_|refine(ap).bindM fun _ _=>?_|refine Plain.bindM (L:=aZ) ae fun _ _=>?_|refine Plain.bindM (L:=aZ) aG fun _ _=>?_|refine Plain.bindM (L:=aZ) ar fun _ _=>?_|refine Plain.bindM (L:=aZ) ay fun _ _=>?_|refine Plain.bindM (L:=aZ) aq fun _ _=>?_|split|dsimp only))
theorem uL {op:UnOp}{x:Value}:Plain P aZ (Op.unary op x):=by
 unfold Op.unary Op.intArith Op.intBits
 (repeat' (with_reducible first|exact ae|exact aq|exact ay|exact aL|exact ar|exact aG|exact al|exact au|exact ai|exact ag|exact aF|exact aE|exact ab|exact ah|exact af|exact am|exact aw|exact ao|exact ax|exact ak|exact ap|refine(av _).bindM fun _ _=>?_|refine(aJ _).bindM fun _ _=>?_|refine(aH _).bindM fun _ _=>?_|refine(aV _).bindM fun _ _=>?_|refine(aO _).bindM fun _ _=>?_|refine(al).bindM fun _ _=>?_|refine(au).bindM fun _ _=>?_|refine(ai).bindM fun _ _=>?_|refine(ag).bindM fun _ _=>?_|refine(aF).bindM fun _ _=>?_|refine(aE).bindM fun _ _=>?_|refine(ab).bindM fun _ _=>?_|refine(ah).bindM fun _ _=>?_|refine(af).bindM fun _ _=>?_|refine(am).bindM fun _ _=>?_|refine(aw).bindM fun _ _=>?_|refine(ao).bindM fun _ _=>?_|refine(ax).bindM fun _ _=>?_|refine(ak).bindM fun _ _=>?_|refine(ap).bindM fun _ _=>?_|refine Plain.bindM (L:=aZ) ae fun _ _=>?_|refine Plain.bindM (L:=aZ) aG fun _ _=>?_|refine Plain.bindM (L:=aZ) ar fun _ _=>?_|refine Plain.bindM (L:=aZ) ay fun _ _=>?_|refine Plain.bindM (L:=aZ) aq fun _ _=>?_|split|dsimp only))
theorem gY {x:Value}:Plain P aZ (Builtin.lenOf x):=by
 unfold Builtin.lenOf
 (repeat' (with_reducible first|exact ae|exact aq|exact ay|exact aL|exact ar|exact aG|exact al|exact au|exact ai|exact ag|exact aF|exact aE|exact ab|exact ah|exact af|exact am|exact aw|exact ao|exact ax|exact ak|exact ap|refine(av _).bindM fun _ _=>?_|refine(aJ _).bindM fun _ _=>?_|refine(aH _).bindM fun _ _=>?_|refine(aV _).bindM fun _ _=>?_|refine(aO _).bindM fun _ _=>?_|refine(al).bindM fun _ _=>?_|refine(au).bindM fun _ _=>?_|refine(ai).bindM fun _ _=>?_|refine(ag).bindM fun _ _=>?_|refine(aF).bindM fun _ _=>?_|refine(aE).bindM fun _ _=>?_|refine(ab).bindM fun _ _=>?_|refine(ah).bindM fun _ _=>?_|refine(af).bindM fun _ _=>?_|refine(am).bindM fun _ _=>?_|refine(aw).bindM fun _ _=>?_|refine(ao).bindM fun _ _=>?_|refine(ax).bindM fun _ _=>?_|refine(ak).bindM fun _ _=>?_|refine(ap).bindM fun _ _=>?_|refine Plain.bindM (L:=aZ) ae fun _ _=>?_|refine Plain.bindM (L:=aZ) aG fun _ _=>?_|refine Plain.bindM (L:=aZ) ar fun _ _=>?_|refine Plain.bindM (L:=aZ) ay fun _ _=>?_|refine Plain.bindM (L:=aZ) aq fun _ _=>?_|split|dsimp only))
theorem fN {s n:Nat}{x:Value}:Plain P aZ (Builtin.firstCells s n x):=by
 unfold Builtin.firstCells
 (repeat' (with_reducible first|exact ae|exact aq|exact ay|exact aL|exact ar|exact aG|exact al|exact au|exact ai|exact ag|exact aF|exact aE|exact ab|exact ah|exact af|exact am|exact aw|exact ao|exact ax|exact ak|exact ap|refine(av _).bindM fun _ _=>?_|refine(aJ _).bindM fun _ _=>?_|refine(aH _).bindM fun _ _=>?_|refine(aV _).bindM fun _ _=>?_|refine(aO _).bindM fun _ _=>?_|refine(al).bindM fun _ _=>?_|refine(au).bindM fun _ _=>?_|refine(ai).bindM fun _ _=>?_|refine(ag).bindM fun _ _=>?_|refine(aF).bindM fun _ _=>?_|refine(aE).bindM fun _ _=>?_|refine(ab).bindM fun _ _=>?_|refine(ah).bindM fun _ _=>?_|refine(af).bindM fun _ _=>?_|refine(am).bindM fun _ _=>?_|refine(aw).bindM fun _ _=>?_|refine(ao).bindM fun _ _=>?_|refine(ax).bindM fun _ _=>?_|refine(ak).bindM fun _ _=>?_|refine(ap).bindM fun _ _=>?_|refine Plain.bindM (L:=aZ) ae fun _ _=>?_|refine Plain.bindM (L:=aZ) aG fun _ _=>?_|refine Plain.bindM (L:=aZ) ar fun _ _=>?_|refine Plain.bindM (L:=aZ) ay fun _ _=>?_|refine Plain.bindM (L:=aZ) aq fun _ _=>?_|split|dsimp only))
theorem qp {T:TypeId}{i k:Nat}{v:Value}(hk:fU P T i=some k):Plain P aZ (Instr.fieldAt T v i):=by
 unfold Instr.fieldAt
 refine(av T).bindM fun d hd=>?_
 split
 ·rename_i fs
  unfold fU at hk
  rw[hd] at hk
  simp only at hk
  split
  ·rename_i f hf
   rw[hf] at hk
   simp only at hk
   refine af.bindM fun _ _=>?_
   unfold fieldPlace
   refine Plain.bindM (L:=aZ) (Plain.bindM (aJ _) fun n hn=>?_) fun _ _=>ae
   split at hk
   ·rename_i m hm
    unfold sizeT at hm
    rw[hn] at hm
    cases hm
    rw[if_neg (Nat.succ_ne_zero _)]
    exact ae
   ·cases hk
  ·exact aq
 ·exact aq
theorem sE {ats:Array TypeId}{T:TypeId}{vs:Array Value}:Plain P aZ (Builtin.append_ ats T vs):=by
 unfold Builtin.append_
 split
 ·refine(av _).bindM fun _ _=>?_
  split
  ·split
   ·refine(aJ _).bindM fun _ _=>?_
    extract_lets-underBinder jp
    have hjp:∀b,Plain P aZ (jp b):=by
     intro zeros
     dsimp-zeta only[jp]
     extract_lets-underBinder jp2
     have hjp2:∀n,Plain P aZ (jp2 n):=by
      intro n
      dsimp-zeta only[jp2]
      extract_lets-underBinder app need
      have happ:Plain P aZ app:=by
       dsimp-zeta only[app]
       (repeat' (with_reducible first|exact ae|exact aq|exact ay|exact aL|exact ar|exact aG|exact al|exact au|exact ai|exact ag|exact aF|exact aE|exact ab|exact ah|exact af|exact am|exact aw|exact ao|exact ax|exact ak|exact ap|exact fN|refine(av _).bindM fun _ _=>?_|refine(aJ _).bindM fun _ _=>?_|refine(aH _).bindM fun _ _=>?_|refine(aV _).bindM fun _ _=>?_|refine(aO _).bindM fun _ _=>?_|refine(al).bindM fun _ _=>?_|refine(au).bindM fun _ _=>?_|refine(ai).bindM fun _ _=>?_|refine(ag).bindM fun _ _=>?_|refine(aF).bindM fun _ _=>?_|refine(aE).bindM fun _ _=>?_|refine(ab).bindM fun _ _=>?_|refine(ah).bindM fun _ _=>?_|refine(af).bindM fun _ _=>?_|refine(am).bindM fun _ _=>?_|refine(aw).bindM fun _ _=>?_|refine(ao).bindM fun _ _=>?_|refine(ax).bindM fun _ _=>?_|refine(ak).bindM fun _ _=>?_|refine(ap).bindM fun _ _=>?_|refine(fN).bindM fun _ _=>?_|refine Plain.bindM (L:=aZ) ae fun _ _=>?_|refine Plain.bindM (L:=aZ) aG fun _ _=>?_|refine Plain.bindM (L:=aZ) ar fun _ _=>?_|refine Plain.bindM (L:=aZ) ay fun _ _=>?_|refine Plain.bindM (L:=aZ) aq fun _ _=>?_|split|dsimp only))
      clear_value app need
      split
      ·refine happ.bindM fun _ _=>?_
       (repeat' (with_reducible first|exact ae|exact aq|exact ay|exact aL|exact ar|exact aG|exact al|exact au|exact ai|exact ag|exact aF|exact aE|exact ab|exact ah|exact af|exact am|exact aw|exact ao|exact ax|exact ak|exact ap|exact(cG _ _ _)|refine(av _).bindM fun _ _=>?_|refine(aJ _).bindM fun _ _=>?_|refine(aH _).bindM fun _ _=>?_|refine(aV _).bindM fun _ _=>?_|refine(aO _).bindM fun _ _=>?_|refine(al).bindM fun _ _=>?_|refine(au).bindM fun _ _=>?_|refine(ai).bindM fun _ _=>?_|refine(ag).bindM fun _ _=>?_|refine(aF).bindM fun _ _=>?_|refine(aE).bindM fun _ _=>?_|refine(ab).bindM fun _ _=>?_|refine(ah).bindM fun _ _=>?_|refine(af).bindM fun _ _=>?_|refine(am).bindM fun _ _=>?_|refine(aw).bindM fun _ _=>?_|refine(ao).bindM fun _ _=>?_|refine(ax).bindM fun _ _=>?_|refine(ak).bindM fun _ _=>?_|refine(ap).bindM fun _ _=>?_|refine((cG _ _ _)).bindM fun _ _=>?_|refine Plain.bindM (L:=aZ) ae fun _ _=>?_|refine Plain.bindM (L:=aZ) aG fun _ _=>?_|refine Plain.bindM (L:=aZ) ar fun _ _=>?_|refine Plain.bindM (L:=aZ) ay fun _ _=>?_|refine Plain.bindM (L:=aZ) aq fun _ _=>?_|split|dsimp only))
      ·refine(aH _).bindM fun _ _=>?_
       extract_lets-underBinder jp3
       have hjp3:∀b,Plain P aZ (jp3 b):=by
        intro b
        dsimp-zeta only[jp3]
        refine(aH _).bindM fun _ _=>?_
        extract_lets-underBinder jp4
        have hjp4:∀b,Plain P aZ (jp4 b):=by
         intro b
         dsimp-zeta only[jp4]
         refine ap.bindM fun _ _=>(aH _).bindM fun _ _=>ah.bindM fun _ _=>fN.bindM fun _ _=>happ.bindM fun _ _=>(aV _).bindM fun _ _=>al.bindM fun _ _=>ae
        clear_value jp4
        split
        ·refine Plain.bindM (L:=aZ) ?_ fun _ _=>hjp4 _
         split
         ·exact aG
         ·refine Dead.plain (Dead.bindM' fun _=>?_)
          split
          ·exact Dead.bindM' fun _=>oD
          ·exact oD
        ·exact hjp4 _
       clear_value jp3
       split
       ·exact Plain.bindM (L:=aZ) aG fun _ _=>hjp3 _
       ·exact hjp3 _
     clear_value jp2
     (repeat' (with_reducible first|exact ae|exact aq|exact ay|exact aL|exact ar|exact aG|exact al|exact au|exact ai|exact ag|exact aF|exact aE|exact ab|exact ah|exact af|exact am|exact aw|exact ao|exact ax|exact ak|exact ap|exact gY|exact(hjp2 _)|refine(av _).bindM fun _ _=>?_|refine(aJ _).bindM fun _ _=>?_|refine(aH _).bindM fun _ _=>?_|refine(aV _).bindM fun _ _=>?_|refine(aO _).bindM fun _ _=>?_|refine(al).bindM fun _ _=>?_|refine(au).bindM fun _ _=>?_|refine(ai).bindM fun _ _=>?_|refine(ag).bindM fun _ _=>?_|refine(aF).bindM fun _ _=>?_|refine(aE).bindM fun _ _=>?_|refine(ab).bindM fun _ _=>?_|refine(ah).bindM fun _ _=>?_|refine(af).bindM fun _ _=>?_|refine(am).bindM fun _ _=>?_|refine(aw).bindM fun _ _=>?_|refine(ao).bindM fun _ _=>?_|refine(ax).bindM fun _ _=>?_|refine(ak).bindM fun _ _=>?_|refine(ap).bindM fun _ _=>?_|refine(gY).bindM fun _ _=>?_|refine((hjp2 _)).bindM fun _ _=>?_|refine Plain.bindM (L:=aZ) ae fun _ _=>?_|refine Plain.bindM (L:=aZ) aG fun _ _=>?_|refine Plain.bindM (L:=aZ) ar fun _ _=>?_|refine Plain.bindM (L:=aZ) ay fun _ _=>?_|refine Plain.bindM (L:=aZ) aq fun _ _=>?_|split|dsimp only))
    clear_value jp
    split
    ·exact(av _).bindM fun _ _=>hjp _
    ·exact hjp _
   ·exact aq
  ·exact aq
 ·exact aq
theorem wS {ats:Array TypeId}{T:TypeId}{vs:Array Value}:Plain P aZ (Builtin.copy_ ats T vs):=by
 unfold Builtin.copy_
 (repeat' (with_reducible first|exact ae|exact aq|exact ay|exact aL|exact ar|exact aG|exact al|exact au|exact ai|exact ag|exact aF|exact aE|exact ab|exact ah|exact af|exact am|exact aw|exact ao|exact ax|exact ak|exact ap|exact gY|exact fN|exact(cG _ _ _)|refine(av _).bindM fun _ _=>?_|refine(aJ _).bindM fun _ _=>?_|refine(aH _).bindM fun _ _=>?_|refine(aV _).bindM fun _ _=>?_|refine(aO _).bindM fun _ _=>?_|refine(al).bindM fun _ _=>?_|refine(au).bindM fun _ _=>?_|refine(ai).bindM fun _ _=>?_|refine(ag).bindM fun _ _=>?_|refine(aF).bindM fun _ _=>?_|refine(aE).bindM fun _ _=>?_|refine(ab).bindM fun _ _=>?_|refine(ah).bindM fun _ _=>?_|refine(af).bindM fun _ _=>?_|refine(am).bindM fun _ _=>?_|refine(aw).bindM fun _ _=>?_|refine(ao).bindM fun _ _=>?_|refine(ax).bindM fun _ _=>?_|refine(ak).bindM fun _ _=>?_|refine(ap).bindM fun _ _=>?_|refine(gY).bindM fun _ _=>?_|refine(fN).bindM fun _ _=>?_|refine((cG _ _ _)).bindM fun _ _=>?_|refine Plain.bindM (L:=aZ) ae fun _ _=>?_|refine Plain.bindM (L:=aZ) aG fun _ _=>?_|refine Plain.bindM (L:=aZ) ar fun _ _=>?_|refine Plain.bindM (L:=aZ) ay fun _ _=>?_|refine Plain.bindM (L:=aZ) aq fun _ _=>?_|split|dsimp only))
theorem zt (s:Sim P w0 S A N ρ t h a w){T ty:TypeId}{d d':D}{v:Value}(hd:om P h T d=some d')(hv:C ρ (Live h) (okOf A ρ h w) w d v):Plain P aZ (Builtin.len_ #[T] ty #[v]):=by
 unfold om at hd
 split at hd
 ·rename_i hu
  split at hd
  ·obtain rfl:=hv.str_inv
   refine(av T).bindM fun u hu'=>?_
   rw[hu] at hu';cases hu'
   exact ae
  ·cases hd
 ·rename_i E hu
  obtain⟨l,hl,rfl⟩:=bj.1 hd
  obtain⟨a',cap,rfl,_⟩:=s.slice hl hv
  refine(av T).bindM fun u hu'=>?_
  rw[hu] at hu';cases hu'
  exact ae
 ·cases hd
theorem nt {α β:Type}{f:α→β→Sem (ForInStep β)}(hf:∀a b,Plain P aZ (f a b)):∀(l:List α) (b:β),Plain P aZ (forIn l b f)
 |[],b=>by rw[List.forIn_nil];exact ae
 |x::l,b=>by
  rw[List.forIn_cons]
  refine(hf x b).bindM fun r _=>?_
  split
  ·exact ae
  ·exact nt hf l _
theorem wR (s:Sim P w0 S A N ρ t h a w){src dst:TypeId}{d d':D}{v:Value}(hd:jl P h src dst d=some d')(hv:C ρ (Live h) (okOf A ρ h w) w d v):Plain P aZ (convert src dst v):=by
 unfold jl at hd
 unfold convert
 refine(av src).bindM fun u hu=>(av dst).bindM fun u' hu'=>?_
 rw[hu,hu'] at hd
 split at hd
 ·rename_i k sd e1 e2
  cases e1;cases e2
  split at hd
  ·obtain rfl:=hv.int_inv
   unfold Conv.intToInt
   exact ae
  ·cases hd
 ·rename_i E e1 e2
  cases e1;cases e2
  split at hd
  ·rename_i hE hsz
   split at hd
   ·rename_i l hl
    obtain⟨a',cap,rfl,_⟩:=s.slice hl hv
    refine(av _).bindM fun u3 hu3=>?_
    rw[hE] at hu3;cases hu3
    show Plain P aZ (Conv.bytesToString _)
    unfold Conv.bytesToString
    cases a' with
    |none=>exact ae
    |some a'=>
     refine ab.bindM fun cs _=>?_
     rw[←Array.forIn_toList]
     refine Plain.bindM (nt (fun c b=>?_) _ _) fun _ _=>ae
     split
     ·exact ae
     ·exact Plain.bindM (L:=aZ) aq fun _ _=>ae
   ·cases hd
  ·cases hd
 ·rename_i sd e1 e2
  cases e1;cases e2
  split at hd
  ·obtain rfl:=hv.str_inv
   rename_i hne _ _ _
   cases u<;>exact ae
  ·cases hd
 ·cases hd
theorem fq {op:BinOp}{T:TypeId}{x y:Operand}{u v:Value}(h1:u≠ .nilIface)(h2:∀cs,u≠ .agg cs):eqGuard op T x y u v=pure ():=by
 unfold eqGuard
 cases op<;>first|rfl|(cases u<;>first|rfl|exact absurd rfl h1|exact absurd rfl (h2 _))
theorem gX {T:TypeId}{u v:Value}(h:(∃p q,u= .bool p∧v= .bool q)∨(∃E,P.underlying T=some (.pointer E)∧((u= .pointer none∧∃q,v= .pointer q)∨(v= .pointer none∧∃q,u= .pointer q)))∨
  (∃E,P.underlying T=some (.slice E)∧((∃b n c,u= .slice b n c)∧v= .slice none 0 0))):Plain P aZ (Op.equal T u v):=by
 have key:∀k,Plain P aZ (Op.equalIn (k+1) T u v):=by
  intro k
  unfold Op.equalIn
  refine(av T).bindM fun d hd=>?_
  rcases h with⟨p,q,rfl,rfl⟩|⟨E,hu,h⟩|⟨E,hu,⟨b,n,c,rfl⟩,rfl⟩
  ·cases d<;>first|exact ae|exact aq
  ·rw[hu] at hd;cases hd
   rcases h with⟨rfl,q,rfl⟩|⟨rfl,q,rfl⟩
   ·exact ae
   ·cases q<;>exact ae
  ·rw[hu] at hd;cases hd
   cases b<;>exact ae
 exact key 9999
theorem zq {op:BinOp}{T:TypeId}{x y:Operand}{d1 d2 d:D}{v1 v2:Value}{L:Id→Prop}{ok:Nat→Prop}(hd:eJ op d1 d2=some d)(h1:C ρ L ok w d1 v1)(h2:C ρ L ok w d2 v2):
  Plain P aZ (do eqGuard op T x y v1 v2;binOp op T v1 v2:Sem Value):=by
 unfold eJ at hd
 split at hd
 ·obtain rfl:=h1.int_inv
  obtain rfl:=h2.int_inv
  rw[fq (by simp) (by simp)]
  refine Plain.bindM (L:=aZ) ae fun _ _=>?_
  cases op<;>(unfold binOp;(try simp only[Op.shift,Op.intArith,Op.intDiv,Op.intBits,Op.intCmp]);(repeat' (with_reducible first|exact ae|exact aq|exact ay|exact aL|exact ar|exact aG|exact al|exact au|exact ai|exact ag|exact aF|exact aE|exact ab|exact ah|exact af|exact am|exact aw|exact ao|exact ax|exact ak|exact ap|refine(av _).bindM fun _ _=>?_|refine(aJ _).bindM fun _ _=>?_|refine(aH _).bindM fun _ _=>?_|refine(aV _).bindM fun _ _=>?_|refine(aO _).bindM fun _ _=>?_|refine(al).bindM fun _ _=>?_|refine(au).bindM fun _ _=>?_|refine(ai).bindM fun _ _=>?_|refine(ag).bindM fun _ _=>?_|refine(aF).bindM fun _ _=>?_|refine(aE).bindM fun _ _=>?_|refine(ab).bindM fun _ _=>?_|refine(ah).bindM fun _ _=>?_|refine(af).bindM fun _ _=>?_|refine(am).bindM fun _ _=>?_|refine(aw).bindM fun _ _=>?_|refine(ao).bindM fun _ _=>?_|refine(ax).bindM fun _ _=>?_|refine(ak).bindM fun _ _=>?_|refine(ap).bindM fun _ _=>?_|refine Plain.bindM (L:=aZ) ae fun _ _=>?_|refine Plain.bindM (L:=aZ) aG fun _ _=>?_|refine Plain.bindM (L:=aZ) ar fun _ _=>?_|refine Plain.bindM (L:=aZ) ay fun _ _=>?_|refine Plain.bindM (L:=aZ) aq fun _ _=>?_|split|dsimp only)))
 ·obtain rfl:=h1.str_inv
  obtain rfl:=h2.str_inv
  rw[fq (by simp) (by simp)]
  refine Plain.bindM (L:=aZ) ae fun _ _=>?_
  cases op<;>(unfold binOp;(try simp only[Op.stringOp]);(repeat' (with_reducible first|exact ae|exact aq|exact ay|exact aL|exact ar|exact aG|exact al|exact au|exact ai|exact ag|exact aF|exact aE|exact ab|exact ah|exact af|exact am|exact aw|exact ao|exact ax|exact ak|exact ap|refine(av _).bindM fun _ _=>?_|refine(aJ _).bindM fun _ _=>?_|refine(aH _).bindM fun _ _=>?_|refine(aV _).bindM fun _ _=>?_|refine(aO _).bindM fun _ _=>?_|refine(al).bindM fun _ _=>?_|refine(au).bindM fun _ _=>?_|refine(ai).bindM fun _ _=>?_|refine(ag).bindM fun _ _=>?_|refine(aF).bindM fun _ _=>?_|refine(aE).bindM fun _ _=>?_|refine(ab).bindM fun _ _=>?_|refine(ah).bindM fun _ _=>?_|refine(af).bindM fun _ _=>?_|refine(am).bindM fun _ _=>?_|refine(aw).bindM fun _ _=>?_|refine(ao).bindM fun _ _=>?_|refine(ax).bindM fun _ _=>?_|refine(ak).bindM fun _ _=>?_|refine(ap).bindM fun _ _=>?_|refine Plain.bindM (L:=aZ) ae fun _ _=>?_|refine Plain.bindM (L:=aZ) aG fun _ _=>?_|refine Plain.bindM (L:=aZ) ar fun _ _=>?_|refine Plain.bindM (L:=aZ) ay fun _ _=>?_|refine Plain.bindM (L:=aZ) aq fun _ _=>?_|split|dsimp only)))
 ·cases hd
theorem sG {op:BinOp}{T:TypeId}{x y:Operand}{d1 d2 d:D}{v1 v2:Value}{L:Id→Prop}{ok:Nat→Prop}(hd:dj op T P d1 d2=some d)(h1:C ρ L ok w d1 v1)(h2:C ρ L ok w d2 v2):
  Plain P aZ (do eqGuard op T x y v1 v2;binOp op T v1 v2:Sem Value):=by
 unfold dj at hd
 split at hd
 ·split at hd
  ·obtain rfl:=h1.bool_inv;obtain rfl:=h2.bool_inv
   rw[fq (by simp) (by simp)]
   exact Plain.bindM (L:=aZ) ae fun _ _=>(gX (.inl ⟨_,_,rfl,rfl⟩)).bindM fun _ _=>ae
  ·obtain rfl:=h1.bool_inv;obtain rfl:=h2.bool_inv
   rw[fq (by simp) (by simp)]
   exact Plain.bindM (L:=aZ) ae fun _ _=>(gX (.inl ⟨_,_,rfl,rfl⟩)).bindM fun _ _=>ae
  ·cases hd
 ·cases hd
theorem wQ {op:BinOp}{T:TypeId}{x y:Operand}{d1 d2 d:D}{v1 v2:Value}{L:Id→Prop}{ok:Nat→Prop}(hd:dn P op T d1 d2=some d)(h1:C ρ L ok w d1 v1)(h2:C ρ L ok w d2 v2):
  Plain P aZ (do eqGuard op T x y v1 v2;binOp op T v1 v2:Sem Value):=by
 unfold dn at hd
 split at hd
 ·rename_i E hu
  have fin:∀p q:Option Addr,(p=none∨q=none)→(op= .eql∨op= .neq)→Plain P aZ (do eqGuard op T x y (.pointer p) (.pointer q);binOp op T (.pointer p) (.pointer q):Sem Value):=by
   intro p q hpq hop
   rw[fq (by simp) (by simp)]
   have he:Plain P aZ (Op.equal T (.pointer p) (.pointer q)):=gX (.inr (.inl ⟨E,hu,by
    rcases hpq with rfl|rfl
    ·exact .inl ⟨rfl,_,rfl⟩
    ·exact .inr ⟨rfl,_,rfl⟩⟩))
   rcases hop with rfl|rfl<;>exact Plain.bindM (L:=aZ) ae fun _ _=>he.bindM fun _ _=>ae
  split at hd
  ·obtain rfl:=h1.nilp_inv;obtain rfl:=h2.nilp_inv;exact fin _ _ (.inl rfl) (.inl rfl)
  ·obtain rfl:=h1.nilp_inv;obtain rfl:=h2.nilp_inv;exact fin _ _ (.inl rfl) (.inr rfl)
  ·split at hd
   ·rename_i hp;obtain rfl:=h1.nilp_inv;obtain⟨ad,rfl⟩:=h2.isPtr_inv hp;exact fin _ _ (.inl rfl) (.inl rfl)
   ·cases hd
  ·split at hd
   ·rename_i hp;obtain rfl:=h1.nilp_inv;obtain⟨ad,rfl⟩:=h2.isPtr_inv hp;exact fin _ _ (.inl rfl) (.inr rfl)
   ·cases hd
  ·split at hd
   ·rename_i hp;obtain rfl:=h2.nilp_inv;obtain⟨ad,rfl⟩:=h1.isPtr_inv hp;exact fin _ _ (.inr rfl) (.inl rfl)
   ·cases hd
  ·split at hd
   ·rename_i hp;obtain rfl:=h2.nilp_inv;obtain⟨ad,rfl⟩:=h1.isPtr_inv hp;exact fin _ _ (.inr rfl) (.inr rfl)
   ·cases hd
  ·cases hd
 ·rename_i E hu
  have fin:∀{b:Bool},qU d1=some b→v2= .slice none 0 0→(op= .eql∨op= .neq)→Plain P aZ (do eqGuard op T x y v1 v2;binOp op T v1 v2:Sem Value):=by
   rintro b hb rfl hop
   obtain⟨q,n,c,rfl,_⟩:=oW hb h1
   rw[fq (by simp) (by simp)]
   have he:Plain P aZ (Op.equal T (.slice q n c) (.slice none 0 0)):=gX (.inr (.inr ⟨E,hu,⟨_,_,_,rfl⟩,rfl⟩))
   rcases hop with rfl|rfl<;>exact Plain.bindM (L:=aZ) ae fun _ _=>he.bindM fun _ _=>ae
  split at hd
  ·obtain⟨b,hb,_⟩:=bj.1 hd
   exact fin hb h2.nils_inv (.inl rfl)
  ·obtain⟨b,hb,_⟩:=bj.1 hd
   exact fin hb h2.nils_inv (.inr rfl)
  ·cases hd
 ·cases hd
theorem uI (s:Sim P w0 S A N ρ t h a w){m:Bool}{o:Oper}{n:Nat}{d:D}{u:HL}(hd:cQ P m o.op t h n=some (d,u)):Plain P CL (execOp a.eval o):=by
 obtain⟨dst,op,ty,pos,after,guard⟩:=o
 simp only at hd
 unfold execOp
 cases op<;>simp only[cQ] at hd<;>dsimp only
 case move x=>exact Plain.ret (.inr ⟨_,rfl⟩)
 case assign x=>exact Plain.ret (.inr ⟨_,rfl⟩)
 case pick c x y=>exact ao.bindM fun b _=>Plain.ret (.inr ⟨_,rfl⟩)
 case alloc T=>exact b9 uD
 case box T x=>exact b9 zr
 case build T ps=>exact b9 uE
 case buildSlice T len ps=>exact b9 mX
 case load T x=>exact b9 sH
 case store T x y=>exact C5 qs
 case nilCheck x=>
  obtain⟨z,h1,h2⟩:=bu.1 hd
  split at h2
  ·rename_i hp
   have hc:=s.eval h1
   obtain⟨ad,e⟩:=hc.isPtr_inv hp
   rw[e]
   exact Plain.ret (.inr ⟨_,rfl⟩)
  ·cases h2
 case binOp op T x y yT=>
  obtain⟨z1,h1,h2⟩:=bu.1 hd
  obtain⟨z2,h3,h4⟩:=bu.1 h2
  refine b9 ?_
  split at h4
  ·rename_i r hr;exact zq hr (s.evalF h1) (s.evalF h3)
  ·split at h4
   ·rename_i r hr;exact wQ hr (s.evalF h1) (s.evalF h3)
   ·split at h4
    ·rename_i r hr;exact sG hr (s.evalF h1) (s.evalF h3)
    ·simp[mq,oo,my] at h4
 case unOp op T x=>exact b9 uL
 case convert src dst' x=>
  obtain⟨z,h1,h2⟩:=bu.1 hd
  obtain⟨d',h3,h4⟩:=bj.1 h2
  exact b9 (wR s h3 (s.evalF h1))
 case makeInterface T x=>exact b9 uH
 case makeFunc fn first captured=>exact b9 wT
 case typeAssert x xT T ok=>exact b9 sF
 case makeSlice T l c=>exact b9 nH
 case slice T x lo hi mx=>exact b9 qr
 case fieldAddr T x f=>
  obtain⟨z,h1,h2⟩:=bu.1 hd
  obtain⟨d',h3,h4⟩:=bj.1 h2
  refine b9 ?_
  have:∃k,fU P T f=some k:=by
   cases z<;>simp[fj] at h3<;>(obtain⟨k,hk,_⟩:=h3;exact⟨k,hk⟩)
  exact qp this.choose_spec
 case field T x f=>exact b9 uF
 case indexAddr T x i=>exact b9 qq
 case index T x i=>exact b9 uG
 case extract x i=>exact b9 qo
 case call c=>
  obtain⟨callee,args,argTypes⟩:=c
  cases callee with
  |value f=>cases hd
  |invoke r nm=>cases hd
  |builtin b=>
   simp only at hd
   obtain⟨ds,hds,hd2⟩:=bu.1 hd
   clear hd
   have hd:=hd2
   clear hd2
   unfold dp at hd
   split at hd
   ·rename_i d1 T hta
    obtain⟨x,hca,h1⟩:=oJ hds
    have ea:args= #[x]:=Array.ext' (by simpa using hca)
    have et:argTypes= #[T]:=Array.ext' (by simpa using hta)
    subst ea et
    obtain⟨d',h3,h4⟩:=bj.1 hd
    simp only[resolve,invoke,builtin,pure_bind,List.map_toArray,bI,dt]
    exact b9 (zt s h3 (s.evalF h1))
   ·exact b9 sE
   ·exact b9 wS
   ·obtain⟨x,y,hca,h1,h3⟩:=fm hds
    have ea:args= #[x,y]:=Array.ext' (by simpa using hca)
    subst ea
    have e1:=(s.evalF h1).int_inv
    have e2:=(s.evalF h3).int_inv
    simp[resolve,invoke,builtin,Builtin.min_,Builtin.min2,e1,e2]
    exact Plain.ret (.inr ⟨_,rfl⟩)
   ·obtain⟨x,y,hca,h1,h3⟩:=fm hds
    have ea:args= #[x,y]:=Array.ext' (by simpa using hca)
    subst ea
    have e1:=(s.evalF h1).int_inv
    have e2:=(s.evalF h3).int_inv
    simp[resolve,invoke,builtin,Builtin.max_,Builtin.max2,e1,e2]
    exact Plain.ret (.inr ⟨_,rfl⟩)
   ·cases hd
 all_goals cases hd
end
end Go.Proofs.Ytbmnihglaokhmaa.Am
namespace Go.Proofs.Ytbmnihglaokhmaa.Reg
open Go
structure Eff (R:World→World→Prop) where
 ι:Type
 dflt:ι
 val:ι→Value
 post:Value→ι→World→Prop
 keep:∀c i w w',R w w'→post c i w→post c i w'
def DH (o:Oper)(ev:Operand→Value):Value:=match o.op with| .store _ x _=>ev x|_=>undef
abbrev zU:=List (Nat×(World→Prop))
def EC:Exit→Act→World→Prop:=fun _ _ _=>False
def uP (w:World)(v:Value):Result Next→Prop
 | .ok (.value u) w'=>w'=w∧u=v
 | .ok .skip w'=>w'=w∧undef=v
 |_=>False
attribute [go_sem] uP
section
variable (P:Program) (ops:Array Oper) (B:World→Prop) (R:World→World→Prop) (dep:Nat→List Nat) (E:Nat→Option (Eff R))
def DA (kn:zU)(k:Nat)(w:World):Prop:=B w∧∀x∈kn,(dep k).contains x.1=true→x.2 w
def Cz (o:Oper)(a:Act)(w:World)(f:Eff R)(a':Act)(w':World):Prop:=B w'∧R w w'∧∃i,a'=a.put o.dst (f.val i)∧f.post (DH o a.eval) i w'
end
section
variable {P:Program} {ops:Array Oper} {B:World→Prop} {R:World→World→Prop} {dep:Nat→List Nat} {E:Nat→Option (Eff R)}
def okB (ops:Array Oper)(dep:Nat→List Nat):Bool:=
 Region.noSelect ops &&
 (List.range ops.size).all fun k=>match ops[k]? with
  |none=>true
  |some o=>
   (o.after.toList.all fun e=>!Region.binds .any e||decide (e.on<k)) &&
   ((dep k).all fun j=>o.after.toList.any fun e=>Region.binds .any e && (e.on==j||(dep e.on).contains j)) &&
   (List.range k).all fun j=>match ops[j]? with
    |none=>true
    |some oj=>(o.after.toList.any fun e=>Region.binds .any e && e.on==j)||oj.apart ops o
theorem okB_back {k:Nat}{o:Oper}(h:okB ops dep=true)(hk:ops[k]?=some o):∀e∈o.after,Region.binds .any e=true→e.on<k:=by
 intro e he hb
 simp only[okB,Bool.and_eq_true,List.all_eq_true] at h
 have h1:=h.2 k (by simpa using(Array.getElem?_eq_some_iff.1 hk).1)
 simp only[hk,Bool.and_eq_true,List.all_eq_true] at h1
 have h2:=h1.1.1 e (Array.mem_toList_iff.2 he)
 simpa[hb] using h2
theorem okB_dep {k j:Nat}{o:Oper}(h:okB ops dep=true)(hk:ops[k]?=some o)(hj:(dep k).contains j=true):∃e∈o.after,Region.binds .any e=true∧(e.on=j∨j∈dep e.on):=by
 simp only[okB,Bool.and_eq_true,List.all_eq_true] at h
 have h1:=h.2 k (by simpa using(Array.getElem?_eq_some_iff.1 hk).1)
 simp only[hk,Bool.and_eq_true,List.all_eq_true] at h1
 have h2:=h1.1.2 j (by simpa using hj)
 obtain⟨e,he,hb⟩:=List.any_eq_true.1 h2
 simp only[Bool.and_eq_true,Bool.or_eq_true,beq_iff_eq,List.contains_iff_mem] at hb
 exact⟨e,Array.mem_toList_iff.1 he,hb.1,hb.2⟩
theorem okB_apart {k j:Nat}{o oj:Oper}(h:okB ops dep=true)(hk:ops[k]?=some o)(hj:ops[j]?=some oj)(hlt:j<k):(∃e∈o.after,Region.binds .any e=true∧e.on=j)∨oj.apart ops o=true:=by
 simp only[okB,Bool.and_eq_true,List.all_eq_true] at h
 have h1:=h.2 k (by simpa using(Array.getElem?_eq_some_iff.1 hk).1)
 simp only[hk,Bool.and_eq_true,List.all_eq_true] at h1
 have h2:=h1.2 j (by simpa using hlt)
 simp only[hj,Bool.or_eq_true] at h2
 rcases h2 with h2|h2
 ·obtain⟨e,he,hb⟩:=List.any_eq_true.1 h2
  simp only[Bool.and_eq_true,beq_iff_eq] at hb
  exact .inl ⟨e,Array.mem_toList_iff.1 he,hb.1,hb.2⟩
 ·exact .inr h2
def Cg (g:Option (Tmp×Bool))(a:Act):Bool:=
 match g with
 |none=>true
 |some (t,want)=>(match a.tmps[t]? with|some (.bool b)=>some b|_=>none)==some want
def wpG (P:Program)(B:World→Prop)(R:World→World→Prop)(dep:Nat→List Nat)(Q:Act→World→Prop):List Oper→List (Option (Tmp×Bool))→List (Option (Eff R))→Nat→Act→zU→Prop
 |[],_,_,_,a,kn=>∀w,B w→(∀x∈kn,x.2 w)→Q a w
 |o::rest,gs,Es,k,a,kn=>
  if Cg (gs.headD none) a then
   match Es.headD none with
   |none=>∃v,(∀w,DA B dep kn k w→uP w v ((execOp a.eval o).run P w))∧wpG P B R dep Q rest gs.tail Es.tail (k+1) (a.put o.dst v) kn
   |some f=>(∀w,DA B dep kn k w→o.wp P a w (Cz B R o a w f) EC)∧∀i,wpG P B R dep Q rest gs.tail Es.tail (k+1) (a.put o.dst (f.val i)) ((k,f.post (DH o a.eval) i)::kn)
  else wpG P B R dep Q rest gs.tail Es.tail (k+1) (a.put o.dst undef) kn
section
variable {Q:Act→World→Prop} {o:Oper} {rest:List Oper} {k:Nat} {tm:Array Value} {ds:List Deferred} {kn:zU} {gs:List (Option (Tmp×Bool))} {Es:List (Option (Eff R))}
def putT (tm:Array Value)(d:Option Tmp)(v:Value):Array Value:=match d with|some d=>tm.setIfInBounds d v|none=>tm
theorem EL (d:Option Tmp)(v:Value):(Act.mk tm ds).put d v=⟨putT tm d v,ds⟩:=by cases d<;>rfl
theorem vt {t:Tmp}{want b:Bool}{tm':Array Value}{E:Option (Eff R)}(hv:tm[t]?=some (.bool b))(hb:(b==want)=false)(ht:putT tm o.dst undef=tm')(h:wpG P B R dep Q rest gs Es (k+1) ⟨tm',ds⟩ kn):wpG P B R dep Q (o::rest) (some (t,want)::gs) (E::Es) k ⟨tm,ds⟩ kn:=by
 have hw:Cg (some (t,want)) ⟨tm,ds⟩=false:=by simpa[Cg,hv] using hb
 simp only[wpG,List.headD_cons,hw,List.tail_cons,EL,ht]
 exact h
end
def Low (w w':World):Prop:=RowKit.Below w.heap.size w w'
theorem Low.out {w w':World}(h:Low w w'):RowKit.Below w.heap.size w w':=h
theorem Low.step {w w1 w2:World}(h:Low w w1)(k:RowKit.Below w1.heap.size w1 w2):Low w w2:=RowKit.Below.trans h (k.mono (RowKit.Below.size h))
theorem Low.refl (w:World):Low w w:=RowKit.Below.refl _ _
end
end Go.Proofs.Ytbmnihglaokhmaa.Reg
namespace Go.Proofs.Ytbmnihglaokhmaa.Am
open Go Go.RowKit Go.Conc
variable {P:Program} {w0:World} {S:SD} {A:Nat→Prop} {N:Nat} {ρ:Id→Pl} {t:List (Nat×D)} {h h':HL} {a:Act} {w:World}
theorem tb {T:TypeId}{d:D}(ha:Agree (kJ (aA d)) h h'):cP P h T d=cP P h' T d:=by
 cases d<;>try rfl
 case ptr b o=>simp only[cP,ha b (cL (by simp[aA]))]
 case eptr b i o=>simp only[cP,ha b (cL (by simp[aA]))]
theorem rH {T:TypeId}{d e:D}(ha:Agree (kJ (aA d)) h h'):fk P h T d e=fk P h' T d e:=by
 cases d<;>try rfl
 case ptr b o=>simp only[fk,ha b (cL (by simp[aA]))]
 case eptr b i o=>simp only[fk,ha b (cL (by simp[aA]))]
theorem mw {T:TypeId}{d e:D}(ha:Agree (kJ (aA d)) h h'):bL P h T d e=bL P h' T d e:=by
 unfold bL
 rw[eD ha]
 cases d<;>try rfl
 case ref b=>simp only[ha b (cL (by simp[aA]))]
theorem vG {T:TypeId}{d:D}(ha:Agree (kJ (aA d)) h h'):om P h T d=om P h' T d:=by
 unfold om;rw[eD ha]
theorem s8 {s T:TypeId}{d:D}(ha:Agree (kJ (aA d)) h h'):jl P h s T d=jl P h' s T d:=by
 unfold jl;rw[eD ha]
theorem qc {n:Id}{T:TypeId}{d e:D}(ha:Agree (kJ (aA d)) h h')(he:Agree (kJ (aA e)) h h'):gQ P h n T d e=gQ P h' n T d e:=by
 unfold gQ
 rw[eD he]
 cases d<;>try rfl
 case ref b=>simp only[ha b (cL (by simp[aA]))]
theorem og {n:Id}{T T':TypeId}{d e:D}(ha:Agree (kJ (aA d)) h h'):fG P h n T T' d e=fG P h' n T T' d e:=by
 unfold fG
 cases d<;>try rfl
 case ref b=>
  have hb:look h b=look h' b:=ha b (cL (by simp[aA]))
  cases e<;>try rfl
  simp only[hb]
theorem s9 {T:TypeId}{d e:D}(ha:Agree (kJ (aA d)) h h')(he:Agree (kJ (aA e)) h h'):ng P h T d e=ng P h' T d e:=by
 unfold ng
 rw[eD he]
 cases P.underlying T with
 |none=>rfl
 |some ty=>
  cases ty<;>try rfl
  cases d<;>try rfl
  rename_i b o n
  have hb:look h b=look h' b:=ha b (cL (by simp[aA]))
  dsimp only
  rw[hb]
theorem rG {q:Bool}{n:Id}{T:TypeId}{d:D}{l r:Option D}(ha:Agree (kJ (aA d)) h h'):eK P h q n T d l r=eK P h' q n T d l r:=by
 unfold eK
 rw[eD ha]
 cases d<;>try rfl
 case ref b=>simp only[ha b (cL (by simp[aA]))]
 case ptr b o=>
  have e:look h b=look h' b:=ha b (cL (by simp[aA]))
  cases P.underlying T with
  |none=>rfl
  |some ty=>
   cases ty<;>try rfl
   dsimp only
   rw[e]
theorem bA {α β:Type}{o:Option α}{f g:α→Option β}(h:∀x,o=some x→f x=g x):o.bind f=o.bind g:=by
 cases o with
 |none=>rfl
 |some x=>exact h x rfl
theorem rU {t':List (Nat×D)}{xs:List Operand}(ht:∀x∈xs,aW t x=aW t' x):evalDs t xs=evalDs t' xs:=bX ht
theorem rW {t':List (Nat×D)}{xs:List (Nat×Operand)}(ht:∀x∈xs,aW t x.2=aW t' x.2):evalPs t xs=evalPs t' xs:=bX fun x hx=>by rw[ht x hx]
theorem nj {t':List (Nat×D)}{x:Option Operand}(ht:∀y∈x,aW t y=aW t' y):iH t x=iH t' x:=by
 cases x with
 |none=>rfl
 |some x=>simp only[iH,ht x rfl]
def jx (t:List (Nat×D))(h:HL)(x:Operand):List Nat:=match aW t x with|some d=>kJ (aA d)++kJ (aA (fwd h d))|none=>[]
def rq (t:List (Nat×D))(h:HL)(xs:List Operand):List Nat:=xs.flatMap (jx t h)
theorem cA {x:Operand}{fs:List Nat}(hs:∀k∈jx t h x,k∈fs)(ha:Agree fs h h'):evalF t h x=evalF t h' x∧∀d,evalF t h x=some d→Agree (kJ (aA d)) h h':=by
 unfold jx at hs
 unfold evalF
 cases hd:aW t x with
 |none=>exact⟨rfl,fun d h=>by cases h⟩
 |some d=>
  rw[hd] at hs
  simp only[aM,aK]
  refine⟨yX fun b hb=>ha b (hs _ (dK _ hb)),?_⟩
  rintro _ rfl
  exact fun b hb=>ha b (hs _ (dA _ hb))
theorem rV {xs:List Operand}{fs:List Nat}(hs:∀x∈xs,∀k∈jx t h x,k∈fs)(ha:Agree fs h h'):evalFs t h xs=evalFs t h' xs∧∀ds,evalFs t h xs=some ds→∀d∈ds,Agree (kJ (aA d)) h h':=by
 refine⟨bX fun x hx=>(cA (hs x hx) ha).1,fun ds hd d hm=>?_⟩
 obtain⟨e,q⟩:=eO hd
 obtain⟨i,hi,rfl⟩:=p6 hm
 have hi':i<xs.length:=by omega
 obtain⟨y,h1,h2⟩:=q i hi' _ (a6 hi')
 rw[a6 hi] at h2
 obtain rfl:=bm h2
 exact(cA (hs _ (fh hi')) ha).2 _ h1
theorem qg {xs:List (Nat×Operand)}{fs:List Nat}(hs:∀x∈xs,∀k∈jx t h x.2,k∈fs)(ha:Agree fs h h'):evalFPs t h xs=evalFPs t h' xs∧∀ds,evalFPs t h xs=some ds→∀d∈ds,Agree (kJ (aA d.2)) h h':=by
 refine⟨bX fun x hx=>by rw[(cA (hs x hx) ha).1],fun ds hd d hm=>?_⟩
 obtain⟨e,q⟩:=eO hd
 obtain⟨i,hi,rfl⟩:=p6 hm
 have hi':i<xs.length:=by omega
 obtain⟨y,h1,h2⟩:=q i hi' _ (a6 hi')
 rw[a6 hi] at h2
 obtain rfl:=bm h2
 obtain⟨d,hd,he⟩:=bj.1 h1
 rw[←he]
 exact(cA (hs _ (fh hi')) ha).2 _ hd
set_option maxHeartbeats 1000000 in
theorem Dw {t':List (Nat×D)}{m:Bool}{op:Op}{n:Nat}(ht:∀x∈op.operands,aW t x=aW t' x):cQ P m op t h n=cQ P m op t' h n:=by
 have hf:∀x∈op.operands,evalF t h x=evalF t' h x:=fun x hx=>by unfold evalF;rw[ht x hx]
 cases op<;>simp only[Op.operands] at ht hf<;>try rfl
 case move x=>simp only[cQ,ht x (by simp)]
 case assign x=>simp only[cQ,ht x (by simp)]
 case pick c x y=>simp only[cQ,ht c (by simp),ht x (by simp),ht y (by simp)]
 case box T x=>simp only[cQ,ht x (by simp)]
 case build T ps=>simp only[cQ];rw[rW fun x hx=>ht x.2 (by simp;exact⟨x.1,by simpa using hx⟩)]
 case buildSlice T len ps=>
  have e:evalFPs t h ps.toList=evalFPs t' h ps.toList:=bX fun x hx=>by rw[hf x.2 (by simp;exact⟨x.1,by simpa using hx⟩)]
  simp only[cQ,e]
 case load T x=>simp only[cQ,hf x (by simp)]
 case store T x y=>simp only[cQ,hf x (by simp),hf y (by simp)]
 case nilCheck x=>simp only[cQ,ht x (by simp)]
 case binOp o T x y yT=>simp only[cQ,hf x (by simp),hf y (by simp)]
 case unOp o T x=>simp only[cQ,ht x (by simp)]
 case convert s T x=>simp only[cQ,hf x (by simp)]
 case makeInterface T x=>simp only[cQ,ht x (by simp)]
 case makeFunc fn first captured=>
  cases fn<;>try rfl
  simp only[cQ]
  split
  ·rw[rU fun x hx=>ht x (by simp;exact .inr (by simpa using hx))]
  ·rfl
 case typeAssert x T T' ok=>simp only[cQ,ht x (by simp)]
 case makeSlice T x y=>simp only[cQ,ht x (by simp),ht y (by simp)]
 case slice T x lo hi mx=>
  cases mx with
  |some m=>rfl
  |none=>
   have e1:iH t lo=iH t' lo:=nj fun y hy=>ht y (by simp only[Option.mem_def] at hy;subst hy;simp)
   have e2:iH t hi=iH t' hi:=nj fun y hy=>ht y (by simp only[Option.mem_def] at hy;subst hy;simp)
   simp only[cQ,hf x (by simp),e1,e2]
 case fieldAddr T x f=>simp only[cQ,ht x (by simp)]
 case field T x f=>simp only[cQ,ht x (by simp)]
 case indexAddr T x y=>simp only[cQ,hf x (by simp),ht y (by simp)]
 case index T x y=>simp only[cQ,ht x (by simp),ht y (by simp)]
 case extract x i=>simp only[cQ,ht x (by simp)]
 case call c=>
  obtain⟨callee,args,argTypes⟩:=c
  cases callee with
  |builtin b=>
   have e:evalFs t h args.toList=evalFs t' h args.toList:=bX fun x hx=>hf x (by simp only[Call.operands,Array.mem_append];exact .inr (j6.1 hx))
   simp only[cQ,e]
  |value f=>rfl
  |invoke r m=>rfl
theorem rF {o:BinOp}{T:TypeId}{d e:D}(_:Agree (kJ (aA d)) h h')(_:Agree (kJ (aA e)) h h'):my P o T h d e=my P o T h' d e:=rfl
def iN:Op→Bool
 | .load .. | .store .. | .buildSlice .. | .convert .. | .slice .. | .indexAddr .. | .binOp .. | .call ..=>true
 |_=>false
def vz (t:List (Nat×D))(h:HL)(op:Op):List Nat:=bif iN op then rq t h op.operands.toList else[]
set_option maxHeartbeats 1000000 in
theorem Dv {m:Bool}{op:Op}{n:Nat}{fs:List Nat}(hs:∀k∈vz t h op,k∈fs)(ha:Agree fs h h'):cQ P m op t h n=cQ P m op t h' n:=by
 have hx:iN op=true→∀x∈op.operands,evalF t h x=evalF t h' x∧∀d,evalF t h x=some d→Agree (kJ (aA d)) h h':=by
  intro hl x hx
  refine cA (fs:=fs) (fun k hk=>hs k ?_) ha
  unfold vz
  rw[hl]
  exact dM.2 ⟨x,j6.2 hx,hk⟩
 have sub:iN op=true→∀x∈op.operands,∀k∈jx t h x,k∈fs:=by
  intro hl x hx k hk
  refine hs k ?_
  unfold vz
  rw[hl]
  exact dM.2 ⟨x,j6.2 hx,hk⟩
 have lk1:∀{d:D},Agree (kJ (aA d)) h h'→∀b∈Ev d,look h b=look h' b:=fun hd b hb=>hd b (cL (AW _ b hb))
 cases op<;>try rfl
 case makeFunc fn first captured=>cases fn<;>rfl
 case buildSlice T len ps=>
  simp only[cQ]
  obtain⟨e1,e2⟩:=qg (h':=h') (xs:=ps.toList) (fs:=fs) (fun x hx=>sub rfl x.2 (by simp[Op.operands];exact⟨x.1,by simpa using hx⟩)) ha
  rw[←e1]
 case load T x=>
  simp only[cQ]
  obtain⟨e1,e2⟩:=hx rfl x (by simp[Op.operands])
  rw[←e1]
  refine bA fun d hd=>?_
  rw[tb (e2 d hd)]
 case store T x y=>
  simp only[cQ]
  obtain⟨e1,e2⟩:=hx rfl x (by simp[Op.operands])
  obtain⟨e3,e4⟩:=hx rfl y (by simp[Op.operands])
  rw[←e1,←e3]
  refine bA fun d hd=>?_
  refine bA fun e he=>?_
  rw[rH (e2 d hd)]
 case binOp o T x y yT=>
  simp only[cQ]
  obtain⟨e1,e2⟩:=hx rfl x (by simp[Op.operands])
  obtain⟨e3,e4⟩:=hx rfl y (by simp[Op.operands])
  rw[←e1,←e3]
  refine bA fun d hd=>?_
  refine bA fun e he=>?_
  rw[rF (e2 d hd) (e4 e he)]
 case convert s T x=>
  simp only[cQ]
  obtain⟨e1,e2⟩:=hx rfl x (by simp[Op.operands])
  rw[←e1]
  refine bA fun d hd=>?_
  rw[s8 (e2 d hd)]
 case slice T x lo hi mx=>
  cases mx with
  |some m=>rfl
  |none=>
   simp only[cQ]
   obtain⟨e1,e2⟩:=hx rfl x (by simp[Op.operands])
   rw[←e1]
   refine bA fun d hd=>?_
   refine bA fun l _=>?_
   refine bA fun r _=>?_
   rw[rG (e2 d hd)]
 case indexAddr T x y=>
  simp only[cQ]
  obtain⟨e1,e2⟩:=hx rfl x (by simp[Op.operands])
  rw[←e1]
  refine bA fun d hd=>?_
  refine bA fun e he=>?_
  rw[mw (e2 d hd)]
 case call c=>
  obtain⟨callee,args,argTypes⟩:=c
  cases callee with
  |builtin b=>
   simp only[cQ]
   obtain⟨e1,e2⟩:=rV (h':=h') (xs:=args.toList) (fs:=fs) (fun x hx=>sub rfl x (by simp only[Op.operands,Call.operands,Array.mem_append];exact .inr (j6.1 hx))) ha
   rw[←e1]
   refine bA fun ds hds=>?_
   have e3:=e2 ds hds
   unfold dp
   split
   ·rw[vG (e3 _ (by simp))]
   ·rw[qc (e3 _ (by simp)) (e3 _ (by simp)),og (e3 _ (by simp))]
   ·rw[s9 (e3 _ (by simp)) (e3 _ (by simp))]
   ·rfl
   ·rfl
   ·rfl
  |value f=>rfl
  |invoke r m=>rfl
def OpSN (P:Program)[PhC P](N:Nat)(o:Oper)(t:List (Nat×D))(h:HL)(d:D)(u:HL)(f:List Nat)(n:Nat):Prop:=
 ∀t' h',(∀x∈o.op.operands,aW t x=aW t' x)→Agree f h h'→∀main dfs γ ρ a w,SimN P dfs γ N ρ t' h' a w→OpG P main o n γ a w (sZ P dfs N ρ t' h' (puts u h') a o.dst d)
def OpS (P:Program)[PhC P](N:Nat)(o:Oper)(t:List (Nat×D))(h:HL)(d:D)(u:HL)(f:List Nat):Prop:=∃n,OpSN P N o t h d u f n
theorem Bz [PhC P]{o:Oper}{d:D}{u:HL}{f f':List Nat}(hs:OpS P N o t h d u f)(hf:∀k∈f,k∈f'):OpS P N o t h d u f':=by
 obtain⟨n,hs⟩:=hs
 exact⟨n,fun t' h' ht ha main dfs γ ρ a w s=>hs t' h' ht (fun b hb=>ha b (hf _ hb)) main dfs γ ρ a w s⟩
theorem C3 [PhC P]{m:Bool}{o:Oper}{n:Nat}{d:D}{u:HL}{f:List Nat}(hn:look h (n,0)=none)(hd:cQ P m o.op t h n=some (d,u))(hf:∀k∈vz t h o.op,k∈f)(hnf:n∈f):OpS P N o t h d u f:=by
 refine⟨1,fun t' h' ht ha main dfs γ ρ a w s=>?_⟩
 have hd':cQ P m o.op t' h' n=some (d,u):=by
  rw[←Dv (t:=t') (h:=h) (fs:=f) ?_ ha,←Dw ht]
  ·exact hd
  ·have:vz t' h o.op=vz t h o.op:=by
    unfold vz
    cases hl:iN o.op with
    |false=>rfl
    |true=>
     simp only[cond_true,rq]
     have hx:∀x∈o.op.operands.toList,jx t' h x=jx t h x:=fun x hx=>by unfold jx;rw[ht x (j6.1 hx)]
     generalize o.op.operands.toList=l at hx
     induction l with
     |nil=>rfl
     |cons x l ih=>rw[i0,i0,hx x (bh ..),ih fun y hy=>hx y (bl _ hy)]
   rw[this]
   exact hf
 have hn':look h' (n,0)=none:=by rw[←ha (n,0) hnf];exact hn
 exact re (fun w0 S A ρ a w s=>s.op (m:=m) (n:=n) hd' hn') (fun w0 S A ρ a w s=>uI s hd') s
theorem ye [PhC P]{o:Oper}{bs:List Id}{d:D}{u1:HL}{f:List Nat}(hf:∀k∈kJ bs,k∈f)(hd:OpS P N o t (puts (frz h bs) h) d u1 f):OpS P N o t h d (frz h bs++u1) f:=by
 obtain⟨nn,hd⟩:=hd
 refine⟨nn,fun t' h' ht ha main dfs γ ρ a w s=>?_⟩
 have e:frz h bs=frz h' bs:=qO fun b hb=>ha b (hf _ (cL hb))
 rw[bG,e]
 have hag:Agree f (puts (frz h bs) h) (puts (frz h' bs) h'):=by rw[←e];exact ha.puts _
 refine(hd t' (puts (frz h' bs) h') ht hag main dfs γ ρ a w (Sim.frz_ok s bs).1).mono (aN _) ?_
 rintro γ' a' w' ⟨v,ρ2,rfl,g1,g2,g3⟩
 exact⟨v,ρ2,rfl,fun b hb=>g1 b (lD hb),g2,g3⟩
theorem zm [PhC P]{o:Oper}{ms:List (Id×Id)}{d:D}{u0 u1:HL}{f:List Nat}(hm:gD h ms=some u0)(hf:∀k∈kJ (ms.flatMap fun m=>[m.1,m.2]),k∈f)(hd:OpS P N o t (puts u0 h) d u1 f):OpS P N o t h d (u0++u1) f:=by
 obtain⟨nn,hd⟩:=hd
 refine⟨nn,fun t' h' ht ha main dfs γ ρ a w s=>?_⟩
 have hm':gD h' ms=some u0:=by rw[←lJ ms (ha.sub hf)];exact hm
 obtain⟨ρ',e1,e2,s1⟩:=Sim.moves s ms u0 hm'
 rw[bG]
 refine(hd t' (puts u0 h') ht (ha.puts u0) main dfs γ ρ' a w s1).mono (aN _) ?_
 rintro γ' a' w' ⟨v,ρ2,rfl,g1,g2,g3⟩
 exact⟨v,ρ2,rfl,fun b hb=>(g1 b (e2 b hb)).trans (e1 b hb),g2,g3⟩
theorem fw:∀(k:Nat) {d:D},(∀b∈idsD h k d,look h b=look h' b)→purD h k d=purD h' k d∧idsD h k d=idsD h' k d
 |0,d,_=>⟨rfl,rfl⟩
 |k+1,d,hb=>by
  cases d<;>try exact⟨rfl,rfl⟩
  case ref b=>
   have hb0:=hb b (by unfold idsD;exact bh ..)
   unfold purD idsD
   simp only[←hb0]
   cases hl:look h b with
   |none=>exact⟨rfl,rfl⟩
   |some x=>
    cases x<;>try exact⟨rfl,rfl⟩
    rename_i E l
    have hb1:∀e∈l,∀d∈e.cells,∀b∈idsD h k d,look h b=look h' b:=fun e he d hd b' hb'=>hb b' (by
     unfold idsD
     simp only[hl]
     exact bl _ (dM.2 ⟨e,he,dM.2 ⟨d,hd,hb'⟩⟩))
    constructor
    ·simp only
     rw[bX fun e he=>?_]
     unfold purE
     split
     ·rename_i cs
      have:=bX (l:=cs) (f:=purD h k) (g:=purD h' k) fun d hd=>(fw k (hb1 _ he d hd)).1
      rw[this]
     ·rename_i hna
      refine(fw k (hb1 _ he _ ?_)).1
      rw[cS fun cs hcs=>hna cs hcs]
      exact bd.2 rfl
    ·simp only
     congr 1
     have fc:∀{α:Type} {l:List α} {f g:α→List Id},(∀x∈l,f x=g x)→l.flatMap f=l.flatMap g:=by
      intro α l f g hfg
      induction l with
      |nil=>rfl
      |cons x l ih=>rw[i0,i0,hfg x (bh ..),ih fun y hy=>hfg y (bl _ hy)]
     exact fc fun e he=>fc fun d hd=>(fw k (hb1 e he d hd)).2
  case ptr b o=>
   cases o with
   |succ o=>exact⟨rfl,rfl⟩
   |zero=>
    have hb0:=hb b (by unfold idsD;exact bh ..)
    unfold purD idsD
    simp only[←hb0]
    cases hl:look h b with
    |none=>exact⟨rfl,rfl⟩
    |some x=>
     cases x<;>try exact⟨rfl,rfl⟩
     rename_i T cs
     have hb1:∀d∈cs,∀b∈idsD h k d,look h b=look h' b:=fun d hd b' hb'=>hb b' (by
      unfold idsD
      simp only[hl]
      exact bl _ (dM.2 ⟨d,hd,hb'⟩))
     constructor
     ·simp only
      rw[bX fun d hd=>(fw k (hb1 d hd)).1]
     ·simp only
      congr 1
      have fc:∀{α:Type} {l:List α} {f g:α→List Id},(∀x∈l,f x=g x)→l.flatMap f=l.flatMap g:=by
       intro α l f g hfg
       induction l with
       |nil=>rfl
       |cons x l ih=>rw[i0,i0,hfg x (bh ..),ih fun y hy=>hfg y (bl _ hy)]
      exact fc fun d hd=>(fw k (hb1 d hd)).2
theorem VLive.local {g:Id→Id}{hin:HL}{F:List Nat}{b:Id}(hF:∀b:Id,b.1∈F→look h b=look h' b)(hv:VLive h g hin F b):VLive h' g hin F b:=by
 rcases hv with hv|⟨h1,h2⟩
 ·exact .inl hv
 ·refine .inr ⟨h1,fun hl=>h2 ?_⟩
  unfold Live at hl⊢
  rw[hF _ h1];exact hl
theorem View.local {g:Id→Id}{hin:HL}{W:List Id}{F:List Nat}{d d':D}(hW:∀b∈W,look h b=look h' b)(hF:∀b:Id,b.1∈F→look h b=look h' b)(hv:View h g hin W F d d'):View h' g hin W F d d':=by
 induction hv with
 |ref b hb=>exact .ref b (hb.local hF)
 |ptr b o hb=>exact .ptr b o (hb.local hF)
 |eptr b i o hb=>exact .eptr b i o (hb.local hF)
 |vref b o n hb=>exact .vref b o n (hb.local hF)
 |mp b hb=>exact .mp b (hb.local hF)
 |pure k d d' hd hw=>
  obtain⟨e1,e2⟩:=fw k fun b hb=>hW b (hw b hb)
  exact .pure k d d' (by rw[←e1];exact hd) (fun b hb=>hw b (by rw[e2];exact hb))
 |nils=>exact .nils
 |agg cs cs' hl hc ih=>exact .agg cs cs' hl ih
 |clo f cs cs' hl hc ih=>exact .clo f cs cs' hl ih
 |ifc T d d' hd ih=>exact .ifc T d d' ih
 |gv k=>exact .gv k
 |junk=>exact .junk
theorem ViewB.local {g:Id→Id}{hin:HL}{W:List Id}{F:List Nat}{x x':Blk}(hW:∀b∈W,look h b=look h' b)(hF:∀b:Id,b.1∈F→look h b=look h' b)(hv:ViewB h g hin W F x x'):ViewB h' g hin W F x x':=by
 cases hv with
 |var T cs cs' hl hc=>exact .var T cs cs' hl fun i hi=>(hc i hi).local hW hF
 |row E l l' hl hc=>exact .row E l l' hl fun i hi=>(hc i hi).local hW hF
 |obj p=>exact .obj p
 |gone=>exact .gone
def x7 (P:Program)(T:TypeId)(m:String):Option (FuncId×Bool):=
 match P.info? T,P.underlying T with
 |some ti,some (.pointer _)=>(match ti.methods.find? (·.name==m) with
  |some r=>if r.path.isEmpty=true then r.func else none
  |none=>none)
 |_,_=>none
def BF (P:Program)(h:HL)(T:TypeId)(byp:Bool)(d:D):Option D:=
 if byp then some d else match P.underlying T with|some (.pointer E)=>cP P h E d|_=>none
theorem Sim.method (s:Sim P w0 S A N ρ t h a w){T:TypeId}{m:String}{f:FuncId}{byp:Bool}{d d':D}{v:Value}(hm:x7 P T m=some (f,byp))(hr:BF P h T byp d=some d')(hv:C ρ (Live h) (okOf A ρ h w) w d v)(n:Nat):
  ∃v',(Go.method (n+1) T v m).run P w= .ok (f,v') w∧C ρ (Live h) (okOf A ρ h w) w d' v':=by
 unfold x7 at hm
 split at hm
 ·rename_i ti E hi hu
  split at hm
  ·rename_i r hf
   split at hm
   ·rename_i hp
    have hpl:r.path.toList=[]:=by simpa using hp
    have hpe:r.path= #[]:=by simpa using hp
    cases byp with
    |true=>
     simp only[BF,if_true,aK] at hr
     subst hr
     refine⟨v,?_,hv⟩
     simp[Go.method,typeInfo,hi,hf,hpe,follow,hm,receiverAt,underlying,hu,Place.get]
    |false=>
     simp only[BF,eZ,if_false,hu] at hr
     have hpt:dU d=true:=by
      unfold cP at hr
      split at hr<;>first|rfl|exact nomatch hr
     obtain⟨ad,rfl⟩:=hv.isPtr_inv hpt
     obtain⟨v',h1,h2⟩:=s.load hr hv
     refine⟨v',?_,h2⟩
     have h1:(loadVar E ad).run P w= .ok v' w:=by simpa[Instr.loadAt,Instr.sureAddr] using h1
     have hw : ∀ nm : String, Builtin.ssaWrapNilChk_ #[T] T #[.pointer (some ad), strVal "", strVal nm] = pure (.pointer (some ad)) := fun _ => rfl
     simp[Go.method,typeInfo,hi,hf,hpe,follow,hm,receiverAt,underlying,hu,Place.get,hw,asAddr,h1]
   ·cases hm
  ·cases hm
 ·cases hm
def oz (P:Program)(t:List (Nat×D))(h:HL)(o:Oper)(f:FuncId)(ds:List D):Prop:=
 ∃args Ts,(o.op= .call ⟨.value (.func f),args,Ts⟩∧evalFs t h args.toList=some ds)∨
  (∃k cs ds0,o.op= .call ⟨.value (.tmp k),args,Ts⟩∧evalF t h (.tmp k)=some (.clo f cs)∧evalFs t h args.toList=some ds0∧ds=ds0++cs)
theorem Bx [PhC P]{o:Oper}{f:FuncId}{n:Nat}{ds:List D}{d:D}{u:HL}{fs:List Nat}(hn:∀b,n≤b.1→look h b=none)(hc:oz P t h o f ds)(c:CallOK P f h n ds d u fs)(hf:∀k∈rq t h o.op.operands.toList,k∈fs)
  (hfn:∀b,Live c.hout b→(c.g b).1∈fs):OpS P N o t h d u fs:=by
 obtain⟨⟨fn,hf1,hf2,hf3⟩,nn,hcn⟩:=c.con
 refine⟨nn+2,fun t' h' ht ha main dfs γ ρ a w s=>?_⟩
 have hW:∀b∈c.W,look h b=look h' b:=fun b hb=>ha b (c.foot.2.1 b hb)
 have hF:∀b:Id,b.1∈c.F→look h b=look h' b:=fun b hb=>ha b (c.foot.2.2 _ hb)
 have hblk:∀b x',look c.hin b=some x'→∃x,look h' (c.g b)=some x∧ViewB h' c.g c.hin c.W c.F x x':=fun b x' hx=>by
  obtain⟨x,h1,h2⟩:=c.blks b x' hx
  exact⟨x,by rw[←ha _ (hfn b (c.sub b (by simp[Live,hx])))];exact h1,h2.local hW hF⟩
 have hnew:∀b,Live c.hout b→¬Live c.hin b→look h' (c.g b)=none:=fun b hb hb'=>by rw[←ha _ (hfn b hb)];exact c.new b hb hb'
 have hupd:(noMem c.r=true∧(∀p∈c.hout,noMemB p.2=true)∧u=renH c.g c.hout)∨((∀b∈c.W,∀x,look h' b=some x→x.mutable=true→(frzB h' b).isSome=true)∧u=frz h' c.W++renH c.g c.hout):=by
  rcases c.upd with h1|⟨h1,h2⟩
  ·exact .inl h1
  ·refine .inr ⟨fun b hb x hx hmu=>?_,h2.trans (by rw[qO hW])⟩
   rw[←oO (hW b hb)]
   exact h1 b hb x (by rw[hW b hb];exact hx) hmu
 have hcall:∀{vs:Array Value},ds.length=vs.size→(∀i,i<ds.length→C ρ (Live h') (okOf (γ.At w) ρ h' w) w (ds.getD i .undef) (vs.getD i undef))→
   CallsG P main f vs nn γ w fun γ' v w'=>∃ρ2,Ext h' ρ ρ2∧SimN P dfs γ' N ρ2 t' (puts u h') a w'∧C ρ2 (Live (puts u h')) (okOf (γ'.At w') ρ2 (puts u h') w') w' d v:=fun hl hv=>
  SimN.call s (⟨c.g,c.W,c.F,c.ds',c.hin,c.r,c.hout,c.con,c.len,fun i hi=>(c.args i hi).local hW hF,hblk,c.keys,c.inj,c.sub,hnew,c.apart,c.foot,c.res,hupd⟩:CallOK P f h' n ds d u fs) hcn hl hv
 have ev:∀x∈o.op.operands,evalF t' h' x=evalF t h x:=by
  intro x hx
  have e1:evalF t' h' x=evalF t h' x:=by unfold evalF;rw[ht x hx]
  rw[e1]
  exact(cA (fun k hk=>hf k (dM.2 ⟨x,j6.2 hx,hk⟩)) ha).1.symm
 have hf2':¬fn.body=none:=by intro e;rw[e] at hf2;cases hf2
 have hf3' : ¬ fn.name = "runtime.NumGoroutine" := by simpa using hf3
 obtain⟨args,Ts,hcase⟩:=hc
 obtain⟨dst,op,ty,pos,after,guard⟩:=o
 simp only at hcase ev⊢
 rcases hcase with⟨rfl,hargs⟩|⟨k,cs,ds0,rfl,hclo,hargs,rfl⟩
 ·have hargs':evalFs t' h' args.toList=some ds:=by
   rw[←hargs]
   exact bX fun x hx=>ev x (by simp only[Op.operands,Call.operands,Array.mem_append];exact .inr (j6.1 hx))
  obtain⟨e,q⟩:=Sim.evalFs s hargs'
  have hcl:=hcall (vs:=args.map a.eval) (by rw[e];simp) (fun i hi=>by
   have:=q i hi
   rw[cB]
   simpa using this)
  refine uv (f:=f) (args:=args.map a.eval) (fun w=>?_) (fun w=>?_) (hcl.mono (aN _) ?_)
  ·simp[execOp,resolve,Act.eval,Deferred.ofValue,invoke,callFunc,hf1,hf2',hf3']
  ·simp[execOp,resolve,Act.eval,Deferred.ofValue,invoke,callFunc,hf1,hf2',hf3']
  ·rintro γ' v w' ⟨ρ2,g0,g1,g2⟩
   exact⟨v,ρ2,rfl,g0,g1,g2⟩
 ·have hargs':evalFs t' h' args.toList=some ds0:=by
   rw[←hargs]
   exact bX fun x hx=>ev x (by simp only[Op.operands,Call.operands,Array.mem_append];exact .inr (j6.1 hx))
  have hclo':evalF t' h' (.tmp k)=some (.clo f cs):=by rw[ev (.tmp k) (by simp[Op.operands,Call.operands])];exact hclo
  obtain⟨vs,hv1,hv2,hv3⟩:=(Sim.evalF s hclo').clo_inv
  obtain⟨e,q⟩:=Sim.evalFs s hargs'
  have hl0:ds0.length=(args.map a.eval).size:=by rw[e];simp
  have hcl:=hcall (vs:=args.map a.eval++vs) (by rw[ck,Array.size_append];omega) (fun i hi=>by
   by_cases hlt:i<ds0.length
   ·have:=q i hlt
    have h1:i<(args.map a.eval).size:=by omega
    have h2:i<args.size:=by simpa using h1
    simpa[aX,gg hlt,bV,Array.getElem?_append_left h1,h2] using this
   ·have hi2:i-ds0.length<cs.length:=by rw[ck] at hi;omega
    have:=hv3 (i-ds0.length) hi2
    have h1:¬i<(args.map a.eval).size:=by omega
    have e1:(ds0++cs).getD i .undef=cs.getD (i-ds0.length) .undef:=by simp only[aX,jq (Nat.le_of_not_lt hlt)]
    have e2:(args.map a.eval++vs).getD i undef=vs.getD (i-ds0.length) undef:=by
     simp only[bV]
     rw[Array.getElem?_append_right (Nat.le_of_not_lt h1),hl0]
    rw[e1,e2]
    exact this)
  refine uv (f:=f) (args:=args.map a.eval++vs) (fun w=>?_) (fun w=>?_) (hcl.mono (aN _) ?_)
  ·simp[execOp,resolve,hv1,Deferred.ofValue,invoke,callFunc,hf1,hf2',hf3']
  ·simp[execOp,resolve,hv1,Deferred.ofValue,invoke,callFunc,hf1,hf2',hf3']
  ·rintro γ' v w' ⟨ρ2,g0,g1,g2⟩
   exact⟨v,ρ2,rfl,g0,g1,g2⟩
end Go.Proofs.Ytbmnihglaokhmaa.Am
namespace Go.Proofs.Ytbmnihglaokhmaa.Am
open Go Go.RowKit Go.Conc
open Go.ChangeMaps (setBlock)
def eL:Nat→List (Int×Int)→List MapEntry
 |_,[]=>[]
 |s,p::l=>⟨.int .i64 p.1,.int .i64 p.2,s⟩::eL (s+1) l
def dO (l:List (Int×Int)):Obj:=.map (eL 0 l).toArray l.length
def A1 (l:List (Int×Int))(_:Nat)(o:Obj):Prop:=o=dO l
def t5 (n:Nat)(left:List Nat)(cur:Option Nat)(M:Nat)(o:Obj):Prop:=∃seen:Array Nat,o= .mapIter (some M) n seen n∧(∀i,i∈left↔i<n∧i∉seen)∧seen.back? =cur
def fK (l:List (Int×Int)):Blk:=.obj none (A1 l)
def wD (b:Id)(n:Nat)(left:List Nat)(cur:Option Nat):Blk:=.obj (some b) (t5 n left cur)
def dY:List (Int×Int)→Int→Int→List (Int×Int)
 |[],a,c=>[(a,c)]
 |p::l,a,c=>if a=p.1 then(a,c)::l else p::dY l a c
def nl (P:Program)(T:TypeId):Bool:=match P.underlying T with
 |some (.map k _)=>(match P.underlying k with|some (.int _)=>true|_=>false)
 |_=>false
theorem uk {P:Program}{T:TypeId}(h:nl P T=true):∃k e q,P.underlying T=some (.map k e)∧P.underlying k=some (.int q):=by
 unfold nl at h
 split at h
 ·rename_i k e hk
  split at h
  ·rename_i q hq;exact⟨k,e,q,hk,hq⟩
  ·cases h
 ·cases h
theorem ln:∀(l:List (Int×Int)) (s:Nat),(eL s l).length=l.length
 |[],_=>rfl
 |p::l,s=>by simp[eL,ln l]
theorem eM:∀(l:List (Int×Int)) (s i:Nat),(eL s l)[i]?=(l[i]?).map fun p=>⟨.int .i64 p.1,.int .i64 p.2,s+i⟩
 |[],_,_=>rfl
 |p::l,s,0=>rfl
 |p::l,s,i+1=>by
  simp only[eL,List.getElem?_cons_succ,eM l]
  rw[show s+1+i=s+(i+1) by omega]
theorem tG:∀(l:List (Int×Int)) (s:Nat) (p:Int×Int),eL s (l++[p])=eL s l++[⟨.int .i64 p.1,.int .i64 p.2,s+l.length⟩]
 |[],s,p=>rfl
 |q::l,s,p=>by
  simp only[fR,eL,tG l,dZ]
  rw[show s+1+l.length=s+(l.length+1) by omega]
theorem yR {l:List (Int×Int)}{s:Nat}:∀x∈eL s l,x.born<s+l.length:=by
 intro x hx
 obtain⟨i,hi,rfl⟩:=p6 hx
 have:=eM l s i
 rw[a6 hi] at this
 rw[ln] at hi
 rw[a6 hi] at this
 simp only[aM,aK] at this
 rw[this]
 show s+i<_
 omega
theorem oG:∀(l:List (Int×Int)) (s:Nat),((eL s l).map (·.born)).Nodup
 |[],_=>List.nodup_nil
 |p::l,s=>by
  simp only[eL,bI,List.nodup_cons]
  refine⟨fun h=>?_,oG l (s+1)⟩
  obtain⟨x,hx,he⟩:=aP.1 h
  obtain⟨i,hi,rfl⟩:=p6 hx
  have:=eM l (s+1) i
  rw[a6 hi] at this
  rw[ln] at hi
  rw[a6 hi] at this
  simp only[aM,aK] at this
  rw[this] at he
  simp only at he
  omega
theorem qL {q:IntKind}(a c:Int):∀(l:List (Int×Int)) (s j:Nat),
  (Instr.findNow (.int q) (.int .i64 a) (eL s l) j=some none∧dY l a c=l++[(a,c)])∨
   ∃i v,Instr.findNow (.int q) (.int .i64 a) (eL s l) j=some (some (j+i,v))∧(∃z,l[i]?=some (a,z))∧dY l a c=l.set i (a,c)
 |[],s,j=>.inl ⟨rfl,rfl⟩
 |p::l,s,j=>by
  simp only[eL,Instr.findNow,Instr.sameNow,if_true,dY]
  by_cases e:a=p.1
  ·refine .inr ⟨0,.int .i64 p.2,?_,⟨p.2,by simp[e]⟩,by simp[e]⟩
   simp[e]
  ·have e':(a==p.1)=false:=by simp[e]
   rw[e',if_neg e]
   simp only
   rcases qL a c l (s+1) (j+1) with⟨h1,h2⟩|⟨i,v,h1,h2,h3⟩
   ·exact .inl ⟨h1,by rw[h2];rfl⟩
   ·exact .inr ⟨i+1,v,by rw[h1,show j+1+i=j+(i+1) by omega],h2,by rw[h3];rfl⟩
section
variable {P:Program} {w:World}
theorem du {r:Nat}{o:Obj}(h:w.heap[r]?=some o)(hc:∀c T f,o≠ .cells c T f)(hn:o.isChan=false)(es:Array Event):(getObj r).run P w= .ok o w∧(getObj r).events P w es=es.push ⟨.obj r,false,false⟩:=by
 constructor
 ·cases o<;>first|exact absurd rfl (hc _ _ _)|simp[getObj,Sem.run,h]
 ·cases o<;>first|exact absurd rfl (hc _ _ _)|(simp only[getObj,Sem.events,Sem.runT,h,hn])
theorem ip {r:Nat}{o o':Obj}(h:w.heap[r]?=some o)(hc:∀c T f,o≠ .cells c T f)(hn:o'.isChan=false)(es:Array Event):(setObj r o').run P w= .ok () (setBlock w r o')∧(setObj r o').events P w es=es.push ⟨.obj r,true,false⟩:=by
 constructor
 ·cases o<;>first|exact absurd rfl (hc _ _ _)|simp[setObj,Sem.run,h,setBlock]
 ·cases o<;>first|exact absurd rfl (hc _ _ _)|(simp only[setObj,Sem.events,Sem.runT,h,hn])
theorem qu {T:TypeId}{r:Nat}{l:List (Int×Int)}(hT:nl P T=true)(h:w.heap[r]?=some (dO l))(a c:Int):
  (Instr.mapUpdate T (.map (some r)) (.int .i64 a) (.int .i64 c)).run P w= .ok () (setBlock w r (dO (dY l a c)))∧∀es,(Instr.mapUpdate T (.map (some r)) (.int .i64 a) (.int .i64 c)).events P w es=(es.push ⟨.obj r,false,false⟩).push ⟨.obj r,true,false⟩:=by
 obtain⟨k,e,q,h1,h2⟩:=uk hT
 have hg:=fun es=>du (P:=P) h (fun _ _ _ h=>by cases h) rfl es
 have hck:∀w es,(Instr.checkKey false 10000 k (.int .i64 a)).run P w= .ok () w∧(Instr.checkKey false 10000 k (.int .i64 a)).events P w es=es:=fun w es=>by
  have e:(10000:Nat)=9999+1:=rfl
  rw[e]
  unfold Instr.checkKey
  simp only[Sem.run_bind,run_underlying h2,Result.andThen_ok,Sem.events_bind,Result.evThen_ok,events_underlying]
  exact⟨rfl,rfl⟩
 have hu:∀w es,(underlying T).run P w= .ok (.map k e) w∧(underlying T).events P w es=es:=fun w es=>⟨run_underlying h1 w,by simp⟩
 have hu2:∀w es,(underlying k).run P w= .ok (.int q) w∧(underlying k).events P w es=es:=fun w es=>⟨run_underlying h2 w,by simp⟩
 rcases qL (q:=q) a c l 0 0 with⟨f1,f2⟩|⟨i,v,f1,⟨z,f2⟩,f3⟩
 ·have hset:=fun es=>ip (P:=P) (o':=dO (dY l a c)) h (fun _ _ _ h=>by cases h) rfl es
  have ho:Obj.map (eL 0 l++[(⟨.int .i64 a,.int .i64 c,l.length⟩:MapEntry)]).toArray (l.length+1)=dO (dY l a c):=by
   rw[f2]
   simp[dO,tG]
  refine⟨?_,fun es=>?_⟩
  ·simp[Instr.mapUpdate,(hu w #[]).1,(hg #[]).1,dO,(hck w #[]).1,Instr.findKey,(hu2 w #[]).1,f1]
   simp only[dO] at ho hset
   rw[ho,(hset #[]).1]
  ·simp[Instr.mapUpdate,(hu w #[]).1,(hg #[]).1,(hg es).2,dO,(hck w #[]).1,(hck w _).2,Instr.findKey,(hu2 w #[]).1,f1]
   simp only[dO] at ho hset
   rw[ho,(hset _).2]
 ·simp only[gM] at f1
  have hset:=fun es=>ip (P:=P) (o':=dO (dY l a c)) h (fun _ _ _ h=>by cases h) rfl es
  have hi:i<l.length:=(cz.1 f2).1
  have hei:(eL 0 l)[i]?=some ⟨.int .i64 a,.int .i64 z,i⟩:=by rw[eM,f2];simp
  have ho:Obj.map ((eL 0 l).modify i fun e=>{e with key:=.int .i64 a,val:=.int .i64 c}).toArray l.length=dO (dY l a c):=by
   rw[f3]
   simp only[dO,List.length_set,Obj.map.injEq,and_true]
   congr 1
   apply pZ
   intro j
   rw[eM,List.getElem?_modify,eM,List.getElem?_set]
   by_cases e:i=j
   ·subst e
    simp[hi]
   ·simp[e]
  have hks:∀w es,(Instr.keyThatStays (.int .i64 a) (.int .i64 a)).run P w= .ok (.int .i64 a) w∧(Instr.keyThatStays (.int .i64 a) (.int .i64 a)).events P w es=es:=fun w es=>by
   simp[Instr.keyThatStays,Instr.sameBits]
  refine⟨?_,fun es=>?_⟩
  ·simp[Instr.mapUpdate,(hu w #[]).1,(hg #[]).1,dO,(hck w #[]).1,Instr.findKey,(hu2 w #[]).1,f1,hei,(hks w #[]).1]
   simp only[dO] at ho hset
   rw[ho,(hset #[]).1]
  ·simp[Instr.mapUpdate,(hu w #[]).1,(hg #[]).1,(hg es).2,dO,(hck w #[]).1,(hck w _).2,Instr.findKey,(hu2 w #[]).1,f1,hei,(hks w #[]).1,(hks w _).2]
   simp only[dO] at ho hset
   rw[ho,(hset _).2]
theorem zG {T:TypeId}{r:Nat}{l:List (Int×Int)}(hT:nl P T=true)(h:w.heap[r]?=some (dO l)):
  (Instr.range T (.map (some r))).run P w= .ok (.pointer (some ⟨w.heap.size,0,none⟩)) (w.alloc (.mapIter (some r) l.length #[] l.length))∧∀es,(Instr.range T (.map (some r))).events P w es=es.push ⟨.obj r,false,false⟩:=by
 obtain⟨k,e,q,h1,h2⟩:=uk hT
 have hg:=fun es=>du (P:=P) h (fun _ _ _ h=>by cases h) rfl es
 have hu:∀w es,(underlying T).run P w= .ok (.map k e) w∧(underlying T).events P w es=es:=fun w es=>⟨run_underlying h1 w,by simp⟩
 refine⟨?_,fun es=>?_⟩
 ·simp only[Instr.range,Sem.run_bind,(hu w #[]).1,Result.andThen_ok,(hg #[]).1,dO]
  rfl
 ·simp[Instr.range,(hu w #[]).1,(hg #[]).1,(hg es).2,dO]
theorem u4 {T:TypeId}:(Instr.makeMap T none).run P w= .ok (.map (some w.heap.size)) (w.alloc (dO []))∧∀es,(Instr.makeMap T none).events P w es=es:=by
 refine⟨?_,fun es=>?_⟩
 ·rfl
 ·simp[Instr.makeMap]
theorem zF {r m n:Nat}{left:List Nat}{i:Nat}{l:List (Int×Int)}{p:Int×Int}{o:Obj}(hr:w.heap[r]?=some o)(ho:t5 n left (some i) m o)(hm:w.heap[m]?=some (dO l))(hn:l.length=n)(hp:l[i]?=some p):
  (Instr.entry (.pointer (some ⟨r,0,none⟩))).run P w= .ok (.tuple #[.int .i64 p.1,.int .i64 p.2]) w∧∀es,(Instr.entry (.pointer (some ⟨r,0,none⟩))).events P w es=(es.push ⟨.obj r,false,false⟩).push ⟨.obj m,false,false⟩:=by
 obtain⟨seen,rfl,hs,hb⟩:=ho
 subst hn
 have hg:=fun es=>du (P:=P) hr (fun _ _ _ h=>by cases h) rfl es
 have hg2:=fun es=>du (P:=P) hm (fun _ _ _ h=>by cases h) rfl es
 have hf:(eL 0 l).toArray.find? (·.born==i)=some ⟨.int .i64 p.1,.int .i64 p.2,i⟩:=by
  rw[←Array.find?_toList]
  have he:(eL 0 l)[i]?=some ⟨.int .i64 p.1,.int .i64 p.2,i⟩:=by rw[eM,hp];simp
  exact find_born ⟨.int .i64 p.1,.int .i64 p.2,i⟩ (eL 0 l) (oG l 0) (dm he)
 refine⟨?_,fun es=>?_⟩
 ·simp only[Instr.entry,Sem.run_bind,(hg #[]).1,Result.andThen_ok,hb,(hg2 #[]).1,dO]
  simp only[bne_self_eq_false,eZ,if_false,hf]
  rfl
 ·simp only[Instr.entry,Sem.events_bind,(hg #[]).1,(hg es).2,Result.evThen_ok,hb,(hg2 #[]).1,(hg2 _).2,dO]
  simp only[bne_self_eq_false,eZ,if_false,hf]
  rfl
theorem BO {ty:TypeId}{r m n:Nat}{left:List Nat}{cur:Option Nat}{l:List (Int×Int)}{o:Obj}(hr:w.heap[r]?=some o)(ho:t5 n left cur m o)(hm:w.heap[m]?=some (dO l))(hn:l.length=n):
  ((∀i,i∉left)∧(Instr.next (.pointer (some ⟨r,0,none⟩)) false ty).run P w= .ok (.tuple #[.bool false]) w∧∀es,(Instr.next (.pointer (some ⟨r,0,none⟩)) false ty).events P w es=(es.push ⟨.obj r,false,false⟩).push ⟨.obj m,false,false⟩)∨
  ∃i p w1 o',i∈left∧l[i]?=some p∧(w1=w∨w1=w.drew)∧(Instr.next (.pointer (some ⟨r,0,none⟩)) false ty).run P w= .ok (.tuple #[.bool true,.int .i64 p.1,.int .i64 p.2]) (setBlock w1 r o')∧t5 n (left.filter fun j=>j !=i) (some i) m o'∧(∀ad T,o'≠ .view ad T)∧
   ∀es,(Instr.next (.pointer (some ⟨r,0,none⟩)) false ty).events P w es=((es.push ⟨.obj r,false,false⟩).push ⟨.obj m,false,false⟩).push ⟨.obj r,true,false⟩:=by
 obtain⟨seen,rfl,hs,hb⟩:=ho
 subst hn
 have hg:=fun es=>du (P:=P) hr (fun _ _ _ h=>by cases h) rfl es
 have hg2:=fun es=>du (P:=P) hm (fun _ _ _ h=>by cases h) rfl es
 have hold:∀x∈(eL 0 l).toArray.toList,x.born<l.length:=fun x hx=>by have:=yR (l:=l) (s:=0) x (by simpa using hx);omega
 have hte:=next_test_false seen (eL 0 l).toArray l.length l.length hold (aN _)
 have hmem:∀x∈(Array.filter (fun e=>!seen.contains e.born) (eL 0 l).toArray).toList,x∈eL 0 l∧x.born∉seen:=fun x hx=>by simpa using hx
 have hmem2:∀x∈eL 0 l,x.born∉seen→x∈(Array.filter (fun e=>!seen.contains e.born) (eL 0 l).toArray).toList:=fun x hx hn=>by simpa using⟨hx,hn⟩
 have hbody:Instr.next (.pointer (some ⟨r,0,none⟩)) false ty=Instr.next (.pointer (some ⟨r,0,none⟩)) false ty:=rfl
 generalize hL:Array.filter (fun e=>!seen.contains e.born) (eL 0 l).toArray=L at hmem hmem2
 have e1:L.filter (fun x=>decide (x.born<l.length))=L:=Array.filter_eq_self.2 (fun x hx=>by simpa using hold x (by simpa using(hmem x (by simpa using hx)).1))
 have e2:L.filter (fun x=>decide (x.born≥l.length))= #[]:=by
  rw[Array.filter_eq_empty_iff]
  intro x hx
  have:=hold x (by simpa using(hmem x (by simpa using hx)).1)
  simp
  omega
 by_cases h0:L.size=0
 ·left
  have hLe:L= #[]:=Array.eq_empty_of_size_eq_zero h0
  subst hLe
  refine⟨fun i hi=>?_,?_,fun es=>?_⟩
  ·obtain⟨h1,h2⟩:=(hs i).1 hi
   have he:(eL 0 l)[i]?=some ⟨.int .i64 (l[i]).1,.int .i64 (l[i]).2,i⟩:=by rw[eM,a6 h1];simp
   have:=hmem2 _ (dm he) h2
   simp at this
  ·simp only[Instr.next,Sem.run_bind,(hg #[]).1,Result.andThen_ok,(hg2 #[]).1,dO,hte,eZ,if_false,hL,e1,e2]
   simp[choose,Sem.run,Question.forced]
  ·simp only[Instr.next,Sem.run_bind,Sem.events_bind,(hg #[]).1,(hg es).2,Result.andThen_ok,Result.evThen_ok,(hg2 #[]).1,(hg2 _).2,dO,hte,eZ,if_false,hL,e1,e2]
   simp[Question.forced]
 ·right
  have hne:L.isEmpty=false:=by simp[Array.isEmpty,h0]
  have hch:∃(j:Nat) (w1:World),j<L.size∧(w1=w∨w1=w.drew)∧(choose (Question.mapNext L.size)).run P w= .ok j w1:=by
   by_cases hf:L.size≤1
   ·exact⟨0,w,by omega,Or.inl rfl,by simp[choose,Sem.run,Question.forced,hf]⟩
   ·exact⟨_,w.drew,Nat.mod_lt _ (by omega),Or.inr rfl,by
     simp only[choose,Sem.run,Question.forced,decide_eq_true_eq,hf,if_false,Question.cut]
     rfl⟩
  obtain⟨j,w1,hj,hal,hrun⟩:=hch
  obtain⟨q1,q2⟩:=hmem L[j] (by simp)
  obtain⟨i,hi,hie⟩:=p6 q1
  have hil:i<l.length:=by rw[ln] at hi;exact hi
  have he:L[j]=⟨.int .i64 (l[i]).1,.int .i64 (l[i]).2,i⟩:=by
   have:=eM l 0 i
   rw[a6 hi,hie,a6 hil] at this
   simpa using this
  have hr1:w1.heap[r]?=some (.mapIter (some m) l.length seen l.length):=by rcases hal with rfl|rfl<;>exact hr
  have hset:=fun es=>ip (P:=P) (o':=.mapIter (some m) l.length (seen.push i) l.length) hr1 (fun _ _ _ h=>by cases h) rfl es
  rw[he] at q2
  refine⟨i,l[i],w1,.mapIter (some m) l.length (seen.push i) l.length,(hs i).2 ⟨hil,q2⟩,a6 hil,hal,?_,⟨seen.push i,rfl,fun k=>?_,by simp⟩,(fun _ _ h=>by cases h),fun es=>?_⟩
  ·simp only[Instr.next,Sem.run_bind,(hg #[]).1,Result.andThen_ok,(hg2 #[]).1,dO,hte,eZ,if_false,hL,e1,e2,hne,Array.append_empty,Array.empty_append,Array.size_map,hrun,Array.getElem?_map,eH hj,aM,he,(hset #[]).1]
   rfl
  ·rw[kP,hs k,Array.mem_push]
   simp only[bne_iff_ne,ne_eq,not_or]
   exact⟨fun ⟨⟨h1,h2⟩,h3⟩=>⟨h1,h2,h3⟩,fun ⟨h1,h2,h3⟩=>⟨⟨h1,h2⟩,h3⟩⟩
  ·simp only[Instr.next,Sem.run_bind,Sem.events_bind,(hg #[]).1,(hg es).2,Result.andThen_ok,Result.evThen_ok,(hg2 #[]).1,(hg2 _).2,dO,hte,eZ,if_false,hL,e1,e2,hne,Array.append_empty,Array.empty_append,Array.size_map,hrun,events_choose,Array.getElem?_map,eH hj,aM,he,(hset #[]).1,(hset _).2]
   rfl
end
end Go.Proofs.Ytbmnihglaokhmaa.Am
namespace Go.Proofs.Ytbmnihglaokhmaa.Am
open Go Go.RowKit Go.Conc
open Go.ChangeMaps (setBlock)
variable {P:Program} {w0:World} {S:SD} {A:Nat→Prop} {N:Nat} {ρ:Id→Pl} {t:List (Nat×D)} {h h':HL} {a:Act} {w:World}
theorem oS (w:World)(r:Nat)(o:Obj)(k:Nat)(hk:k≠r):(setBlock w r o).heap[k]?=w.heap[k]?:=by simp[setBlock,kQ (cq hk)]
theorem y8 (w:World)(r:Nat)(o:Obj)(hr:r<w.heap.size):(setBlock w r o).heap[r]?=some o:=by simp[setBlock,hr]
theorem Sim.setObj (s:Sim P w0 S A N ρ t h a w){b:Id}{x:Blk}{q:Option Id}{p:Nat→Obj→Prop}{o:Obj}(hx:look h b=some x)(hm:x.mutable=true)(hq:LiveO (Live h) q)(hv:∀ad T,o≠ .view ad T)(hp:p (wP ρ q) o):
  Sim P w0 S A N ρ t (put b (.obj q p) h) a (setBlock w (ρ b).blk o):=by
 have hxl:=bz hm
 obtain⟨o1,o2⟩:=s.own b x hx hxl
 have hsz:(setBlock w (ρ b).blk o).heap.size=w.heap.size:=by simp[setBlock]
 have hlv:∀c,Live h c→Live (put b (.obj q p) h) c:=fun c hc=>hc.put
 refine s.step ⟨s.fr.os,s.fr.tape,s.fr.output,by rw[hsz];exact s.fr.size,fun i hi hs=>?_⟩ (fun c hc=>⟨hlv c hc,rfl⟩) (fun k hk=>?_) (fun c y hy=>?_) (Nat.le_of_eq hsz.symm) (fun c c' y y' hy hy' hl hl' he=>?_)
 ·rw[oS _ _ _ _ (fun e=>?_)]
  ·exact s.fr.block i hi hs
  ·rw[e] at hi hs
   rcases o2 with h1|h1
   ·exact hs h1
   ·omega
 ·refine⟨⟨⟨by rw[hsz];exact hk.1.1,hk.1.2⟩,fun c y hy hmu=>?_⟩,oS _ _ _ _ (fun e=>hk.2 b x hx hm e.symm)⟩
  rw[aD] at hy
  by_cases e:c=b
  ·subst e;exact hk.2 c x hx hm
  ·rw[if_neg e] at hy;exact hk.2 c y hy hmu
 ·rw[aD] at hy
  by_cases e:c=b
  ·subst e
   rw[if_pos rfl] at hy
   obtain rfl:=bm hy
   refine .inr ⟨⟨?_,o,y8 _ _ _ o1,hv,hp⟩,fun _=>⟨by rw[hsz];exact o1,o2⟩⟩
   cases q with
   |none=>trivial
   |some c'=>exact hlv c' hq
  ·rw[if_neg e] at hy
   exact .inl ⟨hy,fun hmu=>oS _ _ _ _ fun he=>e (s.inj c b y x hy hx (bz hmu) hxl he)⟩
 ·rw[aD] at hy hy'
  by_cases e:c=b<;>by_cases e':c'=b
  ·rw[e,e']
  ·subst e
   rw[if_neg e'] at hy'
   exact s.inj c c' x y' hx hy' hxl hl' he
  ·subst e'
   rw[if_neg e] at hy
   exact s.inj c c' y x hy hx hl hxl he
  ·rw[if_neg e] at hy;rw[if_neg e'] at hy'
   exact s.inj c c' y y' hy hy' hl hl' he
theorem Sim.drew' (s:Sim P w0 S A N ρ t h a w):Sim P w0 S A N ρ t h a w.drew:=Sim.drew s _
theorem Sim.newObj (s:Sim P w0 S A N ρ t h a w){n:Id}(hn:look h n=none){q:Option Id}{p:Nat→Obj→Prop}{o:Obj}(hq:LiveO (Live h) q)(hv:∀ad T,o≠ .view ad T)(hp:p (wP ρ q) o):
  ∃ρ',Ext h ρ ρ'∧(ρ' n).blk=w.heap.size∧Sim P w0 S A N ρ' t (put n (.obj q p) h) a (w.alloc o):=by
 refine⟨at' ρ n {blk:=w.heap.size},Ext.at hn _,by rw[aT],s.new hn _ _ _ rfl fun _ _=>?_⟩
 have hq':LiveO (Live (put n (.obj q p) h)) q∧wP (at' ρ n {blk:=w.heap.size}) q=wP ρ q:=hq.mono1 fun b hb=>⟨hb.put,bM ρ _ (hb.ne hn)⟩
 exact⟨hq'.1,o,by rw[aT];exact heap_alloc_new w _,hv,by rw[hq'.2];exact hp⟩
section
variable {main:Bool} {dfs:List Deferred} {γ:Gh}
theorem sD [PhC P]{o:Oper}{R:D→HL→Prop}(s:SimN P dfs γ N ρ t h a w)
  (hl:∀w,SimN P dfs γ N ρ t h a w→∃x v w' ρ' d u,(execOp a.eval o).run P w= .ok x w'∧((x= .skip∧v=undef)∨x= .value v)∧(∀e∈(execOp a.eval o).events P w #[],EvOK (γ.grow w w') w'.heap.size e)∧Ext h ρ ρ'∧
   Sim P w ⟨γ.S,dfs⟩ (γ.At w) N ρ' t (puts u h) a w'∧C ρ' (Live (puts u h)) (okOf (γ.At w) ρ' (puts u h) w') w' d v∧R d u):
  OpG P main o 1 γ a w fun γ' a' w'=>∃d u,R d u∧sZ P dfs N ρ t h (puts u h) a o.dst d γ' a' w':=by
 intro ops i rest b k cs Stop m hk ho hw hc
 refine GoesG.step rfl fun w1 h1=>?_
 obtain⟨x,v,w',ρ',d,u,hrun,hx,hev,e2,e3,e4,hR⟩:=hl w1 (SimN.rely s h1)
 have fin:Gua γ w1 w' (listed P b.fn a o w1)∧GoesG P main Stop m (γ.grow w1 w') (G (b.at (a.put o.dst v) (.inRegion ops rest::k)) cs) w':=
  ⟨⟨e3.fr,fun e he=>hev e (mem_listed he)⟩,hc _ _ _ ⟨d,u,hR,v,ρ',rfl,e2,SimN.after e3,e4.mono (fun b hb=>⟨hb,rfl⟩) fun k hk=>⟨sC hk,rfl⟩⟩⟩
 rcases hx with⟨rfl,rfl⟩|rfl
 ·rw[stepG_none ho hw hk hrun];exact fin
 ·rw[stepG_value ho hw hk hrun];exact fin
theorem lp {r:Nat}{wr:Bool}{w w':World}(hr:r<w'.heap.size)(hS:γ.S r):EvOK (γ.grow w w') w'.heap.size ⟨.obj r,wr,false⟩:=.inr ⟨r,wr,rfl,hr,.inl hS⟩
theorem jT [PhC P]{o:Oper}{d:D}{u:HL}{f:List Nat}
  (hl:∀t' h',(∀x∈o.op.operands,aW t x=aW t' x)→Agree f h h'→∀dfs γ ρ a w,SimN P dfs γ N ρ t' h' a w→∃x v w' ρ',(execOp a.eval o).run P w= .ok x w'∧((x= .skip∧v=undef)∨x= .value v)∧(∀e∈(execOp a.eval o).events P w #[],EvOK (γ.grow w w') w'.heap.size e)∧Ext h' ρ ρ'∧
   Sim P w ⟨γ.S,dfs⟩ (γ.At w) N ρ' t' (puts u h') a w'∧C ρ' (Live (puts u h')) (okOf (γ.At w) ρ' (puts u h') w') w' d v):OpS P N o t h d u f:=by
 refine⟨1,fun t' h' ht ha main dfs γ ρ a w s=>(sD (R:=fun d' u'=>d'=d∧u'=u) s fun w s=>?_).mono (aN _) ?_⟩
 ·obtain⟨x,v,w',ρ',e1,e2,e3,e4,e5,e6⟩:=hl t' h' ht ha dfs γ ρ a w s
  exact⟨x,v,w',ρ',d,u,e1,e2,e3,e4,e5,e6,rfl,rfl⟩
 ·rintro γ' a' w' ⟨d',u',⟨rfl,rfl⟩,hd⟩
  exact hd
theorem SimN.obj (s:SimN P dfs γ N ρ t h a w){b:Id}{q:Option Id}{p:Nat→Obj→Prop}(hb:look h b=some (.obj q p)):LiveO (Live h) q∧(∃o,w.heap[(ρ b).blk]?=some o∧(∀ad T,o≠ .view ad T)∧p (wP ρ q) o)∧(ρ b).blk<w.heap.size∧γ.S (ρ b).blk:=by
 obtain⟨h1,h2⟩:=s.blk b _ hb
 exact⟨h1,h2,SimN.own s hb rfl⟩
theorem ux [PhC P]{o:Oper}{T:TypeId}{n:Nat}(ho:o.op= .makeMap T none)(hn:look h (n,0)=none):OpS P N o t h (.mp (n,0)) [((n,0),fK [])] [n]:=by
 refine jT fun t' h' ht ha dfs γ ρ a w s=>?_
 have hn':look h' (n,0)=none:=by rw[←ha (n,0) (bd.2 rfl)];exact hn
 obtain⟨ρ',e1,e2,e3⟩:=Sim.newObj s hn' (q:=none) (p:=A1 []) (o:=dO []) trivial (fun _ _ h=>by cases h) rfl
 obtain⟨r1,r2⟩:=u4 (P:=P) (w:=w) (T:=T)
 refine⟨.value (.map (some w.heap.size)),_,_,ρ',?_,.inr rfl,?_,e1,e3,?_⟩
 ·simp[execOp,ho,r1]
 ·simp[execOp,ho,r2]
 ·have:=C.mp (ρ:=ρ') (L:=Live (puts [((n,0),fK [])] h')) (ok:=okOf (γ.At w) ρ' (puts [((n,0),fK [])] h') (w.alloc (dO []))) (w:=w.alloc (dO [])) (n,0) (by simp[Live,puts,aD])
  rwa [e2] at this
theorem qn [PhC P]{o:Oper}{T:TypeId}{m k v:Operand}{b:Id}{l:List (Int×Int)}{x y:Int}(ho:o.op= .mapUpdate T m k v)(hT:nl P T=true)(hm:evalF t h m=some (.mp b))(hk:aW t k=some (.int .i64 x))(hv:aW t v=some (.int .i64 y))(hb:look h b=some (fK l)){f:List Nat}(hf:∀j∈jx t h m,j∈f)(hbf:b.1∈f):
  OpS P N o t h .undef [(b,fK (dY l x y))] f:=by
 refine jT fun t' h' ht ha dfs γ ρ a w s=>?_
 have hm':evalF t' h' m=some (.mp b):=by
  have e1:evalF t' h' m=evalF t h' m:=by unfold evalF;rw[ht m (by simp[ho,Op.operands])]
  rw[e1,←(cA hf ha).1];exact hm
 have hb':look h' b=some (fK l):=by rw[←ha b hbf];exact hb
 obtain⟨_,e1⟩:=(Sim.evalF s hm').mp_inv
 have e2:=(Sim.eval s ((ht k (by simp[ho,Op.operands])).symm.trans hk)).int_inv
 have e3:=(Sim.eval s ((ht v (by simp[ho,Op.operands])).symm.trans hv)).int_inv
 obtain⟨_,⟨o',g1,g2,rfl⟩,g3,g4⟩:=SimN.obj s hb'
 obtain⟨r1,r2⟩:=qu (P:=P) (w:=w) (T:=T) hT g1 x y
 refine⟨.skip,undef,_,ρ,?_,.inl ⟨rfl,rfl⟩,?_,Ext.refl _ _,Sim.setObj s hb' rfl (q:=none) (p:=A1 (dY l x y)) (o:=dO (dY l x y)) trivial (fun _ _ h=>by cases h) rfl,.any _⟩
 ·simp[execOp,ho,e1,e2,e3,r1]
 ·simp only[execOp,ho,e1,e2,e3,Sem.events_bind,Sem.events_map,r2,r1]
  intro e he
  have hsz:(setBlock w (ρ b).blk (dO (dY l x y))).heap.size=w.heap.size:=by simp[setBlock]
  have he:e=⟨.obj (ρ b).blk,false,false⟩∨e=⟨.obj (ρ b).blk,true,false⟩:=by simpa[wP] using he
  rcases he with rfl|rfl<;>exact lp (by rw[hsz];exact g3) g4
theorem zn [PhC P]{o:Oper}{T:TypeId}{m:Operand}{b:Id}{l:List (Int×Int)}{n:Nat}(ho:o.op= .range T m)(hT:nl P T=true)(hm:evalF t h m=some (.mp b))(hb:look h b=some (fK l))(hn:look h (n,0)=none){f:List Nat}(hf:∀j∈jx t h m,j∈f)(hbf:b.1∈f)(hnf:n∈f):
  OpS P N o t h (.ptr (n,0) 0) [((n,0),wD b l.length (List.range l.length) none)] f:=by
 refine jT fun t' h' ht ha dfs γ ρ a w s=>?_
 have hm':evalF t' h' m=some (.mp b):=by
  have e1:evalF t' h' m=evalF t h' m:=by unfold evalF;rw[ht m (by simp[ho,Op.operands])]
  rw[e1,←(cA hf ha).1];exact hm
 have hb':look h' b=some (fK l):=by rw[←ha b hbf];exact hb
 have hn':look h' (n,0)=none:=by rw[←ha (n,0) hnf];exact hn
 obtain⟨_,e1⟩:=(Sim.evalF s hm').mp_inv
 obtain⟨_,⟨o',g1,g2,rfl⟩,g3,g4⟩:=SimN.obj s hb'
 obtain⟨r1,r2⟩:=zG (P:=P) (w:=w) (T:=T) hT g1
 obtain⟨ρ',q1,q2,q3⟩:=Sim.newObj s hn' (q:=some b) (p:=t5 l.length (List.range l.length) none) (o:=.mapIter (some (ρ b).blk) l.length #[] l.length) (Live.of_look hb') (fun _ _ h=>by cases h) ⟨#[],rfl,by simp,rfl⟩
 refine⟨.value (.pointer (some ⟨w.heap.size,0,none⟩)),_,_,ρ',?_,.inr rfl,?_,q1,q3,?_⟩
 ·simp[execOp,ho,e1,r1]
 ·simp only[execOp,ho,e1,Sem.events_bind,Sem.events_map,r2,r1]
  intro e he
  have he:e=⟨.obj (ρ b).blk,false,false⟩:=by simpa[wP] using he
  subst he
  exact lp (by simp;omega) g4
 ·have:=C.ptr (ρ:=ρ') (L:=Live (puts [((n,0),wD b l.length (List.range l.length) none)] h')) (ok:=okOf (γ.At w) ρ' (puts [((n,0),wD b l.length (List.range l.length) none)] h') (w.alloc (.mapIter (some (ρ b).blk) l.length #[] l.length))) (w:=w.alloc (.mapIter (some (ρ b).blk) l.length #[] l.length)) (n,0) 0 (by simp[Live,puts,aD])
  rwa [q2] at this
theorem zk [PhC P]{o:Oper}{it:Operand}{r b:Id}{l:List (Int×Int)}{n i:Nat}{left:List Nat}{p:Int×Int}(ho:o.op= .entry it)(hm:evalF t h it=some (.ptr r 0))(hr:look h r=some (wD b n left (some i)))(hb:look h b=some (fK l))(hn:l.length=n)(hp:l[i]?=some p){f:List Nat}(hf:∀j∈jx t h it,j∈f)(hrf:r.1∈f)(hbf:b.1∈f):
  OpS P N o t h (.tup [.int .i64 p.1,.int .i64 p.2]) [] f:=by
 refine jT fun t' h' ht ha dfs γ ρ a w s=>?_
 have hm':evalF t' h' it=some (.ptr r 0):=by
  have e1:evalF t' h' it=evalF t h' it:=by unfold evalF;rw[ht it (by simp[ho,Op.operands])]
  rw[e1,←(cA hf ha).1];exact hm
 have hb':look h' b=some (fK l):=by rw[←ha b hbf];exact hb
 have hr':look h' r=some (wD b n left (some i)):=by rw[←ha r hrf];exact hr
 obtain⟨_,e1⟩:=(Sim.evalF s hm').ptr_inv
 obtain⟨_,⟨o',g1,g2,rfl⟩,g3,g4⟩:=SimN.obj s hb'
 obtain⟨_,⟨o2,k1,k2,k5⟩,k3,k4⟩:=SimN.obj s hr'
 obtain⟨r1,r2⟩:=zF (P:=P) (w:=w) k1 k5 g1 hn hp
 refine⟨.value (.tuple #[.int .i64 p.1,.int .i64 p.2]),_,w,ρ,?_,.inr rfl,?_,Ext.refl _ _,s,.tup _ _ rfl fun j hj=>?_⟩
 ·simp[execOp,ho,e1,r1]
 ·simp only[execOp,ho,e1,Sem.events_bind,Sem.events_map,r2,r1]
  intro e he
  have he:e=⟨.obj (ρ r).blk,false,false⟩∨e=⟨.obj (ρ b).blk,false,false⟩:=by simpa[wP] using he
  rcases he with rfl|rfl
  ·exact lp k3 k4
  ·exact lp g3 g4
 ·match j,hj with
  |0,_=>exact .int _ _
  |1,_=>exact .int _ _
def E8 (r b:Id)(n:Nat)(left:List Nat)(l:List (Int×Int))(d:D)(u:HL):Prop:=
 ((∀i,i∉left)∧d= .tup [.bool false]∧u=[])∨∃i p,i∈left∧l[i]?=some p∧d= .tup [.bool true,.int .i64 p.1,.int .i64 p.2]∧u=[(r,wD b n (left.filter fun j=>j !=i) (some i))]
theorem Bw [PhC P]{o:Oper}{it:Operand}{r b:Id}{l:List (Int×Int)}{n:Nat}{left:List Nat}{cur:Option Nat}(ho:o.op= .next it false)(hm:evalF t h it=some (.ptr r 0))(hr:look h r=some (wD b n left cur))(hb:look h b=some (fK l))(hn:l.length=n)(s:SimN P dfs γ N ρ t h a w):
  OpG P main o 1 γ a w fun γ' a' w'=>∃d u,E8 r b n left l d u∧sZ P dfs N ρ t h (puts u h) a o.dst d γ' a' w':=by
 refine sD s fun w s=>?_
 obtain⟨_,e1⟩:=(Sim.evalF s hm).ptr_inv
 obtain⟨_,⟨o',g1,g2,rfl⟩,g3,g4⟩:=SimN.obj s hb
 obtain⟨q1,⟨o2,k1,k2,k5⟩,k3,k4⟩:=SimN.obj s hr
 rcases BO (P:=P) (w:=w) (ty:=o.type) k1 k5 g1 hn with⟨r0,r1,r2⟩|⟨i,p,w1,o3,r0,r1,r2,r3,r4,r5,r6⟩
 ·refine⟨.value (.tuple #[.bool false]),_,w,ρ,.tup [.bool false],[],?_,.inr rfl,?_,Ext.refl _ _,s,.tup _ _ rfl (fun j hj=>?_),.inl ⟨r0,rfl,rfl⟩⟩
  ·simp[execOp,ho,e1,r1]
  ·simp only[execOp,ho,e1,Sem.events_bind,Sem.events_map,r2,r1]
   intro e he
   have he:e=⟨.obj (ρ r).blk,false,false⟩∨e=⟨.obj (ρ b).blk,false,false⟩:=by simpa[wP] using he
   rcases he with rfl|rfl
   ·exact lp k3 k4
   ·exact lp g3 g4
  ·match j,hj with
   |0,_=>exact .bool _
 ·have s1:Sim P w ⟨γ.S,dfs⟩ (γ.At w) N ρ t h a w1:=by
   rcases r2 with rfl|rfl
   ·exact s
   ·exact Sim.drew' s
  have hsz:w1.heap.size=w.heap.size:=by rcases r2 with rfl|rfl<;>rfl
  have hsz2:(setBlock w1 (ρ r).blk o3).heap.size=w.heap.size:=by simp[setBlock,hsz]
  refine⟨.value (.tuple #[.bool true,.int .i64 p.1,.int .i64 p.2]),_,_,ρ,.tup [.bool true,.int .i64 p.1,.int .i64 p.2],[(r,wD b n (left.filter fun j=>j !=i) (some i))],?_,.inr rfl,?_,Ext.refl _ _,
   Sim.setObj s1 hr rfl (q:=some b) (p:=t5 n (left.filter fun j=>j !=i) (some i)) (o:=o3) q1 r5 r4,.tup _ _ rfl (fun j hj=>?_),.inr ⟨i,p,r0,r1,rfl,rfl⟩⟩
  ·simp[execOp,ho,e1,r3]
  ·simp only[execOp,ho,e1,Sem.events_bind,Sem.events_map,r6,r3]
   intro e he
   have he:(e=⟨.obj (ρ r).blk,false,false⟩∨e=⟨.obj (ρ b).blk,false,false⟩)∨e=⟨.obj (ρ r).blk,true,false⟩:=by simpa[or_assoc,wP] using he
   rcases he with(rfl|rfl)|rfl
   ·exact lp (by rw[hsz2];exact k3) k4
   ·exact lp (by rw[hsz2];exact g3) g4
   ·exact lp (by rw[hsz2];exact k3) k4
  ·match j,hj with
   |0,_=>exact .bool _
   |1,_=>exact .int _ _
   |2,_=>exact .int _ _
theorem zl [PhC P]{o:Oper}{T E:TypeId}{m k:Operand}{B n c:Nat}{ik:IntKind}{j:Int}{sz:Nat}(ho:o.op= .indexAddr T m k)(hT:P.underlying T=some (.slice E))(hE:sizeT P E=some sz)(hm:evalF t h m=some (.val (.slice (some ⟨B,0,none⟩) n c)))(hk:aW t k=some (.int ik j))(hj:0≤j∧j<(n:Int)){f:List Nat}(hf:∀i∈jx t h m,i∈f):
  OpS P N o t h (.val (.pointer (some ⟨B,j.toNat * sz,none⟩))) [] f:=by
 refine jT fun t' h' ht ha dfs γ ρ a w s=>?_
 have hm':evalF t' h' m=some (.val (.slice (some ⟨B,0,none⟩) n c)):=by
  have e1:evalF t' h' m=evalF t h' m:=by unfold evalF;rw[ht m (by simp[ho,Op.operands])]
  rw[e1,←(cA hf ha).1];exact hm
 obtain⟨e1,_⟩:=(Sim.evalF s hm').val_inv
 have e2:=(Sim.eval s ((ht k (by simp[ho,Op.operands])).symm.trans hk)).int_inv
 have hr:(Instr.indexAt T (.slice (some ⟨B,0,none⟩) n c) (.int ik j)).run P w= .ok (.pointer (some ⟨B,j.toNat * sz,none⟩)) w∧(Instr.indexAt T (.slice (some ⟨B,0,none⟩) n c) (.int ik j)).events P w #[]= #[]:=by
  refine⟨?_,?_⟩
  ·rw[jW hT hE hj,gM]
  ·simp[Instr.indexAt,asIntOf,run_underlying hT,hj.1,hj.2,bS hE,dD]
 refine⟨.value (.pointer (some ⟨B,j.toNat * sz,none⟩)),_,w,ρ,?_,.inr rfl,?_,Ext.refl _ _,s,.pure (.val _ rfl)⟩
 ·simp[execOp,ho,e1,e2,hr.1]
 ·simp[execOp,ho,e1,e2,hr.1,hr.2]
end
end Go.Proofs.Ytbmnihglaokhmaa.Am
namespace Go.Proofs.Ytbmnihglaokhmaa.Am
open Go Go.RowKit Go.Conc
variable {P:Program} {w0:World} {S:SD} {A:Nat→Prop} {N:Nat} {ρ:Id→Pl} {t:List (Nat×D)} {h h':HL} {a:Act} {w:World}
theorem Sim.congr {t':List (Nat×D)}(s:Sim P w0 S A N ρ t h a w)(ht:∀x,look t' x=look t x)(hh:∀b,look h' b=look h b):Sim P w0 S A N ρ t' h' a w:=by
 have hl:Live h'=Live h:=funext fun b=>by simp only[Live,hh]
 have ho:okOf A ρ h' w=okOf A ρ h w:=funext fun k=>by simp only[okOf,hh]
 have hb:∀b x,BlkOK P A ρ h w b x→BlkOK P A ρ h' w b x:=by
  intro b x hx
  cases x<;>simp only[BlkOK,hl,ho] at hx⊢<;>exact hx
 exact⟨s.base,s.inS,s.fr,s.defers,s.size,fun k d hk=>by rw[ht] at hk;rw[hl,ho];exact s.tmp k d hk,fun b x hx=>hb b x (s.blk b x (by rw[←hh];exact hx)),fun b x hx=>s.own b x (by rw[←hh];exact hx),
  fun b b' x x' hx hx'=>s.inj b b' x x' (by rw[←hh];exact hx) (by rw[←hh];exact hx'),s.gl⟩
def eA (dst:Option Nat)(d:D)(t:List (Nat×D)):List (Nat×D):=match dst with|some k=>(k,d)::t|none=>t
theorem cE (dst:Option Nat)(d:D)(t:List (Nat×D))(x:Nat):look (eA dst d t) x=if dst=some x then some d else look t x:=by
 cases dst with
 |none=>simp[eA]
 |some k=>
  simp only[eA,look,aK]
  by_cases e:x=k
  ·simp[e]
  ·simp[e,cq e]
theorem Sim.putO (s:Sim P w0 S A N ρ t h a w){d:D}{v:Value}{dst:Option Nat}(hd:∀k,dst=some k→k<N)(hc:C ρ (Live h) (okOf A ρ h w) w d v):Sim P w0 S A N ρ (eA dst d t) h (a.put dst v) w:=by
 cases dst with
 |none=>exact s
 |some k=>
  have s':=s.putT k (hd k rfl) hc
  refine⟨s'.base,s'.inS,s'.fr,s'.defers,s'.size,fun x e hx=>s'.tmp x e ?_,s'.blk,s'.own,s'.inj,s'.gl⟩
  rw[aD]
  simpa only[eA,look] using hx
structure Rc where
 d:D
 u:HL
 f:List Nat
 n:Nat
 n':Nat
def ib (m:Nat→Bool):Nat→List (Oper×Rc)→List (Nat×D)→List (Nat×D)
 |_,[],t=>t
 |k,(o,r)::l,t=>ib m (k+1) l (if m k=true then eA o.dst r.d t else t)
def gt (m:Nat→Bool):Nat→List (Oper×Rc)→HL→HL
 |_,[],h=>h
 |k,(_,r)::l,h=>gt m (k+1) l (if m k=true then puts r.u h else h)
theorem kA (m:Nat→Bool):∀(l:List (Oper×Rc)) (k:Nat) (t t':List (Nat×D)) (x:Nat),look t x=look t' x→look (ib m k l t) x=look (ib m k l t') x
 |[],k,t,t',x,h=>h
 |(o,r)::l,k,t,t',x,h=>by
  refine kA m l (k+1) _ _ x ?_
  split
  ·rw[cE,cE,h]
  ·exact h
theorem kz (m:Nat→Bool):∀(l:List (Oper×Rc)) (k:Nat) (t t':HL) (x:Id),look t x=look t' x→look (gt m k l t) x=look (gt m k l t') x
 |[],k,t,t',x,h=>h
 |(o,r)::l,k,t,t',x,h=>by
  refine kz m l (k+1) _ _ x ?_
  split
  ·exact bQ h
  ·exact h
theorem j0 {m m':Nat→Bool}{x:Nat}:∀(l:List (Oper×Rc)) (k:Nat) (t:List (Nat×D)),(∀i o r,l[i]?=some (o,r)→m (k+i)≠m' (k+i)→o.dst≠some x)→look (ib m k l t) x=look (ib m' k l t) x
 |[],k,t,_=>rfl
 |(o,r)::l,k,t,hd=>by
  have ih:=j0 (m:=m) (m':=m') (x:=x) l (k+1) (if m k=true then eA o.dst r.d t else t) fun i o r hi hm=>hd (i+1) o r (by simpa using hi) (by rw[show k+(i+1)=k+1+i by omega];exact hm)
  show look (ib m (k+1) l _) x=look (ib m' (k+1) l _) x
  rw[ih]
  refine kA m' l (k+1) _ _ x ?_
  by_cases e:m k=m' k
  ·rw[e]
  ·have:=hd 0 o r rfl (by simpa using e)
   have h2:∀b:Bool,look (if b=true then eA o.dst r.d t else t) x=look t x:=by
    intro b;cases b
    ·rfl
    ·simp only[if_true];rw[cE,if_neg this]
   rw[h2,h2]
theorem iV {m m':Nat→Bool}{x:Id}:∀(l:List (Oper×Rc)) (k:Nat) (t:HL),(∀i o r,l[i]?=some (o,r)→m (k+i)≠m' (k+i)→∀y∈r.u,y.1≠x)→look (gt m k l t) x=look (gt m' k l t) x
 |[],k,t,_=>rfl
 |(o,r)::l,k,t,hd=>by
  have ih:=iV (m:=m) (m':=m') (x:=x) l (k+1) (if m k=true then puts r.u t else t) fun i o r hi hm=>hd (i+1) o r (by simpa using hi) (by rw[show k+(i+1)=k+1+i by omega];exact hm)
  show look (gt m (k+1) l _) x=look (gt m' (k+1) l _) x
  rw[ih]
  refine kz m' l (k+1) _ _ x ?_
  by_cases e:m k=m' k
  ·rw[e]
  ·have:=hd 0 o r rfl (by simpa using e)
   have h2:∀b:Bool,look (if b=true then puts r.u t else t) x=look t x:=by
    intro b;cases b
    ·rfl
    ·simp only[if_true];exact aS _ _ _ this
   rw[h2,h2]
def dh (m:Nat→Bool)(j:Nat)(k:Nat):Bool:=m k||k==j
theorem yq {m:Nat→Bool}{j:Nat}{oj:Oper}{rj:Rc}(hm:m j=false):∀(l:List (Oper×Rc)) (k:Nat) (t:List (Nat×D)),k≤j→l[j-k]?=some (oj,rj)→
  (∀i o r,l[i]?=some (o,r)→j<k+i→m (k+i)=true→∀x,oj.dst=some x→o.dst≠some x)→∀x,look (ib (dh m j) k l t) x=look (eA oj.dst rj.d (ib m k l t)) x
 |[],k,t,_,hl,_,x=>by simp at hl
 |(o,r)::l,k,t,hk,hl,hd,x=>by
  by_cases e:k=j
  ·subst e
   simp only[Nat.sub_self,fi,aK,bi] at hl
   obtain⟨rfl,rfl⟩:=hl
   have e1:dh m k k=true:=by simp[dh]
   show look (ib (dh m k) (k+1) l (if dh m k k=true then eA o.dst r.d t else t)) x=look (eA o.dst r.d (ib m (k+1) l (if m k=true then eA o.dst r.d t else t))) x
   rw[e1,hm]
   simp only[if_true,eZ,if_false]
   have e2:look (ib (dh m k) (k+1) l (eA o.dst r.d t)) x=look (ib m (k+1) l (eA o.dst r.d t)) x:=by
    refine j0 l (k+1) _ fun i o r hi hne=>absurd ?_ hne
    simp only[dh]
    have:(k+1+i==k)=false:=by simp;omega
    rw[this,Bool.or_false]
   rw[e2,cE]
   by_cases hx:o.dst=some x
   ·rw[if_pos hx]
    have:look (ib m (k+1) l (eA o.dst r.d t)) x=look (ib (fun _=>false) (k+1) l (eA o.dst r.d t)) x:=by
     refine j0 l (k+1) _ fun i o' r' hi hne=>?_
     refine hd (i+1) o' r' (by simpa using hi) (by omega) ?_ x hx
     rw[show k+(i+1)=k+1+i by omega]
     simpa using hne
    rw[this]
    have hf:∀(l:List (Oper×Rc)) (k:Nat) (t:List (Nat×D)),ib (fun _=>false) k l t=t:=by
     intro l
     induction l with
     |nil=>intro k t;rfl
     |cons y l ih=>intro k t;obtain⟨o,r⟩:=y;exact ih (k+1) t
    rw[hf,cE,if_pos hx]
   ·rw[if_neg hx]
    refine kA m l (k+1) _ _ x ?_
    rw[cE,if_neg hx]
  ·have hlt:k<j:=by omega
   have e1:dh m j k=m k:=by
    have:(k==j)=false:=by simp[e]
    simp only[dh,this,Bool.or_false]
   show look (ib (dh m j) (k+1) l (if dh m j k=true then eA o.dst r.d t else t)) x=look (eA oj.dst rj.d (ib m (k+1) l (if m k=true then eA o.dst r.d t else t))) x
   rw[e1]
   refine yq hm l (k+1) _ (by omega) (by rw[show j-k=(j-(k+1))+1 by omega] at hl;simpa using hl) (fun i o r hi hj hmi=>hd (i+1) o r (by simpa using hi) (by omega) (by rw[show k+(i+1)=k+1+i by omega];exact hmi)) x
theorem yo {m:Nat→Bool}{j:Nat}{oj:Oper}{rj:Rc}(hm:m j=false):∀(l:List (Oper×Rc)) (k:Nat) (t:HL),k≤j→l[j-k]?=some (oj,rj)→
  (∀i o r,l[i]?=some (o,r)→j<k+i→m (k+i)=true→∀x∈rj.u,∀y∈r.u,x.1≠y.1)→∀x,look (gt (dh m j) k l t) x=look (puts rj.u (gt m k l t)) x
 |[],k,t,_,hl,_,x=>by simp at hl
 |(o,r)::l,k,t,hk,hl,hd,x=>by
  by_cases e:k=j
  ·subst e
   simp only[Nat.sub_self,fi,aK,bi] at hl
   obtain⟨rfl,rfl⟩:=hl
   have e1:dh m k k=true:=by simp[dh]
   show look (gt (dh m k) (k+1) l (if dh m k k=true then puts r.u t else t)) x=look (puts r.u (gt m (k+1) l (if m k=true then puts r.u t else t))) x
   rw[e1,hm]
   simp only[if_true,eZ,if_false]
   have e2:look (gt (dh m k) (k+1) l (puts r.u t)) x=look (gt m (k+1) l (puts r.u t)) x:=by
    refine iV l (k+1) _ fun i o r hi hne=>absurd ?_ hne
    simp only[dh]
    have:(k+1+i==k)=false:=by simp;omega
    rw[this,Bool.or_false]
   rw[e2]
   by_cases hx:∃y∈r.u,y.1=x
   ·have h1:look (gt m (k+1) l (puts r.u t)) x=look (gt (fun _=>false) (k+1) l (puts r.u t)) x:=by
     refine iV l (k+1) _ fun i o' r' hi hne=>?_
     obtain⟨y,hy,rfl⟩:=hx
     exact fun z hz he=>hd (i+1) o' r' (by simpa using hi) (by omega) (by rw[show k+(i+1)=k+1+i by omega];simpa using hne) y hy z hz he.symm
    have h2:look (gt m (k+1) l t) x=look (gt (fun _=>false) (k+1) l t) x:=by
     refine iV l (k+1) _ fun i o' r' hi hne=>?_
     obtain⟨y,hy,rfl⟩:=hx
     exact fun z hz he=>hd (i+1) o' r' (by simpa using hi) (by omega) (by rw[show k+(i+1)=k+1+i by omega];simpa using hne) y hy z hz he.symm
    have hf:∀(l:List (Oper×Rc)) (k:Nat) (t:HL),gt (fun _=>false) k l t=t:=by
     intro l
     induction l with
     |nil=>intro k t;rfl
     |cons y l ih=>intro k t;obtain⟨o,r⟩:=y;exact ih (k+1) t
    rw[h1,hf]
    rw[hf] at h2
    exact(bQ h2).symm
   ·have hx':∀y∈r.u,y.1≠x:=fun y hy e=>hx ⟨y,hy,e⟩
    rw[aS _ _ _ hx']
    refine kz m l (k+1) _ _ x ?_
    rw[aS _ _ _ hx']
  ·have hlt:k<j:=by omega
   have e1:dh m j k=m k:=by
    have:(k==j)=false:=by simp[e]
    simp only[dh,this,Bool.or_false]
   show look (gt (dh m j) (k+1) l (if dh m j k=true then puts r.u t else t)) x=look (puts rj.u (gt m (k+1) l (if m k=true then puts r.u t else t))) x
   rw[e1]
   refine yo hm l (k+1) _ (by omega) (by rw[show j-k=(j-(k+1))+1 by omega] at hl;simpa using hl) (fun i o r hi hj hmi=>hd (i+1) o r (by simpa using hi) (by omega) (by rw[show k+(i+1)=k+1+i by omega];exact hmi)) x

end Go.Proofs.Ytbmnihglaokhmaa.Am
