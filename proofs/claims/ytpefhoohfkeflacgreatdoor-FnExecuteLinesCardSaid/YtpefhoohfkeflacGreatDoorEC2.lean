/- The plain machine: slices of slices; freezing what is handed on. The plain machine: contracts, calls. The plain machine: the callee's start, and what is known once it has returned. The plain machine: blocks that have got another name; what an operation looks at. The plain machine: one operation. A rule for a statement whose order is open (a region that draws its order): each operation is looked at once, in the order of the text, whatever order the run takes. Operations that change the world (calls, new blocks, stores) promise a value and a fact; all others read. The plain machine: an operation -/
import Derived.Calls
import Derived.LaidEqlPtr
import Derived.Laws.StructEq
import Derived.Orders
import Derived.Deep.Quiet
import Derived.BigRegion
import Derived.Below
import Derived.Test.YtpefhoohfkeflacGreatDoorEC1
set_option linter.unusedSimpArgs false
set_option linter.unusedVariables false
set_option maxHeartbeats 1000000
namespace Go.Proofs.YtpefhoohfkeflacGreatDoor.Am
open Go Go.RowKit
variable {P:Program} {w0:World} {S:SD} {A:Nat→Prop} {N:Nat} {ρ:Id→Pl} {t:List (Nat×D)} {h:HL} {a:Act} {w:World}
theorem EF (l:List D)(hh ll i:Nat)(hi:i<hh-ll):((l.take hh).drop ll).getD i .undef=l.getD (ll+i) .undef:=by
 have:ll+i<hh:=by omega
 simp only[aq,nQ,en,this,if_true]
theorem IY {ok:Nat→Prop}{T E:TypeId}{l:List D}{v:Value}{s hh ll:Nat}(hr:Rep ok w (.lst l) v)(hu:P.underlying T=some (.slice E))(hs:sizeT P E=some s)(hso:Ar s l=s)(h1:hh≤l.length)(h2:ll≤hh)
  {lo hi:Option Value} (hlo:(lo=none∧ll=0)∨∃k,lo=some (.int k (ll:Nat))) (hhi:(hi=none∧hh=l.length)∨∃k,hi=some (.int k (hh:Nat))):
  ∃v',(Instr.sliceAt T v lo hi none).run P w= .ok v' w∧Rep ok w (.lst ((l.take hh).drop ll)) v':=by
 obtain⟨a',cap,rfl,hcap,hmax,ha⟩:∃a cap,v= .slice a l.length cap∧l.length≤cap∧cap≤maxLen∧(a=none→cap=0):=by
  cases hr with
  |none a cap ha hcap=>exact⟨a,cap,rfl,aW _,hcap,ha⟩
  |lst _ n b off cap f hn hcap hmax hok hsz hpos hc hr=>subst hn;exact⟨_,cap,rfl,hcap,hmax,fun h=>by cases h⟩
 refine⟨.slice (if cap=ll then a' else a'.map (·.add (ll*s))) (hh-ll) (cap-ll),?_,?_⟩
 ·have b1:((hh:Nat):Int)≤(cap:Nat):=by omega
  have b2:((ll:Nat):Int)≤(hh:Nat):=by omega
  rcases hlo with⟨rfl,rfl⟩|⟨k,rfl⟩<;>rcases hhi with⟨rfl,rfl⟩|⟨k',rfl⟩<;>
   simp[Instr.sliceAt,Instr.slice,run_underlying hu,Instr.sliceBounds,Instr.sliceBound,asIntOf,bX hs,h2]<;>(try(intro h;omega))<;>(try omega)
  all_goals (first|(rw[if_pos (by omega)];simp[bX hs];done)|skip)
  all_goals (try(rw[if_pos (by omega)];simp[bX hs];rw[if_pos (by omega)];simp[bX hs]))
 ·by_cases he:hh=ll
  ·have:(l.take hh).drop ll=[]:=tB (by simp;omega)
   rw[this,show hh-ll=0 by omega]
   refine Rep.none _ _ (fun h=>?_) (by omega)
   split at h
   ·omega
   ·cases a' with
    |none=>have:=ha rfl;omega
    |some ad=>cases h
  ·have hne:l≠[]:=by rintro rfl;simp at h1;omega
   have hsz:=wi hne hso
   cases hr with
   |none a cap ha hcap=>exact absurd rfl hne
   |lst _ n b off cap f hn hcap' hmax' hok hwf hpos hc hr'=>
    have hlen:((l.take hh).drop ll).length=hh-ll:=by simp;omega
    have hmem:∀e∈(l.take hh).drop ll,e∈l:=fun e he=>jU (List.mem_of_mem_drop he)
    have hsz2:szl ((l.take hh).drop ll)=szl l:=by
     cases hL:(l.take hh).drop ll with
     |nil=>rw[hL] at hlen;simp at hlen;omega
     |cons e0 L0=>exact(hwf e0 (hmem e0 (by rw[hL];exact bk ..))).1
    rw[if_neg (by omega)]
    simp only[aI,dS]
    refine .lst _ _ b (off+ll*s) _ (fun i j=>f (ll+i) j) hlen (by omega) (by omega) hok (fun e he=>by rw[hsz2];exact hwf e (hmem e he)) (by rw[hsz2];exact hpos) (fun i j hi hj=>?_) (fun i j hi hj=>?_)
    ·rw[hsz2] at hj⊢
     rw[←hc (ll+i) j (by omega) hj,hsz,dA]
     congr 2
     omega
    ·rw[hsz2] at hj
     rw[EF l hh ll i hi]
     exact hr' (ll+i) j (by omega) hj
theorem mB {L:Id→Prop}{ok:Nat→Prop}{len dflt k:Nat}{d:Option D}{v:Option Value}(hd:iA len d dflt=some k)(hv:(d=none∧v=none)∨∃d' v',d=some d'∧v=some v'∧C ρ L ok w d' v')(hdf:dflt≤len):
  k≤len∧((v=none∧k=dflt)∨∃q,v=some (.int q (k:Nat))):=by
 unfold iA at hd
 rcases hv with⟨rfl,rfl⟩|⟨d',v',rfl,rfl,hc⟩
 ·simp only[aw] at hd
  subst hd
  exact⟨hdf,.inl ⟨rfl,rfl⟩⟩
 ·split at hd
  ·rename_i he;cases he
  ·rename_i q i he
   obtain rfl:=ar he
   obtain rfl:=hc.int_inv
   split at hd
   ·rename_i hi
    simp only[aw] at hd
    subst hd
    refine⟨by omega,.inr ⟨q,?_⟩⟩
    congr 2
    omega
   ·cases hd
  ·cases hd
theorem Sim.again (s:Sim P w0 S A N ρ t h a w){b n:Id}{x y:Blk}{p:Pl}(hb:look h b=some x)(hxl:x.live=true)(hn:look h n=none)(hp:p.blk=(ρ b).blk)(hym:y.mutable=true→x.mutable=true)
  (hy:(∀d v,C ρ (Live h) (okOf A ρ h w) w d v→C (fO ρ n p) (Live (put n y (put b .gone h))) (okOf A (fO ρ n p) (put n y (put b .gone h)) w) w d v)→BlkOK P A (fO ρ n p) (put n y (put b .gone h)) w n y):
  Ext h ρ (fO ρ n p)∧Sim P w0 S A N (fO ρ n p) t (put n y (put b .gone h)) a w:=by
 have key:∀b' z,look (put n y (put b .gone h)) b'=some z→(b'=n∧z=y)∨(b'=b∧z= .gone)∨(b'≠n∧b'≠b∧look h b'=some z):=by
  intro b' z hz
  rw[af,af] at hz
  by_cases e:b'=n
  ·rw[if_pos e] at hz;exact .inl ⟨e,(ar hz).symm⟩
  ·rw[if_neg e] at hz
   by_cases e2:b'=b
   ·rw[if_pos e2] at hz;exact .inr (.inl ⟨e2,(ar hz).symm⟩)
   ·rw[if_neg e2] at hz;exact .inr (.inr ⟨e,e2,hz⟩)
 have hρ:∀b',Live h b'→Live (put n y (put b .gone h)) b'∧fO ρ n p b'=ρ b':=fun b' hb'=>⟨hb'.put.put,bw ρ _ (hb'.ne hn)⟩
 have hok:∀k,okOf A ρ h w k→okOf A (fO ρ n p) (put n y (put b .gone h)) w k∧w.heap[k]?=w.heap[k]?:=by
  rintro k ⟨hk,hm⟩
  refine⟨⟨hk,fun b' z hz hmu=>?_⟩,rfl⟩
  rcases key b' z hz with⟨rfl,rfl⟩|⟨rfl,rfl⟩|⟨e1,_,hz⟩
  ·rw[aH,hp];exact hm b x hb (hym hmu)
  ·cases hmu
  ·rw[bw ρ _ e1];exact hm b' z hz hmu
 refine⟨Ext.at hn _,s.step s.fr hρ hok (fun b' z hz=>?_) (ax _) (fun b1 b3 y1 y3 hy1 hy3 hl1 hl3 he=>?_)⟩
 ·rcases key b' z hz with⟨rfl,rfl⟩|⟨rfl,rfl⟩|⟨e1,e2,hz⟩
  ·refine .inr ⟨hy fun d v hc=>hc.mono hρ hok,fun hl=>?_⟩
   rw[aH,hp];exact s.own b x hb hxl
  ·exact .inr ⟨trivial,fun hl=>by cases hl⟩
  ·exact .inl ⟨hz,fun _=>rfl⟩
 ·rcases key b1 y1 hy1 with⟨e1,f1⟩|⟨e1,f1⟩|⟨e1,g1,f1⟩
  ·rcases key b3 y3 hy3 with⟨e3,f3⟩|⟨e3,f3⟩|⟨e3,g3,f3⟩
   ·rw[e1,e3]
   ·rw[f3] at hl3;cases hl3
   ·rw[e1,aH,bw ρ _ e3,hp] at he
    exact absurd (s.inj b b3 x y3 hb f3 hxl hl3 he).symm g3
  ·rw[f1] at hl1;cases hl1
  ·rcases key b3 y3 hy3 with⟨e3,f3⟩|⟨e3,f3⟩|⟨e3,g3,f3⟩
   ·rw[e3,aH,bw ρ _ e1,hp] at he
    exact absurd (s.inj b1 b y1 x f1 hb hl1 hxl he) g1
   ·rw[f3] at hl3;cases hl3
   ·rw[bw ρ _ e1,bw ρ _ e3] at he
    exact s.inj b1 b3 y1 y3 f1 f3 hl1 hl3 he
theorem Sim.shrink (s:Sim P w0 S A N ρ t h a w){b n:Id}{E:TypeId}{l:List D}(hb:look h b=some (.row E l))(hn:look h n=none){k:Nat}(hk:k≤l.length):
  Ext h ρ (fO ρ n {ρ b with len:=k})∧Sim P w0 S A N (fO ρ n {ρ b with len:=k}) t (put n (.row E (l.take k)) (put b .gone h)) a w:=by
 obtain⟨c,h1,h2,h3,h4,h5,h6,h7,h8,h9⟩:=s.blk b _ hb
 refine s.again hb rfl hn rfl (fun _=>rfl) fun hC=>?_
 simp only[BlkOK,aH]
 refine⟨c,h1,h2,by simp;omega,by omega,h5,h6,h7,fun e he=>h8 e (jU he),fun i j hi hj=>?_⟩
 have hi1:i<k:=by simp at hi;omega
 have hi2:i<l.length:=by omega
 have e:(l.take k).getD i .undef=l.getD i .undef:=by simp[aq,en,hi1]
 rw[e]
 exact hC _ _ (h9 i j hi2 hj)
theorem Sim.cut (s:Sim P w0 S A N ρ t h a w){T:TypeId}{d d':D}{lo hi:Option D}{u:HL}{v:Value}{vlo vhi:Option Value}{q:Bool}{n:Id}(hd:fN P h q n T d lo hi=some (d',u))(hn:q=true→look h n=none)
  (hv:C ρ (Live h) (okOf A ρ h w) w d v) (hlo:(lo=none∧vlo=none)∨∃d' v',lo=some d'∧vlo=some v'∧C ρ (Live h) (okOf A ρ h w) w d' v') (hhi:(hi=none∧vhi=none)∨∃d' v',hi=some d'∧vhi=some v'∧C ρ (Live h) (okOf A ρ h w) w d' v'):
  ∃v' ρ',Ext h ρ ρ'∧(Instr.sliceAt T v vlo vhi none).run P w= .ok v' w∧Sim P w0 S A N ρ' t (puts u h) a w∧C ρ' (Live (puts u h)) (okOf A ρ' (puts u h) w) w d' v':=by
 unfold fN at hd
 split at hd
 ·rename_i hu
  split at hd
  ·rename_i str
   obtain rfl:=hv.str_inv
   split at hd
   ·rename_i hh hbh
    obtain⟨q1,q2⟩:=mB hbh hhi (ax _)
    split at hd
    ·rename_i ll hbl
     obtain⟨q3,q4⟩:=mB hbl hlo (aW _)
     simp only[aw,aZ] at hd
     obtain⟨rfl,rfl⟩:=hd
     refine⟨.string (str.extract ll hh),ρ,Ext.refl _ _,?_,s,.str _⟩
     have b1:((hh:Nat):Int)≤(str.size:Nat):=by omega
     have b2:((ll:Nat):Int)≤(hh:Nat):=by omega
     rcases q4 with⟨rfl,rfl⟩|⟨k,rfl⟩<;>rcases q2 with⟨rfl,rfl⟩|⟨k',rfl⟩<;>
      simp[Instr.sliceAt,Instr.slice,run_underlying hu,Instr.sliceBounds,Instr.sliceBound,asIntOf,q1,q3]
    ·cases hd
   ·cases hd
  ·cases hd
 ·rename_i E hu
  split at hd
  ·rename_i sz l hs hl
   split at hd
   ·rename_i hso
    split at hd
    ·rename_i hh hbh
     obtain⟨q1,q2⟩:=mB hbh hhi (ax _)
     split at hd
     ·rename_i ll hbl
      obtain⟨q3,q4⟩:=mB hbl hlo (aW _)
      have q4':(vlo=none∧ll=0)∨∃k,vlo=some (.int k (ll:Nat)):=q4
      have fin:∀{h':HL},Rep (okOf A ρ h' w) w (.lst l) v→∃v',(Instr.sliceAt T v vlo vhi none).run P w= .ok v' w∧C ρ (Live h') (okOf A ρ h' w) w (.lst ((l.take hh).drop ll)) v':=by
       intro h' hr
       obtain⟨v',e1,e2⟩:=IY (P:=P) hr hu hs hso q1 q3 q4' q2
       exact⟨v',e1,.pure e2⟩
      split at hd
      ·rename_i b
       obtain⟨hlb,rfl⟩:=hv.ref_inv
       split at hd
       ·rename_i E' l' hb
        simp only[Am.elems,hb,aw] at hl
        subst hl
        split at hd
        ·rename_i hq
         split at hd
         ·rename_i hl0
          subst hl0
          simp only[aw,aZ] at hd
          obtain⟨rfl,rfl⟩:=hd
          obtain⟨x1,x2⟩:=s.shrink hb (hn hq) q1
          have hbk:=s.blk b _ hb
          obtain⟨c,h1,h2,h3,h4,h5,h6,h7,h8,h9⟩:=hbk
          have hL:Live (puts [(b,Blk.gone),(n,.row E' (l'.take hh))] h) n:=by
           show Live (put n _ (put b _ h)) n
           unfold Live;rw[af];simp
          refine⟨.slice (some ⟨(ρ b).blk,0,none⟩) hh (ρ b).cap,_,x1,?_,x2,?_⟩
          ·have b1:((hh:Nat):Int)≤((ρ b).cap:Nat):=by omega
           have b2:((0:Nat):Int)≤(hh:Nat):=by omega
           have a0:((⟨(ρ b).blk,0,none⟩:Addr).add 0)=⟨(ρ b).blk,0,none⟩:=rfl
           rcases q4' with⟨rfl,_⟩|⟨k,rfl⟩<;>rcases q2 with⟨rfl,rfl⟩|⟨k',rfl⟩<;>
            simp[Instr.sliceAt,Instr.slice,run_underlying hu,Instr.sliceBounds,Instr.sliceBound,asIntOf,bX hs,h3,h4,a0]<;>(try omega)
           all_goals (try(rw[if_pos (by omega)];simp[bX hs,a0]))
          ·have:=C.ref (ρ:=fO ρ n {ρ b with len:=hh}) (L:=Live (puts [(b,Blk.gone),(n,.row E' (l'.take hh))] h)) (ok:=okOf A (fO ρ n {ρ b with len:=hh}) (puts [(b,Blk.gone),(n,.row E' (l'.take hh))] h) w) (w:=w) n hL
           simpa only[aH] using this
         ·cases hd
        ·split at hd
         ·rename_i hpu
          simp only[aw,aZ] at hd
          obtain⟨rfl,rfl⟩:=hd
          rw[aM] at hpu
          have s':=s.freeze hb hpu
          have hbk:=s'.blk b (.froz l') (by rw[af];simp)
          obtain⟨v',e1,e2⟩:=fin hbk
          exact⟨v',ρ,Ext.refl _ _,e1,s',e2⟩
         ·cases hd
       ·rename_i hnr
        simp only[aw,aZ] at hd
        obtain⟨rfl,rfl⟩:=hd
        simp only[Am.elems] at hl
        split at hl
        ·rename_i E' l' hb;exact absurd hb (hnr E' l')
        ·rename_i l' hb
         simp only[aw] at hl;subst hl
         obtain⟨v',e1,e2⟩:=fin (s.blk b _ hb)
         exact⟨v',ρ,Ext.refl _ _,e1,s,e2⟩
        ·cases hl
      ·cases hd
      ·rename_i hnr hnv
       simp only[aw,aZ] at hd
       obtain⟨rfl,rfl⟩:=hd
       have hr:Rep (okOf A ρ h w) w (.lst l) v:=by
        unfold Am.elems at hl
        split at hl
        ·simp only[aw] at hl;subst hl;exact hv.lst_inv
        ·simp only[aw] at hl;subst hl
         obtain rfl:=hv.nils_inv
         exact .none _ _ (fun _=>rfl) (by unfold maxLen;omega)
        ·rename_i b;exact absurd rfl (hnr b)
        ·rename_i b o n;exact absurd rfl (hnv b o n)
        ·cases hl
       obtain⟨v',e1,e2⟩:=fin hr
       exact⟨v',ρ,Ext.refl _ _,e1,s,e2⟩
     ·cases hd
    ·cases hd
   ·cases hd
  ·cases hd
 ·rename_i n E hu
  split at hd
  ·rename_i b o
   split at hd
   ·rename_i T' cs hs hb
    split at hd
    ·rename_i hmax
     simp only[aw,aZ] at hd
     obtain⟨rfl,rfl⟩:=hd
     obtain⟨hl,rfl⟩:=hv.ptr_inv
     rcases hlo with⟨_,rfl⟩|⟨_,_,h1,_⟩
     ·rcases hhi with⟨_,rfl⟩|⟨_,_,h1,_⟩
      ·refine⟨.slice (some ⟨(ρ b).blk,o,none⟩) n n,ρ,Ext.refl _ _,?_,s,.vref b o n hl hmax⟩
       simp[Instr.sliceAt,Instr.slice,run_underlying hu,Instr.sliceBounds,bX hs,Instr.sureAddr,asAddr,dS]
      ·cases h1
     ·cases h1
    ·cases hd
   ·cases hd
  ·cases hd
 ·cases hd
def leaf (d:D):Option D:=if d.pure0=true then some (nz0 d) else none
theorem rm {d d':D}(h:leaf d=some d'):d.pure0=true∧d'=nz0 d∧d'.pure0=true:=by
 unfold leaf at h
 split at h
 ·rename_i hp
  simp only[aw] at h
  subst h
  exact⟨hp,rfl,ut hp⟩
 ·cases h
def purE (f:D→Option D):D→Option D
 | .agg cs=>(cs.mapM f).map .agg
 |d=>f d
def purD (h:HL):Nat→D→Option D
 |0,d=>leaf d
 |k+1,d=>match d with
  | .ref b=>(match look h b with
   |some (.row _ l)=>(l.mapM (purE (purD h k))).map .lst
   |some (.froz l)=>some (.lst l)
   |_=>none)
  | .ptr b 0=>(match look h b with
   |some (.var _ cs)=>if cs=[] then none else(cs.mapM (purD h k)).map .box
   |some (.fvar cs)=>some (.box cs)
   |_=>none)
  |d=>leaf d
def idsD (h:HL):Nat→D→List Id
 |0,_=>[]
 |k+1,d=>match d with
  | .ref b=>b::(match look h b with
   |some (.row _ l)=>l.flatMap fun e=>e.cells.flatMap (idsD h k)
   |_=>[])
  | .ptr b 0=>b::(match look h b with
   |some (.var _ cs)=>cs.flatMap (idsD h k)
   |_=>[])
  |_=>[]
def pur (h:HL)(k:Nat):D→Option D
 | .agg cs=>(cs.mapM (purD h k)).map .agg
 | .tup cs=>(cs.mapM (purD h k)).map .tup
 |d=>purD h k d
def ids (h:HL)(k:Nat):D→List Id
 | .agg cs=>cs.flatMap (idsD h k)
 | .tup cs=>cs.flatMap (idsD h k)
 |d=>idsD h k d
theorem jh {α β:Type}{f:α→Option β}{a0:α}{b0:β}:∀{cs:List α} {cs':List β},cs.mapM f=some cs'→cs'.length=cs.length∧∀i,i<cs.length→f (cs.getD i a0)=some (cs'.getD i b0)
 |[],cs',h=>by simp at h;subst h;simp
 |d::cs,cs',h=>by
  simp only[iw,qf,bE,Option.pure_def,aw] at h
  obtain⟨d',h1,cs2,h2,rfl⟩:=h
  obtain⟨e,ih⟩:=jh (a0:=a0) (b0:=b0) h2
  refine⟨by simp[e],fun i hi=>?_⟩
  cases i with
  |zero=>simpa using h1
  |succ i=>simpa using ih i (by simpa using hi)
theorem bj {l:List D}{i:Nat}(hi:i<l.length):l.getD i .undef∈l:=by
 rw[aq,am hi];exact bd hi
theorem bW {l:List D}{c:D}(h:c∈l):∃i,i<l.length∧l.getD i .undef=c:=by
 obtain⟨i,hi,rfl⟩:=List.mem_iff_getElem.1 h
 exact⟨i,hi,by rw[aq,am hi];rfl⟩
theorem IS {f:D→Option D}(hf:∀d d',f d=some d'→d'.pure0=true)(hna:∀cs,f (.agg cs)=none){e e':D}{s:Nat}(he:wfC s e)(h:purE f e=some e'):
  wfE s e'∧∀j,j<s→f (e.cells.getD j .undef)=some (e'.cells.getD j .undef):=by
 by_cases hag:∃cs,e= .agg cs
 ·obtain⟨cs,rfl⟩:=hag
  simp only[purE] at h
  obtain⟨cs',h1,rfl⟩:=bm.1 h
  obtain⟨e1,q⟩:=jh (a0:=.undef) (b0:=.undef) h1
  have hl:cs.length=s:=he.1
  refine⟨⟨by show cs'.length=s;omega,?_⟩,fun j hj=>q j (by omega)⟩
  rw[aM]
  intro x hx
  obtain⟨j,hj,rfl⟩:=bW hx
  exact hf _ _ (q j (by simp only[D.cells] at hj;omega))
 ·have h2:purE f e=f e:=by cases e<;>first|rfl|exact absurd ⟨_,rfl⟩ hag
  rw[h2] at h
  have hc:e.cells=[e]:=dh fun cs hcs=>hag ⟨cs,hcs⟩
  have hp:=hf _ _ h
  have hs:s=1:=by have:=he.1;rw[hc] at this;simpa using this.symm
  subst hs
  rw[hc]
  refine⟨⟨by rw[dg hp];rfl,by rw[dg hp];simp[hp]⟩,fun j hj=>?_⟩
  obtain rfl:j=0:=by omega
  rw[dg hp]
  exact h
theorem s5 {ok:Nat→Prop}{c:Array Value}{E:TypeId}{l l':List D}{blk sz len cap:Nat}{f:D→Option D}(hf:∀d d',f d=some d'→d'.pure0=true)(hna:∀cs,f (.agg cs)=none)(hl:l.mapM (purE f)=some l')
  (h1:w.heap[blk]?=some (.cells c E (0,0))) (h2:c.size=cap*sz) (h3:l.length=len) (h4:len≤cap) (h5:cap≤maxLen) (h6:0<sz) (h8:∀e∈l,wfC sz e) (hok:ok blk)
  (hr:∀i j d',i<l.length→j<sz→f ((l.getD i .undef).cells.getD j .undef)=some d'→Rep ok w d' (c.getD (i*sz+j) undef)):Rep ok w (.lst l') (.slice (some ⟨blk,0,none⟩) len cap):=by
 obtain⟨e1,q⟩:=jh (a0:=.undef) (b0:=.undef) hl
 have qe:∀i,i<l.length→wfE sz (l'.getD i .undef)∧∀j,j<sz→f ((l.getD i .undef).cells.getD j .undef)=some ((l'.getD i .undef).cells.getD j .undef):=fun i hi=>IS hf hna (h8 _ (bj hi)) (q i hi)
 cases hl':l' with
 |nil=>
  rw[hl'] at e1
  simp only[dz] at e1
  obtain rfl:len=0:=by omega
  exact .none _ _ (fun h=>by cases h) h5
 |cons e0 l0=>
  rw[←hl']
  have hwf:∀e∈l',wfE sz e:=fun e he=>by
   obtain⟨i,hi,rfl⟩:=bW he
   exact(qe i (by omega)).1
  have hsz:szl l'=sz:=by rw[hl'];exact(hwf e0 (by rw[hl'];exact bk ..)).1
  refine .lst _ _ _ _ _ (fun i j=>c.getD (i*sz+j) undef) (by omega) h4 h5 hok (fun e he=>by rw[hsz];exact hwf e he) (by rw[hsz];exact h6) (fun i j hi hj=>?_) (fun i j hi hj=>?_)
  ·rw[hsz] at hj⊢
   have hlt':i*sz+j<c.size:=by
    rw[h2]
    have:(i+1)*sz≤cap*sz:=eV _ (by omega)
    rw[dA] at this
    omega
   simp[World.cell?,h1,hlt',bJ]
  ·rw[hsz] at hj
   exact hr i j _ (by omega) hj ((qe i (by omega)).2 j hj)
theorem uB:∀(k:Nat) (d d':D),purD h k d=some d'→d'.pure0=true
 |0,d,d',hd=>(rm hd).2.2
 |k+1,d,d',hd=>by
  unfold purD at hd
  split at hd
  ·split at hd
   ·obtain⟨_,_,rfl⟩:=bm.1 hd;rfl
   ·simp only[aw] at hd;subst hd;rfl
   ·cases hd
  ·split at hd
   ·split at hd
    ·cases hd
    ·obtain⟨_,_,rfl⟩:=bm.1 hd;rfl
   ·simp only[aw] at hd;subst hd;rfl
   ·cases hd
  ·exact(rm hd).2.2
theorem s4 (k:Nat)(cs:List D):purD h k (.agg cs)=none:=by cases k<;>rfl
theorem C.leaf {L:Id→Prop}{ok:Nat→Prop}{d d':D}{v:Value}(hd:Am.leaf d=some d')(hv:C ρ L ok w d v):Rep ok w d' v:=by
 obtain⟨h1,rfl,_⟩:=rm hd
 exact(hv.rep0 h1).nz0
theorem Sim.purD (s:Sim P w0 S A N ρ t h a w){ok':Nat→Prop}(hok:∀k,okOf A ρ h w k→ok' k):∀(k:Nat) (d d':D) (v:Value),purD h k d=some d'→
  (∀b∈idsD h k d,∀x,look h b=some x→x.mutable=true→ok' (ρ b).blk)→C ρ (Live h) (okOf A ρ h w) w d v→Rep ok' w d' v
 |0,d,d',v,hd,_,hv=>(hv.leaf hd).mono fun k hk=>⟨hok k hk,rfl⟩
 |k+1,d,d',v,hd,hb,hv=>by
  unfold Am.purD at hd
  split at hd
  ·rename_i b
   obtain⟨hl,rfl⟩:=hv.ref_inv
   split at hd
   ·rename_i E l hlk
    obtain⟨l',hl',rfl⟩:=bm.1 hd
    obtain⟨c,h1,h2,h3,h4,h5,h6,h7,h8,h9⟩:=s.blk b _ hlk
    refine s5 (uB k) (s4 k) hl' h1 h2 h3 h4 h5 h6 h8 (hb b (by unfold idsD;exact bk ..) _ hlk rfl) fun i j d' hi hj hd'=>?_
    refine s.purD hok k _ _ _ hd' (fun b' hb'=>hb b' ?_) (h9 i j hi hj)
    unfold idsD
    simp only[hlk]
    refine bA _ (dZ.2 ⟨_,bj hi,dZ.2 ⟨_,?_,hb'⟩⟩)
    exact bj (by rw[(h8 _ (bj hi)).1];exact hj)
   ·rename_i l hlk
    simp only[aw] at hd;subst hd
    exact Rep.mono (s.blk b _ hlk) fun k hk=>⟨hok k hk,rfl⟩
   ·cases hd
  ·rename_i b
   obtain⟨hl,rfl⟩:=hv.ptr_inv
   split at hd
   ·rename_i T cs hlk
    split at hd
    ·cases hd
    ·rename_i hne
     obtain⟨cs',hl',rfl⟩:=bm.1 hd
     obtain⟨c,h1,h2,h3⟩:=s.blk b _ hlk
     obtain⟨e1,q⟩:=jh (a0:=.undef) (b0:=.undef) hl'
     have hpos:0<cs.length:=List.length_pos_iff.2 hne
     refine .box cs' _ 0 (fun j=>c.getD j undef) (hb b (by unfold idsD;exact bk ..) _ hlk rfl) (by omega) (fun j hj=>?_) (fun j hj=>?_)
     ·have hlt2:j<c.size:=by omega
      simp[World.cell?,h1,hlt2,bJ]
     ·refine s.purD hok k _ _ _ (q j (by omega)) (fun b' hb'=>hb b' ?_) (h3 j (by omega))
      unfold idsD
      simp only[hlk]
      exact bA _ (dZ.2 ⟨_,bj (by omega),hb'⟩)
   ·rename_i cs hlk
    simp only[aw] at hd;subst hd
    exact Rep.mono (s.blk b _ hlk) fun k hk=>⟨hok k hk,rfl⟩
   ·cases hd
  ·exact(hv.leaf hd).mono fun k hk=>⟨hok k hk,rfl⟩
theorem Sim.pur (s:Sim P w0 S A N ρ t h a w){ok':Nat→Prop}(hok:∀k,okOf A ρ h w k→ok' k){k:Nat}{d d':D}{v:Value}(hd:pur h k d=some d')
  (hb:∀b∈ids h k d,∀x,look h b=some x→x.mutable=true→ok' (ρ b).blk) (hv:C ρ (Live h) (okOf A ρ h w) w d v):Rep ok' w d' v:=by
 unfold Am.pur at hd
 split at hd
 ·rename_i cs
  obtain⟨cs',h1,rfl⟩:=bm.1 hd
  obtain⟨e,q⟩:=jh (a0:=.undef) (b0:=.undef) h1
  obtain⟨vs,rfl,hl,hc⟩:=hv.agg_inv
  refine .agg _ _ (by omega) fun i hi=>s.purD hok k _ _ _ (q i (by omega)) (fun b' hb'=>hb b' ?_) (hc i (by omega))
  exact dZ.2 ⟨_,bj (by omega),hb'⟩
 ·rename_i cs
  obtain⟨cs',h1,rfl⟩:=bm.1 hd
  obtain⟨e,q⟩:=jh (a0:=.undef) (b0:=.undef) h1
  obtain⟨vs,rfl,hl,hc⟩:=hv.tup_inv
  refine .tup _ _ (by omega) fun i hi=>s.purD hok k _ _ _ (q i (by omega)) (fun b' hb'=>hb b' ?_) (hc i (by omega))
  exact dZ.2 ⟨_,bj (by omega),hb'⟩
 ·rename_i h1 h2
  refine s.purD hok k _ _ _ hd (fun b' hb'=>hb b' ?_) hv
  unfold ids
  split
  ·exact absurd rfl (h1 _)
  ·exact absurd rfl (h2 _)
  ·exact hb'
def frzB (h:HL)(b:Id):Option Blk:=
 match look h b with
 |some (.row _ l)=>(l.mapM (purE leaf)).map .froz
 |some (.var _ cs)=>if cs=[] then none else(cs.mapM leaf).map .fvar
 |_=>none
def frz (h:HL)(bs:List Id):HL:=bs.filterMap fun b=>(frzB h b).map fun y=>(b,y)
theorem Fq (cs:List D):leaf (.agg cs)=none:=rfl
theorem Sim.stills (s:Sim P w0 S A N ρ t h a w){h2:HL}(hh:∀b,look h2 b=look h b∨∃y,frzB h b=some y∧look h2 b=some y):Sim P w0 S A N ρ t h2 a w:=by
 have fz:∀b y,frzB h b=some y→(∃x,look h b=some x∧x.mutable=true)∧y.mutable=false∧y.live=true:=by
  intro b y hy
  unfold frzB at hy
  split at hy
  ·rename_i E l hl
   obtain⟨_,_,rfl⟩:=bm.1 hy
   exact⟨⟨_,hl,rfl⟩,rfl,rfl⟩
  ·rename_i T cs hl
   split at hy
   ·cases hy
   ·obtain⟨_,_,rfl⟩:=bm.1 hy
    exact⟨⟨_,hl,rfl⟩,rfl,rfl⟩
  ·cases hy
 have mu:∀b y,look h2 b=some y→y.mutable=true→look h b=some y:=by
  intro b y hy hmu
  rcases hh b with e|⟨z,hz,e⟩
  ·rw[←e];exact hy
  ·rw[e] at hy
   obtain rfl:=ar hy
   rw[(fz b z hz).2.1] at hmu;cases hmu
 have old:∀b y,look h2 b=some y→y.live=true→∃x,look h b=some x∧x.live=true:=by
  intro b y hy hl
  rcases hh b with e|⟨z,hz,e⟩
  ·exact⟨y,by rw[←e];exact hy,hl⟩
  ·obtain⟨⟨x,h1,h2⟩,_⟩:=fz b z hz
   exact⟨x,h1,by cases x<;>simp_all[Blk.mutable,Blk.live]⟩
 have hlv:∀b,Live h b→Live h2 b∧ρ b=ρ b:=by
  intro b hb
  rcases hh b with e|⟨z,hz,e⟩
  ·exact⟨by simpa[Live,e] using hb,rfl⟩
  ·exact⟨by simp[Live,e],rfl⟩
 have hok:∀k,okOf A ρ h w k→okOf A ρ h2 w k∧w.heap[k]?=w.heap[k]?:=fun k hk=>⟨⟨hk.1,fun b y hy hmu=>hk.2 b y (mu b y hy hmu) hmu⟩,rfl⟩
 refine s.step s.fr hlv hok (fun b y hy=>?_) (ax _) (fun b1 b2 y1 y2 hy1 hy2 hl1 hl2 he=>?_)
 ·rcases hh b with e|⟨z,hz,e⟩
  ·exact .inl ⟨by rw[←e];exact hy,fun _=>rfl⟩
  ·rw[e] at hy
   obtain rfl:=ar hy
   obtain⟨⟨x,hx,hxm⟩,hzm,hzl⟩:=fz b z hz
   have hxl:x.live=true:=by cases x<;>simp_all[Blk.mutable,Blk.live]
   have hown:=s.own b x hx hxl
   have hself:okOf A ρ h2 w (ρ b).blk:=by
    refine⟨⟨hown.1,hown.2.elim (s.inS _) (s.base _)⟩,fun b' y' hy' hmu he=>?_⟩
    have h3:=mu b' y' hy' hmu
    have:=s.inj b' b y' x h3 hx (by cases y'<;>simp_all[Blk.mutable,Blk.live]) hxl he
    subst this
    rw[e] at hy'
    obtain rfl:=ar hy'
    rw[hzm] at hmu;cases hmu
   refine .inr ⟨?_,fun _=>hown⟩
   unfold frzB at hz
   split at hz
   ·rename_i E l hl
    rw[hx] at hl
    obtain rfl:=ar hl
    obtain⟨l',hl',rfl⟩:=bm.1 hz
    obtain⟨c,h1,h2',h3,h4,h5,h6,h7,h8,h9⟩:=s.blk b _ hx
    exact s5 (fun d d' hd=>(rm hd).2.2) Fq hl' h1 h2' h3 h4 h5 h6 h8 hself fun i j d' hi hj hd'=>((h9 i j hi hj).leaf hd').mono hok
   ·rename_i T cs hl
    rw[hx] at hl
    obtain rfl:=ar hl
    split at hz
    ·cases hz
    ·rename_i hne
     obtain⟨cs',hl',rfl⟩:=bm.1 hz
     obtain⟨c,h1,h2',h3⟩:=s.blk b _ hx
     obtain⟨e1,q⟩:=jh (a0:=.undef) (b0:=.undef) hl'
     have hpos:0<cs.length:=List.length_pos_iff.2 hne
     refine .box cs' _ 0 (fun j=>c.getD j undef) hself (by omega) (fun j hj=>?_) (fun j hj=>((h3 j (by omega)).leaf (q j (by omega))).mono hok)
     have hlt2:j<c.size:=by omega
     simp[World.cell?,h1,hlt2,bJ]
   ·cases hz
 ·obtain⟨x1,a1,a2⟩:=old b1 y1 hy1 hl1
  obtain⟨x2,c1,c2⟩:=old b2 y2 hy2 hl2
  exact s.inj b1 b2 x1 x2 a1 c1 a2 c2 he
theorem du (bs:List Id)(h':HL)(b:Id):look (puts (frz h bs) h') b=match(if b∈bs then frzB h b else none) with|some y=>some y|none=>look h' b:=by
 induction bs generalizing h' with
 |nil=>simp[frz,puts]
 |cons x bs ih=>
  cases hx:frzB h x with
  |none=>
   have e:frz h (x::bs)=frz h bs:=by simp[frz,hx]
   rw[e,ih]
   by_cases hb:b=x
   ·subst hb;simp[hx]
   ·simp[hb]
  |some y=>
   have e:frz h (x::bs)=(x,y)::frz h bs:=by simp[frz,hx]
   rw[e]
   show look (puts (frz h bs) (put x y h')) b=_
   rw[ih,af]
   by_cases hb:b=x
   ·subst hb
    simp only[aJ,true_or,if_true,hx]
    by_cases hm:b∈bs
    ·simp[hm]
    ·simp[hm]
   ·simp[hb]
theorem Sim.frz_ok (s:Sim P w0 S A N ρ t h a w)(bs:List Id):Sim P w0 S A N ρ t (puts (frz h bs) h) a w∧(∀b,look (puts (frz h bs) h) b=look h b∨∃y,frzB h b=some y∧look (puts (frz h bs) h) b=some y)∧
  ∀b∈bs,∀y,frzB h b=some y→look (puts (frz h bs) h) b=some y:=by
 have key:∀b,look (puts (frz h bs) h) b=look h b∨∃y,frzB h b=some y∧look (puts (frz h bs) h) b=some y:=by
  intro b
  rw[du]
  by_cases hb:b∈bs
  ·rw[if_pos hb]
   cases hy:frzB h b with
   |none=>exact .inl rfl
   |some y=>exact .inr ⟨y,rfl,rfl⟩
  ·rw[if_neg hb];exact .inl rfl
 refine⟨s.stills key,key,fun b hb y hy=>?_⟩
 rw[du,if_pos hb,hy]
theorem kl {b:Id}{y:Blk}(hy:frzB h b=some y):(∃x,look h b=some x∧x.mutable=true)∧y.mutable=false∧y.live=true:=by
 unfold frzB at hy
 split at hy
 ·rename_i E l hl
  obtain⟨_,_,rfl⟩:=bm.1 hy
  exact⟨⟨_,hl,rfl⟩,rfl,rfl⟩
 ·rename_i T cs hl
  split at hy
  ·cases hy
  ·obtain⟨_,_,rfl⟩:=bm.1 hy
   exact⟨⟨_,hl,rfl⟩,rfl,rfl⟩
 ·cases hy
end Go.Proofs.YtpefhoohfkeflacGreatDoor.Am
namespace Go.Proofs.YtpefhoohfkeflacGreatDoor.Am
open Go Go.RowKit
variable {P:Program} {w0:World} {S:SD} {A:Nat→Prop} {N:Nat} {ρ:Id→Pl} {t:List (Nat×D)} {h:HL} {a:Act} {w:World}
def ec:Act:=⟨#[],[]⟩
def qv (ρ:Id→Pl)(hin:HL)(k:Nat):Prop:=∃b x,look hin b=some x∧x.live=true∧(ρ b).blk=k
def Con (P:Program)(f:FuncId)(ds:List D)(hin:HL)(r:D)(hout:HL):Prop:=
 (∃ fn, P.funcs[f]? = some fn ∧ fn.body.isNone = false ∧ (fn.name == "runtime.NumGoroutine") = false) ∧
 ∀(w:World) (A:Nat→Prop) (ρ:Id→Pl) (vs:Array Value),Sim P w (qv ρ hin) A 0 ρ [] hin ec w→ds.length=vs.size→
  (∀i,i<ds.length→C ρ (Live hin) (okOf A ρ hin w) w (ds.getD i .undef) (vs.getD i undef))→
  Calls P f vs w fun e w'=>∃u ρ',e= .returned u∧(∀b,Live hin b→ρ' b=ρ b∧Live hout b)∧Sim P w (qv ρ hin) A 0 ρ' [] hout ec w'∧C ρ' (Live hout) (okOf A ρ' hout w') w' r u
mutual
def renD (g:Id→Id):D→D
 | .ref b=>.ref (g b)
 | .vref b o n=>.vref (g b) o n
 | .ptr b o=>.ptr (g b) o
 | .eptr b i o=>.eptr (g b) i o
 | .ifc T d=>.ifc T (renD g d)
 | .clo f cs=>.clo f (oQ g cs)
 | .agg cs=>.agg (oQ g cs)
 | .tup cs=>.tup (oQ g cs)
 |d=>d
def oQ (g:Id→Id):List D→List D
 |[]=>[]
 |d::l=>renD g d::oQ g l
end
theorem gU (g:Id→Id):∀l,oQ g l=l.map (renD g)
 |[]=>by simp[oQ]
 |d::l=>by simp[oQ,gU g l]
def renB (g:Id→Id):Blk→Blk
 | .var T cs=>.var T (cs.map (renD g))
 | .row E l=>.row E (l.map (renD g))
 | .moved b=>.moved (g b)
 |x=>x
def renH (g:Id→Id)(h:HL):HL:=h.map fun p=>(g p.1,renB g p.2)
theorem lk (g:Id→Id)(d:D):(renD g d).cells=d.cells.map (renD g):=by
 cases d<;>simp[renD,D.cells,gU]
theorem F9 (g:Id→Id)(d:D):(renD g d).one=d.one:=by cases d<;>simp[renD,D.one]
theorem oP (g:Id→Id)(x:Blk):(renB g x).mutable=x.mutable:=by cases x<;>rfl
theorem kF (g:Id→Id)(x:Blk):(renB g x).live=x.live:=by cases x<;>rfl
theorem Rep.ren {ok:Nat→Prop}{d:D}{v:Value}(g:Id→Id)(hr:Rep ok w d v):Rep ok w (renD g d) v:=by
 induction hr with
 |agg cs vs hl h ih=>
  simp only[renD,gU]
  refine .agg _ _ (by simpa using hl) fun i hi=>?_
  have hi':i<cs.length:=by simpa using hi
  have:=ih i hi'
  simpa[aq,hi'] using this
 |tup cs vs hl h ih=>
  simp only[renD,gU]
  refine .tup _ _ (by simpa using hl) fun i hi=>?_
  have hi':i<cs.length:=by simpa using hi
  have:=ih i hi'
  simpa[aq,hi'] using this
 |int k n=>exact .int k n
 |bool b=>exact .bool b
 |str s=>exact .str s
 |none a cap ha hcap=>exact .none a cap ha hcap
 |lst l n b off cap f hn hcap hmax hok hsz hpos hc hr ih=>exact .lst l n b off cap f hn hcap hmax hok hsz hpos hc hr
 |box cs b off f hok hpos hc hr ih=>exact .box cs b off f hok hpos hc hr
 |nilp=>exact .nilp
 |nils=>exact .nils
 |nilf=>exact .nilf
 |nili=>exact .nili
theorem C.ren {ρ ρ':Id→Pl}{L L':Id→Prop}{ok ok':Nat→Prop}{d:D}{v:Value}(g:Id→Id)(hc:C ρ L ok w d v)(hl:∀b,L b→L' (g b)∧ρ' (g b)=ρ b)(hm:∀k,ok k→ok' k):C ρ' L' ok' w (renD g d) v:=by
 induction hc with
 |pure hr=>exact .pure ((hr.mono fun k hk=>⟨hm k hk,rfl⟩).ren g)
 |ref b hb=>simp only[renD];rw[←(hl b hb).2];exact .ref (g b) (hl b hb).1
 |ptr b o hb=>simp only[renD];rw[←(hl b hb).2];exact .ptr (g b) o (hl b hb).1
 |eptr b i o hb=>simp only[renD];rw[←(hl b hb).2];exact .eptr (g b) i o (hl b hb).1
 |vref b o n hb hn=>simp only[renD];rw[←(hl b hb).2];exact .vref (g b) o n (hl b hb).1 hn
 |iptr e o b off f hok hc hr=>exact .iptr e o b off f (hm b hok) hc fun j hj=>(hr j hj).mono fun k hk=>⟨hm k hk,rfl⟩
 |agg cs vs hl' h ih=>
  simp only[renD,gU]
  refine .agg _ _ (by simpa using hl') fun i hi=>?_
  have hi':i<cs.length:=by simpa using hi
  have:=ih i hi'
  simpa[aq,hi'] using this
 |tup cs vs hl' h ih=>
  simp only[renD,gU]
  refine .tup _ _ (by simpa using hl') fun i hi=>?_
  have hi':i<cs.length:=by simpa using hi
  have:=ih i hi'
  simpa[aq,hi'] using this
 |clo f cs vs hl' h ih=>
  simp only[renD,gU]
  refine .clo _ _ _ (by simpa using hl') fun i hi=>?_
  have hi':i<cs.length:=by simpa using hi
  have:=ih i hi'
  simpa[aq,hi'] using this
 |ifc T d v h ih=>exact .ifc T _ v ih
 |any v=>exact .any v
 |junk v hv=>exact .junk v hv
 |gp g x ad hx hok hc=>exact .gp g x ad hx (hm g hok) hc
 |gv g x ad hx hok hc=>exact .gv g x ad hx (hm g hok) hc
mutual
def noMem:D→Bool
 | .lst []=>true
 | .lst _| .box _| .iptr .. | .gp _| .gv _=>false
 | .ifc _ d=>noMem d
 | .clo _ cs=>ga cs
 | .agg cs=>ga cs
 | .tup cs=>ga cs
 |_=>true
def ga:List D→Bool
 |[]=>true
 |d::l=>noMem d && ga l
end
theorem gG:∀l,ga l=l.all noMem
 |[]=>by simp[ga]
 |d::l=>by simp[ga,gG l]
theorem l8 {cs:List D}(hn:ga cs=true){i:Nat}(hi:i<cs.length):noMem (cs.getD i .undef)=true:=by
 rw[gG,aM] at hn
 exact hn _ (bj hi)
theorem Rep.free {ok ok':Nat→Prop}{d:D}{v:Value}(hr:Rep ok w d v)(hn:noMem d=true):Rep ok' w d v:=by
 induction hr with
 |int k n=>exact .int k n
 |bool b=>exact .bool b
 |str s=>exact .str s
 |none a cap ha hcap=>exact .none a cap ha hcap
 |nilp=>exact .nilp
 |nils=>exact .nils
 |nilf=>exact .nilf
 |nili=>exact .nili
 |agg cs vs hl h ih=>
  simp only[noMem] at hn
  exact .agg cs vs hl fun i hi=>ih i hi (l8 hn hi)
 |tup cs vs hl h ih=>
  simp only[noMem] at hn
  exact .tup cs vs hl fun i hi=>ih i hi (l8 hn hi)
 |lst l n b off cap f hn' hcap hmax hok hsz hpos hc hr ih=>
  cases l with
  |nil=>subst hn';exact .none _ _ (fun h=>by cases h) hmax
  |cons e l=>simp[noMem] at hn
 |box cs b off f hok hpos hc hr ih=>simp[noMem] at hn
theorem C.free {L:Id→Prop}{ok ok':Nat→Prop}{d:D}{v:Value}(hc:C ρ L ok w d v)(hn:noMem d=true):C ρ L ok' w d v:=by
 induction hc with
 |pure hr=>exact .pure (hr.free hn)
 |ref b hb=>exact .ref b hb
 |ptr b o hb=>exact .ptr b o hb
 |eptr b i o hb=>exact .eptr b i o hb
 |vref b o n hb hn'=>exact .vref b o n hb hn'
 |gp g x ad hx hok hc=>simp[noMem] at hn
 |gv g x ad hx hok hc=>simp[noMem] at hn
 |iptr e o b off f hok hc hr=>simp[noMem] at hn
 |agg cs vs hl h ih=>
  simp only[noMem] at hn
  exact .agg cs vs hl fun i hi=>ih i hi (l8 hn hi)
 |tup cs vs hl h ih=>
  simp only[noMem] at hn
  exact .tup cs vs hl fun i hi=>ih i hi (l8 hn hi)
 |clo f cs vs hl h ih=>
  simp only[noMem] at hn
  exact .clo f cs vs hl fun i hi=>ih i hi (l8 hn hi)
 |ifc T d v h ih=>simp only[noMem] at hn;exact .ifc T d v (ih hn)
 |any v=>exact .any v
 |junk v hv=>exact .junk v hv
def noMemB:Blk→Bool
 | .var _ cs=>cs.all noMem
 | .row _ l=>l.all fun e=>e.cells.all noMem
 | .froz l=>l.isEmpty
 | .fvar _=>false
 |_=>true
def VLive (h:HL)(g:Id→Id)(hin:HL)(F:List Nat)(b:Id):Prop:=Live hin b∨((g b).1∈F∧(Live h (g b)→Live hin b))
theorem VLive.at {h:HL}{g:Id→Id}{hin:HL}{F:List Nat}{b:Id}(hv:VLive h g hin F b)(hl:Live h (g b)):Live hin b:=hv.elim id fun h=>h.2 hl
inductive View (h:HL) (g:Id→Id) (hin:HL) (W:List Id) (F:List Nat):D→D→Prop where
 |ref (b:Id) (hb:VLive h g hin F b):View h g hin W F (.ref (g b)) (.ref b)
 |ptr (b:Id) (o:Nat) (hb:VLive h g hin F b):View h g hin W F (.ptr (g b) o) (.ptr b o)
 |eptr (b:Id) (i o:Nat) (hb:VLive h g hin F b):View h g hin W F (.eptr (g b) i o) (.eptr b i o)
 |vref (b:Id) (o n:Nat) (hb:VLive h g hin F b):View h g hin W F (.vref (g b) o n) (.vref b o n)
 |pure (k:Nat) (d d':D) (hd:purD h k d=some d') (hw:∀b∈idsD h k d,b∈W):View h g hin W F d d'
 |nils:View h g hin W F .nils .nils
 |agg (cs cs':List D) (hl:cs.length=cs'.length) (hc:∀i,i<cs.length→View h g hin W F (cs.getD i .undef) (cs'.getD i .undef)):View h g hin W F (.agg cs) (.agg cs')
 |clo (f:FuncId) (cs cs':List D) (hl:cs.length=cs'.length) (hc:∀i,i<cs.length→View h g hin W F (cs.getD i .undef) (cs'.getD i .undef)):View h g hin W F (.clo f cs) (.clo f cs')
 |ifc (T:TypeId) (d d':D) (hd:View h g hin W F d d'):View h g hin W F (.ifc T d) (.ifc T d')
 |junk:View h g hin W F .junk .junk
 |gv (k:Nat):View h g hin W F (.gv k) (.gv k)
inductive ViewB (h:HL) (g:Id→Id) (hin:HL) (W:List Id) (F:List Nat):Blk→Blk→Prop where
 |var (T:TypeId) (cs cs':List D) (hl:cs.length=cs'.length) (hc:∀i,i<cs.length→View h g hin W F (cs.getD i .undef) (cs'.getD i .undef)):ViewB h g hin W F (.var T cs) (.var T cs')
 |row (E:TypeId) (l l':List D) (hl:l.length=l'.length) (hc:∀i,i<l.length→View h g hin W F (l.getD i .undef) (l'.getD i .undef)):ViewB h g hin W F (.row E l) (.row E l')
 |gone:ViewB h g hin W F .gone .gone
structure CallOK (P:Program)(f:FuncId)(h:HL)(n:Nat)(ds:List D)(d:D)(u:HL)(fs:List Nat) where
 g:Id→Id
 W:List Id
 F:List Nat
 ds':List D
 hin:HL
 r:D
 hout:HL
 con:Con P f ds' hin r hout
 len:ds.length=ds'.length
 args:∀i,i<ds.length→View h g hin W F (ds.getD i .undef) (ds'.getD i .undef)
 blks:∀b x',look hin b=some x'→∃x,look h (g b)=some x∧ViewB h g hin W F x x'
 keys:(hout.map (·.1)).Nodup
 inj:∀b b',Live hout b→Live hout b'→g b=g b'→b=b'
 sub:∀b,Live hin b→Live hout b
 new:∀b,Live hout b→¬Live hin b→look h (g b)=none
 apart:∀b∈W,∀b',Live hin b'→g b'≠b
 foot:(∀b,Live hout b→(g b).1∈fs∨n≤(g b).1)∧(∀b∈W,b.1∈fs)∧∀k∈F,k∈fs
 res:d=renD g r
 upd:(noMem r=true∧(∀p∈hout,noMemB p.2=true)∧u=renH g hout)∨((∀b∈W,∀x,look h b=some x→x.mutable=true→(frzB h b).isSome=true)∧u=frz h W++renH g hout)
theorem yi {k:Nat}{d d':D}(hd:purD h k d=some d'):d.one=true∧d'.one=true:=by
 refine⟨?_,m3 (uB k d d' hd)⟩
 cases d with
 |agg cs=>rw[s4] at hd;cases hd
 |tup cs=>cases k<;>cases hd
 |undef=>cases k<;>cases hd
 |_=>rfl
theorem View.one {g:Id→Id}{hin:HL}{W:List Id}{F:List Nat}{d d':D}(hv:View h g hin W F d d'):d'.one=d.one:=by
 cases hv with
 |pure k _ _ hd hw=>rw[(yi hd).1,(yi hd).2]
 |_=>rfl
theorem View.wf {g:Id→Id}{hin:HL}{W:List Id}{F:List Nat}{s:Nat}{d d':D}(hv:View h g hin W F d d')(hw:wfC s d):wfC s d'∧∀j,j<s→View h g hin W F (d.cells.getD j .undef) (d'.cells.getD j .undef):=by
 by_cases hag:∃cs,d= .agg cs
 ·obtain⟨cs,rfl⟩:=hag
  cases hv with
  |pure k _ _ hd _=>rw[s4] at hd;cases hd
  |agg _ cs' hl hc=>
   have h1:cs.length=s:=hw.1
   refine⟨⟨by show cs'.length=s;omega,?_⟩,fun j hj=>hc j (by omega)⟩
   rw[aM]
   intro x hx
   obtain⟨j,hj,rfl⟩:=bW hx
   have hj':j<cs.length:=by simp only[D.cells] at hj;omega
   have h2:=hw.2
   rw[aM] at h2
   rw[show (D.agg cs').cells=cs' from rfl,(hc j hj').one]
   exact h2 _ (bj hj')
 ·have hc:d.cells=[d]:=dh fun cs hcs=>hag ⟨cs,hcs⟩
  have h1:s=1:=by have:=hw.1;rw[hc] at this;simpa using this.symm
  subst h1
  have h2:d.one=true:=by have:=hw.2;rw[hc] at this;simpa using this
  have h3:d'.one=true:=by rw[hv.one];exact h2
  rw[cQ h3,hc]
  refine⟨⟨by rw[cQ h3];rfl,by rw[cQ h3];simp[h3]⟩,fun j hj=>?_⟩
  obtain rfl:j=0:=by omega
  exact hv
theorem ViewB.live {g:Id→Id}{hin:HL}{W:List Id}{F:List Nat}{x x':Blk}(hv:ViewB h g hin W F x x')(hl:x'.live=true):x.live=true∧x'.live=true∧x.mutable=true∧x'.mutable=true:=by
 cases hv<;>first|exact⟨rfl,rfl,rfl,rfl⟩|cases hl
end Go.Proofs.YtpefhoohfkeflacGreatDoor.Am
namespace Go.Proofs.YtpefhoohfkeflacGreatDoor.Am
open Go Go.RowKit
variable {P:Program} {w0:World} {S:SD} {A:Nat→Prop} {N:Nat} {ρ:Id→Pl} {t:List (Nat×D)} {h:HL} {a:Act} {w:World}
theorem aN {κ α:Type}[DecidableEq κ]:∀(us g:List (κ×α)) (b:κ),(∀x∈us,x.1≠b)→look (puts us g) b=look g b
 |[],g,b,_=>rfl
 |x::us,g,b,hx=>by
  show look (puts us (put x.1 x.2 g)) b=look g b
  rw[aN us _ b fun y hy=>hx y (bA _ hy),af,if_neg (cm (hx x (bk ..)))]
theorem j3 {κ α:Type}[DecidableEq κ]:∀(us g:List (κ×α)) (b:κ) (y:α),(us.map (·.1)).Nodup→(b,y)∈us→look (puts us g) b=some y
 |[],g,b,y,_,hm=>by cases hm
 |x::us,g,b,y,hn,hm=>by
  simp only[bK,List.nodup_cons] at hn
  show look (puts us (put x.1 x.2 g)) b=some y
  rcases aJ.1 hm with rfl|hm
  ·rw[aN us _ b fun z hz e=>hn.1 (aB.2 ⟨z,hz,e⟩),af]
   simp
  ·exact j3 us _ b y hn.2 hm
theorem bD {κ α:Type}[DecidableEq κ](u v g:List (κ×α)):puts (u++v) g=puts v (puts u g):=by simp[puts,List.foldl_append]
theorem di {κ α:Type}[DecidableEq κ]:∀{l:List (κ×α)} {k:κ} {a:α},look l k=some a→(k,a)∈l
 |[],k,a,h=>by cases h
 |(x,b)::l,k,a,h=>by
  simp only[look] at h
  split at h
  ·rename_i e;subst e;simp only[aw] at h;subst h;exact bk ..
  ·exact bA _ (di h)
theorem ij {κ α:Type}[DecidableEq κ]:∀{l:List (κ×α)} {k:κ} {a:α},(l.map (·.1)).Nodup→(k,a)∈l→look l k=some a
 |[],k,a,_,h=>by cases h
 |(x,b)::l,k,a,hn,h=>by
  simp only[bK,List.nodup_cons] at hn
  simp only[look]
  rcases aJ.1 h with e|h
  ·simp only[aZ] at e;obtain⟨rfl,rfl⟩:=e;simp
  ·rw[if_neg]
   ·exact ij hn.2 h
   ·intro e
    exact hn.1 (aB.2 ⟨(k,a),h,e⟩)
theorem ca {x:Blk}(h:x.mutable=true):x.live=true:=by cases x<;>simp_all[Blk.mutable,Blk.live]
theorem Sim.view (s:Sim P w0 S A N ρ t h a w){g:Id→Id}{hin:HL}{W:List Id}{F:List Nat}{ok':Nat→Prop}(hok:∀k,okOf A ρ h w k→ok' k)(hW:∀b∈W,∀x,look h b=some x→x.mutable=true→ok' (ρ b).blk){d d':D}{v:Value}
  (hv:View h g hin W F d d'):C ρ (Live h) (okOf A ρ h w) w d v→C (fun b=>ρ (g b)) (Live hin) ok' w d' v:=by
 induction hv generalizing v with
 |ref b hb=>intro hc;obtain⟨hl,rfl⟩:=hc.ref_inv;exact .ref (ρ:=fun b=>ρ (g b)) b (hb.at hl)
 |ptr b o hb=>intro hc;obtain⟨hl,rfl⟩:=hc.ptr_inv;exact .ptr (ρ:=fun b=>ρ (g b)) b o (hb.at hl)
 |eptr b i o hb=>intro hc;obtain⟨hl,rfl⟩:=hc.eptr_inv;exact .eptr (ρ:=fun b=>ρ (g b)) b i o (hb.at hl)
 |vref b o n hb=>intro hc;obtain⟨hl,hn,rfl⟩:=hc.vref_inv;exact .vref (ρ:=fun b=>ρ (g b)) b o n (hb.at hl) hn
 |pure k d d' hd hw=>intro hc;exact .pure (s.purD hok k _ _ _ hd (fun b hb=>hW b (hw b hb)) hc)
 |nils=>intro hc;obtain rfl:=hc.nils_inv;exact .pure .nils
 |agg cs cs' hl hcs ih=>
  intro hc
  obtain⟨vs,rfl,h1,h2⟩:=hc.agg_inv
  exact .agg _ _ (by omega) fun i hi=>ih i (by omega) (h2 i (by omega))
 |clo f cs cs' hl hcs ih=>
  intro hc
  obtain⟨vs,rfl,h1,h2⟩:=hc.clo_inv
  exact .clo _ _ _ (by omega) fun i hi=>ih i (by omega) (h2 i (by omega))
 |ifc T d d' hd ih=>
  intro hc
  obtain⟨v',rfl,h1⟩:=hc.ifc_inv
  exact .ifc _ _ _ (ih h1)
 |junk=>intro hc;exact .junk _ hc.junk_inv
 |gv k=>intro hc;obtain⟨x,ad,rfl,h1,h2,h3⟩:=hc.gv_inv;exact .gv k x ad h1 (hok k h2) h3
theorem Sim.into (s:Sim P w0 S A N ρ t h a w){ds ds':List D}{g:Id→Id}{hin:HL}{W:List Id}{F:List Nat}{K:Nat→Prop}(hlen:ds.length=ds'.length)(hargs:∀i,i<ds.length→View h g hin W F (ds.getD i .undef) (ds'.getD i .undef))
  (hblk:∀b x',look hin b=some x'→∃x,look h (g b)=some x∧ViewB h g hin W F x x') (hinj:∀b b',Live hin b→Live hin b'→g b=g b'→b=b') (hapart:∀b∈W,∀b',Live hin b'→g b'≠b)
  (hK:∀k,w.heap.size≤k→K k) (hKi:∀k,qv (fun b=>ρ (g b)) hin k→K k) (hKo:∀k,okOf A ρ h w k→K k) (hKr:∀b∈W,∀x,look h b=some x→x.mutable=true→K (ρ b).blk)
  {vs:Array Value} (hl:ds.length=vs.size) (hv:∀i,i<ds.length→C ρ (Live h) (okOf A ρ h w) w (ds.getD i .undef) (vs.getD i undef)):
  Sim P w (qv (fun b=>ρ (g b)) hin) K 0 (fun b=>ρ (g b)) [] hin ec w∧ds'.length=vs.size∧
   ∀i,i<ds'.length→C (fun b=>ρ (g b)) (Live hin) (okOf K (fun b=>ρ (g b)) hin w) w (ds'.getD i .undef) (vs.getD i undef):=by
 have hmut:∀b x',look hin b=some x'→x'.live=true→∃x,look h (g b)=some x∧x.mutable=true∧x.live=true:=fun b x' hx hlv=>by
  obtain⟨x,h1,h2⟩:=hblk b x' hx
  exact⟨x,h1,(h2.live hlv).2.2.1,(h2.live hlv).1⟩
 have hok:∀k,okOf A ρ h w k→okOf K (fun b=>ρ (g b)) hin w k:=by
  rintro k hk
  refine⟨⟨hk.1.1,hKo k hk⟩,fun b x' hx hmx=>?_⟩
  obtain⟨x,h1,h2,_⟩:=hmut b x' hx (ca hmx)
  exact hk.2 _ x h1 h2
 have hW:∀b∈W,∀x,look h b=some x→x.mutable=true→okOf K (fun b=>ρ (g b)) hin w (ρ b).blk:=by
  intro b hb x hx hmu
  refine⟨⟨(s.own b _ hx (ca hmu)).1,hKr b hb x hx hmu⟩,fun b' x' hx' hmx he=>?_⟩
  obtain⟨y,h1,h2,h3⟩:=hmut b' x' hx' (ca hmx)
  exact hapart b hb b' (by simp[Live,hx']) (s.inj _ b y x h1 hx h3 (ca hmu) he)
 have cv:∀{d d':D} {v:Value},View h g hin W F d d'→C ρ (Live h) (okOf A ρ h w) w d v→C (fun b=>ρ (g b)) (Live hin) (okOf K (fun b=>ρ (g b)) hin w) w d' v:=fun hv hc=>s.view hok hW hv hc
 refine⟨⟨hK,hKi,Fr.refl _ _,rfl,rfl,fun k d hk=>(by cases hk),fun b x' hx=>?_,fun b x' hx hlv=>?_,fun b b' x x' hx hx' hlx hlx' he=>?_,fun k x hx=>?_,fun k zs hx=>?_⟩,by omega,fun i hi=>cv (hargs i (by omega)) (hv i (by omega))⟩
 ·obtain⟨x,h1,h2⟩:=hblk b x' hx
  cases h2 with
  |var T cs cs' hl hc=>
   obtain⟨c,c1,c2,c3⟩:=s.blk _ _ h1
   exact⟨c,c1,by omega,fun j hj=>cv (hc j (by omega)) (c3 j (by omega))⟩
  |row E l l' hl hc=>
   obtain⟨c,h1,h2,h3,h4,h5,h6,h7,h8,h9⟩:=s.blk _ _ h1
   refine⟨c,h1,h2,by rw[←hl];exact h3,h4,h5,h6,h7,fun e he=>?_,fun i j hi hj=>?_⟩
   ·obtain⟨i,hi,rfl⟩:=bW he
    exact((hc i (by omega)).wf (h8 _ (bj (by omega)))).1
   ·exact cv (((hc i (by omega)).wf (h8 _ (bj (by omega)))).2 j hj) (h9 i j (by omega) hj)
  |gone=>trivial
 ·obtain⟨x,h1,h2,h3⟩:=hmut b x' hx hlv
  exact⟨(s.own _ x h1 h3).1,.inl ⟨b,x',hx,hlv,rfl⟩⟩
 ·obtain⟨y,h1,_,h3⟩:=hmut b x hx hlx
  obtain⟨y',h1',_,h3'⟩:=hmut b' x' hx' hlx'
  exact hinj b b' (by simp[Live,hx]) (by simp[Live,hx']) (s.inj _ _ y y' h1 h1' h3 h3' he)
 ·obtain⟨⟨q1,q2,q3⟩,-⟩:=s.gl.1 k x hx
  obtain⟨h1,h2⟩:=s.glob hx
  refine⟨⟨hKo k h1,?_,h1.1.1⟩,h2⟩
  rintro⟨b,x',hb,hlv,he⟩
  obtain⟨y,y1,y2,y3⟩:=hmut b x' hb hlv
  rcases (s.own _ y y1 y3).2 with h|h
  ·exact q2 (he▸h)
  ·have:(ρ (g b)).blk=k:=he
   omega
 ·obtain⟨⟨q1,q2,q3⟩,-⟩:=s.gl.2 k zs hx
  obtain⟨h1,h2⟩:=s.tab hx
  refine⟨⟨hKo k h1,?_,h1.1.1⟩,h2⟩
  rintro⟨b,x',hb,hlv,he⟩
  obtain⟨y,y1,y2,y3⟩:=hmut b x' hb hlv
  rcases (s.own _ y y1 y3).2 with h|h
  ·exact q2 (he▸h)
  ·have:(ρ (g b)).blk=k:=he
   omega
theorem Rep.lst_nil {ok ok':Nat→Prop}{w w':World}{v:Value}(h:Rep ok w (.lst []) v):Rep ok' w' (.lst []) v:=by
 cases h with
 |none a cap ha hcap=>exact .none a cap ha hcap
 |lst _ n b off cap f hn hcap hmax hok hsz hpos hc hr=>simp[szl] at hpos
theorem BlkOK.ren {A':Nat→Prop}{ρ':Id→Pl}{h':HL}(g:Id→Id){i:Id}{x:Blk}(hb:BlkOK P A ρ h w i x)(he:ρ' (g i)=ρ i){good:D→Prop}
  (hlv:∀b,Live h b→Live h' (g b)∧ρ' (g b)=ρ b)
  (hc:∀d v,good d→C ρ (Live h) (okOf A ρ h w) w d v→C ρ' (Live h') (okOf A' ρ' h' w) w (renD g d) v) (hr:∀d v,good d→Rep (okOf A ρ h w) w d v→Rep (okOf A' ρ' h' w) w d v)
  (hg:match x with| .var _ cs=>∀d∈cs,good d| .row _ l=>∀e∈l,∀d∈e.cells,good d| .froz l=>l=[]∨good (.lst l)| .fvar cs=>good (.box cs)|_=>True):BlkOK P A' ρ' h' w (g i) (renB g x):=by
 cases x with
 |var T cs=>
  obtain⟨c,h1,h2,h3⟩:=hb
  simp only[renB,BlkOK,he]
  refine⟨c,h1,by simpa using h2,fun j hj=>?_⟩
  have hj':j<cs.length:=by simpa using hj
  have:=hc _ _ (hg (cs.getD j .undef) (bj hj')) (h3 j hj')
  simpa[aq,hj'] using this
 |row E l=>
  obtain⟨c,h1,h2,h3,h4,h5,h6,h7,h8,h9⟩:=hb
  simp only[renB,BlkOK,he]
  refine⟨c,h1,h2,by simpa using h3,h4,h5,h6,h7,fun e he'=>?_,fun k j hk hj=>?_⟩
  ·obtain⟨e0,he0,rfl⟩:=aB.1 he'
   refine⟨by rw[lk,az];exact(h8 e0 he0).1,?_⟩
   have:=(h8 e0 he0).2
   rw[aM] at this⊢
   rw[lk]
   intro y hy
   obtain⟨z,hz,rfl⟩:=aB.1 hy
   rw[F9]
   exact this z hz
  ·have hk':k<l.length:=by simpa using hk
   have hj':j<(l.getD k .undef).cells.length:=by rw[(h8 _ (bj hk')).1];exact hj
   have:=hc _ _ (hg _ (bj hk') _ (bj hj')) (h9 k j hk' hj)
   have e1:(l.map (renD g)).getD k .undef=renD g (l.getD k .undef):=by simp[aq,hk']
   have e2:((l.getD k .undef).cells.map (renD g)).getD j .undef=renD g ((l.getD k .undef).cells.getD j .undef):=by
    rw[aq,be,am hj',aq (i:=j),am hj'];rfl
   rw[e1,lk,e2]
   exact this
 |froz l=>
  simp only[renB,BlkOK,he] at hb⊢
  rcases hg with rfl|hg
  ·exact hb.lst_nil
  ·exact hr _ _ hg hb
 |fvar cs=>
  simp only[renB,BlkOK,he] at hb⊢
  exact hr _ _ hg hb
 |moved b=>exact⟨(hlv b hb.1).1,by rw[he,hb.2,(hlv b hb.1).2]⟩
 |gone=>trivial
set_option maxHeartbeats 1000000 in
open Classical in
theorem Sim.back {g:Id→Id}{hin hout:HL}{r:D}{h1:HL}(s1:Sim P w0 S A N ρ t h1 a w)(hmut:∀b x',look hin b=some x'→x'.live=true→∃x,look h1 (g b)=some x∧x.mutable=true∧x.live=true)
  (hkeys:(hout.map (·.1)).Nodup) (hinj:∀b b',Live hout b→Live hout b'→g b=g b'→b=b') (hnew:∀b,Live hout b→¬Live hin b→look h1 (g b)=none)
  {K:Nat→Prop} {ρ':Id→Pl} {w':World} {u:Value} (hρ:∀b,Live hin b→ρ' b=ρ (g b)∧Live hout b)
  (sc:Sim P w (qv (fun b=>ρ (g b)) hin) K 0 ρ' [] hout ec w') (hr:C ρ' (Live hout) (okOf K ρ' hout w') w' r u)
  (hmode:(noMem r=true∧∀p∈hout,noMemB p.2=true)∨∀k,K k→okOf A ρ h1 w k∨qv (fun b=>ρ (g b)) hin k∨w.heap.size≤k):
  ∃ρ2,Ext h1 ρ ρ2∧Sim P w0 S A N ρ2 t (puts (renH g hout) h1) a w'∧C ρ2 (Live (puts (renH g hout) h1)) (okOf A ρ2 (puts (renH g hout) h1) w') w' (renD g r) u:=by
 let ρ2:Id→Pl:=fun b=>if hb:∃c,Live hout c∧g c=b then ρ' (Classical.choose hb) else ρ b
 have r1:∀b,Live hout b→ρ2 (g b)=ρ' b:=by
  intro b hb
  have he:∃c,Live hout c∧g c=g b:=⟨b,hb,rfl⟩
  simp only[ρ2]
  rw[dif_pos he]
  have:=Classical.choose_spec he
  rw[hinj _ b this.1 hb this.2]
 have hkeys2:((renH g hout).map (·.1)).Nodup:=by
  have e:(renH g hout).map (·.1)=(hout.map (·.1)).map g:=by simp[renH]
  rw[e,List.Nodup,mj]
  refine List.Pairwise.imp_of_mem ?_ hkeys
  intro x y hx hy hne e
  obtain⟨⟨x1,x2⟩,hx',rfl⟩:=aB.1 hx
  obtain⟨⟨y1,y2⟩,hy',rfl⟩:=aB.1 hy
  exact hne (hinj _ _ (by simp[Live,ij hkeys hx']) (by simp[Live,ij hkeys hy']) e)
 let h2:=puts (renH g hout) h1
 have l1:∀b x,look hout b=some x→look h2 (g b)=some (renB g x):=fun b x hx=>j3 _ _ _ _ hkeys2 (aB.2 ⟨(b,x),di hx,rfl⟩)
 have l2:∀b,(∀c,Live hout c→g c≠b)→look h2 b=look h1 b:=by
  intro b hb
  refine aN _ _ _ ?_
  rintro⟨k,y⟩ hx
  obtain⟨⟨c,x⟩,hm,he⟩:=aB.1 hx
  simp only[aZ] at he
  rw[←he.1]
  exact hb c (by simp[Live,ij hkeys hm])
 have cases2:∀b y,look h2 b=some y→(∃c x,look hout c=some x∧b=g c∧y=renB g x)∨(look h1 b=some y∧∀c,Live hout c→g c≠b):=by
  intro b y hy
  by_cases hb:∃c,Live hout c∧g c=b
  ·obtain⟨c,hc,rfl⟩:=hb
   obtain⟨x,hx⟩:=mq.1 hc
   rw[l1 c x hx] at hy
   exact .inl ⟨c,x,hx,rfl,(ar hy).symm⟩
  ·have hb':∀c,Live hout c→g c≠b:=fun c hc e=>hb ⟨c,hc,e⟩
   rw[l2 b hb'] at hy
   exact .inr ⟨hy,hb'⟩
 have rother:∀b,(∀c,Live hout c→g c≠b)→ρ2 b=ρ b:=by
  intro b hb
  simp only[ρ2]
  rw[dif_neg]
  rintro⟨c,hc,e⟩
  exact hb c hc e
 have hlive:∀b,Live h1 b→Live h2 b∧ρ2 b=ρ b:=by
  intro b hl
  by_cases hb:∃c,Live hout c∧g c=b
  ·obtain⟨c,hc,rfl⟩:=hb
   obtain⟨x,hx⟩:=mq.1 hc
   refine⟨by simp[Live,l1 c x hx],?_⟩
   by_cases a1:Live hin c
   ·rw[r1 c hc];exact(hρ c a1).1
   ·simp[Live,hnew c hc a1] at hl
  ·have hb':∀c,Live hout c→g c≠b:=fun c hc e=>hb ⟨c,hc,e⟩
   exact⟨by simpa[Live,l2 b hb'] using hl,rother b hb'⟩
 have hin_own:∀k,qv (fun b=>ρ (g b)) hin k→k<w.heap.size∧(S k∨w0.heap.size≤k):=by
  rintro k ⟨b,x',hx,hlx,rfl⟩
  obtain⟨x,e,_,hl⟩:=hmut b x' hx hlx
  exact s1.own _ x e hl
 have hok:∀k,okOf A ρ h1 w k→okOf A ρ2 h2 w' k∧w'.heap[k]?=w.heap[k]?:=by
  rintro k ⟨⟨hk,hA⟩,hm⟩
  have hni:¬qv (fun b=>ρ (g b)) hin k:=by
   rintro⟨b,x',hx,hlx,rfl⟩
   obtain⟨x,e,hmu,_⟩:=hmut b x' hx hlx
   exact hm _ x e hmu rfl
  refine⟨⟨⟨kQ hk sc.fr.size,hA⟩,fun b y hy hmu=>?_⟩,sc.fr.block k hk hni⟩
  rcases cases2 b y hy with⟨c,x,hx,rfl,rfl⟩|⟨hy1,hne⟩
  ·rw[r1 c (by simp[Live,hx])]
   have hxl:x.live=true:=ca (by rw[←oP g];exact hmu)
   have:=sc.own c x hx hxl
   rcases this.2 with h'|h'
   ·intro e2;subst e2;exact hni h'
   ·omega
  ·rw[rother b hne]
   exact hm b y hy1 hmu
 have hokc:¬(noMem r=true∧∀p∈hout,noMemB p.2=true)→∀k,okOf K ρ' hout w' k→okOf A ρ2 h2 w' k:=by
  intro hnf k hk
  have hKm:=hmode.resolve_left hnf
  obtain⟨⟨hk1,hK⟩,hm⟩:=hk
  refine⟨⟨hk1,?_⟩,fun b y hy hmu=>?_⟩
  ·rcases hKm k hK with h'|h'|h'
   ·exact h'.1.2
   ·exact(hin_own k h').2.elim (s1.inS _) (s1.base _)
   ·exact s1.base _ (by have:=s1.fr.size;omega)
  ·rcases cases2 b y hy with⟨c,x,hx,rfl,rfl⟩|⟨hy1,hne⟩
   ·rw[r1 c (by simp[Live,hx])]
    exact hm c x hx (by rw[←oP g];exact hmu)
   ·rw[rother b hne]
    have hbl:=s1.own b y hy1 (ca hmu)
    rcases hKm k hK with h'|h'|h'
    ·exact h'.2 b y hy1 hmu
    ·obtain⟨c,x',hx,hlx,rfl⟩:=h'
     obtain⟨x,e,_,hl⟩:=hmut c x' hx hlx
     intro he
     have:=s1.inj b _ y x hy1 e (ca hmu) hl he
     exact hne c (hρ c (by simp[Live,hx])).2 this.symm
    ·omega
 have hgl:∀b,Live hout b→Live h2 (g b)∧ρ2 (g b)=ρ' b:=by
  intro b hb
  obtain⟨x,hx⟩:=mq.1 hb
  exact⟨by simp[Live,l1 b x hx],r1 b hb⟩
 have convC:∀d v,((noMem r=true∧∀p∈hout,noMemB p.2=true)→noMem d=true)→C ρ' (Live hout) (okOf K ρ' hout w') w' d v→C ρ2 (Live h2) (okOf A ρ2 h2 w') w' (renD g d) v:=by
  intro d v hd hc
  by_cases hf:noMem r=true∧∀p∈hout,noMemB p.2=true
  ·exact(hc.free (ok':=fun _=>False) (hd hf)).ren g hgl (fun k h=>h.elim)
  ·exact hc.ren g hgl (hokc hf)
 have convR:∀d v,((noMem r=true∧∀p∈hout,noMemB p.2=true)→noMem d=true)→Rep (okOf K ρ' hout w') w' d v→Rep (okOf A ρ2 h2 w') w' d v:=by
  intro d v hd hc
  by_cases hf:noMem r=true∧∀p∈hout,noMemB p.2=true
  ·exact hc.free (hd hf)
  ·exact hc.mono fun k hk=>⟨hokc hf k hk,rfl⟩
 refine⟨ρ2,fun b hb=>(hlive b hb).2,s1.step (s1.fr.andThen sc.fr fun k hk hi=>(hin_own k hi).2) hlive hok (fun b y hy=>?_) sc.fr.size (fun b1 b2 y1 y2 hy1 hy2 hl1 hl2 he=>?_),convC r u (fun hf=>hf.1) hr⟩
 ·rcases cases2 b y hy with⟨c,x,hx,rfl,rfl⟩|⟨hy1,hne⟩
  ·right
   have hlc:Live hout c:=by simp[Live,hx]
   refine⟨BlkOK.ren g (sc.blk c x hx) (r1 c hlc) (good:=fun d=>(noMem r=true∧∀p∈hout,noMemB p.2=true)→noMem d=true) hgl (fun d v hd hc=>convC d v hd hc) (fun d v hd hc=>convR d v hd hc) ?_,fun hl=>?_⟩
   ·have hm:(c,x)∈hout:=di hx
    cases x with
    |var T cs=>exact fun d hd hf=>by have:=hf.2 _ hm;simp only[noMemB,aM] at this;exact this d hd
    |row E l=>exact fun e he d hd hf=>by have:=hf.2 _ hm;simp only[noMemB,aM] at this;exact this e he d hd
    |froz l=>
     by_cases hf:noMem r=true∧∀p∈hout,noMemB p.2=true
     ·have:=hf.2 _ hm
      simp only[noMemB,List.isEmpty_iff] at this
      exact .inl this
     ·exact .inr fun h=>absurd h hf
    |fvar cs=>exact fun hf=>by have:=hf.2 _ hm;simp[noMemB] at this
    |moved b=>trivial
    |gone=>trivial
   ·have hxl:x.live=true:=by rw[←kF g];exact hl
    have:=sc.own c x hx hxl
    rw[r1 c hlc]
    refine⟨this.1,?_⟩
    rcases this.2 with h'|h'
    ·exact(hin_own _ h').2
    ·exact .inr (cu s1.fr.size h')
  ·left
   refine⟨hy1,fun hmu=>?_⟩
   have hl:y.live=true:=ca hmu
   refine sc.fr.block _ (s1.own b y hy1 hl).1 ?_
   rintro⟨c,x',hx,hlx,e⟩
   obtain⟨x,e2,_,hxl⟩:=hmut c x' hx hlx
   have:=s1.inj _ b x y e2 hy1 hxl hl e
   exact hne c (hρ c (by simp[Live,hx])).2 this
 ·have other:∀b c x y,look hout c=some x→x.live=true→look h1 b=some y→y.live=true→(∀c,Live hout c→g c≠b)→ρ' c=ρ' c→(ρ' c).blk=(ρ b).blk→False:=by
   intro b c x y hx hxl hy hyl hne _ he
   have ho:=sc.own c x hx hxl
   have hb2:=(s1.own b y hy hyl).1
   rcases ho.2 with⟨b',z',hz,hlz,e⟩|h'
   ·obtain⟨z,e2,_,hzl⟩:=hmut b' z' hz hlz
    have:=s1.inj _ b z y e2 hy hzl hyl (e.trans he)
    exact hne b' (hρ b' (by simp[Live,hz])).2 this
   ·omega
  rcases cases2 b1 y1 hy1 with⟨c,x,hx,rfl,rfl⟩|⟨q1,hne1⟩<;>rcases cases2 b2 y2 hy2 with⟨c',x',hx',rfl,rfl⟩|⟨q2,hne2⟩
  ·rw[r1 c (by simp[Live,hx]),r1 c' (by simp[Live,hx'])] at he
   rw[sc.inj c c' x x' hx hx' (by rw[←kF g];exact hl1) (by rw[←kF g];exact hl2) he]
  ·rw[r1 c (by simp[Live,hx]),rother b2 hne2] at he
   exact(other b2 c x y2 hx (by rw[←kF g];exact hl1) q2 hl2 hne2 rfl he).elim
  ·rw[r1 c' (by simp[Live,hx']),rother b1 hne1] at he
   exact(other b1 c' x' y1 hx' (by rw[←kF g];exact hl2) q1 hl1 hne1 rfl he.symm).elim
  ·rw[rother b1 hne1,rother b2 hne2] at he
   exact s1.inj b1 b2 y1 y2 q1 q2 hl1 hl2 he
theorem Sim.call (s:Sim P w0 S A N ρ t h a w){f:FuncId}{n:Nat}{ds:List D}{d:D}{u:HL}{fs:List Nat}(c:CallOK P f h n ds d u fs)
  {vs:Array Value} (hl:ds.length=vs.size) (hv:∀i,i<ds.length→C ρ (Live h) (okOf A ρ h w) w (ds.getD i .undef) (vs.getD i undef)):
  Calls P f vs w fun e w'=>∃v ρ2,e= .returned v∧Ext h ρ ρ2∧Sim P w0 S A N ρ2 t (puts u h) a w'∧C ρ2 (Live (puts u h)) (okOf A ρ2 (puts u h) w') w' d v:=by
 obtain⟨g,W,F,ds',hin,r,hout,con,len,args,blks,keys,inj,sub,new,apart,foot,rfl,upd⟩:=c
 have hmut:∀b x',look hin b=some x'→x'.live=true→∃x,look h (g b)=some x∧x.mutable=true∧x.live=true:=fun b x' hx hlv=>by
  obtain⟨x,h1,h2⟩:=blks b x' hx
  exact⟨x,h1,(h2.live hlv).2.2.1,(h2.live hlv).1⟩
 have inj':∀b b',Live hin b→Live hin b'→g b=g b'→b=b':=fun b b' hb hb'=>inj b b' (sub b hb) (sub b' hb')
 rcases upd with⟨f1,f2,rfl⟩|⟨f1,rfl⟩
 ·obtain⟨p3,p4,p5⟩:=s.into (K:=fun _=>True) len args blks inj' apart (fun _ _=>trivial) (fun _ _=>trivial) (fun _ _=>trivial) (fun _ _ _ _ _=>trivial) hl hv
  refine(con.2 w _ _ vs p3 p4 p5).mono ?_
  rintro e w' ⟨v,ρ',rfl,h1,h3,h4⟩
  obtain⟨ρ2,g0,g1,g2⟩:=s.back hmut keys inj new h1 h3 h4 (.inl ⟨f1,f2⟩)
  exact⟨v,ρ2,rfl,g0,g1,g2⟩
 ·obtain⟨q1,q2,q3⟩:=s.frz_ok W
  have keepM:∀b x,look h b=some x→(∀c∈W,c≠b)→look (puts (frz h W) h) b=some x:=by
   intro b x hx hne
   rw[du,if_neg (fun hm=>hne b hm rfl)]
   exact hx
  have hok1:∀k,okOf A ρ h w k→okOf A ρ (puts (frz h W) h) w k:=by
   rintro k ⟨hk,hm⟩
   refine⟨hk,fun b y hy hmu=>?_⟩
   rcases q2 b with q|⟨y',z1,z2⟩
   ·rw[q] at hy;exact hm b y hy hmu
   ·rw[z2] at hy
    obtain rfl:=ar hy
    rw[(kl z1).2.1] at hmu;cases hmu
  have hrow1:∀b∈W,∀x,look h b=some x→x.mutable=true→okOf A ρ (puts (frz h W) h) w (ρ b).blk:=by
   intro b hb x hx hmu
   obtain⟨y,hy⟩:=mq.1 (f1 b hb x hx hmu)
   have hfr:=q3 b hb y hy
   have hyo:=kl hy
   refine⟨⟨(q1.own b _ hfr hyo.2.2).1,(q1.own b _ hfr hyo.2.2).2.elim (q1.inS _) (q1.base _)⟩,fun b' z hz hmz he=>?_⟩
   have:=q1.inj b' b z _ hz hfr (ca hmz) hyo.2.2 he
   rw[this,hfr] at hz
   obtain rfl:=ar hz
   rw[hyo.2.1] at hmz;cases hmz
  obtain⟨p3,p4,p5⟩:=s.into (K:=fun k=>okOf A ρ (puts (frz h W) h) w k∨qv (fun b=>ρ (g b)) hin k∨w.heap.size≤k) len args blks inj' apart (fun _ h=>.inr (.inr h)) (fun _ h=>.inr (.inl h)) (fun k h=>.inl (hok1 k h)) (fun b hb x hx hmu=>.inl (hrow1 b hb x hx hmu)) hl hv
  refine(con.2 w _ _ vs p3 p4 p5).mono ?_
  rintro e w' ⟨v,ρ',rfl,h1,h3,h4⟩
  have hmut1:∀b x',look hin b=some x'→x'.live=true→∃x,look (puts (frz h W) h) (g b)=some x∧x.mutable=true∧x.live=true:=by
   intro b x' hx hlx
   obtain⟨x,e1,e2,e3⟩:=hmut b x' hx hlx
   exact⟨x,keepM _ x e1 (fun c hc e=>apart c hc b (by simp[Live,hx]) e.symm),e2,e3⟩
  have new1:∀b,Live hout b→¬Live hin b→look (puts (frz h W) h) (g b)=none:=by
   intro b hb hb'
   have:=new b hb hb'
   rcases q2 (g b) with q|⟨y',z1,_⟩
   ·exact q.trans this
   ·obtain⟨⟨x,hx,_⟩,_⟩:=kl z1
    rw[this] at hx;cases hx
  obtain⟨ρ2,g0,g1,g2⟩:=q1.back hmut1 keys inj new1 h1 h3 h4 (.inr fun k hk=>hk)
  rw[bD]
  refine⟨v,ρ2,rfl,fun b hb=>g0 b ?_,g1,g2⟩
  rcases q2 b with q|⟨y,_,z2⟩
  ·simpa[Live,q] using hb
  ·simp[Live,z2]
end Go.Proofs.YtpefhoohfkeflacGreatDoor.Am
namespace Go.Proofs.YtpefhoohfkeflacGreatDoor.Am
open Go Go.RowKit
variable {P:Program} {w0:World} {S:SD} {A:Nat→Prop} {N:Nat} {ρ:Id→Pl} {t:List (Nat×D)} {h h':HL} {a:Act} {w:World}
mutual
def al:D→List Id
 | .ref b=>[b]
 | .ptr b _=>[b]
 | .eptr b _ _=>[b]
 | .vref b _ _=>[b]
 | .ifc _ d=>al d
 | .clo _ cs=>bB cs
 | .agg cs=>bB cs
 | .tup cs=>bB cs
 |_=>[]
def bB:List D→List Id
 |[]=>[]
 |d::l=>al d++bB l
end
theorem jH {l:List D}{d:D}(hd:d∈l):∀b∈al d,b∈bB l:=by
 induction l with
 |nil=>cases hd
 |cons x l ih=>
  intro b hb
  simp only[bB,bl]
  rcases aJ.1 hd with rfl|hd
  ·exact .inl hb
  ·exact .inr (ih hd b hb)
theorem gA:∀l:List D,bB l=l.flatMap al
 |[]=>rfl
 |d::l=>by simp[bB,gA l]
mutual
def fwd (h:HL):D→D
 | .ref b=>(match look h b with|some (.moved c)=>.ref c|some (.froz l)=>.lst l|_=>.ref b)
 | .ptr b o=>(match look h b with|some (.moved c)=>.ptr c o|some (.fvar cs)=>(match o with|0=>.box cs|o+1=>.iptr (.agg cs) (o+1))|_=>.ptr b o)
 | .eptr b i o=>(match look h b with|some (.moved c)=>.eptr c i o|_=>.eptr b i o)
 | .vref b o n=>(match look h b with|some (.moved c)=>.vref c o n|_=>.vref b o n)
 | .ifc T d=>.ifc T (fwd h d)
 | .clo f cs=>.clo f (lc h cs)
 | .agg cs=>.agg (lc h cs)
 | .tup cs=>.tup (lc h cs)
 |d=>d
def lc (h:HL):List D→List D
 |[]=>[]
 |d::l=>fwd h d::lc h l
end
theorem fh (h:HL):∀l,lc h l=l.map (fwd h)
 |[]=>by simp[lc]
 |d::l=>by simp[lc,fh h l]
theorem Rep.fwd {ok:Nat→Prop}{d:D}{v:Value}(h:HL)(hr:Rep ok w d v):Rep ok w (fwd h d) v:=by
 induction hr with
 |agg cs vs hl hh ih=>
  simp only[Am.fwd,fh]
  refine .agg _ _ (by simpa using hl) fun i hi=>?_
  have hi':i<cs.length:=by simpa using hi
  have:=ih i hi'
  simpa[aq,hi'] using this
 |tup cs vs hl hh ih=>
  simp only[Am.fwd,fh]
  refine .tup _ _ (by simpa using hl) fun i hi=>?_
  have hi':i<cs.length:=by simpa using hi
  have:=ih i hi'
  simpa[aq,hi'] using this
 |int k n=>exact .int k n
 |bool b=>exact .bool b
 |str s=>exact .str s
 |none a cap ha hcap=>exact .none a cap ha hcap
 |lst l n b off cap f hn hcap hmax hok hsz hpos hc hr ih=>exact .lst l n b off cap f hn hcap hmax hok hsz hpos hc hr
 |box cs b off f hok hpos hc hr ih=>exact .box cs b off f hok hpos hc hr
 |nilp=>exact .nilp
 |nils=>exact .nils
 |nilf=>exact .nilf
 |nili=>exact .nili
theorem Sim.fwd (s:Sim P w0 S A N ρ t h a w){d:D}{v:Value}(hc:C ρ (Live h) (okOf A ρ h w) w d v):C ρ (Live h) (okOf A ρ h w) w (fwd h d) v:=by
 induction hc with
 |pure hr=>exact .pure (hr.fwd h)
 |ref b hb=>
  simp only[Am.fwd]
  split
  ·rename_i c hl
   have:=s.blk b _ hl
   rw[this.2];exact .ref c this.1
  ·rename_i l hl;exact .pure (s.blk b _ hl)
  ·exact .ref b hb
 |ptr b o hb=>
  simp only[Am.fwd]
  split
  ·rename_i c hl
   have:=s.blk b _ hl
   rw[this.2];exact .ptr c o this.1
  ·rename_i cs hl
   have hbk:Rep _ _ _ _:=s.blk b _ hl
   split
   ·exact .pure hbk
   ·rename_i o
    generalize (ρ b).blk=blk at *
    cases hbk with
    |box _ _ off f hok hpos h1 h2=>
     have:=C.iptr (ρ:=ρ) (L:=Live h) (ok:=okOf A ρ h w) (w:=w) (.agg cs) (o+1) blk 0 f hok h1 h2
     simpa using this
  ·exact .ptr b o hb
 |eptr b i o hb=>
  simp only[Am.fwd]
  split
  ·rename_i c hl
   have:=s.blk b _ hl
   rw[this.2];exact .eptr c i o this.1
  ·exact .eptr b i o hb
 |vref b o n hb hn=>
  simp only[Am.fwd]
  split
  ·rename_i c hl
   have:=s.blk b _ hl
   rw[this.2];exact .vref c o n this.1 hn
  ·exact .vref b o n hb hn
 |iptr e o b off f hok h1 h2=>exact .iptr e o b off f hok h1 h2
 |gp g x ad hx hok hc=>exact .gp g x ad hx hok hc
 |gv g x ad hx hok hc=>exact .gv g x ad hx hok hc
 |agg cs vs hl hh ih=>
  simp only[Am.fwd,fh]
  refine .agg _ _ (by simpa using hl) fun i hi=>?_
  have hi':i<cs.length:=by simpa using hi
  have:=ih i hi'
  simpa[aq,hi'] using this
 |tup cs vs hl hh ih=>
  simp only[Am.fwd,fh]
  refine .tup _ _ (by simpa using hl) fun i hi=>?_
  have hi':i<cs.length:=by simpa using hi
  have:=ih i hi'
  simpa[aq,hi'] using this
 |clo f cs vs hl hh ih=>
  simp only[Am.fwd,fh]
  refine .clo _ _ _ (by simpa using hl) fun i hi=>?_
  have hi':i<cs.length:=by simpa using hi
  have:=ih i hi'
  simpa[aq,hi'] using this
 |ifc T d v hh ih=>exact .ifc T _ v ih
 |any v=>exact .any v
 |junk v hv=>exact .junk v hv
def jm:HL→List (Id×Id)→Option HL
 |_,[]=>some []
 |h,(b,c)::ms=>match look h b with
  |some x=>if x.live=true∧look h c=none then(jm (puts [(b,.moved c),(c,x)] h) ms).map fun u=>[(b,.moved c),(c,x)]++u else none
  |none=>none
theorem Sim.moves (s:Sim P w0 S A N ρ t h a w):∀(ms:List (Id×Id)) (u:HL),jm h ms=some u→∃ρ',Ext h ρ ρ'∧(∀b,Live h b→Live (puts u h) b)∧Sim P w0 S A N ρ' t (puts u h) a w:=by
 intro ms
 induction ms generalizing h ρ with
 |nil=>
  intro u hu
  simp only[jm,aw] at hu
  subst hu
  exact⟨ρ,Ext.refl _ _,fun b hb=>hb,s⟩
 |cons m ms ih=>
  obtain⟨b,c⟩:=m
  intro u hu
  simp only[jm] at hu
  split at hu
  ·rename_i x hx
   split at hu
   ·rename_i hcond
    obtain⟨u',h1,rfl⟩:=bm.1 hu
    obtain⟨e1,s1⟩:=s.move hx hcond.1 hcond.2
    obtain⟨ρ',e2,e3,s2⟩:=ih (h:=puts [(b,.moved c),(c,x)] h) s1 u' h1
    have hl:∀b',Live h b'→Live (puts [(b,.moved c),(c,x)] h) b':=fun b' hb'=>Live.put (Live.put hb')
    rw[bD]
    exact⟨ρ',fun b' hb'=>(e2 b' (hl b' hb')).trans (e1 b' hb'),fun b' hb'=>e3 b' (hl b' hb'),s2⟩
   ·cases hu
  ·cases hu
def Agree (fs:List Nat)(h h':HL):Prop:=∀b:Id,b.1∈fs→look h b=look h' b
def mQ (bs:List Id):List Nat:=bs.map (·.1)
theorem cz {bs:List Id}{b:Id}(hb:b∈bs):b.1∈mQ bs:=aB.2 ⟨b,hb,rfl⟩
theorem Agree.sub {fs gs:List Nat}(ha:Agree fs h h')(hs:∀k∈gs,k∈fs):Agree gs h h':=fun b hb=>ha b (hs _ hb)
theorem Agree.at {fs:List Nat}(ha:Agree fs h h'){bs:List Id}(hs:∀k∈mQ bs,k∈fs){b:Id}(hb:b∈bs):look h b=look h' b:=ha b (hs _ (cz hb))
theorem bV {α β:Type}{f g:α→Option β}:∀{l:List α},(∀x∈l,f x=g x)→l.mapM f=l.mapM g
 |[],_=>rfl
 |x::l,h=>by simp only[iw,h x (bk ..),bV fun y hy=>h y (bA _ hy)]
theorem bT {u:HL}{b:Id}(hb:look h b=look h' b):look (puts u h) b=look (puts u h') b:=by
 induction u generalizing h h' with
 |nil=>exact hb
 |cons x u ih=>
  show look (puts u (put x.1 x.2 h)) b=look (puts u (put x.1 x.2 h')) b
  refine ih ?_
  rw[af,af,hb]
theorem Agree.puts {fs:List Nat}(ha:Agree fs h h')(u:HL):Agree fs (puts u h) (puts u h'):=fun b hb=>bT (ha b hb)
mutual
theorem pA:∀{d:D},(∀b∈al d,look h b=look h' b)→fwd h d=fwd h' d
 | .ref b,hb=>by simp only[fwd,hb b (by simp[al])]
 | .ptr b o,hb=>by simp only[fwd,hb b (by simp[al])]
 | .eptr b i o,hb=>by simp only[fwd,hb b (by simp[al])]
 | .vref b o n,hb=>by simp only[fwd,hb b (by simp[al])]
 | .ifc T d,hb=>by simp only[fwd,pA (d:=d) fun b h1=>hb b (by simpa[al] using h1)]
 | .clo f cs,hb=>by simp only[fwd,q7 (l:=cs) fun b h1=>hb b (by simpa[al] using h1)]
 | .agg cs,hb=>by simp only[fwd,q7 (l:=cs) fun b h1=>hb b (by simpa[al] using h1)]
 | .tup cs,hb=>by simp only[fwd,q7 (l:=cs) fun b h1=>hb b (by simpa[al] using h1)]
 | .int ..,_| .bool _,_| .str _,_| .lst _,_| .box _,_| .nilp,_| .nils,_| .nilf,_| .nili,_| .iptr ..,_| .undef,_| .junk,_| .gp _,_| .gv _,_=>by simp only[fwd]
theorem q7:∀{l:List D},(∀b∈bB l,look h b=look h' b)→lc h l=lc h' l
 |[],_=>by simp only[lc]
 |d::l,hb=>by
  simp only[lc,pA (d:=d) fun b h1=>hb b (by simp[bB,h1]),q7 (l:=l) fun b h1=>hb b (by simp[bB,h1])]
end
theorem CI {d:D}(ha:Agree (mQ (al d)) h h'):fwd h d=fwd h' d:=pA fun b hb=>ha b (cz hb)
theorem fD {d:D}(ha:Agree (mQ (al d)) h h'):elems h d=elems h' d:=by
 cases d<;>simp only[elems]
 ·rename_i b;rw[ha b (cz (by simp[al]))]
 ·rename_i b o n;rw[ha b (cz (by simp[al]))]
def sE:D→List Id
 | .ref b=>[b]
 | .ptr b 0=>[b]
 |_=>[]
def KX:D→List Id
 | .agg cs=>cs.flatMap sE
 | .tup cs=>cs.flatMap sE
 |d=>sE d
theorem EY (d:D):∀b∈KX d,b∈al d:=by
 have h0:∀d,∀b∈sE d,b∈al d:=by
  intro d b hb
  unfold sE at hb
  split at hb
  ·simpa[al] using hb
  ·simpa[al] using hb
  ·cases hb
 intro b hb
 unfold KX at hb
 split at hb
 ·obtain⟨x,hx,hb⟩:=dZ.1 hb
  simp only[al];exact jH hx b (h0 x b hb)
 ·obtain⟨x,hx,hb⟩:=dZ.1 hb
  simp only[al];exact jH hx b (h0 x b hb)
 ·exact h0 _ b hb
theorem sy {b:Id}(hb:look h b=look h' b):frzB h b=frzB h' b:=by unfold frzB;rw[hb]
theorem kk {α β:Type}{f g:α→Option β}:∀{l:List α},(∀x∈l,f x=g x)→l.filterMap f=l.filterMap g
 |[],_=>rfl
 |x::l,h=>by simp only[List.filterMap_cons,h x (bk ..),kk fun y hy=>h y (bA _ hy)]
theorem ui {bs:List Id}(hb:∀b∈bs,look h b=look h' b):frz h bs=frz h' bs:=kk fun b h1=>by rw[sy (hb b h1)]
theorem oD:∀(ms:List (Id×Id)) {h h':HL},Agree (mQ (ms.flatMap fun m=>[m.1,m.2])) h h'→jm h ms=jm h' ms
 |[],_,_,_=>rfl
 |(b,c)::ms,h,h',ha=>by
  have e1:=ha b (cz (by simp))
  have e2:=ha c (cz (by simp))
  simp only[jm,e1,e2]
  split
  ·rename_i x hx
   rw[oD ms (h:=puts [(b,.moved c),(c,x)] h) (h':=puts [(b,.moved c),(c,x)] h') fun d hd=>bT (ha d ?_)]
   unfold mQ at hd⊢
   simp only[gt,ce]
   exact eK _ hd
  ·rfl
end Go.Proofs.YtpefhoohfkeflacGreatDoor.Am
namespace Go.Proofs.YtpefhoohfkeflacGreatDoor.Am
open Go Go.RowKit
variable {P:Program} {w0:World} {S:SD} {A:Nat→Prop} {N:Nat} {ρ:Id→Pl} {t:List (Nat×D)} {h:HL} {a:Act} {w:World}
def eS:D→Bool
 | .ptr .. | .eptr .. | .iptr .. | .box _| .gp _=>true
 |_=>false
def xD:D→Option Bool
 | .nils=>some true
 | .lst (_::_)=>some false
 | .ref _=>some false
 | .vref ..=>some false
 |_=>none
def cZ (P:Program)(op:BinOp)(T:TypeId)(d1 d2:D):Option D:=
 match P.underlying T with
 |some (.pointer _)=>(match d1,d2,op with
  | .nilp,.nilp,.eql=>some (.bool true)
  | .nilp,.nilp,.neq=>some (.bool false)
  | .nilp,d,.eql=>if eS d then some (.bool false) else none
  | .nilp,d,.neq=>if eS d then some (.bool true) else none
  |d,.nilp,.eql=>if eS d then some (.bool false) else none
  |d,.nilp,.neq=>if eS d then some (.bool true) else none
  |_,_,_=>none)
 |some (.slice _)=>(match d2,op with
  | .nils,.eql=>(xD d1).map .bool
  | .nils,.neq=>(xD d1).map fun b=>.bool !b
  |_,_=>none)
 |_=>none
def cw (op:BinOp)(T:TypeId)(P:Program)(d1 d2:D):Option D:=
 match P.underlying T with
 |some .bool=>(match d1,d2,op with
  | .bool x,.bool y,.eql=>some (.bool (x==y))
  | .bool x,.bool y,.neq=>some (.bool !(x==y))
  |_,_,_=>none)
 |_=>none
def lC:D→Option Bool
 | .nili=>some true
 | .ifc ..=>some false
 | .gv _=>some false
 |_=>none
def dT:Operand→Bool
 | .const .nilIface=>true
 |_=>false
def HP (P:Program)(g:Nat):Bool:=
 match look Gl g with
 |some x=>(match P.info? x.1,P.underlying x.1 with
  |some i,some (.pointer E)=>i.comparable && (match sizeT P E with|some n=>n !=0|none=>false)
  |_,_=>false)
 |none=>false
def gy (P:Program)(op:BinOp)(T:TypeId)(cn:Bool)(d1 d2:D):Option D:=
 match P.underlying T with
 |some (.interface _)=>(match d1,d2,op with
  | .gv g,.gv g',.eql=>if g=g'∧HP P g=true then some (.bool true) else none
  | .gv g,.gv g',.neq=>if g=g'∧HP P g=true then some (.bool false) else none
  |d1,d2,.eql=>(match lC d1,lC d2 with
   |some true,some true=>if cn=true then some (.bool true) else none
   |some true,some false=>some (.bool false)
   |some false,some true=>some (.bool false)
   |_,_=>none)
  |d1,d2,.neq=>(match lC d1,lC d2 with
   |some true,some true=>if cn=true then some (.bool false) else none
   |some true,some false=>some (.bool true)
   |some false,some true=>some (.bool true)
   |_,_=>none)
  |_,_,_=>none)
 |_=>none
def kS (P:Program)(op:BinOp)(T:TypeId)(h:HL)(d1 d2:D):Option D:=
 match P.underlying T with
 |some (.pointer E)=>(match sizeT P E,d1,d2 with
  |some n,.ptr b o,.ptr b' o'=>(match look h b,look h b' with
   |some (.var _ _),some (.var _ _)=>if n≠0 then(match op with
    | .eql=>some (.bool (decide (b=b'∧o=o')))
    | .neq=>some (.bool !(decide (b=b'∧o=o')))
    |_=>none) else none
   |_,_=>none)
  |_,_,_=>none)
 |_=>none
def CP (P:Program)(T:TypeId):Bool:=match P.underlying T with|some (.int _)=>true|_=>false
def GM (P:Program)(T:TypeId):Bool:=
 match P.underlying T with
 |some (.struct fs)=>(match fs.toList with
  | [f, g] => (f.name != "_" && g.name != "_") && (CP P f.type && CP P g.type) && (f.offset == 0 && g.offset == 1) && !P.stoodInHeld T && !P.eqGuardType P.depth T
  |_=>false)
 |_=>false
def nA (P:Program)(op:BinOp)(T:TypeId)(d1 d2:D):Option D:=
 match d1,d2 with
 | .agg [.int k x,.int k2 x2],.agg [.int k' y,.int k2' y2]=>if GM P T=true∧k=k'∧k2=k2' then(match op with
  | .eql=>some (.bool (x==y && x2==y2))
  | .neq=>some (.bool !(x==y && x2==y2))
  |_=>none) else none
 |_,_=>none
theorem fX {α β:Type}{f:α→Option β}:∀{l:List α} {l':List β},l.mapM f=some l'→l'.length=l.length∧∀i,i<l.length→∀x,l[i]?=some x→∃y,f x=some y∧l'[i]?=some y
 |[],l',h=>by simp at h;subst h;simp
 |d::l,l',h=>by
  simp only[iw,qf,bE,Option.pure_def,aw] at h
  obtain⟨d',h1,l2,h2,rfl⟩:=h
  obtain⟨e,ih⟩:=fX h2
  refine⟨by simp[e],fun i hi x hx=>?_⟩
  cases i with
  |zero=>simp at hx;subst hx;exact⟨d',h1,by simp⟩
  |succ i=>simpa using ih i (by simpa using hi) x (by simpa using hx)
def evalDs (t:List (Nat×D))(xs:List Operand):Option (List D):=xs.mapM (aX t)
def evalPs (t:List (Nat×D))(xs:List (Nat×Operand)):Option (List (Nat×D)):=xs.mapM fun x=>(aX t x.2).map fun d=>(x.1,d)
def kj (t:List (Nat×D)):Option Operand→Option (Option D)
 |none=>some none
 |some x=>(aX t x).map some
def Cq (P:Program)(T:TypeId):Bool:=match P.underlying T with|some (.interface _)=>false|some _=>true|none=>false
def xC (P:Program)(T:TypeId):Bool:=match P.underlying T with|some (.interface _)=>true|_=>false
def nT (P:Program)(T:TypeId)(ok:Bool)(d:D):Option D:=
 if Cq P T then(match d with
  | .ifc T' e=>if T'=T then some (if ok then .tup [e,.bool true] else e) else if ok then(ofZero P T).map fun z=>.tup [z,.bool false] else none
  | .nili=>if ok then(ofZero P T).map fun z=>.tup [z,.bool false] else none
  |_=>none) else none
theorem AB {T:TypeId}(h:Cq P T=true):∃d,P.underlying T=some d∧∀x,d≠ .interface x:=by
 unfold Cq at h
 split at h
 ·cases h
 ·rename_i d h1 h2;exact⟨d,h2,fun x e=>h1 x e⟩
 ·cases h
theorem yP {T xT:TypeId}{ok:Bool}{d d':D}{v:Value}{L:Id→Prop}{ok':Nat→Prop}(hd:nT P T ok d=some d')(hv:C ρ L ok' w d v):∃v',(Instr.typeAssert v xT T ok).run P w= .ok v' w∧C ρ L ok' w d' v':=by
 unfold nT at hd
 split at hd
 ·rename_i hi
  obtain⟨td,hu,hne⟩:=AB hi
  have pair:∀{e:D} {x:Value} {b:Bool},C ρ L ok' w e x→C ρ L ok' w (.tup [e,.bool b]) (.tuple #[x,.bool b]):=by
   intro e x b he
   refine .tup _ _ rfl fun i hi=>?_
   match i,hi with
   |0,_=>exact he
   |1,_=>exact .pure (.bool b)
  split at hd
  ·rename_i T' e
   obtain⟨x,rfl,hx⟩:=hv.ifc_inv
   split at hd
   ·rename_i hT
    subst hT
    simp only[aw] at hd
    subst hd
    cases ok with
    |true=>exact⟨.tuple #[x,.bool true],by cases td<;>simp[Instr.typeAssert,run_underlying hu]<;>exact absurd rfl (hne _),pair hx⟩
    |false=>exact⟨x,by cases td<;>simp[Instr.typeAssert,run_underlying hu]<;>exact absurd rfl (hne _),hx⟩
   ·rename_i hT
    split at hd
    ·rename_i hok
     subst hok
     obtain⟨z,hz,rfl⟩:=bm.1 hd
     obtain⟨zv,z1,z2,_⟩:=iX hz ok' w
     exact⟨.tuple #[zv,.bool false],by cases td<;>simp[Instr.typeAssert,run_underlying hu,hT,z1]<;>exact absurd rfl (hne _),pair (.pure z2)⟩
    ·cases hd
  ·obtain rfl:=hv.nili_inv
   split at hd
   ·rename_i hok
    subst hok
    obtain⟨z,hz,rfl⟩:=bm.1 hd
    obtain⟨zv,z1,z2,_⟩:=iX hz ok' w
    exact⟨.tuple #[zv,.bool false],by cases td<;>simp[Instr.typeAssert,run_underlying hu,z1]<;>exact absurd rfl (hne _),pair (.pure z2)⟩
   ·cases hd
  ·cases hd
 ·cases hd
def qk (P:Program)(h:HL)(T:TypeId)(d e:D):Option (D×HL):=
 match P.underlying T,d with
 |some (.slice E),.vref b o m=>(match sizeT P E,elems h e,look h b with
  |some 1,some ys,some (.var T' cs)=>if o+min ys.length m≤cs.length∧ys.all D.pure0=true then some (.int .i64 (min ys.length m:Nat),[(b,.var T' (a8 cs o (ys.take m)))]) else none
  |_,_,_=>none)
 |_,_=>none
theorem Sim.copy (s:Sim P w0 S A N ρ t h a w){T T' ty:TypeId}{d e r:D}{u:HL}{v ve:Value}(hd:qk P h T d e=some (r,u))(hv:C ρ (Live h) (okOf A ρ h w) w d v)(hve:C ρ (Live h) (okOf A ρ h w) w e ve):
  ∃v' w',(Builtin.copy_ #[T,T'] ty #[v,ve]).run P w= .ok v' w'∧Sim P w0 S A N ρ t (puts u h) a w'∧C ρ (Live (puts u h)) (okOf A ρ (puts u h) w') w' r v':=by
 unfold qk at hd
 split at hd
 ·rename_i E b o m hu
  obtain⟨hl,hmx,rfl⟩:=hv.vref_inv
  split at hd
  ·rename_i ys T1 cs hs he hb
   split at hd
   ·rename_i hc
    obtain⟨hle,hp⟩:=hc
    rw[aM] at hp
    simp only[aw,aZ] at hd
    obtain⟨rfl,rfl⟩:=hd
    obtain⟨a',cap,rfl,h1,h2,h3,h4⟩:=s.slice he hve
    obtain⟨c,g1,g2,g3⟩:=s.blk b _ hb
    have hlen:(ys.take m).length=min ys.length m:=by simp[Nat.min_comm]
    obtain⟨vs,k1,k2,k3⟩:∃vs:List Value,(Builtin.firstCells 1 (min ys.length m) (.slice a' ys.length cap)).run P w= .ok vs.toArray w∧vs.length=(ys.take m).length∧∀j,j<(ys.take m).length→C ρ (Live h) (okOf A ρ h w) w ((ys.take m).getD j .undef) (vs.getD j undef):=by
     by_cases hne:ys=[]
     ·subst hne
      refine⟨[],?_,by simp,fun j hj=>by simp at hj⟩
      cases a' with
      |none=>exact run_firstCells_none w _ _ _ _
      |some ad=>exact run_firstCells_some w 1 _ ad _ _ [] (by simp) (fun j v h=>by simp at h)
     ·obtain⟨b',off,f,rfl,p1,p2,p3,p4⟩:=h4 hne
      have hz:szl ys=1:=by
       cases ys with
       |nil=>exact absurd rfl hne
       |cons y ys=>simp[szl,dg (hp y (bk ..))]
      rw[hz] at p3 p4
      refine⟨(List.range (min ys.length m)).map fun i=>f i 0,run_firstCells_some w 1 _ _ _ _ _ (by simp) (fun j v hj=>?_),by simp[Nat.min_comm],fun j hj=>?_⟩
      ·have hj':j<min ys.length m:=by
        have:=(aR.1 hj).1
        simpa using this
       simp[hj'] at hj
       subst hj
       have:=p3 j 0 (by omega) (by omega)
       have e2:(⟨b',off,none⟩:Addr).add j=⟨b',off+j,none⟩:=by
        by_cases hj0:j=0
        ·subst hj0;rfl
        ·simp[Addr.add,hj0]
       rw[e2]
       simpa using this
      ·rw[hlen] at hj
       have hj2:j<ys.length:=by omega
       have hj3:j<m:=by omega
       have:=p4 j 0 hj2 (by omega)
       have e1:(ys.take m).getD j .undef=ys.getD j .undef:=by simp[aq,en,hj3]
       have hm:ys.getD j .undef∈ys:=by rw[aq,am hj2];exact bd hj2
       rw[e1]
       rw[dg (hp _ hm)] at this
       have hj4:j<min ys.length m:=hj
       have e3:((List.range (min ys.length m)).map fun i=>f i 0).getD j undef=f j 0:=by
        rw[aq,be,qh hj4]
        rfl
       rw[e3]
       exact this
    have hone:∀x∈vs,x.oneCell'=true:=by
     intro x hx
     obtain⟨j,hj,rfl⟩:=qg hx
     have hj':j<(ys.take m).length:=by omega
     have hm:(ys.take m).getD j .undef∈ys:=by
      rw[aq,am hj'];exact jU (bd hj')
     have:=(k3 j hj').oneCell (m3 (hp _ hm))
     simpa[aq,hj] using this
    have hst:=run_storeCells_at P (ρ b).blk o T1 vs 0 c w g1 (by omega) hone
    refine⟨_,w.setRow (ρ b).blk (c.toList.take o++vs++c.toList.drop (o+vs.length)).toArray,?_,s.write (y:=.var T1 (a8 cs o (ys.take m))) hb rfl _ fun hC hR=>⟨_,setRow_heap w _ c _ T1 _ g1,?_,fun j hj=>?_⟩,.int _ _⟩
    ·have hmin:Nat.min ys.length m=min ys.length m:=rfl
     have hst':(storeCells ⟨(ρ b).blk,o,none⟩ vs).run P w= .ok () (w.setRow (ρ b).blk (c.toList.take o++vs++c.toList.drop (o+vs.length)).toArray):=by simpa using hst
     simp only[Builtin.copy_,run_underlying hu,Builtin.lenOf,bX hs,hmin,k1,Sem.run_bind,Sem.run_pure,Result.andThen_ok]
     simp[run_underlying hu,bX hs,hmin,k1,hst',Builtin.lenOf]
     rfl
    ·simp only[mi,a8]
     rw[bn _ _ _ (by have e:=nx (xs:=c);omega),bn _ _ _ (by omega)]
     simpa using g2
    ·rw[ke]
     have hj':j<cs.length:=by rw[a8,bn _ _ _ (by omega)] at hj;exact hj
     exact pY (Q:=fun d v=>C _ _ _ _ d v) (by simpa using g2.symm) k2.symm (by omega) (fun j hj=>hC _ _ (by rw[←cO];exact g3 j hj)) (fun j hj=>hC _ _ (k3 j hj)) j hj'
   ·cases hd
  ·cases hd
 ·cases hd
def ew (P:Program)(m:Bool)(b:Builtin)(ds:List D)(Ts:List TypeId)(h:HL)(n:Nat):Option (D×HL):=
 match b,ds,Ts with
 | .len,[d],[T]=>(uO P h T d).map fun r=>(r,[])
 | .append,[d,e],[T,T']=>if T=T' then jz P h (n,0) T d e else ia P h (n,0) T T' d e
 | .copy,[d,e],[T,_]=>qk P h T d e
 | .min,[.int k x,.int k' y],_=>if k=k' then some (.int k (if y<x then y else x),[]) else none
 | .max,[.int k x,.int k' y],_=>if k=k' then some (.int k (if x<y then y else x),[]) else none
 |_,_,_=>none
def evalF (t:List (Nat×D))(h:HL)(x:Operand):Option D:=(aX t x).map (fwd h)
def evalFs (t:List (Nat×D))(h:HL)(xs:List Operand):Option (List D):=xs.mapM (evalF t h)
def evalFPs (t:List (Nat×D))(h:HL)(xs:List (Nat×Operand)):Option (List (Nat×D)):=xs.mapM fun x=>(evalF t h x.2).map fun d=>(x.1,d)
def dL (P:Program)(m:Bool)(op:Op)(t:List (Nat×D))(h:HL)(n:Nat):Option (D×HL):=
 match op with
 | .move x=>(aX t x).map fun d=>(d,[])
 | .assign x=>(aX t x).map fun d=>(d,[])
 | .pick c x y=>(match aX t c with
  |some (.bool true)=>(aX t x).map fun d=>(d,[])
  |some (.bool false)=>(aX t y).map fun d=>(d,[])
  |_=>none)
 | .alloc T=>(ofZero P T).map fun z=>(.ptr (n,0) 0,[((n,0),.var T z.cells)])
 | .box T x=>(aX t x).bind fun d=>if d.whole=true then some (.ptr (n,0) 0,[((n,0),.var T d.cells)]) else none
 | .build T ps=>(evalPs t ps.toList).bind fun ds=>(rO P T ds).map fun d=>(d,[])
 | .buildSlice T len ps=>(evalFPs t h ps.toList).bind fun ds=>eu P (n,0) T len (ds.map fun x=>(x.1,nzE x.2))
 | .load T x=>(evalF t h x).bind fun d=>(dy P h T d).map fun d=>(d,[])
 | .store T x y=>(evalF t h x).bind fun d=>(evalF t h y).bind fun e=>(gz P h T d (nzM (!m) e)).map fun u=>(.undef,u)
 | .nilCheck x=>(aX t x).bind fun d=>if eS d then some (d,[]) else none
 | .binOp op T x y _=>(evalF t h x).bind fun d=>(evalF t h y).bind fun e=>(match fp op d e with
  |some r=>some (r,[])
  |none=>(match cZ P op T d e with
   |some r=>some (r,[])
   |none=>(match cw op T P d e with
    |some r=>some (r,[])
    |none=>(match gy P op T (dT x||dT y) d e with
     |some r=>some (r,[])
     |none=>(match nA P op T d e with
      |some r=>some (r,[])
      |none=>(kS P op T h d e).map fun r=>(r,[]))))))
 | .unOp op _ x=>(aX t x).bind fun d=>(MI op d).map fun d=>(d,[])
 | .convert src dst x=>(evalF t h x).bind fun d=>(nj P h src dst d).map fun d=>(d,[])
 | .makeInterface T x=>(aX t x).bind fun d=>if Cq P T=true then some (.ifc T d,[]) else none
 | .makeFunc (.func f) first captured=>if first.size=0 then(evalDs t captured.toList).map fun ds=>(.clo f ds,[]) else none
 | .typeAssert x _ T ok=>(aX t x).bind fun d=>(nT P T ok d).map fun d=>(d,[])
 | .makeSlice T l c=>(aX t l).bind fun d=>(aX t c).bind fun e=>AC P m (n,0) T d e
 | .slice T x lo hi none=>(evalF t h x).bind fun d=>(kj t lo).bind fun l=>(kj t hi).bind fun r=>fN P h m (n,0) T d l r
 | .fieldAddr T x f=>(aX t x).bind fun d=>(iB P T f d).map fun d=>(d,[])
 | .field T x f=>(aX t x).bind fun d=>(AD P T f d).map fun d=>(d,[])
 | .indexAddr T x i=>(evalF t h x).bind fun d=>(aX t i).bind fun e=>(bN P h T d e).map fun d=>(d,[])
 | .index T x i=>(aX t x).bind fun d=>(aX t i).bind fun e=>(rQ P T d e).map fun d=>(d,[])
 | .extract x i=>(aX t x).bind fun d=>(nU i d).map fun d=>(d,[])
 | .call ⟨.builtin b,args,argTypes⟩=>(evalFs t h args.toList).bind fun ds=>ew P m b ds argTypes.toList h n
 |_=>none
theorem C.nz0 {L:Id→Prop}{ok:Nat→Prop}{d:D}{v:Value}(h:C ρ L ok w d v):C ρ L ok w (Am.nz0 d) v:=by
 by_cases hd:d= .nils
 ·subst hd
  obtain rfl:=h.nils_inv
  exact .pure (Rep.nz0 .nils)
 ·have:Am.nz0 d=d:=by cases d<;>first|rfl|exact absurd rfl hd
  rw[this];exact h
theorem C.nzE {L:Id→Prop}{ok:Nat→Prop}{d:D}{v:Value}(h:C ρ L ok w d v):C ρ L ok w (Am.nzE d) v:=by
 by_cases hd:∃cs,d= .agg cs
 ·obtain⟨cs,rfl⟩:=hd
  obtain⟨vs,rfl,hl,hc⟩:=h.agg_inv
  refine .agg _ _ (by simpa using hl) fun i hi=>?_
  have hi':i<cs.length:=by simpa using hi
  have:=(hc i hi').nz0
  simpa[aq,hi'] using this
 ·have:Am.nzE d=Am.nz0 d:=by cases d<;>first|rfl|exact absurd ⟨_,rfl⟩ hd
  rw[this];exact h.nz0
theorem C.nzM {L:Id→Prop}{ok:Nat→Prop}{d:D}{v:Value}(h:C ρ L ok w d v)(q:Bool):C ρ L ok w (Am.nzM q d) v:=by
 unfold Am.nzM;split
 ·exact h
 ·exact h.nzE
theorem gh {o:Oper}{v:Value}{w':World}{K:Act→World→Prop}{Q:Exit→Act→World→Prop}(hr:(execOp a.eval o).run P w= .ok (.value v) w')(hk:K (a.put o.dst v) w'):o.wp P a w K Q:=by
 unfold Oper.wp;rw[hr];exact hk
theorem G4 {o:Oper}{w':World}{K:Act→World→Prop}{Q:Exit→Act→World→Prop}(hr:(execOp a.eval o).run P w= .ok .skip w')(hk:K (a.put o.dst undef) w'):o.wp P a w K Q:=by
 unfold Oper.wp;rw[hr];exact hk
def tE (P:Program)(w0:World)(S:SD)(A:Nat→Prop)(N:Nat)(ρ:Id→Pl)(t:List (Nat×D))(h h':HL)(a:Act)(dst:Option Tmp)(d:D)(a':Act)(w':World):Prop:=
 ∃v ρ',a'=a.put dst v∧Ext h ρ ρ'∧Sim P w0 S A N ρ' t h' a w'∧C ρ' (Live h') (okOf A ρ' h' w') w' d v
theorem Sim.evalDs (s:Sim P w0 S A N ρ t h a w){xs:List Operand}{ds:List D}(hd:Am.evalDs t xs=some ds):ds.length=(xs.map a.eval).length∧∀i,i<ds.length→C ρ (Live h) (okOf A ρ h w) w (ds.getD i .undef) ((xs.map a.eval).getD i undef):=by
 obtain⟨e,q⟩:=fX hd
 refine⟨by simp[e],fun i hi=>?_⟩
 have hi':i<xs.length:=by omega
 obtain⟨y,hy1,hy2⟩:=q i hi' _ (am hi')
 have:=s.eval hy1
 simpa[aq,hy2,hi'] using this
theorem Sim.evalPs (s:Sim P w0 S A N ρ t h a w){xs:List (Nat×Operand)}{ds:List (Nat×D)}(hd:Am.evalPs t xs=some ds):ds.length=(xs.map fun x=>(x.1,a.eval x.2)).length∧
  ∀i,i<ds.length→(ds.getD i (0,.undef)).1=((xs.map fun x=>(x.1,a.eval x.2)).getD i (0,undef)).1∧C ρ (Live h) (okOf A ρ h w) w (ds.getD i (0,.undef)).2 ((xs.map fun x=>(x.1,a.eval x.2)).getD i (0,undef)).2:=by
 obtain⟨e,q⟩:=fX hd
 refine⟨by simp[e],fun i hi=>?_⟩
 have hi':i<xs.length:=by omega
 obtain⟨y,hy1,hy2⟩:=q i hi' _ (am hi')
 obtain⟨d,hd1,rfl⟩:=bm.1 hy1
 have:=s.eval hd1
 simp only[aq,hy2,be,am hi',aI,dY]
 exact⟨trivial,this⟩
theorem C.isPtr_inv {L:Id→Prop}{ok:Nat→Prop}{d:D}{v:Value}(hp:eS d=true)(hc:C ρ L ok w d v):∃ad,v= .pointer (some ad):=by
 cases d<;>simp[eS] at hp
 ·cases hc.box_inv with|box _ b off f hok hpos hc hr=>exact⟨_,rfl⟩
 ·obtain⟨_,rfl⟩:=hc.ptr_inv;exact⟨_,rfl⟩
 ·obtain⟨_,rfl⟩:=hc.eptr_inv;exact⟨_,rfl⟩
 ·obtain⟨b,off,f,rfl,_⟩:=hc.iptr_inv;exact⟨_,rfl⟩
 ·obtain⟨x,ad,rfl,_⟩:=hc.gp_inv;exact⟨_,rfl⟩
theorem xE {d:D}{v:Value}{b:Bool}{L:Id→Prop}{ok:Nat→Prop}(h:xD d=some b)(hc:C ρ L ok w d v):∃a n c,v= .slice a n c∧a.isNone=b:=by
 unfold xD at h
 split at h
 ·cases h;cases hc with
  |pure h=>cases h;exact⟨_,_,_,rfl,rfl⟩
 ·cases h;cases hc with
  |pure h=>cases h;exact⟨_,_,_,rfl,rfl⟩
 ·cases h;cases hc with
  |pure h=>cases h
  |ref b hb=>exact⟨_,_,_,rfl,rfl⟩
 ·cases h;cases hc with
  |pure h=>cases h
  |vref b o n hb hn=>exact⟨_,_,_,rfl,rfl⟩
 ·cases h
theorem Dt {op:BinOp}{T:TypeId}{x y:Operand}{d1 d2 d:D}{v1 v2:Value}{L:Id→Prop}{ok:Nat→Prop}(hd:cZ P op T d1 d2=some d)(h1:C ρ L ok w d1 v1)(h2:C ρ L ok w d2 v2):
  ∃v,(do eqGuard op T x y v1 v2;binOp op T v1 v2:Sem Value).run P w= .ok v w∧Rep ok w d v:=by
 unfold cZ at hd
 split at hd
 ·rename_i e hu
  have hg:∀(p q:Option Addr),eqGuard op T x y (.pointer p) (.pointer q)=pure ():=by intro p q;unfold eqGuard;split<;>rfl
  have r1:∀(q:Option Addr),(Op.equal T (.pointer none) (.pointer q)).run P w= .ok q.isNone w:=by
   intro q
   have:=fun(k:Nat)=>(show (Op.equalIn (k+1) T (.pointer none) (.pointer q)).run P w= .ok q.isNone w by simp[Op.equalIn,run_underlying hu])
   exact this 9999
  have r2:∀(ad:Addr),(Op.equal T (.pointer (some ad)) (.pointer none)).run P w= .ok false w:=by
   intro ad
   have:=fun(k:Nat)=>(show (Op.equalIn (k+1) T (.pointer (some ad)) (.pointer none)).run P w= .ok false w by simp[Op.equalIn,run_underlying hu])
   exact this 9999
  split at hd
  ·obtain rfl:=h1.nilp_inv;obtain rfl:=h2.nilp_inv
   simp only[aw] at hd;subst hd
   exact⟨_,by rw[hg];simp[binOp,r1],.bool _⟩
  ·obtain rfl:=h1.nilp_inv;obtain rfl:=h2.nilp_inv
   simp only[aw] at hd;subst hd
   exact⟨_,by rw[hg];simp[binOp,r1],.bool _⟩
  ·split at hd
   ·rename_i hp
    obtain rfl:=h1.nilp_inv;obtain⟨ad,rfl⟩:=h2.isPtr_inv hp
    simp only[aw] at hd;subst hd
    exact⟨_,by rw[hg];simp[binOp,r1],.bool _⟩
   ·cases hd
  ·split at hd
   ·rename_i hp
    obtain rfl:=h1.nilp_inv;obtain⟨ad,rfl⟩:=h2.isPtr_inv hp
    simp only[aw] at hd;subst hd
    exact⟨_,by rw[hg];simp[binOp,r1],.bool _⟩
   ·cases hd
  ·split at hd
   ·rename_i hp
    obtain rfl:=h2.nilp_inv;obtain⟨ad,rfl⟩:=h1.isPtr_inv hp
    simp only[aw] at hd;subst hd
    exact⟨_,by rw[hg];simp[binOp,r2],.bool _⟩
   ·cases hd
  ·split at hd
   ·rename_i hp
    obtain rfl:=h2.nilp_inv;obtain⟨ad,rfl⟩:=h1.isPtr_inv hp
    simp only[aw] at hd;subst hd
    exact⟨_,by rw[hg];simp[binOp,r2],.bool _⟩
   ·cases hd
  ·cases hd
 ·rename_i E hu
  have hg:∀(p q:Option Addr) (n c n' c':Nat),eqGuard op T x y (.slice p n c) (.slice q n' c')=pure ():=by intro p q n c n' c';unfold eqGuard;split<;>rfl
  have r1:∀(a:Option Addr) (n c:Nat),(Op.equal T (.slice a n c) (.slice none 0 0)).run P w= .ok a.isNone w:=by
   intro a n c
   have:=fun(k:Nat)=>(show (Op.equalIn (k+1) T (.slice a n c) (.slice none 0 0)).run P w= .ok a.isNone w by cases a<;>simp[Op.equalIn,run_underlying hu])
   exact this 9999
  have hn:∀{v:Value},C ρ L ok w .nils v→v= .slice none 0 0:=fun h=>by
   cases h with
   |pure h=>cases h;rfl
  split at hd
  ·obtain⟨b,hb,rfl⟩:=bm.1 hd
   obtain rfl:=hn h2;obtain⟨a,n,c,rfl,rfl⟩:=xE hb h1
   exact⟨_,by rw[hg];simp[binOp,r1],.bool _⟩
  ·obtain⟨b,hb,rfl⟩:=bm.1 hd
   obtain rfl:=hn h2;obtain⟨a,n,c,rfl,rfl⟩:=xE hb h1
   exact⟨_,by rw[hg];simp[binOp,r1],.bool _⟩
  ·cases hd
 ·cases hd
theorem yQ {op:BinOp}{T:TypeId}{x y:Operand}{d1 d2 d:D}{v1 v2:Value}{L:Id→Prop}{ok:Nat→Prop}(hd:cw op T P d1 d2=some d)(h1:C ρ L ok w d1 v1)(h2:C ρ L ok w d2 v2):
  ∃v,(do eqGuard op T x y v1 v2;binOp op T v1 v2:Sem Value).run P w= .ok v w∧Rep ok w d v:=by
 unfold cw at hd
 split at hd
 ·rename_i hu
  have hg:∀p q,eqGuard op T x y (.bool p) (.bool q)=pure ():=by intro p q;unfold eqGuard;split<;>rfl
  have r1:∀p q,(Op.equal T (.bool p) (.bool q)).run P w= .ok (p==q) w:=by
   intro p q
   have:=fun(k:Nat)=>(show (Op.equalIn (k+1) T (.bool p) (.bool q)).run P w= .ok (p==q) w by simp[Op.equalIn,run_underlying hu])
   exact this 9999
  split at hd
  ·obtain rfl:=h1.bool_inv;obtain rfl:=h2.bool_inv
   simp only[aw] at hd;subst hd
   exact⟨_,by rw[hg];simp[binOp,r1],.bool _⟩
  ·obtain rfl:=h1.bool_inv;obtain rfl:=h2.bool_inv
   simp only[aw] at hd;subst hd
   exact⟨_,by rw[hg];simp[binOp,r1],.bool _⟩
  ·cases hd
 ·cases hd
theorem fl {d:D}{v:Value}{b:Bool}{L:Id→Prop}{ok:Nat→Prop}(h:lC d=some b)(hc:C ρ L ok w d v):(b=true∧v= .nilIface)∨(b=false∧∃T v',v= .iface T v'):=by
 cases d<;>simp only[lC,aw,reduceCtorEq] at h<;>subst h
 ·exact .inl ⟨rfl,hc.nili_inv⟩
 ·obtain⟨v',rfl,-⟩:=hc.ifc_inv;exact .inr ⟨rfl,_,_,rfl⟩
 ·obtain⟨x,ad,rfl,-⟩:=hc.gv_inv;exact .inr ⟨rfl,_,_,rfl⟩
theorem n7 {x:Operand}(h:dT x=true):x= .const .nilIface:=by
 unfold dT at h
 split at h
 ·rfl
 ·cases h
theorem CK {op:BinOp}{T:TypeId}{x y:Operand}(h:(dT x||dT y)=true):eqGuard op T x y .nilIface .nilIface=pure ():=by
 rcases cN .. ▸h with h|h
 ·obtain rfl:=n7 h
  cases op<;>rfl
 ·obtain rfl:=n7 h
  cases x<;>cases op<;>rfl
theorem Cr {op:BinOp}{T:TypeId}{x y:Operand}{d1 d2 d:D}{v1 v2:Value}{L:Id→Prop}{ok:Nat→Prop}(hd:gy P op T (dT x||dT y) d1 d2=some d)(h1:C ρ L ok w d1 v1)(h2:C ρ L ok w d2 v2):
  ∃v,(do eqGuard op T x y v1 v2;binOp op T v1 v2:Sem Value).run P w= .ok v w∧Rep ok w d v:=by
 unfold gy at hd
 split at hd
 ·rename_i ms hu
  have g0:(dT x||dT y)=true→eqGuard op T x y .nilIface .nilIface=pure ():=CK
  have g1:∀T' v',eqGuard op T x y .nilIface (.iface T' v')=pure ():=by intro T' v';unfold eqGuard;split<;>rfl
  have g2:∀T' v',eqGuard op T x y (.iface T' v') .nilIface=pure ():=by intro T' v';unfold eqGuard;split<;>rfl
  have g3:∀T' v' T2 v2,eqGuard op T x y (.iface T' v') (.iface T2 v2)=pure ():=by intro T' v' T2 v2;unfold eqGuard;split<;>rfl
  have r0:(Op.equal T .nilIface .nilIface).run P w= .ok true w:=by
   have:=fun(k:Nat)=>(show (Op.equalIn (k+1) T .nilIface .nilIface).run P w= .ok true w by simp[Op.equalIn,run_underlying hu])
   exact this 9999
  have r1:∀T' v',(Op.equal T .nilIface (.iface T' v')).run P w= .ok false w:=by
   intro T' v'
   have:=fun(k:Nat)=>(show (Op.equalIn (k+1) T .nilIface (.iface T' v')).run P w= .ok false w by simp[Op.equalIn,run_underlying hu])
   exact this 9999
  have r2:∀T' v',(Op.equal T (.iface T' v') .nilIface).run P w= .ok false w:=by
   intro T' v'
   have:=fun(k:Nat)=>(show (Op.equalIn (k+1) T (.iface T' v') .nilIface).run P w= .ok false w by simp[Op.equalIn,run_underlying hu])
   exact this 9999
  have same:∀{g:Nat},HP P g=true→C ρ L ok w (.gv g) v1→C ρ L ok w (.gv g) v2→(eqGuard op T x y v1 v2=pure ())∧(Op.equal T v1 v2).run P w= .ok true w:=by
   intro g hg a1 a2
   obtain⟨z,ad,rfl,q1,q2,q3⟩:=a1.gv_inv
   obtain⟨z',ad',rfl,p1,p2,p3⟩:=a2.gv_inv
   rw[q1] at p1
   obtain rfl:=ar p1
   rw[q3] at p3
   have e:ad=ad':=by
    injection p3 with p3
    injection p3 with _ p3
    injection p3 with p3
    exact ar p3
   subst e
   refine⟨g3 _ _ _ _,?_⟩
   unfold HP at hg
   rw[q1] at hg
   dsimp only at hg
   split at hg
   ·rename_i i E hi hE
    simp only[aA] at hg
    obtain⟨c1,c2⟩:=hg
    split at c2
    ·rename_i n hn
     have hn0:n≠0:=by simpa using c2
     have inner:=fun(k:Nat)=>(show (Op.equalIn (k+1) z.1 (.pointer (some ad)) (.pointer (some ad))).run P w= .ok true w by simp[Op.equalIn,run_underlying hE,bX hn,hn0,sameAddr])
     have:=fun(k:Nat)=>(show (Op.equalIn (k+2) T (.iface z.1 (.pointer (some ad))) (.iface z.1 (.pointer (some ad)))).run P w= .ok true w by
      rw[Op.equalIn]
      simp[run_underlying hu,typeInfo,hi,c1,inner])
     exact this 9998
    ·cases c2
   ·cases hg
  split at hd
  ·split at hd
   ·rename_i hc
    obtain⟨rfl,hg⟩:=hc
    simp only[aw] at hd;subst hd
    obtain⟨e1,e2⟩:=same hg h1 h2
    obtain⟨_,_,rfl,-⟩:=h1.gv_inv
    obtain⟨_,_,rfl,-⟩:=h2.gv_inv
    exact⟨_,by rw[e1];simp[binOp,e2],.bool _⟩
   ·cases hd
  ·split at hd
   ·rename_i hc
    obtain⟨rfl,hg⟩:=hc
    simp only[aw] at hd;subst hd
    obtain⟨e1,e2⟩:=same hg h1 h2
    obtain⟨_,_,rfl,-⟩:=h1.gv_inv
    obtain⟨_,_,rfl,-⟩:=h2.gv_inv
    exact⟨_,by rw[e1];simp[binOp,e2],.bool _⟩
   ·cases hd
  ·split at hd
   ·rename_i i1 i2
    split at hd
    ·rename_i hcn
     simp only[aw] at hd;subst hd
     obtain⟨-,rfl⟩:=(fl i1 h1).resolve_right fun h=>by cases h.1
     obtain⟨-,rfl⟩:=(fl i2 h2).resolve_right fun h=>by cases h.1
     exact⟨_,by rw[g0 hcn];simp[binOp,r0],.bool _⟩
    ·cases hd
   ·rename_i i1 i2
    simp only[aw] at hd;subst hd
    obtain⟨-,rfl⟩:=(fl i1 h1).resolve_right fun h=>by cases h.1
    obtain⟨-,T',v',rfl⟩:=(fl i2 h2).resolve_left fun h=>by cases h.1
    exact⟨_,by rw[g1];simp[binOp,r1],.bool _⟩
   ·rename_i i1 i2
    simp only[aw] at hd;subst hd
    obtain⟨-,T',v',rfl⟩:=(fl i1 h1).resolve_left fun h=>by cases h.1
    obtain⟨-,rfl⟩:=(fl i2 h2).resolve_right fun h=>by cases h.1
    exact⟨_,by rw[g2];simp[binOp,r2],.bool _⟩
   ·cases hd
  ·split at hd
   ·rename_i i1 i2
    split at hd
    ·rename_i hcn
     simp only[aw] at hd;subst hd
     obtain⟨-,rfl⟩:=(fl i1 h1).resolve_right fun h=>by cases h.1
     obtain⟨-,rfl⟩:=(fl i2 h2).resolve_right fun h=>by cases h.1
     exact⟨_,by rw[g0 hcn];simp[binOp,r0],.bool _⟩
    ·cases hd
   ·rename_i i1 i2
    simp only[aw] at hd;subst hd
    obtain⟨-,rfl⟩:=(fl i1 h1).resolve_right fun h=>by cases h.1
    obtain⟨-,T',v',rfl⟩:=(fl i2 h2).resolve_left fun h=>by cases h.1
    exact⟨_,by rw[g1];simp[binOp,r1],.bool _⟩
   ·rename_i i1 i2
    simp only[aw] at hd;subst hd
    obtain⟨-,T',v',rfl⟩:=(fl i1 h1).resolve_left fun h=>by cases h.1
    obtain⟨-,rfl⟩:=(fl i2 h2).resolve_right fun h=>by cases h.1
    exact⟨_,by rw[g2];simp[binOp,r2],.bool _⟩
   ·cases hd
  ·cases hd
 ·cases hd
theorem iR {T:TypeId}(ht:CP P T=true){cs:Array Value}{o:Nat}{v:Value}(h:cs[o]?=some v):(part T cs o).run P w= .ok v w:=by
 unfold CP at ht
 split at ht
 ·rename_i k hu
  have ha:(isAgg T).run P w= .ok false w:=kH (by simp[isAggT,hu]) w
  simp only[part,Sem.run_bind,ha,Result.andThen_ok,eW,if_false,h]
  rfl
 ·cases ht
theorem kG {T:TypeId}(ht:CP P T=true)(d:Nat)(k:IntKind)(x y:Int):(Op.equalIn (d+1) T (.int k x) (.int k y)).run P w= .ok (x==y) w:=by
 unfold CP at ht
 split at ht
 ·rename_i k' hu
  simp[Op.equalIn,run_underlying hu]
 ·cases ht
theorem Cd {ρ:Id→Pl}{L:Id→Prop}{ok:Nat→Prop}{k k2:IntKind}{x x2:Int}{v:Value}(h:C ρ L ok w (.agg [.int k x,.int k2 x2]) v):v= .agg #[.int k x,.int k2 x2]:=by
 obtain⟨vs,rfl,hl,hc⟩:=h.agg_inv
 have h0:=(hc 0 (by simp)).int_inv
 have h1:=(hc 1 (by simp)).int_inv
 cases vs with
 |mk l=>
 match l,hl,h0,h1 with
 |[a,b],_,h0,h1=>
  simp at h0 h1
  rw[h0,h1]
theorem Ct {op:BinOp}{T:TypeId}{x y:Operand}{d1 d2 d:D}{v1 v2:Value}{L:Id→Prop}{ok:Nat→Prop}(hd:nA P op T d1 d2=some d)(h1:C ρ L ok w d1 v1)(h2:C ρ L ok w d2 v2):
  ∃v,(do eqGuard op T x y v1 v2;binOp op T v1 v2:Sem Value).run P w= .ok v w∧Rep ok w d v:=by
 unfold nA at hd
 split at hd
 ·rename_i k a k2 a2 k' b k2' b2
  split at hd
  ·rename_i hc
   obtain⟨ht,rfl,rfl⟩:=hc
   obtain rfl:=Cd h1
   obtain rfl:=Cd h2
   unfold GM at ht
   split at ht
   ·rename_i fs hu
    split at ht
    ·rename_i f g hfs
     simp only[aA,bne_iff_ne,ne_eq,beq_iff_eq,fK] at ht
     obtain⟨⟨⟨⟨⟨n1,n2⟩,t1,t2⟩,o1,o2⟩,hs⟩,hg⟩:=ht
     have hF:P.fieldsOf T=fs:=by simp[Program.fieldsOf,hu]
     have hG:(eqGuard op T x y (.agg #[.int k a,.int k2 a2]) (.agg #[.int k b,.int k2 b2])).run P w= .ok () w:=by
      unfold eqGuard
      cases op<;>simp[hg]
     have hE:(Op.equal T (.agg #[.int k a,.int k2 a2]) (.agg #[.int k b,.int k2 b2])).run P w= .ok (a==b && a2==b2) w:=by
      have:=fun(q:Nat)=>(show (Op.equalIn (q+2) T (.agg #[.int k a,.int k2 a2]) (.agg #[.int k b,.int k2 b2])).run P w= .ok (a==b && a2==b2) w by
       rw[show q+2=(q+1)+1 from rfl,run_equalIn_struct w (q+1) T _ _ (by rw[hF];exact hu) hs,hF,hfs]
       have p1:(part f.type #[.int k a,.int k2 a2] 0).run P w= .ok (.int k a) w:=iR t1 rfl
       have p2:(part f.type #[.int k b,.int k2 b2] 0).run P w= .ok (.int k b) w:=iR t1 rfl
       have p3:(part g.type #[.int k a,.int k2 a2] 1).run P w= .ok (.int k2 a2) w:=iR t2 rfl
       have p4:(part g.type #[.int k b,.int k2 b2] 1).run P w= .ok (.int k2 b2) w:=iR t2 rfl
       simp only[Op.eqFields,n1,n2,ne_eq,not_false_eq_true,if_true,o1,o2,Sem.run_bind,p1,p2,kG t1,Result.andThen_ok]
       cases a==b
       ·rfl
       ·simp only[Bool.not_true,eW,if_false,Sem.run_bind,p3,p4,kG t2,Result.andThen_ok,d7]
        cases a2==b2<;>rfl)
      exact this 9998
     split at hd
     ·simp only[aw] at hd;subst hd
      exact⟨_,by rw[Sem.run_bind,hG];simp[binOp,hE],.bool _⟩
     ·simp only[aw] at hd;subst hd
      exact⟨_,by rw[Sem.run_bind,hG];simp[binOp,hE],.bool _⟩
     ·cases hd
    ·cases ht
   ·cases ht
  ·cases hd
 ·cases hd
theorem Sim.ptrEq (s:Sim P w0 S A N ρ t h a w){op:BinOp}{T:TypeId}{x y:Operand}{d1 d2 d:D}{v1 v2:Value}{ok:Nat→Prop}(hd:kS P op T h d1 d2=some d)(h1:C ρ (Live h) ok w d1 v1)(h2:C ρ (Live h) ok w d2 v2):
  ∃v,(do eqGuard op T x y v1 v2;binOp op T v1 v2:Sem Value).run P w= .ok v w∧Rep ok w d v:=by
 unfold kS at hd
 split at hd
 ·rename_i E hu
  split at hd
  ·rename_i n b o b' o' hn
   split at hd
   ·rename_i T1 c1 T2 c2 hb hb'
    split at hd
    ·rename_i hn0
     obtain⟨_,rfl⟩:=h1.ptr_inv
     obtain⟨_,rfl⟩:=h2.ptr_inv
     obtain⟨q1,e1,-,-⟩:=s.blk b _ hb
     obtain⟨q2,e2,-,-⟩:=s.blk b' _ hb'
     have hg:∀(p q:Option Addr),eqGuard op T x y (.pointer p) (.pointer q)=pure ():=by intro p q;unfold eqGuard;split<;>rfl
     have hE:(Op.equal T (.pointer (some ⟨(ρ b).blk,o,none⟩)) (.pointer (some ⟨(ρ b').blk,o',none⟩))).run P w= .ok (decide (b=b'∧o=o')) w:=by
      have:=fun(k:Nat)=>(show (Op.equalIn (k+1) T (.pointer (some ⟨(ρ b).blk,o,none⟩)) (.pointer (some ⟨(ρ b').blk,o',none⟩))).run P w= .ok (decide (b=b'∧o=o')) w by
       by_cases he:b=b'∧o=o'
       ·obtain⟨rfl,rfl⟩:=he
        simp[Op.equalIn,run_underlying hu,bX hn,hn0,sameAddr]
       ·have hne:(⟨(ρ b).blk,o,none⟩:Addr)≠⟨(ρ b').blk,o',none⟩:=by
         intro e
         injection e with e3 e4
         exact he ⟨s.inj b b' _ _ hb hb' rfl rfl e3,e4⟩
        rw[decide_eq_false he]
        simp[Op.equalIn,run_underlying hu,bX hn,hn0,run_sameAddr_other w hne e1 e2])
      exact this 9999
     split at hd
     ·simp only[aw] at hd;subst hd
      exact⟨_,by rw[hg];simp[binOp,hE],.bool _⟩
     ·simp only[aw] at hd;subst hd
      exact⟨_,by rw[hg];simp[binOp,hE],.bool _⟩
     ·cases hd
    ·cases hd
   ·cases hd
  ·cases hd
 ·cases hd
theorem Sim.evalF (s:Sim P w0 S A N ρ t h a w){x:Operand}{d:D}(hd:Am.evalF t h x=some d):C ρ (Live h) (okOf A ρ h w) w d (a.eval x):=by
 obtain⟨d0,h1,rfl⟩:=bm.1 hd
 exact s.fwd (s.eval h1)
theorem Sim.evalFs (s:Sim P w0 S A N ρ t h a w){xs:List Operand}{ds:List D}(hd:Am.evalFs t h xs=some ds):ds.length=(xs.map a.eval).length∧∀i,i<ds.length→C ρ (Live h) (okOf A ρ h w) w (ds.getD i .undef) ((xs.map a.eval).getD i undef):=by
 obtain⟨e,q⟩:=fX hd
 refine⟨by simp[e],fun i hi=>?_⟩
 have hi':i<xs.length:=by omega
 obtain⟨y,hy1,hy2⟩:=q i hi' _ (am hi')
 have:=s.evalF hy1
 simpa[aq,hy2,hi'] using this
theorem Sim.evalFPs (s:Sim P w0 S A N ρ t h a w){xs:List (Nat×Operand)}{ds:List (Nat×D)}(hd:Am.evalFPs t h xs=some ds):ds.length=(xs.map fun x=>(x.1,a.eval x.2)).length∧
  ∀i,i<ds.length→(ds.getD i (0,.undef)).1=((xs.map fun x=>(x.1,a.eval x.2)).getD i (0,undef)).1∧C ρ (Live h) (okOf A ρ h w) w (ds.getD i (0,.undef)).2 ((xs.map fun x=>(x.1,a.eval x.2)).getD i (0,undef)).2:=by
 obtain⟨e,q⟩:=fX hd
 refine⟨by simp[e],fun i hi=>?_⟩
 have hi':i<xs.length:=by omega
 obtain⟨y,hy1,hy2⟩:=q i hi' _ (am hi')
 obtain⟨d,hd1,rfl⟩:=bm.1 hy1
 have:=s.evalF hd1
 simp only[aq,hy2,be,am hi',aI,dY]
 exact⟨trivial,this⟩
theorem zk {xs:List Operand}{d:D}(hd:Am.evalFs t h xs=some [d]):∃x,xs=[x]∧Am.evalF t h x=some d:=by
 obtain⟨e,q⟩:=fX hd
 match xs,e with
 |[x],_=>
  obtain⟨y,h1,h2⟩:=q 0 (by simp) x rfl
  simp at h2
  exact⟨x,rfl,by rw[h1,h2]⟩
theorem kY {xs:List Operand}{d e:D}(hd:Am.evalFs t h xs=some [d,e]):∃x y,xs=[x,y]∧Am.evalF t h x=some d∧Am.evalF t h y=some e:=by
 obtain⟨el,q⟩:=fX hd
 match xs,el with
 |[x,y],_=>
  obtain⟨z1,h1,h2⟩:=q 0 (by simp) x rfl
  obtain⟨z2,h3,h4⟩:=q 1 (by simp) y rfl
  simp at h2 h4
  exact⟨x,y,rfl,by rw[h1,h2],by rw[h3,h4]⟩
theorem lX {bs:List Id}{b:Id}(hb:Live h b):Live (puts (frz h bs) h) b:=by
 unfold Live at *
 rw[du]
 split
 ·rfl
 ·exact hb
theorem tQ {bs:List Id}{b:Id}(hb:look h b=none):look (puts (frz h bs) h) b=none:=by
 rw[du]
 have:frzB h b=none:=by unfold frzB;rw[hb]
 rw[this]
 simpa using hb
set_option maxHeartbeats 1000000 in
theorem Sim.op (s:Sim P w0 S A N ρ t h a w){m:Bool}{o:Oper}{n:Nat}{d:D}{u:HL}(hd:dL P m o.op t h n=some (d,u))(hn:look h (n,0)=none):
  o.wp P a w (tE P w0 S A N ρ t h (puts u h) a o.dst d) (fun _ _ _=>False):=by
 obtain⟨dst,op,ty,pos,after,guard⟩:=o
 simp only at hd⊢
 have quiet:∀{v:Value} {d':D},(execOp a.eval ⟨dst,op,ty,pos,after,guard⟩).run P w= .ok (.value v) w→C ρ (Live h) (okOf A ρ h w) w d' v→d'=d→u=[]→Oper.wp P ⟨dst,op,ty,pos,after,guard⟩ a w (tE P w0 S A N ρ t h (puts u h) a dst d) (fun _ _ _=>False):=by
  rintro v d' hr hc rfl rfl
  exact gh hr ⟨v,ρ,rfl,Ext.refl _ _,s,hc⟩
 cases op<;>simp only[dL] at hd
 case move x=>
  obtain⟨d',h1,h2⟩:=bm.1 hd
  simp only[aZ] at h2
  exact quiet (by simp[execOp]) (s.eval h1) h2.1 h2.2.symm
 case assign x=>
  obtain⟨d',h1,h2⟩:=bm.1 hd
  simp only[aZ] at h2
  exact quiet (by simp[execOp]) (s.eval h1) h2.1 h2.2.symm
 case pick c x y=>
  split at hd
  ·rename_i hc
   obtain⟨d',h1,h2⟩:=bm.1 hd
   simp only[aZ] at h2
   exact quiet (by simp[execOp,(s.eval hc).bool_inv,asBool]) (s.eval h1) h2.1 h2.2.symm
  ·rename_i hc
   obtain⟨d',h1,h2⟩:=bm.1 hd
   simp only[aZ] at h2
   exact quiet (by simp[execOp,(s.eval hc).bool_inv,asBool]) (s.eval h1) h2.1 h2.2.symm
  ·cases hd
 case alloc T=>
  obtain⟨z,h1,h2⟩:=bm.1 hd
  simp only[aZ] at h2
  obtain⟨rfl,rfl⟩:=h2
  obtain⟨v,r1,r2,r3,_⟩:=iX h1 (okOf A ρ h w) w
  obtain⟨ρ',e0,e1,e2⟩:=s.newVar hn (T:=T) r3 (.pure r2)
  refine gh (v:=.pointer (some ⟨(ρ' (n,0)).blk,0,none⟩)) (w':=w.alloc (.cells v.cells T (0,0))) ?_ ⟨_,ρ',rfl,e0,e2,.ptr (n,0) 0 ?_⟩
  ·simp[execOp,Instr.alloc,r1,e1]
  ·show Live (put (n,0) _ h) (n,0)
   unfold Live;rw[af];simp
 case box T x=>
  obtain⟨z,h1,h2⟩:=bE.1 hd
  split at h2
  ·rename_i hw
   simp only[aw,aZ] at h2
   obtain⟨rfl,rfl⟩:=h2
   obtain⟨ρ',e0,e1,e2⟩:=s.newVar hn (T:=T) hw (s.eval h1)
   refine gh (v:=.pointer (some ⟨(ρ' (n,0)).blk,0,none⟩)) (w':=w.alloc (.cells (a.eval x).cells T (0,0))) ?_ ⟨_,ρ',rfl,e0,e2,.ptr (n,0) 0 ?_⟩
   ·simp[execOp,Instr.box,e1]
   ·show Live (put (n,0) _ h) (n,0)
    unfold Live;rw[af];simp
  ·cases h2
 case build T ps=>
  obtain⟨ds,h1,h2⟩:=bE.1 hd
  obtain⟨d',h3,h4⟩:=bm.1 h2
  simp only[aZ] at h4
  obtain⟨e,q⟩:=s.evalPs h1
  obtain⟨v,r1,r2⟩:=Co (P:=P) (vs:=ps.map fun x=>(x.1,a.eval x.2)) h3 (by simpa using e) (by simpa using q)
  exact quiet (by simp[execOp,r1]) r2 h4.1 h4.2.symm
 case buildSlice T len ps=>
  obtain⟨ds,h1,h2⟩:=bE.1 hd
  obtain⟨e,q⟩:=s.evalFPs h1
  obtain⟨v,w',ρ',r0,r1,r2,r3⟩:=s.buildSlice hn (vs:=ps.map fun x=>(x.1,a.eval x.2)) h2 (by simpa using e) (fun i hi=>by
   have hi':i<ds.length:=by simpa using hi
   have:=q i hi'
   have e1:(ds.map fun x=>(x.1,nzE x.2)).getD i (0,.undef)=((ds.getD i (0,.undef)).1,nzE (ds.getD i (0,.undef)).2):=by simp[aq,hi']
   rw[e1]
   exact⟨by simpa using this.1,by simpa using this.2.nzE⟩)
  exact gh (v:=v) (w':=w') (by simp[execOp,r1]) ⟨_,ρ',rfl,r0,r2,r3⟩
 case load T x=>
  obtain⟨z,h1,h2⟩:=bE.1 hd
  obtain⟨d',h3,h4⟩:=bm.1 h2
  simp only[aZ] at h4
  obtain⟨v,r1,r2⟩:=s.load h3 (s.evalF h1)
  exact quiet (by simp[execOp,r1]) r2 h4.1 h4.2.symm
 case store T x y=>
  obtain⟨z1,h1,h2⟩:=bE.1 hd
  obtain⟨z2,h3,h4⟩:=bE.1 h2
  obtain⟨u',h7,h8⟩:=bm.1 h4
  simp only[aZ] at h8
  obtain⟨rfl,rfl⟩:=h8
  obtain⟨w',r1,r2⟩:=s.store h7 (s.evalF h1) ((s.evalF h3).nzM _)
  exact G4 (by simp[execOp,r1]) ⟨_,ρ,rfl,Ext.refl _ _,r2,.any _⟩
 case nilCheck x=>
  obtain⟨z,h1,h2⟩:=bE.1 hd
  split at h2
  ·rename_i hp
   simp only[aw,aZ] at h2
   have hc:=s.eval h1
   obtain⟨ad,e⟩:=hc.isPtr_inv hp
   exact quiet (v:=a.eval x) (by simp[execOp,e]) hc h2.1 h2.2.symm
  ·cases h2
 case binOp op T x y yT=>
  obtain⟨z1,h1,h2⟩:=bE.1 hd
  obtain⟨z2,h3,h4⟩:=bE.1 h2
  have fin:∀{r:D} {v:Value},(do eqGuard op T x y (a.eval x) (a.eval y);binOp op T (a.eval x) (a.eval y):Sem Value).run P w= .ok v w→Rep (okOf A ρ h w) w r v→r=d→u=[]→_:=fun hr hv e1 e2=>
   quiet (by simp only[execOp];rw[Sem.run_bind,hr];simp) (.pure hv) e1 e2
  split at h4
  ·rename_i r hr
   simp only[aw,aZ] at h4
   obtain⟨v,r1,r2⟩:=Ha (P:=P) (T:=T) (x:=x) (y:=y) hr (s.evalF h1) (s.evalF h3)
   exact fin r1 r2 h4.1 h4.2.symm
  ·split at h4
   ·rename_i r hr
    simp only[aw,aZ] at h4
    obtain⟨v,r1,r2⟩:=Dt (P:=P) (T:=T) (x:=x) (y:=y) hr (s.evalF h1) (s.evalF h3)
    exact fin r1 r2 h4.1 h4.2.symm
   ·split at h4
    ·rename_i r hr
     simp only[aw,aZ] at h4
     obtain⟨v,r1,r2⟩:=yQ (P:=P) (T:=T) (x:=x) (y:=y) hr (s.evalF h1) (s.evalF h3)
     exact fin r1 r2 h4.1 h4.2.symm
    ·split at h4
     ·rename_i r hr
      simp only[aw,aZ] at h4
      obtain⟨v,r1,r2⟩:=Cr (P:=P) (T:=T) (x:=x) (y:=y) hr (s.evalF h1) (s.evalF h3)
      exact fin r1 r2 h4.1 h4.2.symm
     ·split at h4
      ·rename_i r hr
       simp only[aw,aZ] at h4
       obtain⟨v,r1,r2⟩:=Ct (P:=P) (T:=T) (x:=x) (y:=y) hr (s.evalF h1) (s.evalF h3)
       exact fin r1 r2 h4.1 h4.2.symm
      ·obtain⟨r,hr,h5⟩:=bm.1 h4
       simp only[aZ] at h5
       obtain⟨v,r1,r2⟩:=s.ptrEq (T:=T) (x:=x) (y:=y) hr (s.evalF h1) (s.evalF h3)
       exact fin r1 r2 h5.1 h5.2.symm
 case unOp op T x=>
  obtain⟨z,h1,h2⟩:=bE.1 hd
  obtain⟨d',h3,h4⟩:=bm.1 h2
  simp only[aZ] at h4
  obtain⟨v,r1,r2⟩:=Kb (P:=P) h3 (s.eval h1)
  exact quiet (by simp[execOp,r1]) (.pure r2) h4.1 h4.2.symm
 case convert src dst' x=>
  obtain⟨z,h1,h2⟩:=bE.1 hd
  obtain⟨d',h3,h4⟩:=bm.1 h2
  simp only[aZ] at h4
  obtain⟨v,r1,r2⟩:=s.conv h3 (s.evalF h1)
  exact quiet (by simp[execOp,r1]) r2 h4.1 h4.2.symm
 case makeInterface T x=>
  obtain⟨z,h1,h2⟩:=bE.1 hd
  split at h2
  ·rename_i hi
   simp only[aw,aZ] at h2
   obtain⟨td,hu,hne⟩:=AB hi
   exact quiet (v:=.iface T (a.eval x)) (by cases td<;>simp[execOp,Instr.makeInterface,run_underlying hu]<;>exact absurd rfl (hne _)) (.ifc _ _ _ (s.eval h1)) h2.1 h2.2.symm
  ·cases h2
 case makeFunc fn first captured=>
  cases fn<;>simp only[reduceCtorEq] at hd
  rename_i f
  split at hd
  ·rename_i hz
   obtain⟨ds,h1,h2⟩:=bm.1 hd
   simp only[aZ] at h2
   obtain⟨e,q⟩:=s.evalDs h1
   have hfe:first= #[]:=Array.eq_empty_of_size_eq_zero hz
   subst hfe
   refine quiet (v:=.func (.func f) #[] (captured.map a.eval)) (by simp[execOp,Instr.makeFunc]) (.clo f ds _ (by simpa using e) fun i hi=>?_) h2.1 h2.2.symm
   have:=q i hi
   rw[cO]
   simpa using this
  ·cases hd
 case typeAssert x xT T ok=>
  obtain⟨z,h1,h2⟩:=bE.1 hd
  obtain⟨d',h3,h4⟩:=bm.1 h2
  simp only[aZ] at h4
  obtain⟨v,r1,r2⟩:=yP (P:=P) (xT:=xT) h3 (s.eval h1)
  exact quiet (by simp[execOp,r1]) r2 h4.1 h4.2.symm
 case makeSlice T l c=>
  obtain⟨z1,h1,h2⟩:=bE.1 hd
  obtain⟨z2,h3,h4⟩:=bE.1 h2
  obtain⟨v,w',ρ',r0,r1,r2,r3⟩:=s.make hn h4 (s.eval h1) (s.eval h3)
  exact gh (v:=v) (w':=w') (by simp[execOp,r1]) ⟨_,ρ',rfl,r0,r2,r3⟩
 case slice T x lo hi mx=>
  cases mx with
  |some m=>cases hd
  |none=>
   obtain⟨z,h1,h2⟩:=bE.1 hd
   obtain⟨l,h3,h4⟩:=bE.1 h2
   obtain⟨r,h5,h6⟩:=bE.1 h4
   have bo:∀{m:Option Operand} {r:Option D},kj t m=some r→(r=none∧m.map a.eval=none)∨∃d' v',r=some d'∧m.map a.eval=some v'∧C ρ (Live h) (okOf A ρ h w) w d' v':=by
    intro m r hm
    cases m with
    |none=>simp only[kj,aw] at hm;exact .inl ⟨hm.symm,rfl⟩
    |some x=>
     obtain⟨d',q1,q2⟩:=bm.1 hm
     exact .inr ⟨d',_,q2.symm,rfl,s.eval q1⟩
   obtain⟨v,ρ',r0,r1,r2,r3⟩:=s.cut h6 (fun _=>hn) (s.evalF h1) (bo h3) (bo h5)
   exact gh (v:=v) (w':=w) (by simp[execOp,r1]) ⟨_,ρ',rfl,r0,r2,r3⟩
 case fieldAddr T x f=>
  obtain⟨z,h1,h2⟩:=bE.1 hd
  obtain⟨d',h3,h4⟩:=bm.1 h2
  simp only[aZ] at h4
  obtain⟨v,r1,r2⟩:=Cp (P:=P) h3 (s.eval h1)
  exact quiet (by simp[execOp,r1]) r2 h4.1 h4.2.symm
 case field T x f=>
  obtain⟨z,h1,h2⟩:=bE.1 hd
  obtain⟨d',h3,h4⟩:=bm.1 h2
  simp only[aZ] at h4
  obtain⟨v,r1,r2⟩:=Du (P:=P) h3 (s.eval h1)
  exact quiet (by simp[execOp,r1]) r2 h4.1 h4.2.symm
 case indexAddr T x i=>
  obtain⟨z1,h1,h2⟩:=bE.1 hd
  obtain⟨z2,h3,h4⟩:=bE.1 h2
  obtain⟨d',h5,h6⟩:=bm.1 h4
  simp only[aZ] at h6
  obtain⟨v,r1,r2⟩:=s.indexAddr h5 (s.evalF h1) (s.eval h3)
  exact quiet (by simp[execOp,r1]) r2 h6.1 h6.2.symm
 case index T x i=>
  obtain⟨z1,h1,h2⟩:=bE.1 hd
  obtain⟨z2,h3,h4⟩:=bE.1 h2
  obtain⟨d',h5,h6⟩:=bm.1 h4
  simp only[aZ] at h6
  obtain⟨v,r1,r2⟩:=Cs (P:=P) h5 (s.eval h1) (s.eval h3)
  exact quiet (by simp[execOp,r1]) r2 h6.1 h6.2.symm
 case extract x i=>
  obtain⟨z,h1,h2⟩:=bE.1 hd
  obtain⟨d',h3,h4⟩:=bm.1 h2
  simp only[aZ] at h4
  obtain⟨v,r1,r2⟩:=wE (P:=P) h3 (s.eval h1)
  exact quiet (by simp[execOp,r1]) r2 h4.1 h4.2.symm
 case call c=>
  obtain⟨callee,args,argTypes⟩:=c
  cases callee with
  |value f=>cases hd
  |invoke r nm=>cases hd
  |builtin b=>
   simp only at hd
   obtain⟨ds,hds,hd2⟩:=bE.1 hd
   clear hd
   have hd:=hd2
   clear hd2
   unfold ew at hd
   split at hd
   ·rename_i d1 T hta
    obtain⟨x,hca,h1⟩:=zk hds
    have ea:args= #[x]:=Array.ext' (by simpa using hca)
    have et:argTypes= #[T]:=Array.ext' (by simpa using hta)
    subst ea et
    obtain⟨d',h3,h4⟩:=bm.1 hd
    simp only[aZ] at h4
    obtain⟨v,r1,r2⟩:=s.len (ty:=ty) h3 (s.evalF h1)
    refine quiet (v:=v) ?_ r2 h4.1 h4.2.symm
    simp only[execOp,resolve,invoke,builtin,Sem.run_bind,Sem.run_pure,Result.andThen_ok,List.map_toArray,bK,eq,r1]
   ·rename_i z1 z2 T T' hta
    obtain⟨x,y,hca,h1,h3⟩:=kY hds
    have ea:args= #[x,y]:=Array.ext' (by simpa using hca)
    have et:argTypes= #[T,T']:=Array.ext' (by simpa using hta)
    subst ea et
    split at hd
    ·rename_i hT
     subst hT
     obtain⟨v,w',ρ',r0,r1,r2,r3⟩:=s.append (ty:=ty) hd (fun _=>hn) (s.evalF h1) (s.evalF h3)
     refine gh (v:=v) (w':=w') ?_ ⟨_,ρ',rfl,r0,r2,r3⟩
     simp only[execOp,resolve,invoke,builtin,Sem.run_bind,Sem.run_pure,Result.andThen_ok,List.map_toArray,bK,eq,r1]
    ·obtain⟨v,w',ρ',r0,r1,r2,r3⟩:=s.appendZ (ty:=ty) hd hn (s.evalF h1) (s.evalF h3)
     refine gh (v:=v) (w':=w') ?_ ⟨_,ρ',rfl,r0,r2,r3⟩
     simp only[execOp,resolve,invoke,builtin,Sem.run_bind,Sem.run_pure,Result.andThen_ok,List.map_toArray,bK,eq,r1]
   ·rename_i z1 z2 T T' hta
    obtain⟨x,y,hca,h1,h3⟩:=kY hds
    have ea:args= #[x,y]:=Array.ext' (by simpa using hca)
    have et:argTypes= #[T,T']:=Array.ext' (by simpa using hta)
    subst ea et
    obtain⟨v,w',r1,r2,r3⟩:=s.copy (ty:=ty) (T':=T') hd (s.evalF h1) (s.evalF h3)
    refine gh (v:=v) (w':=w') ?_ ⟨_,ρ,rfl,?_,r2,r3⟩
    ·simp only[execOp,resolve,invoke,builtin,Sem.run_bind,Sem.run_pure,Result.andThen_ok,List.map_toArray,bK,eq,r1]
    ·exact Ext.refl _ _
   ·rename_i k p k' q
    obtain⟨x,y,hca,h1,h3⟩:=kY hds
    have ea:args= #[x,y]:=Array.ext' (by simpa using hca)
    subst ea
    split at hd
    ·rename_i hk
     subst hk
     simp only[aw,aZ] at hd
     refine quiet (v:=.int k (if q<p then q else p)) ?_ (.int _ _) hd.1 hd.2.symm
     simp[execOp,resolve,invoke,builtin,Builtin.min_,Builtin.min2,(s.evalF h1).int_inv,(s.evalF h3).int_inv]
    ·cases hd
   ·rename_i k p k' q
    obtain⟨x,y,hca,h1,h3⟩:=kY hds
    have ea:args= #[x,y]:=Array.ext' (by simpa using hca)
    subst ea
    split at hd
    ·rename_i hk
     subst hk
     simp only[aw,aZ] at hd
     refine quiet (v:=.int k (if p<q then q else p)) ?_ (.int _ _) hd.1 hd.2.symm
     simp[execOp,resolve,invoke,builtin,Builtin.max_,Builtin.max2,(s.evalF h1).int_inv,(s.evalF h3).int_inv]
    ·cases hd
   ·cases hd
 all_goals cases hd
end Go.Proofs.YtpefhoohfkeflacGreatDoor.Am
namespace Go.Proofs.YtpefhoohfkeflacGreatDoor.Reg
open Go
structure Eff (R:World→World→Prop) where
 ι:Type
 dflt:ι
 val:ι→Value
 post:Value→ι→World→Prop
 keep:∀c i w w',R w w'→post c i w→post c i w'
abbrev JC:=List (Nat×(World→Prop))
def LG:Exit→Act→World→Prop:=fun _ _ _=>False
def FZ (w:World)(v:Value):Result Next→Prop
 | .ok (.value u) w'=>w'=w∧u=v
 | .ok .skip w'=>w'=w∧undef=v
 |_=>False
attribute [go_sem] FZ
section
variable (P:Program) (ops:Array Oper) (B:World→Prop) (R:World→World→Prop) (dep:Nat→List Nat) (E:Nat→Option (Eff R))
def OM (kn:JC)(k:Nat)(w:World):Prop:=B w∧∀x∈kn,(dep k).contains x.1=true→x.2 w
end
section
variable {P:Program} {ops:Array Oper} {B:World→Prop} {R:World→World→Prop} {dep:Nat→List Nat} {E:Nat→Option (Eff R)}
def okB (ops:Array Oper)(dep:Nat→List Nat):Bool:=
 Region.noSelect ops &&
 (List.range ops.size).all fun k=>match ops[k]? with
  |none=>true
  |some o=>
   (o.after.toList.all fun e=>!Region.binds .any e||decide (e.on<k)) &&
   ((dep k).all fun j=>o.after.toList.any fun e=>Region.binds .any e && (e.on==j||(dep e.on).contains j)) &&
   (List.range k).all fun j=>match ops[j]? with
    |none=>true
    |some oj=>(o.after.toList.any fun e=>Region.binds .any e && e.on==j)||oj.apart ops o
theorem okB_back {k:Nat}{o:Oper}(h:okB ops dep=true)(hk:ops[k]?=some o):∀e∈o.after,Region.binds .any e=true→e.on<k:=by
 intro e he hb
 simp only[okB,Bool.and_eq_true,List.all_eq_true] at h
 have h1:=h.2 k (by simpa using(Array.getElem?_eq_some_iff.1 hk).1)
 simp only[hk,Bool.and_eq_true,List.all_eq_true] at h1
 have h2:=h1.1.1 e (Array.mem_toList_iff.2 he)
 simpa[hb] using h2
theorem okB_dep {k j:Nat}{o:Oper}(h:okB ops dep=true)(hk:ops[k]?=some o)(hj:(dep k).contains j=true):∃e∈o.after,Region.binds .any e=true∧(e.on=j∨j∈dep e.on):=by
 simp only[okB,Bool.and_eq_true,List.all_eq_true] at h
 have h1:=h.2 k (by simpa using(Array.getElem?_eq_some_iff.1 hk).1)
 simp only[hk,Bool.and_eq_true,List.all_eq_true] at h1
 have h2:=h1.1.2 j (by simpa using hj)
 obtain⟨e,he,hb⟩:=List.any_eq_true.1 h2
 simp only[Bool.and_eq_true,Bool.or_eq_true,beq_iff_eq,List.contains_iff_mem] at hb
 exact⟨e,Array.mem_toList_iff.1 he,hb.1,hb.2⟩
theorem okB_apart {k j:Nat}{o oj:Oper}(h:okB ops dep=true)(hk:ops[k]?=some o)(hj:ops[j]?=some oj)(hlt:j<k):(∃e∈o.after,Region.binds .any e=true∧e.on=j)∨oj.apart ops o=true:=by
 simp only[okB,Bool.and_eq_true,List.all_eq_true] at h
 have h1:=h.2 k (by simpa using(Array.getElem?_eq_some_iff.1 hk).1)
 simp only[hk,Bool.and_eq_true,List.all_eq_true] at h1
 have h2:=h1.2 j (by simpa using hlt)
 simp only[hj,Bool.or_eq_true] at h2
 rcases h2 with h2|h2
 ·obtain⟨e,he,hb⟩:=List.any_eq_true.1 h2
  simp only[Bool.and_eq_true,beq_iff_eq] at hb
  exact .inl ⟨e,Array.mem_toList_iff.1 he,hb.1,hb.2⟩
 ·exact .inr h2
theorem wp_exit_mono {o:Oper}{a:Act}{w:World}{K K':Act→World→Prop}{Q':Exit→Act→World→Prop}(h:∀a w,K a w→K' a w)(hh:o.wp P a w K LG):o.wp P a w K' Q':=by
 unfold Oper.wp at *
 generalize (execOp a.eval o).run P w=r at *
 cases r with
 |ok n w'=>
  cases n<;>simp only[Oper.upon] at hh⊢<;>
   first
    |exact h _ _ hh
    |exact Calls.mono hh (fun e w'' he=>by cases e<;>first|exact h _ _ he|exact(he:False).elim|exact(he.elim fun _ hx=>hx.elim fun _ hy=>(hy:False).elim))
    |exact Rows.mono hh (fun _ _ he=>h _ _ he)
 |halt x w'=>cases x<;>simp only[Oper.upon] at hh⊢<;>exact(hh:False).elim
section
variable {Q:Act→World→Prop} {o:Oper} {rest:List Oper} {k:Nat} {tm:Array Value} {ds:List Deferred} {kn:JC} {gs:List (Option (Tmp×Bool))} {Es:List (Option (Eff R))}
def putT (tm:Array Value)(d:Option Tmp)(v:Value):Array Value:=match d with|some d=>tm.setIfInBounds d v|none=>tm
end
def Low (w w':World):Prop:=RowKit.Below w.heap.size w w'
theorem Low.out {w w':World}(h:Low w w'):RowKit.Below w.heap.size w w':=h
theorem Low.step {w w1 w2:World}(h:Low w w1)(k:RowKit.Below w1.heap.size w1 w2):Low w w2:=RowKit.Below.trans h (k.mono (RowKit.Below.size h))
theorem Low.refl (w:World):Low w w:=RowKit.Below.refl _ _
end
end Go.Proofs.YtpefhoohfkeflacGreatDoor.Reg
namespace Go.Proofs.YtpefhoohfkeflacGreatDoor.Am
open Go Go.RowKit
variable {P:Program} {w0:World} {S:SD} {A:Nat→Prop} {N:Nat} {ρ:Id→Pl} {t:List (Nat×D)} {h h':HL} {a:Act} {w:World}
theorem ql {T:TypeId}{d:D}(ha:Agree (mQ (al d)) h h'):dy P h T d=dy P h' T d:=by
 cases d<;>try rfl
 case ptr b o=>simp only[dy,ha b (cz (by simp[al]))]
 case eptr b i o=>simp only[dy,ha b (cz (by simp[al]))]
theorem uR {T:TypeId}{d e:D}(ha:Agree (mQ (al d)) h h'):gz P h T d e=gz P h' T d e:=by
 cases d<;>try rfl
 case ptr b o=>simp only[gz,ha b (cz (by simp[al]))]
 case eptr b i o=>simp only[gz,ha b (cz (by simp[al]))]
theorem pi {T:TypeId}{d e:D}(ha:Agree (mQ (al d)) h h'):bN P h T d e=bN P h' T d e:=by
 unfold bN
 rw[fD ha]
 cases d<;>try rfl
 case ref b=>simp only[ha b (cz (by simp[al]))]
theorem yR {T:TypeId}{d:D}(ha:Agree (mQ (al d)) h h'):uO P h T d=uO P h' T d:=by
 unfold uO;rw[fD ha]
theorem wC {s T:TypeId}{d:D}(ha:Agree (mQ (al d)) h h'):nj P h s T d=nj P h' s T d:=by
 unfold nj;rw[fD ha]
theorem tG {n:Id}{T:TypeId}{d e:D}(ha:Agree (mQ (al d)) h h')(he:Agree (mQ (al e)) h h'):jz P h n T d e=jz P h' n T d e:=by
 unfold jz
 rw[fD he]
 cases d<;>try rfl
 case ref b=>simp only[ha b (cz (by simp[al]))]
theorem rN {n:Id}{T T':TypeId}{d e:D}(ha:Agree (mQ (al d)) h h'):ia P h n T T' d e=ia P h' n T T' d e:=by
 unfold ia
 cases d<;>try rfl
 case ref b=>
  have hb:look h b=look h' b:=ha b (cz (by simp[al]))
  cases e<;>try rfl
  simp only[hb]
theorem wD {T:TypeId}{d e:D}(ha:Agree (mQ (al d)) h h')(he:Agree (mQ (al e)) h h'):qk P h T d e=qk P h' T d e:=by
 unfold qk
 rw[fD he]
 cases P.underlying T with
 |none=>rfl
 |some ty=>
  cases ty<;>try rfl
  cases d<;>try rfl
  rename_i b o n
  have hb:look h b=look h' b:=ha b (cz (by simp[al]))
  dsimp only
  rw[hb]
theorem uQ {q:Bool}{n:Id}{T:TypeId}{d:D}{l r:Option D}(ha:Agree (mQ (al d)) h h'):fN P h q n T d l r=fN P h' q n T d l r:=by
 unfold fN
 rw[fD ha]
 cases d<;>try rfl
 case ref b=>simp only[ha b (cz (by simp[al]))]
 case ptr b o=>
  have e:look h b=look h' b:=ha b (cz (by simp[al]))
  cases P.underlying T with
  |none=>rfl
  |some ty=>
   cases ty<;>try rfl
   dsimp only
   rw[e]
theorem bi {α β:Type}{o:Option α}{f g:α→Option β}(h:∀x,o=some x→f x=g x):o.bind f=o.bind g:=by
 cases o with
 |none=>rfl
 |some x=>exact h x rfl
theorem vf {t':List (Nat×D)}{xs:List Operand}(ht:∀x∈xs,aX t x=aX t' x):evalDs t xs=evalDs t' xs:=bV ht
theorem vh {t':List (Nat×D)}{xs:List (Nat×Operand)}(ht:∀x∈xs,aX t x.2=aX t' x.2):evalPs t xs=evalPs t' xs:=bV fun x hx=>by rw[ht x hx]
theorem qr {t':List (Nat×D)}{x:Option Operand}(ht:∀y∈x,aX t y=aX t' y):kj t x=kj t' x:=by
 cases x with
 |none=>rfl
 |some x=>simp only[kj,ht x rfl]
def oU (t:List (Nat×D))(h:HL)(x:Operand):List Nat:=match aX t x with|some d=>mQ (al d)++mQ (al (fwd h d))|none=>[]
def uF (t:List (Nat×D))(h:HL)(xs:List Operand):List Nat:=xs.flatMap (oU t h)
theorem eB {x:Operand}{fs:List Nat}(hs:∀k∈oU t h x,k∈fs)(ha:Agree fs h h'):evalF t h x=evalF t h' x∧∀d,evalF t h x=some d→Agree (mQ (al d)) h h':=by
 unfold oU at hs
 unfold evalF
 cases hd:aX t x with
 |none=>exact⟨rfl,fun d h=>by cases h⟩
 |some d=>
  rw[hd] at hs
  simp only[aI,aw]
  refine⟨CI fun b hb=>ha b (hs _ (eh _ hb)),?_⟩
  rintro _ rfl
  exact fun b hb=>ha b (hs _ (eK _ hb))
theorem vg {xs:List Operand}{fs:List Nat}(hs:∀x∈xs,∀k∈oU t h x,k∈fs)(ha:Agree fs h h'):evalFs t h xs=evalFs t h' xs∧∀ds,evalFs t h xs=some ds→∀d∈ds,Agree (mQ (al d)) h h':=by
 refine⟨bV fun x hx=>(eB (hs x hx) ha).1,fun ds hd d hm=>?_⟩
 obtain⟨e,q⟩:=fX hd
 obtain⟨i,hi,rfl⟩:=qg hm
 have hi':i<xs.length:=by omega
 obtain⟨y,h1,h2⟩:=q i hi' _ (am hi')
 rw[am hi] at h2
 obtain rfl:=ar h2
 exact(eB (hs _ (bd hi')) ha).2 _ h1
theorem tL {xs:List (Nat×Operand)}{fs:List Nat}(hs:∀x∈xs,∀k∈oU t h x.2,k∈fs)(ha:Agree fs h h'):evalFPs t h xs=evalFPs t h' xs∧∀ds,evalFPs t h xs=some ds→∀d∈ds,Agree (mQ (al d.2)) h h':=by
 refine⟨bV fun x hx=>by rw[(eB (hs x hx) ha).1],fun ds hd d hm=>?_⟩
 obtain⟨e,q⟩:=fX hd
 obtain⟨i,hi,rfl⟩:=qg hm
 have hi':i<xs.length:=by omega
 obtain⟨y,h1,h2⟩:=q i hi' _ (am hi')
 rw[am hi] at h2
 obtain rfl:=ar h2
 obtain⟨d,hd,he⟩:=bm.1 h1
 rw[←he]
 exact(eB (hs _ (bd hi')) ha).2 _ hd
set_option maxHeartbeats 1000000 in
theorem JF {t':List (Nat×D)}{m:Bool}{op:Op}{n:Nat}(ht:∀x∈op.operands,aX t x=aX t' x):dL P m op t h n=dL P m op t' h n:=by
 have hf:∀x∈op.operands,evalF t h x=evalF t' h x:=fun x hx=>by unfold evalF;rw[ht x hx]
 cases op<;>simp only[Op.operands] at ht hf<;>try rfl
 case move x=>simp only[dL,ht x (by simp)]
 case assign x=>simp only[dL,ht x (by simp)]
 case pick c x y=>simp only[dL,ht c (by simp),ht x (by simp),ht y (by simp)]
 case box T x=>simp only[dL,ht x (by simp)]
 case build T ps=>simp only[dL];rw[vh fun x hx=>ht x.2 (by simp;exact⟨x.1,by simpa using hx⟩)]
 case buildSlice T len ps=>
  have e:evalFPs t h ps.toList=evalFPs t' h ps.toList:=bV fun x hx=>by rw[hf x.2 (by simp;exact⟨x.1,by simpa using hx⟩)]
  simp only[dL,e]
 case load T x=>simp only[dL,hf x (by simp)]
 case store T x y=>simp only[dL,hf x (by simp),hf y (by simp)]
 case nilCheck x=>simp only[dL,ht x (by simp)]
 case binOp o T x y yT=>simp only[dL,hf x (by simp),hf y (by simp)]
 case unOp o T x=>simp only[dL,ht x (by simp)]
 case convert s T x=>simp only[dL,hf x (by simp)]
 case makeInterface T x=>simp only[dL,ht x (by simp)]
 case makeFunc fn first captured=>
  cases fn<;>try rfl
  simp only[dL]
  split
  ·rw[vf fun x hx=>ht x (by simp;exact .inr (by simpa using hx))]
  ·rfl
 case typeAssert x T T' ok=>simp only[dL,ht x (by simp)]
 case makeSlice T x y=>simp only[dL,ht x (by simp),ht y (by simp)]
 case slice T x lo hi mx=>
  cases mx with
  |some m=>rfl
  |none=>
   have e1:kj t lo=kj t' lo:=qr fun y hy=>ht y (by simp only[Option.mem_def] at hy;subst hy;simp)
   have e2:kj t hi=kj t' hi:=qr fun y hy=>ht y (by simp only[Option.mem_def] at hy;subst hy;simp)
   simp only[dL,hf x (by simp),e1,e2]
 case fieldAddr T x f=>simp only[dL,ht x (by simp)]
 case field T x f=>simp only[dL,ht x (by simp)]
 case indexAddr T x y=>simp only[dL,hf x (by simp),ht y (by simp)]
 case index T x y=>simp only[dL,ht x (by simp),ht y (by simp)]
 case extract x i=>simp only[dL,ht x (by simp)]
 case call c=>
  obtain⟨callee,args,argTypes⟩:=c
  cases callee with
  |builtin b=>
   have e:evalFs t h args.toList=evalFs t' h args.toList:=bV fun x hx=>hf x (by simp only[Call.operands,Array.mem_append];exact .inr (ly.1 hx))
   simp only[dL,e]
  |value f=>rfl
  |invoke r m=>rfl
theorem uP {o:BinOp}{T:TypeId}{d e:D}(h1:Agree (mQ (al d)) h h')(h2:Agree (mQ (al e)) h h'):kS P o T h d e=kS P o T h' d e:=by
 unfold kS
 split
 ·split
  ·rename_i n b o b' o' hn
   rw[h1 b (cz (by simp[al])),h2 b' (cz (by simp[al]))]
  ·rfl
 ·rfl
def lZ:Op→Bool
 | .load .. | .store .. | .buildSlice .. | .convert .. | .slice .. | .indexAddr .. | .binOp .. | .call ..=>true
 |_=>false
def Ae (t:List (Nat×D))(h:HL)(op:Op):List Nat:=bif lZ op then uF t h op.operands.toList else[]
set_option maxHeartbeats 1000000 in
theorem JE {m:Bool}{op:Op}{n:Nat}{fs:List Nat}(hs:∀k∈Ae t h op,k∈fs)(ha:Agree fs h h'):dL P m op t h n=dL P m op t h' n:=by
 have hx:lZ op=true→∀x∈op.operands,evalF t h x=evalF t h' x∧∀d,evalF t h x=some d→Agree (mQ (al d)) h h':=by
  intro hl x hx
  refine eB (fs:=fs) (fun k hk=>hs k ?_) ha
  unfold Ae
  rw[hl]
  exact dZ.2 ⟨x,ly.2 hx,hk⟩
 have sub:lZ op=true→∀x∈op.operands,∀k∈oU t h x,k∈fs:=by
  intro hl x hx k hk
  refine hs k ?_
  unfold Ae
  rw[hl]
  exact dZ.2 ⟨x,ly.2 hx,hk⟩
 have lk1:∀{d:D},Agree (mQ (al d)) h h'→∀b∈KX d,look h b=look h' b:=fun hd b hb=>hd b (cz (EY _ b hb))
 cases op<;>try rfl
 case makeFunc fn first captured=>cases fn<;>rfl
 case buildSlice T len ps=>
  simp only[dL]
  obtain⟨e1,e2⟩:=tL (h':=h') (xs:=ps.toList) (fs:=fs) (fun x hx=>sub rfl x.2 (by simp[Op.operands];exact⟨x.1,by simpa using hx⟩)) ha
  rw[←e1]
 case load T x=>
  simp only[dL]
  obtain⟨e1,e2⟩:=hx rfl x (by simp[Op.operands])
  rw[←e1]
  refine bi fun d hd=>?_
  rw[ql (e2 d hd)]
 case store T x y=>
  simp only[dL]
  obtain⟨e1,e2⟩:=hx rfl x (by simp[Op.operands])
  obtain⟨e3,e4⟩:=hx rfl y (by simp[Op.operands])
  rw[←e1,←e3]
  refine bi fun d hd=>?_
  refine bi fun e he=>?_
  rw[uR (e2 d hd)]
 case binOp o T x y yT=>
  simp only[dL]
  obtain⟨e1,e2⟩:=hx rfl x (by simp[Op.operands])
  obtain⟨e3,e4⟩:=hx rfl y (by simp[Op.operands])
  rw[←e1,←e3]
  refine bi fun d hd=>?_
  refine bi fun e he=>?_
  rw[uP (e2 d hd) (e4 e he)]
 case convert s T x=>
  simp only[dL]
  obtain⟨e1,e2⟩:=hx rfl x (by simp[Op.operands])
  rw[←e1]
  refine bi fun d hd=>?_
  rw[wC (e2 d hd)]
 case slice T x lo hi mx=>
  cases mx with
  |some m=>rfl
  |none=>
   simp only[dL]
   obtain⟨e1,e2⟩:=hx rfl x (by simp[Op.operands])
   rw[←e1]
   refine bi fun d hd=>?_
   refine bi fun l _=>?_
   refine bi fun r _=>?_
   rw[uQ (e2 d hd)]
 case indexAddr T x y=>
  simp only[dL]
  obtain⟨e1,e2⟩:=hx rfl x (by simp[Op.operands])
  rw[←e1]
  refine bi fun d hd=>?_
  refine bi fun e he=>?_
  rw[pi (e2 d hd)]
 case call c=>
  obtain⟨callee,args,argTypes⟩:=c
  cases callee with
  |builtin b=>
   simp only[dL]
   obtain⟨e1,e2⟩:=vg (h':=h') (xs:=args.toList) (fs:=fs) (fun x hx=>sub rfl x (by simp only[Op.operands,Call.operands,Array.mem_append];exact .inr (ly.1 hx))) ha
   rw[←e1]
   refine bi fun ds hds=>?_
   have e3:=e2 ds hds
   unfold ew
   split
   ·rw[yR (e3 _ (by simp))]
   ·rw[tG (e3 _ (by simp)) (e3 _ (by simp)),rN (e3 _ (by simp))]
   ·rw[wD (e3 _ (by simp)) (e3 _ (by simp))]
   ·rfl
   ·rfl
   ·rfl
  |value f=>rfl
  |invoke r m=>rfl
def OpS (P:Program)(N:Nat)(o:Oper)(t:List (Nat×D))(h:HL)(d:D)(u:HL)(f:List Nat):Prop:=
 ∀t' h',(∀x∈o.op.operands,aX t x=aX t' x)→Agree f h h'→∀w0 S A ρ a w,Sim P w0 S A N ρ t' h' a w→o.wp P a w (tE P w0 S A N ρ t' h' (puts u h') a o.dst d) (fun _ _ _=>False)
theorem IC {m:Bool}{o:Oper}{n:Nat}{d:D}{u:HL}{f:List Nat}(hn:look h (n,0)=none)(hd:dL P m o.op t h n=some (d,u))(hf:∀k∈Ae t h o.op,k∈f)(hnf:n∈f):OpS P N o t h d u f:=by
 intro t' h' ht ha w0 S A ρ a w s
 refine s.op (m:=m) (n:=n) ?_ (by rw[←ha (n,0) hnf];exact hn)
 rw[←JE (t:=t') (h:=h) (fs:=f) ?_ ha,←JF ht]
 ·exact hd
 ·have:Ae t' h o.op=Ae t h o.op:=by
   unfold Ae
   cases hl:lZ o.op with
   |false=>rfl
   |true=>
    simp only[cond_true,uF]
    have hx:∀x∈o.op.operands.toList,oU t' h x=oU t h x:=fun x hx=>by unfold oU;rw[ht x (ly.1 hx)]
    generalize o.op.operands.toList=l at hx
    induction l with
    |nil=>rfl
    |cons x l ih=>rw[gt,gt,hx x (bk ..),ih fun y hy=>hx y (bA _ hy)]
  rw[this]
  exact hf
theorem BN {o:Oper}{bs:List Id}{d:D}{u1:HL}{f:List Nat}(hf:∀k∈mQ bs,k∈f)(hd:OpS P N o t (puts (frz h bs) h) d u1 f):OpS P N o t h d (frz h bs++u1) f:=by
 intro t' h' ht ha w0 S A ρ a w s
 have e:frz h bs=frz h' bs:=ui fun b hb=>ha b (hf _ (cz hb))
 rw[bD,e]
 have hag:Agree f (puts (frz h bs) h) (puts (frz h' bs) h'):=by rw[←e];exact ha.puts _
 refine Reg.wp_exit_mono (K:=tE P w0 S A N ρ t' (puts (frz h' bs) h') (puts u1 (puts (frz h' bs) h')) a o.dst d) ?_ (hd t' (puts (frz h' bs) h') ht hag w0 S A ρ a w (s.frz_ok bs).1)
 rintro a' w' ⟨v,ρ2,rfl,g1,g2,g3⟩
 exact⟨v,ρ2,rfl,fun b hb=>g1 b (lX hb),g2,g3⟩
theorem C0 {o:Oper}{ms:List (Id×Id)}{d:D}{u0 u1:HL}{f:List Nat}(hm:jm h ms=some u0)(hf:∀k∈mQ (ms.flatMap fun m=>[m.1,m.2]),k∈f)(hd:OpS P N o t (puts u0 h) d u1 f):OpS P N o t h d (u0++u1) f:=by
 intro t' h' ht ha w0 S A ρ a w s
 have hm':jm h' ms=some u0:=by rw[←oD ms (ha.sub hf)];exact hm
 obtain⟨ρ',e1,e2,s1⟩:=s.moves ms u0 hm'
 rw[bD]
 refine Reg.wp_exit_mono (K:=tE P w0 S A N ρ' t' (puts u0 h') (puts u1 (puts u0 h')) a o.dst d) ?_ (hd t' (puts u0 h') ht (ha.puts u0) w0 S A ρ' a w s1)
 rintro a' w' ⟨v,ρ2,rfl,g1,g2,g3⟩
 exact⟨v,ρ2,rfl,fun b hb=>(g1 b (e2 b hb)).trans (e1 b hb),g2,g3⟩
theorem gK:∀(k:Nat) {d:D},(∀b∈idsD h k d,look h b=look h' b)→purD h k d=purD h' k d∧idsD h k d=idsD h' k d
 |0,d,_=>⟨rfl,rfl⟩
 |k+1,d,hb=>by
  cases d<;>try exact⟨rfl,rfl⟩
  case ref b=>
   have hb0:=hb b (by unfold idsD;exact bk ..)
   unfold purD idsD
   simp only[←hb0]
   cases hl:look h b with
   |none=>exact⟨rfl,rfl⟩
   |some x=>
    cases x<;>try exact⟨rfl,rfl⟩
    rename_i E l
    have hb1:∀e∈l,∀d∈e.cells,∀b∈idsD h k d,look h b=look h' b:=fun e he d hd b' hb'=>hb b' (by
     unfold idsD
     simp only[hl]
     exact bA _ (dZ.2 ⟨e,he,dZ.2 ⟨d,hd,hb'⟩⟩))
    constructor
    ·simp only
     rw[bV fun e he=>?_]
     unfold purE
     split
     ·rename_i cs
      have:=bV (l:=cs) (f:=purD h k) (g:=purD h' k) fun d hd=>(gK k (hb1 _ he d hd)).1
      rw[this]
     ·rename_i hna
      refine(gK k (hb1 _ he _ ?_)).1
      rw[dh fun cs hcs=>hna cs hcs]
      exact aY.2 rfl
    ·simp only
     congr 1
     have fc:∀{α:Type} {l:List α} {f g:α→List Id},(∀x∈l,f x=g x)→l.flatMap f=l.flatMap g:=by
      intro α l f g hfg
      induction l with
      |nil=>rfl
      |cons x l ih=>rw[gt,gt,hfg x (bk ..),ih fun y hy=>hfg y (bA _ hy)]
     exact fc fun e he=>fc fun d hd=>(gK k (hb1 e he d hd)).2
  case ptr b o=>
   cases o with
   |succ o=>exact⟨rfl,rfl⟩
   |zero=>
    have hb0:=hb b (by unfold idsD;exact bk ..)
    unfold purD idsD
    simp only[←hb0]
    cases hl:look h b with
    |none=>exact⟨rfl,rfl⟩
    |some x=>
     cases x<;>try exact⟨rfl,rfl⟩
     rename_i T cs
     have hb1:∀d∈cs,∀b∈idsD h k d,look h b=look h' b:=fun d hd b' hb'=>hb b' (by
      unfold idsD
      simp only[hl]
      exact bA _ (dZ.2 ⟨d,hd,hb'⟩))
     constructor
     ·simp only
      rw[bV fun d hd=>(gK k (hb1 d hd)).1]
     ·simp only
      congr 1
      have fc:∀{α:Type} {l:List α} {f g:α→List Id},(∀x∈l,f x=g x)→l.flatMap f=l.flatMap g:=by
       intro α l f g hfg
       induction l with
       |nil=>rfl
       |cons x l ih=>rw[gt,gt,hfg x (bk ..),ih fun y hy=>hfg y (bA _ hy)]
      exact fc fun d hd=>(gK k (hb1 d hd)).2
theorem VLive.local {g:Id→Id}{hin:HL}{F:List Nat}{b:Id}(hF:∀b:Id,b.1∈F→look h b=look h' b)(hv:VLive h g hin F b):VLive h' g hin F b:=by
 rcases hv with hv|⟨h1,h2⟩
 ·exact .inl hv
 ·refine .inr ⟨h1,fun hl=>h2 ?_⟩
  unfold Live at hl⊢
  rw[hF _ h1];exact hl
theorem View.local {g:Id→Id}{hin:HL}{W:List Id}{F:List Nat}{d d':D}(hW:∀b∈W,look h b=look h' b)(hF:∀b:Id,b.1∈F→look h b=look h' b)(hv:View h g hin W F d d'):View h' g hin W F d d':=by
 induction hv with
 |ref b hb=>exact .ref b (hb.local hF)
 |ptr b o hb=>exact .ptr b o (hb.local hF)
 |eptr b i o hb=>exact .eptr b i o (hb.local hF)
 |vref b o n hb=>exact .vref b o n (hb.local hF)
 |pure k d d' hd hw=>
  obtain⟨e1,e2⟩:=gK k fun b hb=>hW b (hw b hb)
  exact .pure k d d' (by rw[←e1];exact hd) (fun b hb=>hw b (by rw[e2];exact hb))
 |nils=>exact .nils
 |agg cs cs' hl hc ih=>exact .agg cs cs' hl ih
 |clo f cs cs' hl hc ih=>exact .clo f cs cs' hl ih
 |ifc T d d' hd ih=>exact .ifc T d d' ih
 |gv k=>exact .gv k
 |junk=>exact .junk
theorem ViewB.local {g:Id→Id}{hin:HL}{W:List Id}{F:List Nat}{x x':Blk}(hW:∀b∈W,look h b=look h' b)(hF:∀b:Id,b.1∈F→look h b=look h' b)(hv:ViewB h g hin W F x x'):ViewB h' g hin W F x x':=by
 cases hv with
 |var T cs cs' hl hc=>exact .var T cs cs' hl fun i hi=>(hc i hi).local hW hF
 |row E l l' hl hc=>exact .row E l l' hl fun i hi=>(hc i hi).local hW hF
 |gone=>exact .gone
def kx (P:Program)(T:TypeId)(m:String):Option (FuncId×Bool):=
 match P.info? T,P.underlying T with
 |some ti,some (.pointer _)=>(match ti.methods.find? (·.name==m) with
  |some r=>if r.path.isEmpty=true then r.func else none
  |none=>none)
 |_,_=>none
def ma (P:Program)(h:HL)(T:TypeId)(byp:Bool)(d:D):Option D:=
 if byp then some d else match P.underlying T with|some (.pointer E)=>dy P h E d|_=>none
theorem ym {T:TypeId}{byp:Bool}{d:D}(ha:Agree (mQ (al d)) h h'):ma P h T byp d=ma P h' T byp d:=by
 unfold ma
 split
 ·rfl
 ·split
  ·rw[ql ha]
  ·rfl
theorem Sim.method (s:Sim P w0 S A N ρ t h a w){T:TypeId}{m:String}{f:FuncId}{byp:Bool}{d d':D}{v:Value}(hm:kx P T m=some (f,byp))(hr:ma P h T byp d=some d')(hv:C ρ (Live h) (okOf A ρ h w) w d v)(n:Nat):
  ∃v',(Go.method (n+1) T v m).run P w= .ok (f,v') w∧C ρ (Live h) (okOf A ρ h w) w d' v':=by
 unfold kx at hm
 split at hm
 ·rename_i ti E hi hu
  split at hm
  ·rename_i r hf
   split at hm
   ·rename_i hp
    have hpl:r.path.toList=[]:=by simpa using hp
    have hpe:r.path= #[]:=by simpa using hp
    cases byp with
    |true=>
     simp only[ma,if_true,aw] at hr
     subst hr
     refine⟨v,?_,hv⟩
     simp[Go.method,typeInfo,hi,hf,hpe,follow,hm,receiverAt,underlying,hu,Place.get]
    |false=>
     simp only[ma,eW,if_false,hu] at hr
     have hpt:eS d=true:=by
      unfold dy at hr
      split at hr<;>first|rfl|exact nomatch hr
     obtain⟨ad,rfl⟩:=hv.isPtr_inv hpt
     obtain⟨v',h1,h2⟩:=s.load hr hv
     refine⟨v',?_,h2⟩
     have h1:(loadVar E ad).run P w= .ok v' w:=by simpa[Instr.loadAt,Instr.sureAddr] using h1
     have hw : ∀ nm : String, Builtin.ssaWrapNilChk_ #[T] T #[.pointer (some ad), strVal "", strVal nm] = pure (.pointer (some ad)) := fun _ => rfl
     simp[Go.method,typeInfo,hi,hf,hpe,follow,hm,receiverAt,underlying,hu,Place.get,hw,asAddr,h1]
   ·cases hm
  ·cases hm
 ·cases hm
def qo (P:Program)(t:List (Nat×D))(h:HL)(o:Oper)(f:FuncId)(ds:List D):Prop:=
 ∃args Ts,(o.op= .call ⟨.value (.func f),args,Ts⟩∧evalFs t h args.toList=some ds)∨
  (∃k cs ds0,o.op= .call ⟨.value (.tmp k),args,Ts⟩∧evalF t h (.tmp k)=some (.clo f cs)∧evalFs t h args.toList=some ds0∧ds=ds0++cs)∨
  ∃x m T d d' byp ds0,o.op= .call ⟨.invoke x m,args,Ts⟩∧evalF t h x=some (.ifc T d)∧kx P T m=some (f,byp)∧ma P h T byp d=some d'∧evalFs t h args.toList=some ds0∧ds=d'::ds0
theorem FM {o:Oper}{f:FuncId}{n:Nat}{ds:List D}{d:D}{u:HL}{fs:List Nat}(hn:∀b,n≤b.1→look h b=none)(hc:qo P t h o f ds)(c:CallOK P f h n ds d u fs)(hf:∀k∈uF t h o.op.operands.toList,k∈fs)
  (hfn:∀b,Live c.hout b→(c.g b).1∈fs):OpS P N o t h d u fs:=by
 intro t' h' ht ha w0 S A ρ a w s
 have hW:∀b∈c.W,look h b=look h' b:=fun b hb=>ha b (c.foot.2.1 b hb)
 have hF:∀b:Id,b.1∈c.F→look h b=look h' b:=fun b hb=>ha b (c.foot.2.2 _ hb)
 have c':CallOK P f h' n ds d u fs:=by
  refine⟨c.g,c.W,c.F,c.ds',c.hin,c.r,c.hout,c.con,c.len,fun i hi=>(c.args i hi).local hW hF,fun b x' hx=>?_,c.keys,c.inj,c.sub,fun b hb hb'=>?_,c.apart,c.foot,c.res,?_⟩
  ·obtain⟨x,h1,h2⟩:=c.blks b x' hx
   exact⟨x,by rw[←ha _ (hfn b (c.sub b (by simp[Live,hx])))];exact h1,h2.local hW hF⟩
  ·rw[←ha _ (hfn b hb)];exact c.new b hb hb'
  ·rcases c.upd with h1|⟨h1,h2⟩
   ·exact .inl h1
   ·refine .inr ⟨fun b hb x hx hmu=>?_,h2.trans (by rw[ui hW])⟩
    rw[←sy (hW b hb)]
    exact h1 b hb x (by rw[hW b hb];exact hx) hmu
 have ev:∀x∈o.op.operands,evalF t' h' x=evalF t h x:=by
  intro x hx
  have e1:evalF t' h' x=evalF t h' x:=by unfold evalF;rw[ht x hx]
  rw[e1]
  exact(eB (fun k hk=>hf k (dZ.2 ⟨x,ly.2 hx,hk⟩)) ha).1.symm
 obtain⟨fn,hf1,hf2,hf3⟩:=c.con.1
 have hf2':¬fn.body=none:=by intro e;rw[e] at hf2;cases hf2
 have hf3' : ¬ fn.name = "runtime.NumGoroutine" := by simpa using hf3
 obtain⟨args,Ts,hcase⟩:=hc
 obtain⟨dst,op,ty,pos,after,guard⟩:=o
 simp only at hcase ev⊢
 rcases hcase with⟨rfl,hargs⟩|⟨k,cs,ds0,rfl,hclo,hargs,rfl⟩|⟨x,m,T,d1,d2,byp,ds0,rfl,hx,hm,hr,hargs,rfl⟩
 ·have hargs':evalFs t' h' args.toList=some ds:=by
   rw[←hargs]
   exact bV fun x hx=>ev x (by simp only[Op.operands,Call.operands,Array.mem_append];exact .inr (ly.1 hx))
  obtain⟨e,q⟩:=s.evalFs hargs'
  have hcl:=s.call c' (vs:=args.map a.eval) (by rw[e];simp) (fun i hi=>by
   have:=q i hi
   rw[cO]
   simpa using this)
  have hrun:(execOp a.eval ⟨dst,.call ⟨.value (.func f),args,Ts⟩,ty,pos,after,guard⟩).run P w= .ok (.enter f (args.map a.eval)) w:=by
   simp[execOp,resolve,Act.eval,Deferred.ofValue,invoke,callFunc,hf1,hf2',hf3']
  unfold Oper.wp
  rw[hrun]
  refine hcl.mono ?_
  rintro e' w' ⟨v,ρ2,rfl,g0,g1,g2⟩
  exact⟨v,ρ2,rfl,g0,g1,g2⟩
 ·have hargs':evalFs t' h' args.toList=some ds0:=by
   rw[←hargs]
   exact bV fun x hx=>ev x (by simp only[Op.operands,Call.operands,Array.mem_append];exact .inr (ly.1 hx))
  have hclo':evalF t' h' (.tmp k)=some (.clo f cs):=by rw[ev (.tmp k) (by simp[Op.operands,Call.operands])];exact hclo
  obtain⟨vs,hv1,hv2,hv3⟩:=(s.evalF hclo').clo_inv
  obtain⟨e,q⟩:=s.evalFs hargs'
  have hl0:ds0.length=(args.map a.eval).size:=by rw[e];simp
  have hcl:=s.call c' (vs:=args.map a.eval++vs) (by rw[aP,Array.size_append];omega) (fun i hi=>by
   by_cases hlt:i<ds0.length
   ·have:=q i hlt
    have h1:i<(args.map a.eval).size:=by omega
    have h2:i<args.size:=by simpa using h1
    simpa[aq,cW hlt,bJ,uM h1,h2] using this
   ·have hi2:i-ds0.length<cs.length:=by rw[aP] at hi;omega
    have:=hv3 (i-ds0.length) hi2
    have h1:¬i<(args.map a.eval).size:=by omega
    have e1:(ds0++cs).getD i .undef=cs.getD (i-ds0.length) .undef:=by simp only[aq,eJ (Nat.le_of_not_lt hlt)]
    have e2:(args.map a.eval++vs).getD i undef=vs.getD (i-ds0.length) undef:=by
     simp only[bJ]
     rw[Array.getElem?_append_right (Nat.le_of_not_lt h1),hl0]
    rw[e1,e2]
    exact this)
  have hrun:(execOp a.eval ⟨dst,.call ⟨.value (.tmp k),args,Ts⟩,ty,pos,after,guard⟩).run P w= .ok (.enter f (args.map a.eval++vs)) w:=by
   simp[execOp,resolve,hv1,Deferred.ofValue,invoke,callFunc,hf1,hf2',hf3']
  unfold Oper.wp
  rw[hrun]
  refine hcl.mono ?_
  rintro e' w' ⟨v,ρ2,rfl,g0,g1,g2⟩
  exact⟨v,ρ2,rfl,g0,g1,g2⟩
 ·have hargs':evalFs t' h' args.toList=some ds0:=by
   rw[←hargs]
   exact bV fun x hx=>ev x (by simp only[Op.operands,Call.operands,Array.mem_append];exact .inr (ly.1 hx))
  have hxm:x∈(Op.call ⟨.invoke x m,args,Ts⟩).operands:=by simp[Op.operands,Call.operands]
  have hx':evalF t' h' x=some (.ifc T d1):=by rw[ev x hxm];exact hx
  have hx0:evalF t' h x=some (.ifc T d1):=by
   have e1:evalF t' h x=evalF t h x:=by unfold evalF;rw[ht x hxm]
   rw[e1];exact hx
  have hloc:=(eB (t:=t) (x:=x) (h:=h) (h':=h') (fs:=fs) (fun k hk=>hf k (dZ.2 ⟨x,ly.2 hxm,hk⟩)) ha).2 _ hx
  have hr':ma P h' T byp d1=some d2:=by rw[←ym (P:=P) (T:=T) (byp:=byp) (d:=d1) hloc];exact hr
  obtain⟨v1,hv1,hv2⟩:=(s.evalF hx').ifc_inv
  obtain⟨v2,hv3,hv4⟩:=s.method hm hr' hv2 (P.types.size+Made.depth-1)
  obtain⟨e,q⟩:=s.evalFs hargs'
  have hcl:=s.call c' (vs:=#[v2]++args.map a.eval) (by rw[bF,Array.size_append,e];simp;omega) (fun i hi=>by
   match i with
   |0=>
    rw[bJ,uM (by simp)]
    exact hv4
   |i+1=>
    have:=q i (by simpa using hi)
    simpa[bJ,Array.getElem?_append_right,aq] using this)
  have hfuel:P.types.size+Made.depth-1+1=P.types.size+Made.depth:=by simp[Made.depth]
  rw[hfuel] at hv3
  have hi0:(#[Value.iface T v1]++args.map a.eval)[0]?=some (.iface T v1):=by rw[uM (by simp)];rfl
  have hex:(args.map a.eval).extract 0 args.size=args.map a.eval:=by
   have:args.size=(args.map a.eval).size:=by simp
   rw[this]
   simp
  have hrun:(execOp a.eval ⟨dst,.call ⟨.invoke x m,args,Ts⟩,ty,pos,after,guard⟩).run P w= .ok (.enter f (#[v2]++args.map a.eval)) w:=by
   simp only[execOp,resolve]
   simp[invoke,hv1,hi0,callMethod,hv3,callFunc,hf1,hf2',hf3',hex]
  unfold Oper.wp
  rw[hrun]
  refine hcl.mono ?_
  rintro e' w' ⟨v,ρ2,rfl,g0,g1,g2⟩
  exact⟨v,ρ2,rfl,g0,g1,g2⟩
end Go.Proofs.YtpefhoohfkeflacGreatDoor.Am
namespace Go.Proofs.YtpefhoohfkeflacGreatDoor.Am
open Go Go.RowKit
variable {P:Program} {w0:World} {S:SD} {A:Nat→Prop} {N:Nat} {ρ:Id→Pl} {t:List (Nat×D)} {h h':HL} {a:Act} {w:World}
theorem Sim.congr {t':List (Nat×D)}(s:Sim P w0 S A N ρ t h a w)(ht:∀x,look t' x=look t x)(hh:∀b,look h' b=look h b):Sim P w0 S A N ρ t' h' a w:=by
 have hl:Live h'=Live h:=funext fun b=>by simp only[Live,hh]
 have ho:okOf A ρ h' w=okOf A ρ h w:=funext fun k=>by simp only[okOf,hh]
 have hb:∀b x,BlkOK P A ρ h w b x→BlkOK P A ρ h' w b x:=by
  intro b x hx
  cases x<;>simp only[BlkOK,hl,ho] at hx⊢<;>exact hx
 exact⟨s.base,s.inS,s.fr,s.defers,s.size,fun k d hk=>by rw[ht] at hk;rw[hl,ho];exact s.tmp k d hk,fun b x hx=>hb b x (s.blk b x (by rw[←hh];exact hx)),fun b x hx=>s.own b x (by rw[←hh];exact hx),
  fun b b' x x' hx hx'=>s.inj b b' x x' (by rw[←hh];exact hx) (by rw[←hh];exact hx'),s.gl⟩
def im (dst:Option Nat)(d:D)(t:List (Nat×D)):List (Nat×D):=match dst with|some k=>(k,d)::t|none=>t
theorem fH (dst:Option Nat)(d:D)(t:List (Nat×D))(x:Nat):look (im dst d t) x=if dst=some x then some d else look t x:=by
 cases dst with
 |none=>simp[im]
 |some k=>
  simp only[im,look,aw]
  by_cases e:x=k
  ·simp[e]
  ·simp[e,cm e]
theorem Sim.putO (s:Sim P w0 S A N ρ t h a w){d:D}{v:Value}{dst:Option Nat}(hd:∀k,dst=some k→k<N)(hc:C ρ (Live h) (okOf A ρ h w) w d v):Sim P w0 S A N ρ (im dst d t) h (a.put dst v) w:=by
 cases dst with
 |none=>exact s
 |some k=>
  have s':=s.putT k (hd k rfl) hc
  refine⟨s'.base,s'.inS,s'.fr,s'.defers,s'.size,fun x e hx=>s'.tmp x e ?_,s'.blk,s'.own,s'.inj,s'.gl⟩
  rw[af]
  simpa only[im,look] using hx
structure Rc where
 d:D
 u:HL
 f:List Nat
 n:Nat
 n':Nat
def kb (m:Nat→Bool):Nat→List (Oper×Rc)→List (Nat×D)→List (Nat×D)
 |_,[],t=>t
 |k,(o,r)::l,t=>kb m (k+1) l (if m k=true then im o.dst r.d t else t)
def jp (m:Nat→Bool):Nat→List (Oper×Rc)→HL→HL
 |_,[],h=>h
 |k,(_,r)::l,h=>jp m (k+1) l (if m k=true then puts r.u h else h)
theorem m6 (m:Nat→Bool):∀(l:List (Oper×Rc)) (k:Nat) (t t':List (Nat×D)) (x:Nat),look t x=look t' x→look (kb m k l t) x=look (kb m k l t') x
 |[],k,t,t',x,h=>h
 |(o,r)::l,k,t,t',x,h=>by
  refine m6 m l (k+1) _ _ x ?_
  split
  ·rw[fH,fH,h]
  ·exact h
theorem m5 (m:Nat→Bool):∀(l:List (Oper×Rc)) (k:Nat) (t t':HL) (x:Id),look t x=look t' x→look (jp m k l t) x=look (jp m k l t') x
 |[],k,t,t',x,h=>h
 |(o,r)::l,k,t,t',x,h=>by
  refine m5 m l (k+1) _ _ x ?_
  split
  ·exact bT h
  ·exact h
theorem mf {m m':Nat→Bool}{x:Nat}:∀(l:List (Oper×Rc)) (k:Nat) (t:List (Nat×D)),(∀i o r,l[i]?=some (o,r)→m (k+i)≠m' (k+i)→o.dst≠some x)→look (kb m k l t) x=look (kb m' k l t) x
 |[],k,t,_=>rfl
 |(o,r)::l,k,t,hd=>by
  have ih:=mf (m:=m) (m':=m') (x:=x) l (k+1) (if m k=true then im o.dst r.d t else t) fun i o r hi hm=>hd (i+1) o r (by simpa using hi) (by rw[show k+(i+1)=k+1+i by omega];exact hm)
  show look (kb m (k+1) l _) x=look (kb m' (k+1) l _) x
  rw[ih]
  refine m6 m' l (k+1) _ _ x ?_
  by_cases e:m k=m' k
  ·rw[e]
  ·have:=hd 0 o r rfl (by simpa using e)
   have h2:∀b:Bool,look (if b=true then im o.dst r.d t else t) x=look t x:=by
    intro b;cases b
    ·rfl
    ·simp only[if_true];rw[fH,if_neg this]
   rw[h2,h2]
theorem kL {m m':Nat→Bool}{x:Id}:∀(l:List (Oper×Rc)) (k:Nat) (t:HL),(∀i o r,l[i]?=some (o,r)→m (k+i)≠m' (k+i)→∀y∈r.u,y.1≠x)→look (jp m k l t) x=look (jp m' k l t) x
 |[],k,t,_=>rfl
 |(o,r)::l,k,t,hd=>by
  have ih:=kL (m:=m) (m':=m') (x:=x) l (k+1) (if m k=true then puts r.u t else t) fun i o r hi hm=>hd (i+1) o r (by simpa using hi) (by rw[show k+(i+1)=k+1+i by omega];exact hm)
  show look (jp m (k+1) l _) x=look (jp m' (k+1) l _) x
  rw[ih]
  refine m5 m' l (k+1) _ _ x ?_
  by_cases e:m k=m' k
  ·rw[e]
  ·have:=hd 0 o r rfl (by simpa using e)
   have h2:∀b:Bool,look (if b=true then puts r.u t else t) x=look t x:=by
    intro b;cases b
    ·rfl
    ·simp only[if_true];exact aN _ _ _ this
   rw[h2,h2]
def dI (m:Nat→Bool)(j:Nat)(k:Nat):Bool:=m k||k==j
theorem Ca {m:Nat→Bool}{j:Nat}{oj:Oper}{rj:Rc}(hm:m j=false):∀(l:List (Oper×Rc)) (k:Nat) (t:List (Nat×D)),k≤j→l[j-k]?=some (oj,rj)→
  (∀i o r,l[i]?=some (o,r)→j<k+i→m (k+i)=true→∀x,oj.dst=some x→o.dst≠some x)→∀x,look (kb (dI m j) k l t) x=look (im oj.dst rj.d (kb m k l t)) x
 |[],k,t,_,hl,_,x=>by simp at hl
 |(o,r)::l,k,t,hk,hl,hd,x=>by
  by_cases e:k=j
  ·subst e
   simp only[ka,iL,aw,aZ] at hl
   obtain⟨rfl,rfl⟩:=hl
   have e1:dI m k k=true:=by simp[dI]
   show look (kb (dI m k) (k+1) l (if dI m k k=true then im o.dst r.d t else t)) x=look (im o.dst r.d (kb m (k+1) l (if m k=true then im o.dst r.d t else t))) x
   rw[e1,hm]
   simp only[if_true,eW,if_false]
   have e2:look (kb (dI m k) (k+1) l (im o.dst r.d t)) x=look (kb m (k+1) l (im o.dst r.d t)) x:=by
    refine mf l (k+1) _ fun i o r hi hne=>absurd ?_ hne
    simp only[dI]
    have:(k+1+i==k)=false:=by simp;omega
    rw[this,j9]
   rw[e2,fH]
   by_cases hx:o.dst=some x
   ·rw[if_pos hx]
    have:look (kb m (k+1) l (im o.dst r.d t)) x=look (kb (fun _=>false) (k+1) l (im o.dst r.d t)) x:=by
     refine mf l (k+1) _ fun i o' r' hi hne=>?_
     refine hd (i+1) o' r' (by simpa using hi) (by omega) ?_ x hx
     rw[show k+(i+1)=k+1+i by omega]
     simpa using hne
    rw[this]
    have hf:∀(l:List (Oper×Rc)) (k:Nat) (t:List (Nat×D)),kb (fun _=>false) k l t=t:=by
     intro l
     induction l with
     |nil=>intro k t;rfl
     |cons y l ih=>intro k t;obtain⟨o,r⟩:=y;exact ih (k+1) t
    rw[hf,fH,if_pos hx]
   ·rw[if_neg hx]
    refine m6 m l (k+1) _ _ x ?_
    rw[fH,if_neg hx]
  ·have hlt:k<j:=by omega
   have e1:dI m j k=m k:=by
    have:(k==j)=false:=by simp[e]
    simp only[dI,this,j9]
   show look (kb (dI m j) (k+1) l (if dI m j k=true then im o.dst r.d t else t)) x=look (im oj.dst rj.d (kb m (k+1) l (if m k=true then im o.dst r.d t else t))) x
   rw[e1]
   refine Ca hm l (k+1) _ (by omega) (by rw[show j-k=(j-(k+1))+1 by omega] at hl;simpa using hl) (fun i o r hi hj hmi=>hd (i+1) o r (by simpa using hi) (by omega) (by rw[show k+(i+1)=k+1+i by omega];exact hmi)) x
theorem B9 {m:Nat→Bool}{j:Nat}{oj:Oper}{rj:Rc}(hm:m j=false):∀(l:List (Oper×Rc)) (k:Nat) (t:HL),k≤j→l[j-k]?=some (oj,rj)→
  (∀i o r,l[i]?=some (o,r)→j<k+i→m (k+i)=true→∀x∈rj.u,∀y∈r.u,x.1≠y.1)→∀x,look (jp (dI m j) k l t) x=look (puts rj.u (jp m k l t)) x
 |[],k,t,_,hl,_,x=>by simp at hl
 |(o,r)::l,k,t,hk,hl,hd,x=>by
  by_cases e:k=j
  ·subst e
   simp only[ka,iL,aw,aZ] at hl
   obtain⟨rfl,rfl⟩:=hl
   have e1:dI m k k=true:=by simp[dI]
   show look (jp (dI m k) (k+1) l (if dI m k k=true then puts r.u t else t)) x=look (puts r.u (jp m (k+1) l (if m k=true then puts r.u t else t))) x
   rw[e1,hm]
   simp only[if_true,eW,if_false]
   have e2:look (jp (dI m k) (k+1) l (puts r.u t)) x=look (jp m (k+1) l (puts r.u t)) x:=by
    refine kL l (k+1) _ fun i o r hi hne=>absurd ?_ hne
    simp only[dI]
    have:(k+1+i==k)=false:=by simp;omega
    rw[this,j9]
   rw[e2]
   by_cases hx:∃y∈r.u,y.1=x
   ·have h1:look (jp m (k+1) l (puts r.u t)) x=look (jp (fun _=>false) (k+1) l (puts r.u t)) x:=by
     refine kL l (k+1) _ fun i o' r' hi hne=>?_
     obtain⟨y,hy,rfl⟩:=hx
     exact fun z hz he=>hd (i+1) o' r' (by simpa using hi) (by omega) (by rw[show k+(i+1)=k+1+i by omega];simpa using hne) y hy z hz he.symm
    have h2:look (jp m (k+1) l t) x=look (jp (fun _=>false) (k+1) l t) x:=by
     refine kL l (k+1) _ fun i o' r' hi hne=>?_
     obtain⟨y,hy,rfl⟩:=hx
     exact fun z hz he=>hd (i+1) o' r' (by simpa using hi) (by omega) (by rw[show k+(i+1)=k+1+i by omega];simpa using hne) y hy z hz he.symm
    have hf:∀(l:List (Oper×Rc)) (k:Nat) (t:HL),jp (fun _=>false) k l t=t:=by
     intro l
     induction l with
     |nil=>intro k t;rfl
     |cons y l ih=>intro k t;obtain⟨o,r⟩:=y;exact ih (k+1) t
    rw[h1,hf]
    rw[hf] at h2
    exact(bT h2).symm
   ·have hx':∀y∈r.u,y.1≠x:=fun y hy e=>hx ⟨y,hy,e⟩
    rw[aN _ _ _ hx']
    refine m5 m l (k+1) _ _ x ?_
    rw[aN _ _ _ hx']
  ·have hlt:k<j:=by omega
   have e1:dI m j k=m k:=by
    have:(k==j)=false:=by simp[e]
    simp only[dI,this,j9]
   show look (jp (dI m j) (k+1) l (if dI m j k=true then puts r.u t else t)) x=look (puts rj.u (jp m (k+1) l (if m k=true then puts r.u t else t))) x
   rw[e1]
   refine B9 hm l (k+1) _ (by omega) (by rw[show j-k=(j-(k+1))+1 by omega] at hl;simpa using hl) (fun i o r hi hj hmi=>hd (i+1) o r (by simpa using hi) (by omega) (by rw[show k+(i+1)=k+1+i by omega];exact hmi)) x

end Go.Proofs.YtpefhoohfkeflacGreatDoor.Am
