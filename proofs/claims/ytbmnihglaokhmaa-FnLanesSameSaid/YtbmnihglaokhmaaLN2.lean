/- The plain machine: slices of slices; freezing what is handed on. What an operation touches: seen by carrying it out where all else is spoilt. A goroutine's own steps beside others, with blocks that are its own and blocks that it only reads. Operations that are plain. What is known of a state, beside others. The plain machine: contracts, calls. The plain machine: the callee's start, and what is known once it has returned. The plain machine: blocks that have got another name; what an operation looks at. -/
import Derived.Conc.Events
import Derived.Conc.CompanyDraw
import Derived.Test.YtbmnihglaokhmaaLN1
set_option linter.unusedSimpArgs false
set_option linter.unusedVariables false
set_option maxHeartbeats 1000000
namespace Go.Proofs.Ytbmnihglaokhmaa.Am
open Go Go.RowKit
variable {P:Program} {w0:World} {S:SD} {A:Nat→Prop} {N:Nat} {ρ:Id→Pl} {t:List (Nat×D)} {h:HL} {a:Act} {w:World}
theorem AM (l:List D)(hh ll i:Nat)(hi:i<hh-ll):((l.take hh).drop ll).getD i .undef=l.getD (ll+i) .undef:=by
 have:ll+i<hh:=by omega
 simp only[aX,List.getElem?_drop,jt,this,if_true]
theorem Dc {ok:Nat→Prop}{T E:TypeId}{l:List D}{v:Value}{s hh ll:Nat}(hr:Rep ok w (.lst l) v)(hu:P.underlying T=some (.slice E))(hs:sizeT P E=some s)(hso:xg s l=s)(h1:hh≤l.length)(h2:ll≤hh)
  {lo hi:Option Value} (hlo:(lo=none∧ll=0)∨∃k,lo=some (.int k (ll:Nat))) (hhi:(hi=none∧hh=l.length)∨∃k,hi=some (.int k (hh:Nat))):
  ∃v',(Instr.sliceAt T v lo hi none).run P w= .ok v' w∧Rep ok w (.lst ((l.take hh).drop ll)) v':=by
 obtain⟨a',cap,rfl,hcap,hmax,ha⟩:∃a cap,v= .slice a l.length cap∧l.length≤cap∧cap≤maxLen∧(a=none→cap=0):=by
  cases hr with
  |none a cap ha hcap=>exact⟨a,cap,rfl,gJ _,hcap,ha⟩
  |lst _ n b off cap f hn hcap hmax hok hsz hpos hc hr=>subst hn;exact⟨_,cap,rfl,hcap,hmax,fun h=>by cases h⟩
 refine⟨.slice (if cap=ll then a' else a'.map (·.add (ll*s))) (hh-ll) (cap-ll),?_,?_⟩
 ·have b1:((hh:Nat):Int)≤(cap:Nat):=by omega
  have b2:((ll:Nat):Int)≤(hh:Nat):=by omega
  rcases hlo with⟨rfl,rfl⟩|⟨k,rfl⟩<;>rcases hhi with⟨rfl,rfl⟩|⟨k',rfl⟩<;>
   simp[Instr.sliceAt,Instr.slice,run_underlying hu,Instr.sliceBounds,Instr.sliceBound,asIntOf,bS hs,h2]<;>(try(intro h;omega))<;>(try omega)
  all_goals (first|(rw[if_pos (by omega)];simp[bS hs];done)|skip)
  all_goals (try(rw[if_pos (by omega)];simp[bS hs];rw[if_pos (by omega)];simp[bS hs]))
 ·by_cases he:hh=ll
  ·have:(l.take hh).drop ll=[]:=vw (by simp;omega)
   rw[this,show hh-ll=0 by omega]
   refine Rep.none _ _ (fun h=>?_) (by omega)
   split at h
   ·omega
   ·cases a' with
    |none=>have:=ha rfl;omega
    |some ad=>cases h
  ·have hne:l≠[]:=by rintro rfl;simp at h1;omega
   have hsz:=sR hne hso
   cases hr with
   |none a cap ha hcap=>exact absurd rfl hne
   |lst _ n b off cap f hn hcap' hmax' hok hwf hpos hc hr'=>
    have hlen:((l.take hh).drop ll).length=hh-ll:=by simp;omega
    have hmem:∀e∈(l.take hh).drop ll,e∈l:=fun e he=>pX (List.mem_of_mem_drop he)
    have hsz2:szl ((l.take hh).drop ll)=szl l:=by
     cases hL:(l.take hh).drop ll with
     |nil=>rw[hL] at hlen;simp at hlen;omega
     |cons e0 L0=>exact(hwf e0 (hmem e0 (by rw[hL];exact bh ..))).1
    rw[if_neg (by omega)]
    simp only[aM,dD]
    refine .lst _ _ b (off+ll*s) _ (fun i j=>f (ll+i) j) hlen (by omega) (by omega) hok (fun e he=>by rw[hsz2];exact hwf e (hmem e he)) (by rw[hsz2];exact hpos) (fun i j hi hj=>?_) (fun i j hi hj=>?_)
    ·rw[hsz2] at hj⊢
     rw[←hc (ll+i) j (by omega) hj,hsz,cZ]
     congr 2
     omega
    ·rw[hsz2] at hj
     rw[AM l hh ll i hi]
     exact hr' (ll+i) j (by omega) hj
theorem j8 {L:Id→Prop}{ok:Nat→Prop}{len dflt k:Nat}{d:Option D}{v:Option Value}(hd:fS len d dflt=some k)(hv:(d=none∧v=none)∨∃d' v',d=some d'∧v=some v'∧C ρ L ok w d' v')(hdf:dflt≤len):
  k≤len∧((v=none∧k=dflt)∨∃q,v=some (.int q (k:Nat))):=by
 unfold fS at hd
 rcases hv with⟨rfl,rfl⟩|⟨d',v',rfl,rfl,hc⟩
 ·simp only[aK] at hd
  subst hd
  exact⟨hdf,.inl ⟨rfl,rfl⟩⟩
 ·split at hd
  ·rename_i he;cases he
  ·rename_i q i he
   obtain rfl:=bm he
   obtain rfl:=hc.int_inv
   split at hd
   ·rename_i hi
    simp only[aK] at hd
    subst hd
    refine⟨by omega,.inr ⟨q,?_⟩⟩
    congr 2
    omega
   ·cases hd
  ·cases hd
theorem Sim.again (s:Sim P w0 S A N ρ t h a w){b n:Id}{x y:Blk}{p:Pl}(hb:look h b=some x)(hxl:x.live=true)(hn:look h n=none)(hp:p.blk=(ρ b).blk)(hym:y.mutable=true→x.mutable=true)
  (hy:(∀d v,C ρ (Live h) (okOf A ρ h w) w d v→C (at' ρ n p) (Live (put n y (put b .gone h))) (okOf A (at' ρ n p) (put n y (put b .gone h)) w) w d v)→BlkOK P A (at' ρ n p) (put n y (put b .gone h)) w n y):
  Ext h ρ (at' ρ n p)∧Sim P w0 S A N (at' ρ n p) t (put n y (put b .gone h)) a w:=by
 have key:∀b' z,look (put n y (put b .gone h)) b'=some z→(b'=n∧z=y)∨(b'=b∧z= .gone)∨(b'≠n∧b'≠b∧look h b'=some z):=by
  intro b' z hz
  rw[aD,aD] at hz
  by_cases e:b'=n
  ·rw[if_pos e] at hz;exact .inl ⟨e,(bm hz).symm⟩
  ·rw[if_neg e] at hz
   by_cases e2:b'=b
   ·rw[if_pos e2] at hz;exact .inr (.inl ⟨e2,(bm hz).symm⟩)
   ·rw[if_neg e2] at hz;exact .inr (.inr ⟨e,e2,hz⟩)
 have hρ:∀b',Live h b'→Live (put n y (put b .gone h)) b'∧at' ρ n p b'=ρ b':=fun b' hb'=>⟨hb'.put.put,bM ρ _ (hb'.ne hn)⟩
 have hok:∀k,okOf A ρ h w k→okOf A (at' ρ n p) (put n y (put b .gone h)) w k∧w.heap[k]?=w.heap[k]?:=by
  rintro k ⟨hk,hm⟩
  refine⟨⟨hk,fun b' z hz hmu=>?_⟩,rfl⟩
  rcases key b' z hz with⟨rfl,rfl⟩|⟨rfl,rfl⟩|⟨e1,_,hz⟩
  ·rw[aT,hp];exact hm b x hb (hym hmu)
  ·cases hmu
  ·rw[bM ρ _ e1];exact hm b' z hz hmu
 refine⟨Ext.at hn _,s.step s.fr hρ hok (fun b' z hz=>?_) (aN _) (fun b1 b3 y1 y3 hy1 hy3 hl1 hl3 he=>?_)⟩
 ·rcases key b' z hz with⟨rfl,rfl⟩|⟨rfl,rfl⟩|⟨e1,e2,hz⟩
  ·refine .inr ⟨hy fun d v hc=>hc.mono hρ hok,fun hl=>?_⟩
   rw[aT,hp];exact s.own b x hb hxl
  ·exact .inr ⟨trivial,fun hl=>by cases hl⟩
  ·exact .inl ⟨hz,fun _=>rfl⟩
 ·rcases key b1 y1 hy1 with⟨e1,f1⟩|⟨e1,f1⟩|⟨e1,g1,f1⟩
  ·rcases key b3 y3 hy3 with⟨e3,f3⟩|⟨e3,f3⟩|⟨e3,g3,f3⟩
   ·rw[e1,e3]
   ·rw[f3] at hl3;cases hl3
   ·rw[e1,aT,bM ρ _ e3,hp] at he
    exact absurd (s.inj b b3 x y3 hb f3 hxl hl3 he).symm g3
  ·rw[f1] at hl1;cases hl1
  ·rcases key b3 y3 hy3 with⟨e3,f3⟩|⟨e3,f3⟩|⟨e3,g3,f3⟩
   ·rw[e3,aT,bM ρ _ e1,hp] at he
    exact absurd (s.inj b1 b y1 x f1 hb hl1 hxl he) g1
   ·rw[f3] at hl3;cases hl3
   ·rw[bM ρ _ e1,bM ρ _ e3] at he
    exact s.inj b1 b3 y1 y3 f1 f3 hl1 hl3 he
theorem Sim.shrink (s:Sim P w0 S A N ρ t h a w){b n:Id}{E:TypeId}{l:List D}(hb:look h b=some (.row E l))(hn:look h n=none){k:Nat}(hk:k≤l.length):
  Ext h ρ (at' ρ n {ρ b with len:=k})∧Sim P w0 S A N (at' ρ n {ρ b with len:=k}) t (put n (.row E (l.take k)) (put b .gone h)) a w:=by
 obtain⟨c,h1,h2,h3,h4,h5,h6,h7,h8,h9⟩:=s.blk b _ hb
 refine s.again hb rfl hn rfl (fun _=>rfl) fun hC=>?_
 simp only[BlkOK,aT]
 refine⟨c,h1,h2,by simp;omega,by omega,h5,h6,h7,fun e he=>h8 e (pX he),fun i j hi hj=>?_⟩
 have hi1:i<k:=by simp at hi;omega
 have hi2:i<l.length:=by omega
 have e:(l.take k).getD i .undef=l.getD i .undef:=by simp[aX,jt,hi1]
 rw[e]
 exact hC _ _ (h9 i j hi2 hj)
theorem Sim.cut (s:Sim P w0 S A N ρ t h a w){T:TypeId}{d d':D}{lo hi:Option D}{u:HL}{v:Value}{vlo vhi:Option Value}{q:Bool}{n:Id}(hd:eK P h q n T d lo hi=some (d',u))(hn:q=true→look h n=none)
  (hv:C ρ (Live h) (okOf A ρ h w) w d v) (hlo:(lo=none∧vlo=none)∨∃d' v',lo=some d'∧vlo=some v'∧C ρ (Live h) (okOf A ρ h w) w d' v') (hhi:(hi=none∧vhi=none)∨∃d' v',hi=some d'∧vhi=some v'∧C ρ (Live h) (okOf A ρ h w) w d' v'):
  ∃v' ρ',Ext h ρ ρ'∧(Instr.sliceAt T v vlo vhi none).run P w= .ok v' w∧Sim P w0 S A N ρ' t (puts u h) a w∧C ρ' (Live (puts u h)) (okOf A ρ' (puts u h) w) w d' v':=by
 unfold eK at hd
 split at hd
 ·rename_i hu
  split at hd
  ·rename_i str
   obtain rfl:=hv.str_inv
   split at hd
   ·rename_i hh hbh
    obtain⟨q1,q2⟩:=j8 hbh hhi (aN _)
    split at hd
    ·rename_i ll hbl
     obtain⟨q3,q4⟩:=j8 hbl hlo (gJ _)
     simp only[aK,bi] at hd
     obtain⟨rfl,rfl⟩:=hd
     refine⟨.string (str.extract ll hh),ρ,Ext.refl _ _,?_,s,.str _⟩
     have b1:((hh:Nat):Int)≤(str.size:Nat):=by omega
     have b2:((ll:Nat):Int)≤(hh:Nat):=by omega
     rcases q4 with⟨rfl,rfl⟩|⟨k,rfl⟩<;>rcases q2 with⟨rfl,rfl⟩|⟨k',rfl⟩<;>
      simp[Instr.sliceAt,Instr.slice,run_underlying hu,Instr.sliceBounds,Instr.sliceBound,asIntOf,q1,q3]
    ·cases hd
   ·cases hd
  ·cases hd
 ·rename_i E hu
  split at hd
  ·rename_i sz l hs hl
   split at hd
   ·rename_i hso
    split at hd
    ·rename_i hh hbh
     obtain⟨q1,q2⟩:=j8 hbh hhi (aN _)
     split at hd
     ·rename_i ll hbl
      obtain⟨q3,q4⟩:=j8 hbl hlo (gJ _)
      have q4':(vlo=none∧ll=0)∨∃k,vlo=some (.int k (ll:Nat)):=q4
      have fin:∀{h':HL},Rep (okOf A ρ h' w) w (.lst l) v→∃v',(Instr.sliceAt T v vlo vhi none).run P w= .ok v' w∧C ρ (Live h') (okOf A ρ h' w) w (.lst ((l.take hh).drop ll)) v':=by
       intro h' hr
       obtain⟨v',e1,e2⟩:=Dc (P:=P) hr hu hs hso q1 q3 q4' q2
       exact⟨v',e1,.pure e2⟩
      split at hd
      ·rename_i b
       obtain⟨hlb,rfl⟩:=hv.ref_inv
       split at hd
       ·rename_i E' l' hb
        simp only[Am.elems,hb,aK] at hl
        subst hl
        split at hd
        ·rename_i hq
         split at hd
         ·rename_i hl0
          subst hl0
          simp only[aK,bi] at hd
          obtain⟨rfl,rfl⟩:=hd
          obtain⟨x1,x2⟩:=s.shrink hb (hn hq) q1
          have hbk:=s.blk b _ hb
          obtain⟨c,h1,h2,h3,h4,h5,h6,h7,h8,h9⟩:=hbk
          have hL:Live (puts [(b,Blk.gone),(n,.row E' (l'.take hh))] h) n:=by
           show Live (put n _ (put b _ h)) n
           unfold Live;rw[aD];simp
          refine⟨.slice (some ⟨(ρ b).blk,0,none⟩) hh (ρ b).cap,_,x1,?_,x2,?_⟩
          ·have b1:((hh:Nat):Int)≤((ρ b).cap:Nat):=by omega
           have b2:((0:Nat):Int)≤(hh:Nat):=by omega
           have a0:((⟨(ρ b).blk,0,none⟩:Addr).add 0)=⟨(ρ b).blk,0,none⟩:=rfl
           rcases q4' with⟨rfl,_⟩|⟨k,rfl⟩<;>rcases q2 with⟨rfl,rfl⟩|⟨k',rfl⟩<;>
            simp[Instr.sliceAt,Instr.slice,run_underlying hu,Instr.sliceBounds,Instr.sliceBound,asIntOf,bS hs,h3,h4,a0]<;>(try omega)
           all_goals (try(rw[if_pos (by omega)];simp[bS hs,a0]))
          ·have:=C.ref (ρ:=at' ρ n {ρ b with len:=hh}) (L:=Live (puts [(b,Blk.gone),(n,.row E' (l'.take hh))] h)) (ok:=okOf A (at' ρ n {ρ b with len:=hh}) (puts [(b,Blk.gone),(n,.row E' (l'.take hh))] h) w) (w:=w) n hL
           simpa only[aT] using this
         ·cases hd
        ·split at hd
         ·rename_i hpu
          simp only[aK,bi] at hd
          obtain⟨rfl,rfl⟩:=hd
          rw[bc] at hpu
          have s':=s.freeze hb hpu
          have hbk:=s'.blk b (.froz l') (by rw[aD];simp)
          obtain⟨v',e1,e2⟩:=fin hbk
          exact⟨v',ρ,Ext.refl _ _,e1,s',e2⟩
         ·cases hd
       ·rename_i hnr
        simp only[aK,bi] at hd
        obtain⟨rfl,rfl⟩:=hd
        simp only[Am.elems] at hl
        split at hl
        ·rename_i E' l' hb;exact absurd hb (hnr E' l')
        ·rename_i l' hb
         simp only[aK] at hl;subst hl
         obtain⟨v',e1,e2⟩:=fin (s.blk b _ hb)
         exact⟨v',ρ,Ext.refl _ _,e1,s,e2⟩
        ·cases hl
      ·cases hd
      ·rename_i hnr hnv
       simp only[aK,bi] at hd
       obtain⟨rfl,rfl⟩:=hd
       have hr:Rep (okOf A ρ h w) w (.lst l) v:=by
        unfold Am.elems at hl
        split at hl
        ·simp only[aK] at hl;subst hl;exact hv.lst_inv
        ·simp only[aK] at hl;subst hl
         obtain rfl:=hv.nils_inv
         exact .none _ _ (fun _=>rfl) (by unfold maxLen;omega)
        ·rename_i b;exact absurd rfl (hnr b)
        ·rename_i b o n;exact absurd rfl (hnv b o n)
        ·cases hl
       obtain⟨v',e1,e2⟩:=fin hr
       exact⟨v',ρ,Ext.refl _ _,e1,s,e2⟩
     ·cases hd
    ·cases hd
   ·cases hd
  ·cases hd
 ·rename_i n E hu
  split at hd
  ·rename_i b o
   split at hd
   ·rename_i T' cs hs hb
    split at hd
    ·rename_i hmax
     simp only[aK,bi] at hd
     obtain⟨rfl,rfl⟩:=hd
     obtain⟨hl,rfl⟩:=hv.ptr_inv
     rcases hlo with⟨_,rfl⟩|⟨_,_,h1,_⟩
     ·rcases hhi with⟨_,rfl⟩|⟨_,_,h1,_⟩
      ·refine⟨.slice (some ⟨(ρ b).blk,o,none⟩) n n,ρ,Ext.refl _ _,?_,s,.vref b o n hl hmax⟩
       simp[Instr.sliceAt,Instr.slice,run_underlying hu,Instr.sliceBounds,bS hs,Instr.sureAddr,asAddr,dD]
      ·cases h1
     ·cases h1
    ·cases hd
   ·cases hd
  ·cases hd
 ·cases hd
def leaf (d:D):Option D:=if d.pure0=true then some (nz0 d) else none
theorem nW {d d':D}(h:leaf d=some d'):d.pure0=true∧d'=nz0 d∧d'.pure0=true:=by
 unfold leaf at h
 split at h
 ·rename_i hp
  simp only[aK] at h
  subst h
  exact⟨hp,rfl,rb hp⟩
 ·cases h
def purE (f:D→Option D):D→Option D
 | .agg cs=>(cs.mapM f).map .agg
 |d=>f d
def purD (h:HL):Nat→D→Option D
 |0,d=>leaf d
 |k+1,d=>match d with
  | .ref b=>(match look h b with
   |some (.row _ l)=>(l.mapM (purE (purD h k))).map .lst
   |some (.froz l)=>some (.lst l)
   |_=>none)
  | .ptr b 0=>(match look h b with
   |some (.var _ cs)=>if cs=[] then none else(cs.mapM (purD h k)).map .box
   |some (.fvar cs)=>some (.box cs)
   |_=>none)
  |d=>leaf d
def idsD (h:HL):Nat→D→List Id
 |0,_=>[]
 |k+1,d=>match d with
  | .ref b=>b::(match look h b with
   |some (.row _ l)=>l.flatMap fun e=>e.cells.flatMap (idsD h k)
   |_=>[])
  | .ptr b 0=>b::(match look h b with
   |some (.var _ cs)=>cs.flatMap (idsD h k)
   |_=>[])
  |_=>[]
def pur (h:HL)(k:Nat):D→Option D
 | .agg cs=>(cs.mapM (purD h k)).map .agg
 | .tup cs=>(cs.mapM (purD h k)).map .tup
 |d=>purD h k d
def ids (h:HL)(k:Nat):D→List Id
 | .agg cs=>cs.flatMap (idsD h k)
 | .tup cs=>cs.flatMap (idsD h k)
 |d=>idsD h k d
theorem gA {α β:Type}{f:α→Option β}{a0:α}{b0:β}:∀{cs:List α} {cs':List β},cs.mapM f=some cs'→cs'.length=cs.length∧∀i,i<cs.length→f (cs.getD i a0)=some (cs'.getD i b0)
 |[],cs',h=>by simp at h;subst h;simp
 |d::cs,cs',h=>by
  simp only[gh,rC,bu,Option.pure_def,aK] at h
  obtain⟨d',h1,cs2,h2,rfl⟩:=h
  obtain⟨e,ih⟩:=gA (a0:=a0) (b0:=b0) h2
  refine⟨by simp[e],fun i hi=>?_⟩
  cases i with
  |zero=>simpa using h1
  |succ i=>simpa using ih i (by simpa using hi)
theorem br {l:List D}{i:Nat}(hi:i<l.length):l.getD i .undef∈l:=by
 rw[aX,a6 hi];exact fh hi
theorem bW {l:List D}{c:D}(h:c∈l):∃i,i<l.length∧l.getD i .undef=c:=by
 obtain⟨i,hi,rfl⟩:=List.mem_iff_getElem.1 h
 exact⟨i,hi,by rw[aX,a6 hi];rfl⟩
theorem Da {f:D→Option D}(hf:∀d d',f d=some d'→d'.pure0=true)(hna:∀cs,f (.agg cs)=none){e e':D}{s:Nat}(he:wfC s e)(h:purE f e=some e'):
  wfE s e'∧∀j,j<s→f (e.cells.getD j .undef)=some (e'.cells.getD j .undef):=by
 by_cases hag:∃cs,e= .agg cs
 ·obtain⟨cs,rfl⟩:=hag
  simp only[purE] at h
  obtain⟨cs',h1,rfl⟩:=bj.1 h
  obtain⟨e1,q⟩:=gA (a0:=.undef) (b0:=.undef) h1
  have hl:cs.length=s:=he.1
  refine⟨⟨by show cs'.length=s;omega,?_⟩,fun j hj=>q j (by omega)⟩
  rw[bc]
  intro x hx
  obtain⟨j,hj,rfl⟩:=bW hx
  exact hf _ _ (q j (by simp only[D.cells] at hj;omega))
 ·have h2:purE f e=f e:=by cases e<;>first|rfl|exact absurd ⟨_,rfl⟩ hag
  rw[h2] at h
  have hc:e.cells=[e]:=cS fun cs hcs=>hag ⟨cs,hcs⟩
  have hp:=hf _ _ h
  have hs:s=1:=by have:=he.1;rw[hc] at this;simpa using this.symm
  subst hs
  rw[hc]
  refine⟨⟨by rw[cR hp];rfl,by rw[cR hp];simp[hp]⟩,fun j hj=>?_⟩
  obtain rfl:j=0:=by omega
  rw[cR hp]
  exact h
theorem py {ok:Nat→Prop}{c:Array Value}{E:TypeId}{l l':List D}{blk sz len cap:Nat}{f:D→Option D}(hf:∀d d',f d=some d'→d'.pure0=true)(hna:∀cs,f (.agg cs)=none)(hl:l.mapM (purE f)=some l')
  (h1:w.heap[blk]?=some (.cells c E (0,0))) (h2:c.size=cap*sz) (h3:l.length=len) (h4:len≤cap) (h5:cap≤maxLen) (h6:0<sz) (h8:∀e∈l,wfC sz e) (hok:ok blk)
  (hr:∀i j d',i<l.length→j<sz→f ((l.getD i .undef).cells.getD j .undef)=some d'→Rep ok w d' (c.getD (i*sz+j) undef)):Rep ok w (.lst l') (.slice (some ⟨blk,0,none⟩) len cap):=by
 obtain⟨e1,q⟩:=gA (a0:=.undef) (b0:=.undef) hl
 have qe:∀i,i<l.length→wfE sz (l'.getD i .undef)∧∀j,j<sz→f ((l.getD i .undef).cells.getD j .undef)=some ((l'.getD i .undef).cells.getD j .undef):=fun i hi=>Da hf hna (h8 _ (br hi)) (q i hi)
 cases hl':l' with
 |nil=>
  rw[hl'] at e1
  simp only[mg] at e1
  obtain rfl:len=0:=by omega
  exact .none _ _ (fun h=>by cases h) h5
 |cons e0 l0=>
  rw[←hl']
  have hwf:∀e∈l',wfE sz e:=fun e he=>by
   obtain⟨i,hi,rfl⟩:=bW he
   exact(qe i (by omega)).1
  have hsz:szl l'=sz:=by rw[hl'];exact(hwf e0 (by rw[hl'];exact bh ..)).1
  refine .lst _ _ _ _ _ (fun i j=>c.getD (i*sz+j) undef) (by omega) h4 h5 hok (fun e he=>by rw[hsz];exact hwf e he) (by rw[hsz];exact h6) (fun i j hi hj=>?_) (fun i j hi hj=>?_)
  ·rw[hsz] at hj⊢
   have hlt':i*sz+j<c.size:=by
    rw[h2]
    have:(i+1)*sz≤cap*sz:=dL _ (by omega)
    rw[cZ] at this
    omega
   simp[World.cell?,h1,hlt',bV]
  ·rw[hsz] at hj
   exact hr i j _ (by omega) hj ((qe i (by omega)).2 j hj)
theorem rh:∀(k:Nat) (d d':D),purD h k d=some d'→d'.pure0=true
 |0,d,d',hd=>(nW hd).2.2
 |k+1,d,d',hd=>by
  unfold purD at hd
  split at hd
  ·split at hd
   ·obtain⟨_,_,rfl⟩:=bj.1 hd;rfl
   ·simp only[aK] at hd;subst hd;rfl
   ·cases hd
  ·split at hd
   ·split at hd
    ·cases hd
    ·obtain⟨_,_,rfl⟩:=bj.1 hd;rfl
   ·simp only[aK] at hd;subst hd;rfl
   ·cases hd
  ·exact(nW hd).2.2
theorem pw (k:Nat)(cs:List D):purD h k (.agg cs)=none:=by cases k<;>rfl
theorem C.leaf {L:Id→Prop}{ok:Nat→Prop}{d d':D}{v:Value}(hd:Am.leaf d=some d')(hv:C ρ L ok w d v):Rep ok w d' v:=by
 obtain⟨h1,rfl,_⟩:=nW hd
 exact(hv.rep0 h1).nz0
theorem Sim.purD (s:Sim P w0 S A N ρ t h a w){ok':Nat→Prop}(hok:∀k,okOf A ρ h w k→ok' k):∀(k:Nat) (d d':D) (v:Value),purD h k d=some d'→
  (∀b∈idsD h k d,∀x,look h b=some x→x.mutable=true→ok' (ρ b).blk)→C ρ (Live h) (okOf A ρ h w) w d v→Rep ok' w d' v
 |0,d,d',v,hd,_,hv=>(hv.leaf hd).mono fun k hk=>⟨hok k hk,rfl⟩
 |k+1,d,d',v,hd,hb,hv=>by
  unfold Am.purD at hd
  split at hd
  ·rename_i b
   obtain⟨hl,rfl⟩:=hv.ref_inv
   split at hd
   ·rename_i E l hlk
    obtain⟨l',hl',rfl⟩:=bj.1 hd
    obtain⟨c,h1,h2,h3,h4,h5,h6,h7,h8,h9⟩:=s.blk b _ hlk
    refine py (rh k) (pw k) hl' h1 h2 h3 h4 h5 h6 h8 (hb b (by unfold idsD;exact bh ..) _ hlk rfl) fun i j d' hi hj hd'=>?_
    refine s.purD hok k _ _ _ hd' (fun b' hb'=>hb b' ?_) (h9 i j hi hj)
    unfold idsD
    simp only[hlk]
    refine bl _ (dM.2 ⟨_,br hi,dM.2 ⟨_,?_,hb'⟩⟩)
    exact br (by rw[(h8 _ (br hi)).1];exact hj)
   ·rename_i l hlk
    simp only[aK] at hd;subst hd
    exact Rep.mono (s.blk b _ hlk) fun k hk=>⟨hok k hk,rfl⟩
   ·cases hd
  ·rename_i b
   obtain⟨hl,rfl⟩:=hv.ptr_inv
   split at hd
   ·rename_i T cs hlk
    split at hd
    ·cases hd
    ·rename_i hne
     obtain⟨cs',hl',rfl⟩:=bj.1 hd
     obtain⟨c,h1,h2,h3⟩:=s.blk b _ hlk
     obtain⟨e1,q⟩:=gA (a0:=.undef) (b0:=.undef) hl'
     have hpos:0<cs.length:=List.length_pos_iff.2 hne
     refine .box cs' _ 0 (fun j=>c.getD j undef) (hb b (by unfold idsD;exact bh ..) _ hlk rfl) (by omega) (fun j hj=>?_) (fun j hj=>?_)
     ·have hlt2:j<c.size:=by omega
      simp[World.cell?,h1,hlt2,bV]
     ·refine s.purD hok k _ _ _ (q j (by omega)) (fun b' hb'=>hb b' ?_) (h3 j (by omega))
      unfold idsD
      simp only[hlk]
      exact bl _ (dM.2 ⟨_,br (by omega),hb'⟩)
   ·rename_i cs hlk
    simp only[aK] at hd;subst hd
    exact Rep.mono (s.blk b _ hlk) fun k hk=>⟨hok k hk,rfl⟩
   ·cases hd
  ·exact(hv.leaf hd).mono fun k hk=>⟨hok k hk,rfl⟩
theorem Sim.pur (s:Sim P w0 S A N ρ t h a w){ok':Nat→Prop}(hok:∀k,okOf A ρ h w k→ok' k){k:Nat}{d d':D}{v:Value}(hd:pur h k d=some d')
  (hb:∀b∈ids h k d,∀x,look h b=some x→x.mutable=true→ok' (ρ b).blk) (hv:C ρ (Live h) (okOf A ρ h w) w d v):Rep ok' w d' v:=by
 unfold Am.pur at hd
 split at hd
 ·rename_i cs
  obtain⟨cs',h1,rfl⟩:=bj.1 hd
  obtain⟨e,q⟩:=gA (a0:=.undef) (b0:=.undef) h1
  obtain⟨vs,rfl,hl,hc⟩:=hv.agg_inv
  refine .agg _ _ (by omega) fun i hi=>s.purD hok k _ _ _ (q i (by omega)) (fun b' hb'=>hb b' ?_) (hc i (by omega))
  exact dM.2 ⟨_,br (by omega),hb'⟩
 ·rename_i cs
  obtain⟨cs',h1,rfl⟩:=bj.1 hd
  obtain⟨e,q⟩:=gA (a0:=.undef) (b0:=.undef) h1
  obtain⟨vs,rfl,hl,hc⟩:=hv.tup_inv
  refine .tup _ _ (by omega) fun i hi=>s.purD hok k _ _ _ (q i (by omega)) (fun b' hb'=>hb b' ?_) (hc i (by omega))
  exact dM.2 ⟨_,br (by omega),hb'⟩
 ·rename_i h1 h2
  refine s.purD hok k _ _ _ hd (fun b' hb'=>hb b' ?_) hv
  unfold ids
  split
  ·exact absurd rfl (h1 _)
  ·exact absurd rfl (h2 _)
  ·exact hb'
def frzB (h:HL)(b:Id):Option Blk:=
 match look h b with
 |some (.row _ l)=>(l.mapM (purE leaf)).map .froz
 |some (.var _ cs)=>if cs=[] then none else(cs.mapM leaf).map .fvar
 |_=>none
def frz (h:HL)(bs:List Id):HL:=bs.filterMap fun b=>(frzB h b).map fun y=>(b,y)
theorem Ba (cs:List D):leaf (.agg cs)=none:=rfl
theorem Sim.stills (s:Sim P w0 S A N ρ t h a w){h2:HL}(hh:∀b,look h2 b=look h b∨∃y,frzB h b=some y∧look h2 b=some y):Sim P w0 S A N ρ t h2 a w:=by
 have fz:∀b y,frzB h b=some y→(∃x,look h b=some x∧x.mutable=true)∧y.mutable=false∧y.live=true:=by
  intro b y hy
  unfold frzB at hy
  split at hy
  ·rename_i E l hl
   obtain⟨_,_,rfl⟩:=bj.1 hy
   exact⟨⟨_,hl,rfl⟩,rfl,rfl⟩
  ·rename_i T cs hl
   split at hy
   ·cases hy
   ·obtain⟨_,_,rfl⟩:=bj.1 hy
    exact⟨⟨_,hl,rfl⟩,rfl,rfl⟩
  ·cases hy
 have mu:∀b y,look h2 b=some y→y.mutable=true→look h b=some y:=by
  intro b y hy hmu
  rcases hh b with e|⟨z,hz,e⟩
  ·rw[←e];exact hy
  ·rw[e] at hy
   obtain rfl:=bm hy
   rw[(fz b z hz).2.1] at hmu;cases hmu
 have old:∀b y,look h2 b=some y→y.live=true→∃x,look h b=some x∧x.live=true:=by
  intro b y hy hl
  rcases hh b with e|⟨z,hz,e⟩
  ·exact⟨y,by rw[←e];exact hy,hl⟩
  ·obtain⟨⟨x,h1,h2⟩,_⟩:=fz b z hz
   exact⟨x,h1,by cases x<;>simp_all[Blk.mutable,Blk.live]⟩
 have hlv:∀b,Live h b→Live h2 b∧ρ b=ρ b:=by
  intro b hb
  rcases hh b with e|⟨z,hz,e⟩
  ·exact⟨by simpa[Live,e] using hb,rfl⟩
  ·exact⟨by simp[Live,e],rfl⟩
 have hok:∀k,okOf A ρ h w k→okOf A ρ h2 w k∧w.heap[k]?=w.heap[k]?:=fun k hk=>⟨⟨hk.1,fun b y hy hmu=>hk.2 b y (mu b y hy hmu) hmu⟩,rfl⟩
 refine s.step s.fr hlv hok (fun b y hy=>?_) (aN _) (fun b1 b2 y1 y2 hy1 hy2 hl1 hl2 he=>?_)
 ·rcases hh b with e|⟨z,hz,e⟩
  ·exact .inl ⟨by rw[←e];exact hy,fun _=>rfl⟩
  ·rw[e] at hy
   obtain rfl:=bm hy
   obtain⟨⟨x,hx,hxm⟩,hzm,hzl⟩:=fz b z hz
   have hxl:x.live=true:=by cases x<;>simp_all[Blk.mutable,Blk.live]
   have hown:=s.own b x hx hxl
   have hself:okOf A ρ h2 w (ρ b).blk:=by
    refine⟨⟨hown.1,hown.2.elim (s.inS _) (s.base _)⟩,fun b' y' hy' hmu he=>?_⟩
    have h3:=mu b' y' hy' hmu
    have:=s.inj b' b y' x h3 hx (by cases y'<;>simp_all[Blk.mutable,Blk.live]) hxl he
    subst this
    rw[e] at hy'
    obtain rfl:=bm hy'
    rw[hzm] at hmu;cases hmu
   refine .inr ⟨?_,fun _=>hown⟩
   unfold frzB at hz
   split at hz
   ·rename_i E l hl
    rw[hx] at hl
    obtain rfl:=bm hl
    obtain⟨l',hl',rfl⟩:=bj.1 hz
    obtain⟨c,h1,h2',h3,h4,h5,h6,h7,h8,h9⟩:=s.blk b _ hx
    exact py (fun d d' hd=>(nW hd).2.2) Ba hl' h1 h2' h3 h4 h5 h6 h8 hself fun i j d' hi hj hd'=>((h9 i j hi hj).leaf hd').mono hok
   ·rename_i T cs hl
    rw[hx] at hl
    obtain rfl:=bm hl
    split at hz
    ·cases hz
    ·rename_i hne
     obtain⟨cs',hl',rfl⟩:=bj.1 hz
     obtain⟨c,h1,h2',h3⟩:=s.blk b _ hx
     obtain⟨e1,q⟩:=gA (a0:=.undef) (b0:=.undef) hl'
     have hpos:0<cs.length:=List.length_pos_iff.2 hne
     refine .box cs' _ 0 (fun j=>c.getD j undef) hself (by omega) (fun j hj=>?_) (fun j hj=>((h3 j (by omega)).leaf (q j (by omega))).mono hok)
     have hlt2:j<c.size:=by omega
     simp[World.cell?,h1,hlt2,bV]
   ·cases hz
 ·obtain⟨x1,a1,a2⟩:=old b1 y1 hy1 hl1
  obtain⟨x2,c1,c2⟩:=old b2 y2 hy2 hl2
  exact s.inj b1 b2 x1 x2 a1 c1 a2 c2 he
theorem cW (bs:List Id)(h':HL)(b:Id):look (puts (frz h bs) h') b=match(if b∈bs then frzB h b else none) with|some y=>some y|none=>look h' b:=by
 induction bs generalizing h' with
 |nil=>simp[frz,puts]
 |cons x bs ih=>
  cases hx:frzB h x with
  |none=>
   have e:frz h (x::bs)=frz h bs:=by simp[frz,hx]
   rw[e,ih]
   by_cases hb:b=x
   ·subst hb;simp[hx]
   ·simp[hb]
  |some y=>
   have e:frz h (x::bs)=(x,y)::frz h bs:=by simp[frz,hx]
   rw[e]
   show look (puts (frz h bs) (put x y h')) b=_
   rw[ih,aD]
   by_cases hb:b=x
   ·subst hb
    simp only[a9,true_or,if_true,hx]
    by_cases hm:b∈bs
    ·simp[hm]
    ·simp[hm]
   ·simp[hb]
theorem Sim.frz_ok (s:Sim P w0 S A N ρ t h a w)(bs:List Id):Sim P w0 S A N ρ t (puts (frz h bs) h) a w∧(∀b,look (puts (frz h bs) h) b=look h b∨∃y,frzB h b=some y∧look (puts (frz h bs) h) b=some y)∧
  ∀b∈bs,∀y,frzB h b=some y→look (puts (frz h bs) h) b=some y:=by
 have key:∀b,look (puts (frz h bs) h) b=look h b∨∃y,frzB h b=some y∧look (puts (frz h bs) h) b=some y:=by
  intro b
  rw[cW]
  by_cases hb:b∈bs
  ·rw[if_pos hb]
   cases hy:frzB h b with
   |none=>exact .inl rfl
   |some y=>exact .inr ⟨y,rfl,rfl⟩
  ·rw[if_neg hb];exact .inl rfl
 refine⟨s.stills key,key,fun b hb y hy=>?_⟩
 rw[cW,if_pos hb,hy]
theorem jH {b:Id}{y:Blk}(hy:frzB h b=some y):(∃x,look h b=some x∧x.mutable=true)∧y.mutable=false∧y.live=true:=by
 unfold frzB at hy
 split at hy
 ·rename_i E l hl
  obtain⟨_,_,rfl⟩:=bj.1 hy
  exact⟨⟨_,hl,rfl⟩,rfl,rfl⟩
 ·rename_i T cs hl
  split at hy
  ·cases hy
  ·obtain⟨_,_,rfl⟩:=bj.1 hy
   exact⟨⟨_,hl,rfl⟩,rfl,rfl⟩
 ·cases hy
end Go.Proofs.Ytbmnihglaokhmaa.Am
namespace Go.Proofs.Ytbmnihglaokhmaa.Am
open Go Go.RowKit
def Dead (P:Program){α:Type}:Sem α→Prop
 | .pure _=>False
 | .load _ _ k=>∀v,Dead P (k v)
 | .store _ _ _ k=>Dead P k
 | .new _ k=>∀r,Dead P (k r)
 | .shape _ k=>∀s,Dead P (k s)
 | .freeze _ _ k=>Dead P k
 | .frozen _ k=>∀b,Dead P (k b)
 | .getObj _ k=>∀o,Dead P (k o)
 | .setObj _ _ k=>Dead P k
 | .choose _ k=>∀n,Dead P (k n)
 | .sys _ k=>∀r,Dead P (k r)
 | .program k=>Dead P (k P)
 | .mark _ k=>Dead P k
 | .halt _=>True
def Plain (P:Program){α:Type}(L:α→Prop):Sem α→Prop
 | .pure a=>L a
 | .load m _ k=>(m= .plain∧∀v,Plain P L (k v))∨∀v,Dead P (k v)
 | .store m _ _ k=>(m= .plain∧Plain P L k)∨Dead P k
 | .new o k=>((∀a t,o≠ .view a t)∧∀r,Plain P L (k r))∨∀r,Dead P (k r)
 | .shape _ k=>∀s,Dead P (k s)
 | .freeze _ _ k=>Dead P k
 | .frozen _ k=>∀b,Dead P (k b)
 | .getObj _ k=>∀o,Dead P (k o)
 | .setObj _ _ k=>Dead P k
 | .choose _ k=>∀n,Plain P L (k n)
 | .sys _ k=>∀r,Dead P (k r)
 | .program k=>Plain P L (k P)
 | .mark m k=>(m= .noRoom∧Plain P L k)∨Dead P k
 | .halt _=>True
theorem Dead.bind {P:Program}{α β:Type}{x:Sem α}{f:α→Sem β}(h:Dead P x):Dead P (x.bind f):=by
 induction x with
 |pure a=>exact h.elim
 |load m a k ih=>exact fun v=>ih v (h v)
 |store m a v k ih=>exact ih h
 |new o k ih=>exact fun r=>ih r (h r)
 |shape r k ih=>exact fun s=>ih s (h s)
 |freeze a n k ih=>exact ih h
 |frozen a k ih=>exact fun b=>ih b (h b)
 |getObj r k ih=>exact fun o=>ih o (h o)
 |setObj r o k ih=>exact ih h
 |choose q k ih=>exact fun n=>ih n (h n)
 |sys c k ih=>exact fun r=>ih r (h r)
 |program k ih=>exact ih P h
 |mark m k ih=>exact ih h
 |halt h=>trivial
theorem Dead.bind' {P:Program}{α β:Type}{x:Sem α}{f:α→Sem β}(h:∀a,Dead P (f a)):Dead P (x.bind f):=by
 induction x with
 |pure a=>exact h a
 |load m a k ih=>exact fun v=>ih v
 |store m a v k ih=>exact ih
 |new o k ih=>exact fun r=>ih r
 |shape r k ih=>exact fun s=>ih s
 |freeze a n k ih=>exact ih
 |frozen a k ih=>exact fun b=>ih b
 |getObj r k ih=>exact fun o=>ih o
 |setObj r o k ih=>exact ih
 |choose q k ih=>exact fun n=>ih n
 |sys c k ih=>exact fun r=>ih r
 |program k ih=>exact ih P
 |mark m k ih=>exact ih
 |halt h=>trivial
theorem Plain.bind {P:Program}{α β:Type}{L:α→Prop}{M:β→Prop}{x:Sem α}{f:α→Sem β}(h:Plain P L x)(hf:∀a,L a→Plain P M (f a)):Plain P M (x.bind f):=by
 induction x with
 |pure a=>exact hf a h
 |load m a k ih=>exact h.imp (fun h=>⟨h.1,fun v=>ih v (h.2 v)⟩) fun h v=>(h v).bind
 |store m a v k ih=>exact h.imp (fun h=>⟨h.1,ih h.2⟩) Dead.bind
 |new o k ih=>exact h.imp (fun h=>⟨h.1,fun r=>ih r (h.2 r)⟩) fun h r=>(h r).bind
 |shape r k ih=>exact fun s=>(h s).bind
 |freeze a n k ih=>exact Dead.bind h
 |frozen a k ih=>exact fun b=>(h b).bind
 |getObj r k ih=>exact fun o=>(h o).bind
 |setObj r o k ih=>exact Dead.bind h
 |choose q k ih=>exact fun n=>ih n (h n)
 |sys c k ih=>exact fun r=>(h r).bind
 |program k ih=>exact ih P h
 |mark m k ih=>exact h.imp (fun h=>⟨h.1,ih h.2⟩) Dead.bind
 |halt h=>trivial
theorem Dead.plain {P:Program}{α:Type}{L:α→Prop}{x:Sem α}(h:Dead P x):Plain P L x:=by
 induction x with
 |pure a=>exact h.elim
 |load m a k ih=>exact .inr h
 |store m a v k ih=>exact .inr h
 |new o k ih=>exact .inr h
 |choose q k ih=>exact fun n=>ih n (h n)
 |program k ih=>exact ih P h
 |mark m k ih=>exact .inr h
 |_=>exact h
theorem Plain.mono {P:Program}{α:Type}{L M:α→Prop}{x:Sem α}(h:Plain P L x)(hm:∀a,L a→M a):Plain P M x:=by
 induction x with
 |pure a=>exact hm a h
 |load m a k ih=>exact h.imp (fun h=>⟨h.1,fun v=>ih v (h.2 v)⟩) id
 |store m a v k ih=>exact h.imp (fun h=>⟨h.1,ih h.2⟩) id
 |new o k ih=>exact h.imp (fun h=>⟨h.1,fun r=>ih r (h.2 r)⟩) id
 |choose q k ih=>exact fun n=>ih n (h n)
 |program k ih=>exact ih P h
 |mark m k ih=>exact h.imp (fun h=>⟨h.1,ih h.2⟩) id
 |_=>exact h
theorem Dead.run {P:Program}{α:Type}{x:Sem α}(h:Dead P x):∀(w:World),∃e w',x.run P w= .halt e w':=by
 induction x with
 |pure a=>exact h.elim
 |load m a k ih=>
  intro w
  simp only[Sem.run]
  split
  ·exact ih _ (h _) w
  ·split
   ·exact ih _ (h _) w
   ·exact⟨_,_,rfl⟩
 |store m a v k ih=>
  intro w
  cases v<;>simp only[Sem.run]<;>first
   |exact⟨_,_,rfl⟩
   |(split
     ·split
      ·exact⟨_,_,rfl⟩
      ·exact ih h _
     ·split
      ·exact ih h _
      ·exact⟨_,_,rfl⟩)
 |new o k ih=>intro w;exact ih _ (h _) _
 |shape r k ih=>intro w;exact ih _ (h _) _
 |freeze a n k ih=>intro w;exact ih h _
 |frozen a k ih=>intro w;exact ih _ (h _) _
 |getObj r k ih=>
  intro w
  simp only[Sem.run]
  split
  ·exact⟨_,_,rfl⟩
  ·exact ih _ (h _) _
  ·exact⟨_,_,rfl⟩
 |setObj r o k ih=>
  intro w
  simp only[Sem.run]
  split
  ·exact⟨_,_,rfl⟩
  ·exact ih h _
  ·exact⟨_,_,rfl⟩
 |choose q k ih=>
  intro w
  simp only[Sem.run]
  split
  ·exact ih _ (h _) _
  ·exact ih _ (h _) _
 |sys c k ih=>intro w;exact ih _ (h _) _
 |program k ih=>intro w;exact ih _ h _
 |mark m k ih=>intro w;exact ih h _
 |halt e=>intro w;exact⟨_,_,rfl⟩
open Classical in
noncomputable def spoil (A S:Nat→Prop) (k:Nat) (o:Obj):Obj:=
 if S k then(match o with| .view ..=>.cells #[] 0 (0,0)|o=>o)
 else if A k then(match o with| .cells c T _=>.cells c T (0,c.size)|_=>.cells #[] 0 (0,0))
 else .cells #[] 0 (0,0)
structure Spoilt (A S:Nat→Prop)(w w2:World):Prop where
 tape:w2.tape=w.tape
 drawn:w2.drawn=w.drawn
 size:w2.heap.size=w.heap.size
 heap:∀k,w2.heap[k]?=(w.heap[k]?).map (spoil A S k)
noncomputable def spoilW (A S:Nat→Prop) (w:World):World:={w with heap:=w.heap.mapIdx (spoil A S)}
theorem u9 (A S:Nat→Prop)(w:World):Spoilt A S w (spoilW A S w):=⟨rfl,rfl,by simp[spoilW],fun k=>by simp[spoilW]⟩
def Tou (A S:Nat→Prop)(B:Nat)(e:Event):Prop:=
 (∃a wr,e=⟨.cell a,wr,false⟩∧a.block<B∧(S a.block∨A a.block)∧(wr=true→S a.block))∨e=⟨.mark .noRoom,false,true⟩
theorem Tou.mono {A S A' S':Nat→Prop}{B B':Nat}{e:Event}(h:Tou A S B e)(hA:∀k,k<B→A k→A' k∨S' k)(hS:∀k,k<B→S k→S' k)(hB:B≤B'):Tou A' S' B' e:=by
 rcases h with⟨a,wr,rfl,h1,h2,h3⟩|rfl
 ·exact .inl ⟨a,wr,rfl,by omega,h2.elim (fun h=>.inl (hS _ h1 h)) (fun h=>(hA _ h1 h).elim .inr .inl),fun h=>hS _ h1 (h3 h)⟩
 ·exact .inr rfl
section
variable {A S:Nat→Prop} {w w2:World}
theorem pL {k:Nat}{o:Obj}{a:Addr}{t:TypeId}:spoil A S k o≠ .view a t:=by
 unfold spoil
 split
 ·split
  ·simp
  ·rename_i h;intro e;exact h _ _ e
 ·split
  ·split<;>simp
  ·simp
theorem Spoilt.cell (s:Spoilt A S w w2){a:Addr}{v:Value}(h:w2.cell? a=some v):w.cell? a=some v∧a.block<w.heap.size∧(S a.block∨A a.block)∧(w2.frozen? a=false→S a.block∧w.frozen? a=false):=by
 unfold World.cell? at h
 rw[s.heap] at h
 cases ho:w.heap[a.block]? with
 |none=>rw[ho] at h;cases h
 |some o=>
  rw[ho] at h
  have hlt:a.block<w.heap.size:=(dN.1 ho).1
  have hf2:w2.heap[a.block]?=some (spoil A S a.block o):=by rw[s.heap,ho];rfl
  by_cases hS:S a.block
  ·cases o with
   |cells c T fz=>
    have e:spoil A S a.block (.cells c T fz)= .cells c T fz:=by simp[spoil,hS]
    simp only[aM,e] at h
    refine⟨by unfold World.cell?;rw[ho];exact h,hlt,.inl hS,fun hf=>⟨hS,?_⟩⟩
    unfold World.frozen? at hf⊢
    rw[hf2,e] at hf
    rw[ho];exact hf
   |view b t=>simp[spoil,hS] at h
   |_=>simp[spoil,hS] at h
  ·by_cases hA:A a.block
   ·cases o with
    |cells c T fz=>
     have e:spoil A S a.block (.cells c T fz)= .cells c T (0,c.size):=by simp[spoil,hS,hA]
     simp only[aM,e] at h
     refine⟨by unfold World.cell?;rw[ho];exact h,hlt,.inr hA,fun hf=>?_⟩
     exfalso
     unfold World.frozen? at hf
     rw[hf2,e] at hf
     split at h
     ·cases h
     ·have:=(dN.1 h).1
      simp[this] at hf
    |_=>simp[spoil,hS,hA] at h
   ·simp[spoil,hS,hA] at h
theorem Spoilt.far (s:Spoilt A S w w2){P:Program}{a:Addr}{at_:Bool}:∃e,w2.farLoad P a at_= .error e:=by
 unfold World.farLoad
 rw[s.heap]
 cases ho:w.heap[a.block]? with
 |none=>exact⟨_,rfl⟩
 |some o=>
  simp only[aM]
  split
  ·rename_i h;exact absurd (bm h) pL
  ·exact⟨_,rfl⟩
theorem Spoilt.farS (s:Spoilt A S w w2){P:Program}{a:Addr}{v:Value}{at_:Bool}:∃e,w2.farStore P a v at_= .error e:=by
 unfold World.farStore
 rw[s.heap]
 cases ho:w.heap[a.block]? with
 |none=>exact⟨_,rfl⟩
 |some o=>
  simp only[aM]
  split
  ·rename_i h;exact absurd (bm h) pL
  ·exact⟨_,rfl⟩
theorem Spoilt.setCell (s:Spoilt A S w w2){a:Addr}(v:Value)(hS:S a.block):Spoilt A S (w.setCell a v) (w2.setCell a v):=by
 refine⟨s.tape,s.drawn,by simp[World.setCell,s.size],fun k=>?_⟩
 simp only[World.setCell,Array.getElem?_modify]
 by_cases e:a.block=k
 ·subst e
  simp only[if_true]
  rw[s.heap]
  cases w.heap[a.block]? with
  |none=>rfl
  |some o=>cases o<;>simp[spoil,hS]
 ·simp only[e,if_false]
  exact s.heap k
theorem Spoilt.push (s:Spoilt A S w w2)(o:Obj)(ho:∀a t,o≠ .view a t)(hS:S w.heap.size):Spoilt A S {w with heap:=w.heap.push o} {w2 with heap:=w2.heap.push o}:=by
 refine⟨s.tape,s.drawn,by simp[s.size],fun k=>?_⟩
 have hsp:spoil A S w.heap.size o=o:=by
  unfold spoil
  rw[if_pos hS]
  cases o<;>first|rfl|exact absurd rfl (ho _ _)
 simp only[Array.getElem?_push,s.size]
 by_cases e:k=w.heap.size
 ·subst e;simp[hsp]
 ·simp only[e,if_false]
  exact s.heap k
end
theorem Spoilt.wide {A S:Nat→Prop}{w w2:World}(sp:Spoilt A S w w2):Spoilt A (fun k=>S k∨w.heap.size≤k) w w2:=by
 refine⟨sp.tape,sp.drawn,sp.size,fun k=>?_⟩
 rw[sp.heap]
 rcases cY k w.heap.size with hlt|hge
 ·have:∀x,spoil A S k x=spoil A (fun k=>S k∨w.heap.size≤k) k x:=fun x=>by
   by_cases hs:S k
   ·have h2:S k∨w.heap.size≤k:=.inl hs
    unfold spoil;rw[if_pos hs,if_pos h2]
   ·have h2:¬(S k∨w.heap.size≤k):=fun h=>h.elim hs fun h=>by omega
    unfold spoil;rw[if_neg hs,if_neg h2]
  cases w.heap[k]?<;>simp[this]
 ·rw[Array.getElem?_eq_none hge];rfl
theorem pM {P:Program}{A S:Nat→Prop}{α:Type}{L:α→Prop}{n0:Nat}(hnew:∀k,n0≤k→S k){x:Sem α}(hp:Plain P L x):∀{w w2:World} {es:Array Event},n0≤w.heap.size→Spoilt A S w w2→∀{v:α} {w2':World},x.run P w2= .ok v w2'→
  ∃w' es',x.runT P w es=(.ok v w',es')∧L v∧w.heap.size≤w'.heap.size∧∀e∈es',e∈es∨Tou A S w'.heap.size e:=by
 induction x with
 |pure a=>
  intro w w2 es hn s v w2' h
  simp only[Sem.run,Result.ok.injEq] at h
  obtain⟨rfl,rfl⟩:=h
  exact⟨w,es,rfl,hp,aN _,fun e he=>.inl he⟩
 |load m a k ih=>
  intro w w2 es hn s v w2' h
  rcases hp with hp|hp
  case inr=>obtain⟨e,w3,he⟩:=Dead.run (P:=P) (x:=.load m a k) hp w2;rw[he] at h;cases h
  obtain⟨rfl,hp⟩:=hp
  simp only[Sem.run] at h
  cases hc:w2.cell? a with
  |some u=>
   rw[hc] at h
   obtain⟨h1,h2,h3,_⟩:=s.cell hc
   obtain⟨w',es',q1,q2,q3,q4⟩:=ih u (hp u) (es:=es.push ⟨.cell a,false,false⟩) hn s h
   refine⟨w',es',by simp only[Sem.runT,h1];exact q1,q2,q3,fun e he=>?_⟩
   rcases q4 e he with he|he
   ·rcases Array.mem_push.1 he with he|rfl
    ·exact .inl he
    ·exact .inr (.inl ⟨a,false,rfl,by omega,h3,fun h=>by cases h⟩)
   ·exact .inr he
  |none=>
   rw[hc] at h
   obtain⟨e,he⟩:=s.far (P:=P) (a:=a) (at_:=(Mode.plain== .atomic))
   simp only[he] at h
   cases h
 |store m a u k ih=>
  intro w w2 es hn s v w2' h
  rcases hp with hp|hp
  case inr=>obtain⟨e,w3,he⟩:=Dead.run (P:=P) (x:=.store m a u k) hp w2;rw[he] at h;cases h
  obtain⟨rfl,hp⟩:=hp
  have main:((match w2.cell? a with
    | some _ => if w2.frozen? a then .halt (.unsupported (.unsafePointer "a write to bytes that a string shares")) w2 else k.run P (w2.setCell a u)
    |none=>match w2.farStore P a u (Mode.plain== .atomic) with
     | .ok (w,_)=>k.run P w
     | .error h=>.halt h w2):Result α)= .ok v w2'→
    ∃w' es',(match w.cell? a with
     |some _=>
      if w.frozen? a then (.halt (.unsupported (.unsafePointer "a write to bytes that a string shares")) w, es)
      else k.runT P (w.setCell a u) (es.push ⟨.cell a,true,Mode.plain== .atomic⟩)
     |none=>match w.farStore P a u (Mode.plain== .atomic) with
      | .ok (w,touched)=>k.runT P w (es++touched.toArray.map (⟨.cell ·,true,Mode.plain== .atomic⟩))
      | .error h=>(.halt h w,es))=(.ok v w',es')∧L v∧w.heap.size≤w'.heap.size∧∀e∈es',e∈es∨Tou A S w'.heap.size e:=by
   intro h
   cases hc:w2.cell? a with
   |some u'=>
    rw[hc] at h
    simp only at h
    obtain⟨h1,h2,h3,h4⟩:=s.cell hc
    cases hf:w2.frozen? a with
    |true=>rw[hf] at h;simp at h
    |false=>
     rw[hf] at h
     simp only[eZ,if_false] at h
     obtain⟨h5,h6⟩:=h4 hf
     obtain⟨w',es',q1,q2,q3,q4⟩:=ih hp (es:=es.push ⟨.cell a,true,false⟩) (by simpa[World.setCell] using hn) (s.setCell u h5) h
     have hsz:(w.setCell a u).heap.size=w.heap.size:=by simp[World.setCell]
     refine⟨w',es',by simp only[h1,h6,eZ,if_false];exact q1,q2,by omega,fun e he=>?_⟩
     rcases q4 e he with he|he
     ·rcases Array.mem_push.1 he with he|rfl
      ·exact .inl he
      ·exact .inr (.inl ⟨a,true,rfl,by omega,h3,fun _=>h5⟩)
     ·exact .inr he
   |none=>
    rw[hc] at h
    obtain⟨e,he⟩:=s.farS (P:=P) (a:=a) (v:=u) (at_:=(Mode.plain== .atomic))
    simp only[he] at h
    cases h
  cases u<;>simp only[Sem.run,Sem.runT] at h⊢<;>first|exact main h|cases h
 |new o k ih=>
  intro w w2 es hn s v w2' h
  rcases hp with hp|hp
  case inr=>obtain⟨e,w3,he⟩:=Dead.run (P:=P) (x:=.new o k) hp w2;rw[he] at h;cases h
  obtain⟨ho,hp⟩:=hp
  simp only[Sem.run] at h
  rw[s.size] at h
  obtain⟨w',es',q1,q2,q3,q4⟩:=ih w.heap.size (hp _) (es:=es) (by simp;omega) (s.push o ho (hnew _ hn)) h
  exact⟨w',es',by simp only[Sem.runT];exact q1,q2,by simp at q3;omega,q4⟩
 |shape r k ih=>
  intro w w2 es hn s v w2' h
  obtain⟨e,w3,he⟩:=(hp (w2.shape? r)).run (P:=P) w2
  simp only[Sem.run] at h
  rw[he] at h;cases h
 |freeze a n k ih=>
  intro w w2 es hn s v w2' h
  obtain⟨e,w3,he⟩:=Dead.run (P:=P) hp (w2.freeze a n)
  simp only[Sem.run] at h
  rw[he] at h;cases h
 |frozen a k ih=>
  intro w w2 es hn s v w2' h
  obtain⟨e,w3,he⟩:=(hp (w2.frozen? a)).run (P:=P) w2
  simp only[Sem.run] at h
  rw[he] at h;cases h
 |getObj r k ih=>
  intro w w2 es hn s v w2' h
  simp only[Sem.run] at h
  split at h
  ·cases h
  ·rename_i o _ _
   obtain⟨e,w3,he⟩:=(hp o).run (P:=P) w2
   rw[he] at h;cases h
  ·cases h
 |setObj r o k ih=>
  intro w w2 es hn s v w2' h
  simp only[Sem.run] at h
  split at h
  ·cases h
  ·obtain⟨e,w3,he⟩:=Dead.run (P:=P) hp {w2 with heap:=w2.heap.setIfInBounds r o}
   rw[he] at h;cases h
  ·cases h
 |choose q k ih=>
  intro w w2 es hn s v w2' h
  simp only[Sem.run] at h
  simp only[Sem.runT]
  rw[s.tape,s.drawn] at h
  split at h
  ·rename_i hq
   rw[if_pos hq]
   exact ih _ (hp _) hn s h
  ·rename_i hq
   rw[if_neg hq]
   exact ih _ (hp _) (w:={w with drawn:=w.drawn+1}) (w2:={heap:=w2.heap,tape:=w.tape,drawn:=w.drawn+1,os:=w2.os,output:=w2.output}) hn ⟨rfl,rfl,s.size,s.heap⟩ h
 |sys c k ih=>
  intro w w2 es hn s v w2' h
  obtain⟨e,w3,he⟩:=(hp (w2.sys c).1).run (P:=P) (w2.sys c).2
  simp only[Sem.run] at h
  rw[he] at h;cases h
 |program k ih=>
  intro w w2 es hn s v w2' h
  simp only[Sem.run] at h
  simp only[Sem.runT]
  exact ih _ hp hn s h
 |mark m k ih=>
  intro w w2 es hn s v w2' h
  simp only[Sem.run] at h
  rcases hp with⟨rfl,hp⟩|hp
  ·obtain⟨w',es',q1,q2,q3,q4⟩:=ih hp (es:=es.push ⟨.mark .noRoom,false,true⟩) hn s h
   refine⟨w',es',by simp only[Sem.runT];exact q1,q2,q3,fun e he=>?_⟩
   rcases q4 e he with he|he
   ·rcases Array.mem_push.1 he with he|rfl
    ·exact .inl he
    ·exact .inr (.inr rfl)
   ·exact .inr he
  ·obtain⟨e,w3,he⟩:=Dead.run (P:=P) hp w2
   rw[he] at h;cases h
 |halt e=>
  intro w w2 es hn s v w2' h
  simp only[Sem.run] at h
  cases h
theorem Rep.cong {ok ok':Nat→Prop}{w w':World}{d:D}{v:Value}(h:Rep ok w d v)(hm:∀b,ok b→ok' b∧∀o,w'.cell? ⟨b,o,.none⟩=w.cell? ⟨b,o,.none⟩):Rep ok' w' d v:=by
 induction h with
 |int k n=>exact .int k n
 |bool b=>exact .bool b
 |str s=>exact .str s
 |none a cap ha hcap=>exact .none a cap ha hcap
 |lst l n b off cap f hn hcap hmax hok hsz hpos hc hr ih=>
  exact .lst l n b off cap f hn hcap hmax (hm b hok).1 hsz hpos (fun i j hi hj=>((hm b hok).2 _).trans (hc i j hi hj)) ih
 |agg cs vs hl h ih=>exact .agg cs vs hl ih
 |tup cs vs hl h ih=>exact .tup cs vs hl ih
 |box cs b off f hok hpos hc hr ih=>exact .box cs b off f (hm b hok).1 hpos (fun j hj=>((hm b hok).2 _).trans (hc j hj)) ih
 |nilp=>exact .nilp
 |nils=>exact .nils
 |nilf=>exact .nilf
 |nilm=>exact .nilm
 |val v hv=>exact .val v hv
 |nili=>exact .nili
theorem C.cong {ρ:Id→Pl}{L:Id→Prop}{ok ok':Nat→Prop}{w w':World}{d:D}{v:Value}(h:C ρ L ok w d v)(hm:∀b,ok b→ok' b∧∀o,w'.cell? ⟨b,o,none⟩=w.cell? ⟨b,o,none⟩):C ρ L ok' w' d v:=by
 induction h with
 |pure h=>exact .pure (h.cong hm)
 |ref b hb=>exact .ref b hb
 |ptr b o hb=>exact .ptr b o hb
 |eptr b i o hb=>exact .eptr b i o hb
 |vref b o n hb hn=>exact .vref b o n hb hn
 |mp b hb=>exact .mp b hb
 |iptr e o b off f hok hc hr=>exact .iptr e o b off f (hm b hok).1 (fun j hj=>((hm b hok).2 _).trans (hc j hj)) fun j hj=>(hr j hj).cong hm
 |agg cs vs hl' h ih=>exact .agg cs vs hl' ih
 |tup cs vs hl' h ih=>exact .tup cs vs hl' ih
 |ifc T d v h ih=>exact .ifc T d v ih
 |clo f cs vs hl' h ih=>exact .clo f cs vs hl' ih
 |any v=>exact .any v
 |junk v hv=>exact .junk v hv
 |gp g x ad hx hok hc=>exact .gp g x ad hx (hm g hok).1 (((hm g hok).2 _).trans hc)
 |gv g x ad hx hok hc=>exact .gv g x ad hx (hm g hok).1 (((hm g hok).2 _).trans hc)
section
variable {P:Program} {S:SD} {A:Nat→Prop} {N:Nat} {ρ:Id→Pl} {t:List (Nat×D)} {h:HL} {a:Act} {w w2:World}
theorem Spoilt.same {S:Nat→Prop}(s:Spoilt A S w w2){k:Nat}(hk:A k)(o:Nat):w2.cell? ⟨k,o,none⟩=w.cell? ⟨k,o,none⟩:=by
 unfold World.cell?
 rw[s.heap]
 cases w.heap[k]? with
 |none=>rfl
 |some x=>
  by_cases hS:S k
  ·cases x<;>simp[spoil,hS]
  ·cases x<;>simp[spoil,hS,hk]
theorem Sim.spoil (s:Sim P w S A N ρ t h a w)(sp:Spoilt A S.S w w2)(hos:w2.os=w.os)(hout:w2.output=w.output):Sim P w2 S A N ρ t h a w2:=by
 have hok:∀k,okOf A ρ h w k→okOf A ρ h w2 k∧∀o,w2.cell? ⟨k,o,none⟩=w.cell? ⟨k,o,none⟩:=fun k hk=>⟨⟨⟨by rw[sp.size];exact hk.1.1,hk.1.2⟩,hk.2⟩,fun o=>sp.same hk.1.2 o⟩
 have hS:∀k c T,S k→w.heap[k]?=some (.cells c T (0,0))→w2.heap[k]?=some (.cells c T (0,0)):=fun k c T hk hw=>by rw[sp.heap,hw];simp[Am.spoil,hk]
 have hown:∀b x,look h b=some x→x.live=true→S (ρ b).blk:=fun b x hx hl=>(s.own b x hx hl).2.elim id fun h=>by have:=(s.own b x hx hl).1;omega
 refine⟨fun k hk=>s.base k (by rw[sp.size] at hk;exact hk),s.inS,Fr.refl _ _,s.defers,s.size,fun k d hk=>⟨(s.tmp k d hk).1,(s.tmp k d hk).2.cong hok⟩,fun b x hx=>?_,fun b x hx hl=>⟨by rw[sp.size];exact(s.own b x hx hl).1,.inl (hown b x hx hl)⟩,s.inj,fun g x hx=>?_,fun g zs hx=>?_⟩
 ·have hb:=s.blk b x hx
  cases x with
  |var T cs=>
   obtain⟨c,h1,h2,h3⟩:=hb
   exact⟨c,hS _ _ _ (hown b _ hx rfl) h1,h2,fun j hj=>(h3 j hj).cong hok⟩
  |row E l=>
   obtain⟨c,h1,h2,h3,h4,h5,h6,h7,h8,h9⟩:=hb
   exact⟨c,hS _ _ _ (hown b _ hx rfl) h1,h2,h3,h4,h5,h6,h7,h8,fun i j hi hj=>(h9 i j hi hj).cong hok⟩
  |froz l=>exact Rep.cong hb hok
  |fvar cs=>exact Rep.cong hb hok
  |moved b'=>exact hb
  |obj b' p=>
   obtain⟨h1,o,h2,h3,h4⟩:=hb
   refine⟨h1,o,?_,h3,h4⟩
   rw[sp.heap,h2]
   have hSb:S.S (ρ b).blk:=hown b _ hx rfl
   cases o<;>first|(simp only[aM,Am.spoil,hSb,if_true];done)|exact absurd rfl (h3 _ _)
  |gone=>trivial
 ·obtain⟨⟨h1,h2,h3⟩,ad,h4⟩:=s.gl.1 g x hx
  exact⟨⟨h1,h2,by rw[sp.size];exact h3⟩,ad,(sp.same h1 0).trans h4⟩
 ·obtain⟨⟨h1,h2,h3⟩,T,fz,h4⟩:=s.gl.2 g zs hx
  refine⟨⟨h1,h2,by rw[sp.size];exact h3⟩,T,?_⟩
  rw[sp.heap,h4]
  refine⟨(0,zs.length),?_⟩
  have h2':¬S.S g:=h2
  simp[Am.spoil,h2',h1]
end
end Go.Proofs.Ytbmnihglaokhmaa.Am
namespace Go.Proofs.Ytbmnihglaokhmaa.Am
open Go Go.RowKit Go.Conc
structure Gh where
 S:Nat→Prop
 R:Nat→Prop
 X:Nat→Nat→Prop:=fun _ _=>False
def Gh.A (γ:Gh)(k:Nat):Prop:=γ.S k∨γ.R k
def Gh.grow (γ:Gh)(w w':World):Gh:=⟨fun k=>γ.S k∨(w.heap.size≤k∧k<w'.heap.size),γ.R,γ.X⟩
theorem Gh.grow_same (γ:Gh){w w':World}(h:w'.heap.size=w.heap.size):γ.grow w w'=γ:=by
 cases γ with
 |mk S R X=>
  simp only[Gh.grow,Gh.mk.injEq,and_true]
  funext k
  simp only[eq_iff_iff]
  exact⟨fun h=>h.elim id fun h=>by omega,.inl⟩
def ShpB (b:Nat)(w w1:World):Prop:=∀(c:Array Value) (T:TypeId) (fz:Nat×Nat),w.heap[b]?=some (Obj.cells c T fz)→∃c':Array Value,w1.heap[b]?=some (Obj.cells c' T fz)∧c'.size=c.size
theorem ShpB.of {b:Nat}{w w1:World}(h:w1.heap[b]?=w.heap[b]?):ShpB b w w1:=fun c _ _ hc=>⟨c,h.trans hc,rfl⟩
theorem ShpB.trans {b:Nat}{u v w:World}(h:ShpB b u v)(k:ShpB b v w):ShpB b u w:=fun c T fz hc=>by
 obtain⟨c1,h1,h2⟩:=h c T fz hc
 obtain⟨c2,k1,k2⟩:=k c1 T fz h1
 exact⟨c2,k1,k2.trans h2⟩
structure Rel (γ:Gh)(w w1:World):Prop extends Fr (fun k=>¬γ.A k) w w1 where
 cell:∀b o,γ.X b o→w1.cell? ⟨b,o,none⟩=w.cell? ⟨b,o,none⟩
 shape:∀b o,γ.X b o→ShpB b w w1
theorem Rel.refl (γ:Gh)(w:World):Rel γ w w:=⟨Fr.refl _ w,fun _ _ _=>rfl,fun _ _ _=>ShpB.of rfl⟩
theorem Rel.trans {γ:Gh}{a b c:World}(h:Rel γ a b)(k:Rel γ b c):Rel γ a c:=
 ⟨⟨k.os.trans h.os,k.tape.trans h.tape,k.output.trans h.output,gK h.size k.size,fun i hi hn=>(k.block i (bU hi h.size) hn).trans (h.block i hi hn)⟩,fun b o hx=>(k.cell b o hx).trans (h.cell b o hx),fun b o hx=>(h.shape b o hx).trans (k.shape b o hx)⟩
theorem Rel.at (γ:Gh)(w:World)(d:Nat):Rel γ w (w.at d):=⟨⟨rfl,rfl,rfl,aN _,fun _ _ _=>rfl⟩,fun _ _ _=>rfl,fun _ _ _=>ShpB.of rfl⟩
theorem Rel.mono {γ γ':Gh}{a b:World}(h:Rel γ' a b)(hA:∀k,γ.A k→γ'.A k)(hX:∀b o,γ.X b o→γ'.X b o):Rel γ a b:=⟨Fr.mono h.toFr fun k hk hn=>hk (hA k hn),fun b o hx=>h.cell b o (hX b o hx),fun b o hx=>h.shape b o (hX b o hx)⟩
def EvOK (γ:Gh)(B:Nat)(e:Event):Prop:=Tou γ.A γ.S B e∨∃r wr,e=⟨.obj r,wr,false⟩∧r<B∧γ.S r
theorem EvOK.mono {γ γ':Gh}{B B':Nat}{e:Event}(h:EvOK γ B e)(hA:∀k,γ.A k→γ'.A k)(hS:∀k,γ.S k→γ'.S k)(hB:B≤B'):EvOK γ' B' e:=by
 rcases h with h|⟨r,wr,rfl,h1,h2⟩
 ·exact .inl (h.mono (fun k _ hk=>.inl (hA k hk)) (fun k _ hk=>hS k hk) hB)
 ·exact .inr ⟨r,wr,rfl,by omega,hS r h2⟩
structure Gua (γ:Gh)(w w':World)(es:Array Event):Prop where
 fr:Fr γ.S w w'
 ev:∀e∈es,EvOK (γ.grow w w') w'.heap.size e
theorem Gua.idle (γ:Gh)(w:World):Gua γ w w #[]:=⟨Fr.refl _ _,fun e he=>by simp at he⟩
section
variable {γ γ2 γ' γ2':Gh} {w0 w w1:World} {N:Nat→Prop}
structure Fra (γ γ2:Gh)(w0:World)(N:Nat→Prop)(γ' γ2':Gh)(w:World):Prop where
 new:∀k,N k→w0.heap.size≤k∧k<w.heap.size
 S:∀k,γ'.S k↔γ.S k∨N k
 S2:∀k,γ2'.S k↔γ2.S k∨N k
 R:γ'.R=γ.R
 R2:γ2'.R=γ2.R
 X:γ'.X=γ.X
 X2:γ2'.X=γ2.X
 fr:Fr (fun k=>¬γ2.A k∨γ.S k) w0 w
theorem Fra.refl (γ γ2:Gh)(w:World):Fra γ γ2 w (fun _=>False) γ γ2 w:=⟨fun k h=>h.elim,fun k=>by simp,fun k=>by simp,rfl,rfl,rfl,rfl,Fr.refl _ _⟩
theorem Fra.rely {γ γ2 γ' γ2':Gh}{w0:World}{N:Nat→Prop}(h:Fra γ γ2 w0 N γ' γ2' w)(hr:Rel γ2' w w1):Fra γ γ2 w0 N γ' γ2' w1:=by
 refine⟨fun k hk=>⟨(h.new k hk).1,bU (h.new k hk).2 hr.size⟩,h.S,h.S2,h.R,h.R2,h.X,h.X2,⟨hr.os.trans h.fr.os,hr.tape.trans h.fr.tape,hr.output.trans h.fr.output,gK h.fr.size hr.size,fun k hk hn=>?_⟩⟩
 refine(hr.block k (bU hk h.fr.size) fun hA=>hn (.inl fun hA2=>hA ?_)).trans (h.fr.block k hk hn)
 exact hA2.elim (fun x=>.inl ((h.S2 k).2 (.inl x))) (fun x=>.inr (by rw[h.R2];exact x))
theorem Fra.own {γ γ2 γ' γ2':Gh}{w0 w':World}{N:Nat→Prop}{es:Array Event}(h:Fra γ γ2 w0 N γ' γ2' w)(hg:Gua γ' w w' es):
  Fra γ γ2 w0 (fun k=>N k∨(w.heap.size≤k∧k<w'.heap.size)) (γ'.grow w w') (γ2'.grow w w') w':=by
 refine⟨fun k hk=>?_,fun k=>?_,fun k=>?_,h.R,h.R2,h.X,h.X2,⟨hg.fr.os.trans h.fr.os,hg.fr.tape.trans h.fr.tape,hg.fr.output.trans h.fr.output,gK h.fr.size hg.fr.size,fun k hk hn=>?_⟩⟩
 ·rcases hk with hk|hk
  ·exact⟨(h.new k hk).1,bU (h.new k hk).2 hg.fr.size⟩
  ·exact⟨gK h.fr.size hk.1,hk.2⟩
 ·simp only[Gh.grow,h.S,or_assoc]
 ·simp only[Gh.grow,h.S2,or_assoc]
 ·refine(hg.fr.block k (bU hk h.fr.size) fun hs=>?_).trans (h.fr.block k hk hn)
  rcases (h.S k).1 hs with hs|hs
  ·exact hn (.inr hs)
  ·have:=(h.new k hs).1;omega
theorem Fra.trans {γ3 γ4:Gh}{w2:World}{M:Nat→Prop}(h:Fra γ γ2 w0 N γ' γ2' w)(k:Fra γ' γ2' w M γ3 γ4 w2):Fra γ γ2 w0 (fun k=>N k∨M k) γ3 γ4 w2:=by
 refine⟨fun x hx=>?_,fun x=>?_,fun x=>?_,k.R.trans h.R,k.R2.trans h.R2,k.X.trans h.X,k.X2.trans h.X2,⟨k.fr.os.trans h.fr.os,k.fr.tape.trans h.fr.tape,k.fr.output.trans h.fr.output,gK h.fr.size k.fr.size,fun x hx hn=>?_⟩⟩
 ·rcases hx with hx|hx
  ·exact⟨(h.new x hx).1,bU (h.new x hx).2 k.fr.size⟩
  ·exact⟨gK h.fr.size (k.new x hx).1,(k.new x hx).2⟩
 ·rw[k.S,h.S,or_assoc]
 ·rw[k.S2,h.S2,or_assoc]
 ·refine(k.fr.block x (bU hx h.fr.size) fun hc=>hn ?_).trans (h.fr.block x hx hn)
  rcases hc with hc|hc
  ·refine .inl fun hA=>hc ?_
   exact hA.elim (fun y=>.inl ((h.S2 x).2 (.inl y))) (fun y=>.inr (by rw[h.R2];exact y))
  ·rcases (h.S x).1 hc with hc|hc
   ·exact .inr hc
   ·have:=(h.new x hc).1;omega
end
class PhC (P:Program) where
 ph:Gh→Goroutine→World→(Gh→Goroutine→World→Prop)→Prop
 mono:∀{γ:Gh} {g:Goroutine} {w:World} {K K':Gh→Goroutine→World→Prop},ph γ g w K→(∀γ' g' w',K γ' g' w'→K' γ' g' w')→ph γ g w K'
 frame:∀{γ γ2:Gh} {g:Goroutine} {w:World} {K:Gh→Goroutine→World→Prop},(∀k,γ.S k→γ2.S k)→(∀k,γ.A k→γ2.A k)→(∀b o,γ.X b o→γ2.X b o)→ph γ g w K→
  ph γ2 g w (fun γ2' g' w'=>∃γ' N,K γ' g' w'∧Fra γ γ2 w N γ' γ2' w')
@[reducible] def noPh (P:Program):PhC P:=⟨fun _ _ _ _=>False,fun h _=>h,fun _ _ _ h=>h⟩
def GoesG (P:Program)[PhC P](main:Bool)(Stop:Gh→Goroutine→World→Prop):Nat→Gh→Goroutine→World→Prop
 |0,γ,g,w=>∀w1,Rel γ w w1→Stop γ g w1
 |n+1,γ,g,w=>(∀w1,Rel γ w w1→Stop γ g w1)∨(g.status= .running∧∀w1,Rel γ w w1→(stepG P main g w1).goes fun g' w' es=>Gua γ w1 w' es∧GoesG P main Stop n (γ.grow w1 w') g' w')∨
  (g.status= .running∧∀w1,Rel γ w w1→PhC.ph P γ g w1 (fun γ' g' w'=>GoesG P main Stop n γ' g' w'))
section
variable {P:Program} [PhC P] {main:Bool} {Stop:Gh→Goroutine→World→Prop} {γ:Gh} {g g':Goroutine} {w w1:World} {n m:Nat}
theorem GoesG.stop (h:∀w1,Rel γ w w1→Stop γ g w1):GoesG P main Stop n γ g w:=by
 cases n with
 |zero=>exact h
 |succ n=>exact .inl h
theorem GoesG.step (hs:g.status= .running)(h:∀w1,Rel γ w w1→(stepG P main g w1).goes fun g' w' es=>Gua γ w1 w' es∧GoesG P main Stop n (γ.grow w1 w') g' w'):GoesG P main Stop (n+1) γ g w:=.inr (.inl ⟨hs,h⟩)
theorem GoesG.phase (hs:g.status= .running)(h:∀w1,Rel γ w w1→PhC.ph P γ g w1 (fun γ' g' w'=>GoesG P main Stop n γ' g' w')):GoesG P main Stop (n+1) γ g w:=.inr (.inr ⟨hs,h⟩)
theorem GoesG.rely (h:GoesG P main Stop n γ g w)(hr:Rel γ w w1):GoesG P main Stop n γ g w1:=by
 cases n with
 |zero=>exact fun w2 h2=>h w2 (hr.trans h2)
 |succ n=>
  rcases h with h|⟨hs,h⟩|⟨hs,h⟩
  ·exact .inl fun w2 h2=>h w2 (hr.trans h2)
  ·exact .inr (.inl ⟨hs,fun w2 h2=>h w2 (hr.trans h2)⟩)
  ·exact .inr (.inr ⟨hs,fun w2 h2=>h w2 (hr.trans h2)⟩)
theorem fo {s:GStep}{K K':Goroutine→World→Array Event→Prop}(h:s.goes K)(hk:∀g w es,K g w es→K' g w es):s.goes K':=by
 revert h
 cases s<;>simp only[GStep.goes,imp_self]
 exact hk _ _ _
theorem GoesG.more (h:GoesG P main Stop n γ g w):GoesG P main Stop (n+1) γ g w:=by
 induction n generalizing γ g w with
 |zero=>exact .inl h
 |succ n ih=>
  rcases h with h|⟨hs,h⟩|⟨hs,h⟩
  ·exact .inl h
  ·exact .inr (.inl ⟨hs,fun w1 h1=>fo (h w1 h1) fun g' w' es ⟨d,x⟩=>⟨d,ih x⟩⟩)
  ·exact .inr (.inr ⟨hs,fun w1 h1=>PhC.mono (h w1 h1) fun γ' g' w' x=>ih x⟩)
theorem GoesG.mono (h:GoesG P main Stop n γ g w)(hn:n≤m):GoesG P main Stop m γ g w:=by
 induction hn with
 |refl=>exact h
 |step _ ih=>exact ih.more
theorem GoesG.quiet (hs:g.status= .running)(h:∀w,stepG P main g w= .go g' w #[])(hg:GoesG P main Stop n γ g' w):GoesG P main Stop (n+1) γ g w:=
 GoesG.step hs fun w1 h1=>by
  rw[h w1]
  refine⟨Gua.idle _ _,?_⟩
  rw[Gh.grow_same γ rfl]
  exact hg.rely h1
theorem GoesG.bind {Stop':Gh→Goroutine→World→Prop}(h:GoesG P main Stop n γ g w)(hk:∀γ' g' w',(∀w1,Rel γ' w' w1→Stop γ' g' w1)→GoesG P main Stop' m γ' g' w'):GoesG P main Stop' (m+n) γ g w:=by
 induction n generalizing γ g w with
 |zero=>exact hk _ _ _ h
 |succ n ih=>
  rcases h with h|⟨hs,h⟩|⟨hs,h⟩
  ·exact(hk _ _ _ h).mono (by omega)
  ·exact .inr (.inl ⟨hs,fun w1 h1=>fo (h w1 h1) fun g' w' es ⟨d,x⟩=>⟨d,ih x⟩⟩)
  ·exact .inr (.inr ⟨hs,fun w1 h1=>PhC.mono (h w1 h1) fun γ' g' w' x=>ih x⟩)
theorem GoesG.impl {Stop':Gh→Goroutine→World→Prop}(h:GoesG P main Stop n γ g w)(hk:∀γ' g' w',Stop γ' g' w'→Stop' γ' g' w'):GoesG P main Stop' n γ g w:=by
 induction n generalizing γ g w with
 |zero=>exact fun w1 h1=>hk _ _ _ (h w1 h1)
 |succ n ih=>
  rcases h with h|⟨hs,h⟩|⟨hs,h⟩
  ·exact .inl fun w1 h1=>hk _ _ _ (h w1 h1)
  ·exact .inr (.inl ⟨hs,fun w1 h1=>fo (h w1 h1) fun g' w' es ⟨d,x⟩=>⟨d,ih x⟩⟩)
  ·exact .inr (.inr ⟨hs,fun w1 h1=>PhC.mono (h w1 h1) fun γ' g' w' x=>ih x⟩)
theorem GoesG.frame {γ γ2:Gh}(hS:∀k,γ.S k→γ2.S k)(hA:∀k,γ.A k→γ2.A k)(hX:∀b o,γ.X b o→γ2.X b o)(h:GoesG P main Stop n γ g w):
  GoesG P main (fun γ2' g' w'=>∃γ' N,Stop γ' g' w'∧Fra γ γ2 w N γ' γ2' w') n γ2 g w:=by
 have key:∀(n:Nat) (γ' γ2':Gh) (g:Goroutine) (w1:World) (N:Nat→Prop),Fra γ γ2 w N γ' γ2' w1→GoesG P main Stop n γ' g w1→GoesG P main (fun γ2' g' w'=>∃γ' N,Stop γ' g' w'∧Fra γ γ2 w N γ' γ2' w') n γ2' g w1:=by
  intro n
  induction n with
  |zero=>
   intro γ' γ2' g w1 N hf h w2 h2
   have hA':∀k,γ'.A k→γ2'.A k:=fun k hk=>hk.elim (fun x=>((hf.S k).1 x).elim (fun x=>.inl ((hf.S2 k).2 (.inl (hS k x)))) (fun x=>.inl ((hf.S2 k).2 (.inr x)))) (fun x=>by
    rw[hf.R] at x
    exact(hA k (.inr x)).elim (fun x=>.inl ((hf.S2 k).2 (.inl x))) (fun x=>.inr (by rw[hf.R2];exact x)))
   have hX':∀b o,γ'.X b o→γ2'.X b o:=fun b o hx=>by rw[hf.X2];rw[hf.X] at hx;exact hX b o hx
   exact⟨γ',N,h w2 (h2.mono hA' hX'),hf.rely h2⟩
  |succ n ih=>
   intro γ' γ2' g w1 N hf h
   have hS':∀k,γ'.S k→γ2'.S k:=fun k hk=>(hf.S2 k).2 (((hf.S k).1 hk).imp (hS k) id)
   have hA':∀k,γ'.A k→γ2'.A k:=fun k hk=>hk.elim (fun x=>.inl (hS' k x)) (fun x=>by
    rw[hf.R] at x
    exact(hA k (.inr x)).elim (fun x=>.inl ((hf.S2 k).2 (.inl x))) (fun x=>.inr (by rw[hf.R2];exact x)))
   have hX':∀b o,γ'.X b o→γ2'.X b o:=fun b o hx=>by rw[hf.X2];rw[hf.X] at hx;exact hX b o hx
   rcases h with h|⟨hs,h⟩|⟨hs,h⟩
   ·exact .inl fun w2 h2=>⟨γ',N,h w2 (h2.mono hA' hX'),hf.rely h2⟩
   rotate_left
   ·refine .inr (.inr ⟨hs,fun w2 h2=>PhC.mono (PhC.frame hS' hA' hX' (h w2 (h2.mono hA' hX'))) ?_⟩)
    rintro γ3 g' w' ⟨γ4,M,hG,hf'⟩
    exact ih _ _ _ _ _ ((hf.rely h2).trans hf') hG
   ·refine .inr (.inl ⟨hs,fun w2 h2=>fo (h w2 (h2.mono hA' hX')) fun g' w' es ⟨d,x⟩=>⟨⟨Fr.mono d.fr hS',fun e he=>(d.ev e he).mono (fun k hk=>?_) (fun k hk=>?_) (aN _)⟩,?_⟩⟩)
    ·exact hk.elim (fun x=>x.elim (fun x=>.inl (.inl (hS' k x))) (fun x=>.inl (.inr x))) (fun x=>(hA' k (.inr x)).elim (fun x=>.inl (.inl x)) .inr)
    ·exact hk.imp (hS' k) id
    ·exact ih _ _ _ _ _ ((hf.rely h2).own d) x
 exact key n γ γ2 g w _ (Fra.refl γ γ2 w) h
end
section
variable {P:Program} [PhC P] {main:Bool}
def AfterG (P:Program)[PhC P](main:Bool)(Stop:Gh→Goroutine→World→Prop)(m:Nat)(b:Frame)(k:List Item)(cs:List Frame)(γ:Gh):Exit→Act→World→Prop
 | .normal,a,w=>GoesG P main Stop m γ (G (b.at a k) cs) w
 | .exit id,a,w=>∃k',exitTo id k=some k'∧GoesG P main Stop m γ (G (b.at a k') cs) w
 | .ret,a,w=>∀todo,GoesG P main Stop m γ (G {b.at a todo with mode:=.returning} cs) w
 |_,_,_=>False
theorem AfterG.mono {Stop:Gh→Goroutine→World→Prop}{m m':Nat}{b:Frame}{k:List Item}{cs:List Frame}{γ:Gh}{e:Exit}{a:Act}{w:World}(h:AfterG P main Stop m b k cs γ e a w)(hm:m≤m'):AfterG P main Stop m' b k cs γ e a w:=by
 cases e with
 |normal=>exact GoesG.mono h hm
 |exit id=>obtain⟨k',hk,hg⟩:=h;exact⟨k',hk,hg.mono hm⟩
 |ret=>exact fun todo=>(h todo).mono hm
 |_=>exact h
theorem AfterG.push {Stop:Gh→Goroutine→World→Prop}{m:Nat}{b:Frame}{x:Item}{k:List Item}{cs:List Frame}{γ:Gh}{e:Exit}{a:Act}{w:World}(hx:x.plain=true)(he:e≠ .normal)
  (h:AfterG P main Stop m b k cs γ e a w):AfterG P main Stop m b (x::k) cs γ e a w:=by
 cases e with
 |normal=>exact absurd rfl he
 |exit id=>obtain⟨k',hk,hg⟩:=h;exact⟨k',by cases x<;>simp_all[exitTo,Item.plain],hg⟩
 |_=>exact h
def wpG (P:Program)[PhC P](main:Bool)(c:Code)(n:Nat)(Q:Gh→Exit→Act→World→Prop)(γ:Gh)(a:Act)(w:World):Prop:=
 ∀(b:Frame) (k:List Item) (cs:List Frame) (Stop:Gh→Goroutine→World→Prop) (m:Nat),b.kind≠ .early→
  (∀γ' e a' w',Q γ' e a' w'→AfterG P main Stop m b k cs γ' e a' w')→GoesG P main Stop (m+n) γ (G (b.at a (.code c::k)) cs) w
def OpsG (P:Program)[PhC P](main:Bool)(ops:Array Oper)(todo:List Nat)(n:Nat)(Q:Gh→Exit→Act→World→Prop)(γ:Gh)(a:Act)(w:World):Prop:=
 ∀(b:Frame) (k:List Item) (cs:List Frame) (Stop:Gh→Goroutine→World→Prop) (m:Nat),b.kind≠ .early→
  (∀γ' e a' w',Q γ' e a' w'→AfterG P main Stop m b k cs γ' e a' w')→GoesG P main Stop (m+n) γ (G (b.at a (.inRegion ops todo::k)) cs) w
def OpG (P:Program)[PhC P](main:Bool)(o:Oper)(n:Nat)(γ:Gh)(a:Act)(w:World)(K:Gh→Act→World→Prop):Prop:=
 ∀(ops:Array Oper) (i:Nat) (rest:List Nat) (b:Frame) (k:List Item) (cs:List Frame) (Stop:Gh→Goroutine→World→Prop) (m:Nat),b.kind≠ .early→ops[i]?=some o→Region.wanted o (yielded ops a.tmps)=true→
  (∀γ' a' w',K γ' a' w'→GoesG P main Stop m γ' (G (b.at a' (.inRegion ops rest::k)) cs) w')→GoesG P main Stop (m+n) γ (G (b.at a (.inRegion ops (i::rest)::k)) cs) w
variable {Q:Gh→Exit→Act→World→Prop} {γ:Gh} {a:Act} {w:World} {n:Nat}
theorem wpG.mono {c:Code}{n':Nat}{Q':Gh→Exit→Act→World→Prop}(h:wpG P main c n Q γ a w)(hn:n≤n')(hq:∀γ e a w,Q γ e a w→Q' γ e a w):wpG P main c n' Q' γ a w:=
 fun b k cs Stop m hk hc=>(h b k cs Stop m hk fun γ' e a' w' q=>hc γ' e a' w' (hq γ' e a' w' q)).mono (by omega)
theorem wpG.rely {c:Code}{w1:World}(h:wpG P main c n Q γ a w)(hr:Rel γ w w1):wpG P main c n Q γ a w1:=fun b k cs Stop m hk hc=>(h b k cs Stop m hk hc).rely hr
theorem OpsG.mono {ops:Array Oper}{todo:List Nat}{n':Nat}(h:OpsG P main ops todo n Q γ a w)(hn:n≤n'):OpsG P main ops todo n' Q γ a w:=fun b k cs Stop m hk hc=>(h b k cs Stop m hk hc).mono (by omega)
theorem OpG.mono {o:Oper}{n':Nat}{K K':Gh→Act→World→Prop}(h:OpG P main o n γ a w K)(hn:n≤n')(hK:∀γ a w,K γ a w→K' γ a w):OpG P main o n' γ a w K':=
 fun ops i rest b k cs Stop m hk ho hw hc=>(h ops i rest b k cs Stop m hk ho hw fun γ' a' w' q=>hc γ' a' w' (hK γ' a' w' q)).mono (by omega)
theorem vt (h:Q γ .normal a w):wpG P main .skip 1 Q γ a w:=fun b k cs Stop m _ hc=>GoesG.quiet rfl (fun w=>stepG_skip) (hc _ _ _ _ h)
theorem Du (h:Q γ .ret a w):wpG P main .ret 1 Q γ a w:=fun b k cs Stop m _ hc=>GoesG.quiet rfl (fun w=>stepG_ret') (hc _ _ _ _ h _)
theorem Ch {id:Nat}(h:Q γ (.exit id) a w):wpG P main (.exit id) 1 Q γ a w:=fun b k cs Stop m _ hc=>by
 obtain⟨k',hk',hg⟩:=hc _ _ _ _ h
 exact GoesG.quiet rfl (fun w=>stepG_exit hk') hg
theorem sX {x y:Code}{n1 n2:Nat}(h:wpG P main x n1 (fun γ' e a' w'=>match e with| .normal=>wpG P main y n2 Q γ' a' w'|e=>Q γ' e a' w') γ a w):wpG P main (.seq x y) (n1+n2+1) Q γ a w:=by
 intro b k cs Stop m hk hc
 have hx:GoesG P main Stop (m+n2+n1) γ (G (b.at a (.code x:: .code y::k)) cs) w:=by
  refine h b (.code y::k) cs Stop (m+n2) hk fun γ' e a' w' q=>?_
  cases e with
  |normal=>exact q b k cs Stop m hk hc
  |exit id=>exact((hc _ _ _ _ q).mono (Nat.le_add_right _ _)).push rfl (by simp)
  |ret=>exact((hc _ _ _ _ q).mono (Nat.le_add_right _ _)).push (x:=.code y) rfl (by simp)
  |goto l=>exact hc _ _ _ _ q
  |panic ch=>exact hc _ _ _ _ q
  |outgrown=>exact hc _ _ _ _ q
 have e:m+(n1+n2+1)=(m+n2+n1)+1:=by omega
 rw[e]
 exact GoesG.quiet rfl (fun w=>stepG_seq) hx
theorem vq {c:Operand}{x y:Code}{t:Bool}(hc:a.eval c= .bool t)(h:wpG P main (if t then x else y) n Q γ a w):wpG P main (.cond c x y) (n+1) Q γ a w:=
 fun b k cs Stop m hk hq=>GoesG.quiet rfl (fun w=>stepG_cond hc) (h b k cs Stop m hk hq)
theorem rA {id:Nat}{c:Code}(h:wpG P main c n (fun γ' e a' w'=>Q γ' (match e with| .exit i=>if i=id then .normal else .exit i|e=>e) a' w') γ a w):wpG P main (.block id c) (n+2) Q γ a w:=by
 intro b k cs Stop m hk hc
 have hx:GoesG P main Stop (m+1+n) γ (G (b.at a (.code c:: .inBlock id::k)) cs) w:=by
  refine h b (.inBlock id::k) cs Stop (m+1) hk fun γ' e a' w' q=>?_
  cases e with
  |normal=>exact GoesG.quiet rfl (fun w=>stepG_inBlock) (hc _ _ _ _ q)
  |exit id'=>
   by_cases hid:id'=id
   ·simp only[hid,if_true] at q
    exact⟨k,by simp[exitTo,hid],GoesG.more (hc _ _ _ _ q)⟩
   ·simp only[hid,if_false] at q
    obtain⟨k',hk',hg⟩:=hc _ _ _ _ q
    have:(id==id')=false:=by simp;exact fun h=>hid h.symm
    exact⟨k',by simp[exitTo,this,hk'],hg.more⟩
  |ret=>exact fun todo=>(hc _ _ _ _ q todo).more
  |goto l=>exact hc _ _ _ _ q
  |panic ch=>exact hc _ _ _ _ q
  |outgrown=>exact hc _ _ _ _ q
 have e:m+(n+2)=(m+1+n)+1:=by omega
 rw[e]
 exact GoesG.quiet rfl (fun w=>stepG_block) hx
def LoopG (P:Program)[PhC P](main:Bool)(c:Code)(n:Nat)(Q:Gh→Exit→Act→World→Prop)(γ:Gh)(a:Act)(w:World):Prop:=
 ∀(b:Frame) (k:List Item) (cs:List Frame) (Stop:Gh→Goroutine→World→Prop) (m:Nat),b.kind≠ .early→
  (∀γ' e a' w',Q γ' e a' w'→AfterG P main Stop m b k cs γ' e a' w')→GoesG P main Stop (m+n) γ (G (b.at a (.code c:: .inLoop c::k)) cs) w
theorem LoopG.round {c:Code}{n1 n2:Nat}(h:wpG P main c n1 (fun γ' e a' w'=>match e with| .normal=>LoopG P main c n2 Q γ' a' w'|e=>Q γ' e a' w') γ a w):LoopG P main c (n1+n2+1) Q γ a w:=by
 intro b k cs Stop m hk hc
 have hx:GoesG P main Stop (m+n2+1+n1) γ (G (b.at a (.code c:: .inLoop c::k)) cs) w:=by
  refine h b (.inLoop c::k) cs Stop (m+n2+1) hk fun γ' e a' w' q=>?_
  cases e with
  |normal=>exact GoesG.quiet rfl (fun w=>stepG_inLoop) (q b k cs Stop m hk hc)
  |exit id=>exact((hc _ _ _ _ q).mono (by omega)).push rfl (by simp)
  |ret=>exact((hc _ _ _ _ q).mono (by omega)).push (x:=.inLoop c) rfl (by simp)
  |goto l=>exact hc _ _ _ _ q
  |panic ch=>exact hc _ _ _ _ q
  |outgrown=>exact hc _ _ _ _ q
 exact hx.mono (by omega)
theorem vr {c:Code}(h:LoopG P main c n Q γ a w):wpG P main (.loop c) (n+1) Q γ a w:=fun b k cs Stop m hk hc=>GoesG.quiet rfl (fun w=>stepG_loop) (h b k cs Stop m hk hc)
theorem lb {id:Nat}{ops:Array Oper}(h:OpsG P main ops (List.range ops.size) n Q γ a w):wpG P main (.region id ops false) (n+1) Q γ a w:=
 fun b k cs Stop m hk hc=>GoesG.quiet rfl (fun w=>stepG_region) (h b k cs Stop m hk hc)
theorem jU {ops:Array Oper}(h:Q γ .normal a w):OpsG P main ops [] 1 Q γ a w:=fun b k cs Stop m _ hc=>GoesG.quiet rfl (fun w=>stepG_region_end) (hc _ _ _ _ h)
theorem iP {ops:Array Oper}{i:Nat}{rest:List Nat}{o:Oper}{n1 n2:Nat}(ho:ops[i]?=some o)(hw:Region.wanted o (yielded ops a.tmps)=true)(h:OpG P main o n1 γ a w fun γ' a' w'=>OpsG P main ops rest n2 Q γ' a' w'):OpsG P main ops (i::rest) (n1+n2) Q γ a w:=by
 intro b k cs Stop m hk hc
 exact(h ops i rest b k cs Stop (m+n2) hk ho hw fun γ' a' w' q=>q b k cs Stop m hk hc).mono (by omega)
theorem iu {ops:Array Oper}{i:Nat}{rest:List Nat}{o:Oper}(ho:ops[i]?=some o)(hw:Region.wanted o (yielded ops a.tmps)=false)(h:OpsG P main ops rest n Q γ (a.put o.dst undef) w):OpsG P main ops (i::rest) (n+1) Q γ a w:=
 fun b k cs Stop m hk hc=>GoesG.quiet rfl (fun w=>stepG_unwanted ho hw) (h b k cs Stop m hk hc)
def ju (P:Program)[PhC P](main:Bool)(md:Region.Mode)(ops:Array Oper)(nn:Nat)(Q:Gh→Exit→Act→World→Prop):Nat→Array Bool→Gh→Act→World→Prop
 |0,listed,γ,a,w=>Region.ready md ops listed=[]∧Q γ .normal a w
 |fuel+1,listed,γ,a,w=>(Region.ready md ops listed=[]→Q γ .normal a w)∧
  ∀i∈Region.ready md ops listed,∃o,ops[i]?=some o∧
   ((Region.wanted o (yielded ops a.tmps)=true∧OpG P main o nn γ a w fun γ' a' w'=>ju P main md ops nn Q fuel (listed.setIfInBounds i true) γ' a' w')∨
    (Region.wanted o (yielded ops a.tmps)=false∧ju P main md ops nn Q fuel (listed.setIfInBounds i true) γ (a.put o.dst undef) w))
theorem vJ {md:Region.Mode}{ops:Array Oper}{nn:Nat}:∀(fuel t:Nat) (listed:Array Bool) (γ:Gh) (a:Act) (w:World),ju P main md ops nn Q fuel listed γ a w→
  OpsG P main ops (Region.linearise.go md ops fuel t listed []) (fuel*(nn+1)+1) Q γ a w:=by
 intro fuel
 induction fuel with
 |zero=>intro t listed γ a w h;simpa[Region.linearise.go] using jU h.2
 |succ fuel ih=>
  intro t listed γ a w h
  obtain⟨h0,h1⟩:=h
  simp only[Region.linearise.go]
  change OpsG P main ops (match(Region.ready md ops listed)[t % (Region.ready md ops listed).length]? with
   |some i=>Region.linearise.go md ops fuel (t/(Region.ready md ops listed).length) (listed.setIfInBounds i true) [i]
   |none=>[].reverse) ((fuel+1)*(nn+1)+1) Q γ a w
  cases hi:(Region.ready md ops listed)[t % (Region.ready md ops listed).length]? with
  |none=>
   have hnil:Region.ready md ops listed=[]:=by
    cases hr:Region.ready md ops listed with
    |nil=>rfl
    |cons x xs=>
     rw[hr] at hi
     have hlt:t % (x::xs).length<(x::xs).length:=Nat.mod_lt _ (by simp)
     rw[a6 hlt] at hi
     cases hi
   exact OpsG.mono (by simpa using jU (h0 hnil)) (by omega)
  |some i=>
   simp only[]
   rw[linearise_go_acc,List.reverse_singleton,List.singleton_append]
   obtain⟨o,ho,h2⟩:=h1 i (dm hi)
   have e:(fuel+1)*(nn+1)+1=(nn+1)+(fuel*(nn+1)+1):=by rw[Nat.succ_mul];omega
   rw[e]
   rcases h2 with⟨hw,h2⟩|⟨hw,h2⟩
   ·exact(iP (n1:=nn) ho hw (h2.mono (aN _) fun γ' a' w' h3=>ih _ _ γ' a' w' h3)).mono (by omega)
   ·exact(iu ho hw (ih _ _ _ _ _ h2)).mono (by omega)
theorem j5 {id:Nat}{ops:Array Oper}{nn:Nat}(hm:P.follows .mixedOrders=true)(h:∀w1,Rel γ w w1→ju P main .any ops nn Q ops.size (Array.replicate ops.size false) γ a {w1 with drawn:=w1.drawn+1}):
  wpG P main (.region id ops true) (ops.size*(nn+1)+2) Q γ a w:=by
 intro b k cs Stop m hk hc
 refine GoesG.step (n:=m+(ops.size*(nn+1)+1)) rfl fun w1 h1=>?_
 rw[stepG_region_draw]
 refine⟨⟨⟨rfl,rfl,rfl,aN _,fun _ _ _=>rfl⟩,fun e he=>by simp at he⟩,?_⟩
 rw[Gh.grow_same γ (w:=w1) (w':={w1 with drawn:=w1.drawn+1}) rfl]
 have:=vJ ops.size (w1.tape w1.drawn (.order b.fn id)) _ _ _ _ (h w1 h1) b k cs Stop m hk hc
 simp only[Region.schedule,hm,Bool.true_or,if_true]
 exact this
def rD (P:Program)(f:FuncId)(fn:Func)(cs:List Frame)(Post:Gh→Value→World→Prop)(γ:Gh)(g:Goroutine)(w:World):Prop:=
 ∃(a:Act) (todo:List Item) (v:Value),g=G {(base f).at a todo with mode:=.returning} cs∧a.defers=[]∧(results fn a.tmps).run P w= .ok v w∧(∀e∈(results fn a.tmps).events P w #[],EvOK γ w.heap.size e)∧Post γ v w
def CallsG (P:Program)[PhC P](main:Bool)(f:FuncId)(args:Array Value)(n:Nat)(γ:Gh)(w:World)(Post:Gh→Value→World→Prop):Prop:=
 ∃fn,P.funcs[f]?=some fn∧∀cs,GoesG P main (rD P f fn cs Post) n γ (G (Frame.enter P f args .normal) cs) w
theorem CallsG.mono {f:FuncId}{args:Array Value}{n':Nat}{Post Post':Gh→Value→World→Prop}(h:CallsG P main f args n γ w Post)(hn:n≤n')(hp:∀γ v w,Post γ v w→Post' γ v w):CallsG P main f args n' γ w Post':=by
 obtain⟨fn,hf,h⟩:=h
 exact⟨fn,hf,fun cs=>((h cs).impl fun γ' g' w' ⟨a,todo,v,h1,h2,h3,h4,h5⟩=>⟨a,todo,v,h1,h2,h3,h4,hp _ _ _ h5⟩).mono hn⟩
theorem CallsG.rely {f:FuncId}{args:Array Value}{Post:Gh→Value→World→Prop}{w1:World}(h:CallsG P main f args n γ w Post)(hr:Rel γ w w1):CallsG P main f args n γ w1 Post:=by
 obtain⟨fn,hf,h⟩:=h
 exact⟨fn,hf,fun cs=>(h cs).rely hr⟩
theorem CallsG.frame {γ2:Gh}{f:FuncId}{args:Array Value}{Post:Gh→Value→World→Prop}(hS:∀k,γ.S k→γ2.S k)(hA:∀k,γ.A k→γ2.A k)(hX:∀b o,γ.X b o→γ2.X b o)(h:CallsG P main f args n γ w Post):
  CallsG P main f args n γ2 w (fun γ2' v w'=>∃γ' N,Post γ' v w'∧Fra γ γ2 w N γ' γ2' w'):=by
 obtain⟨fn,hf,h⟩:=h
 refine⟨fn,hf,fun cs=>((h cs).frame hS hA hX).impl ?_⟩
 rintro γ2' g' w' ⟨γ',N,⟨a,todo,v,h1,h2,h3,h4,h5⟩,hfr⟩
 have hS':∀k,γ'.S k→γ2'.S k:=fun k hk=>(hfr.S2 k).2 (((hfr.S k).1 hk).imp (hS k) id)
 exact⟨a,todo,v,h1,h2,h3,fun e he=>(h4 e he).mono (fun k hk=>hk.elim (fun x=>.inl (hS' k x)) fun x=>by
  rw[hfr.R] at x
  exact(hA k (.inr x)).elim (fun x=>.inl ((hfr.S2 k).2 (.inl x))) (fun x=>.inr (by rw[hfr.R2];exact x))) hS' (aN _),γ',N,h5,hfr⟩
def yJ (P:Program)(fn:Func)(Post:Gh→Value→World→Prop)(γ:Gh):Exit→Act→World→Prop
 | .normal,a,w| .ret,a,w=>a.defers=[]∧∀w1,Rel γ w w1→∃v,(results fn a.tmps).run P w1= .ok v w1∧(∀e∈(results fn a.tmps).events P w1 #[],EvOK γ w1.heap.size e)∧Post γ v w1
 |_,_,_=>False
theorem rN {f:FuncId}{fn:Func}{c:Code}{args:Array Value}{Post:Gh→Value→World→Prop}(hf:P.funcs[f]?=some fn)(hb:fn.body=some c)
  (h:wpG P main c n (yJ P fn Post) γ {tmps:=args++Array.replicate (fn.ntmps-args.size) undef,defers:=[]} w):CallsG P main f args (n+1) γ w Post:=by
 refine⟨fn,hf,fun cs=>?_⟩
 rw[enter_at args hf hb]
 have leave:∀(γ':Gh) (a':Act) (w':World) (todo:List Item),(a'.defers=[]∧∀w1,Rel γ' w' w1→∃v,(results fn a'.tmps).run P w1= .ok v w1∧(∀e∈(results fn a'.tmps).events P w1 #[],EvOK γ' w1.heap.size e)∧Post γ' v w1)→
   GoesG P main (rD P f fn cs Post) 0 γ' (G {(base f).at a' todo with mode:=.returning} cs) w':=by
  rintro γ' a' w' todo ⟨hd,hr⟩ w1 h1
  obtain⟨v,r1,r2,r3⟩:=hr w1 h1
  exact⟨a',todo,v,rfl,hd,r1,r2,r3⟩
 have:=h (base f) [] cs (rD P f fn cs Post) 1 (by simp[base]) fun γ' e a' w' q=>by
  cases e with
  |normal=>exact GoesG.quiet rfl (fun w=>stepG_end) (leave γ' a' w' [] q)
  |ret=>exact fun todo=>(leave γ' a' w' todo q).more
  |_=>exact q.elim
 exact this.mono (by omega)
omit [PhC P] in
theorem sM {fn:Func}{b c:Frame}{cs:List Frame}{todo:List Item}{v:Value}(hn:b.kind= .normal)(hd:a.defers=[])(hf:P.funcs[b.fn]?=some fn)
  (hr:(results fn a.tmps).run P w= .ok v w):stepG P main (G {b.at a todo with mode:=.returning} (c::cs)) w= .go (G (c.finish v) cs) w (seen P b.fn ((results fn a.tmps).events P w #[])):=by
 simp[G,stepG,unwind,doReturn,Frame.at,hn,hd,hf,hr,GStep.after]
theorem uv {o:Oper}{f:FuncId}{args:Array Value}{K:Gh→Act→World→Prop}(hop:∀w,(execOp a.eval o).run P w= .ok (.enter f args) w)(hev:∀w,(execOp a.eval o).events P w #[]= #[])
  (h:CallsG P main f args n γ w fun γ' v w'=>K γ' (a.put o.dst v) w'):OpG P main o (n+2) γ a w K:=by
 intro ops i rest b k cs Stop m hk ho hw hc
 obtain⟨fn,hf,h⟩:=h
 have hfin:∀v,(b.at a (.inRegion ops (i::rest)::k)).finish v=b.at (a.put o.dst v) (.inRegion ops rest::k):=fun v=>by rw[Frame.finish_at,ho];rfl
 refine GoesG.quiet (n:=m+n+1) rfl (fun w=>by
  rw[stepG_enter ho hw hk (hop w)]
  unfold listed
  rw[hev w,seen_none]) ?_
 have:=(h (b.at a (.inRegion ops (i::rest)::k)::cs)).bind (m:=m+1) (Stop':=Stop) fun γ' g' w' hst=>by
  have hrun:g'.status= .running:=by
   obtain⟨a',todo,v,e1,_⟩:=hst w' (Rel.refl _ _)
   rw[e1];rfl
  refine GoesG.step hrun fun w1 h1=>?_
  obtain⟨a',todo,v,e1,e2,e3,e4,e5⟩:=hst w1 h1
  rw[e1,sM (b:=base f) rfl e2 hf e3,hfin]
  refine⟨⟨Fr.refl _ _,fun e he=>?_⟩,?_⟩
  ·rw[Gh.grow_same γ' rfl];exact e4 e (mem_seen he)
  ·rw[Gh.grow_same γ' rfl];exact hc _ _ _ e5
 exact this.mono (by omega)
end
end Go.Proofs.Ytbmnihglaokhmaa.Am
namespace Go.Proofs.Ytbmnihglaokhmaa.Am
open Go Go.RowKit Go.Conc
section
variable {P:Program} {α β:Type}
abbrev aZ {α:Type}:α→Prop:=fun _=>True
theorem Plain.bindM {L:α→Prop}{M:β→Prop}{x:Sem α}{f:α→Sem β}(h:Plain P L x)(hf:∀a,L a→Plain P M (f a)):Plain P M (x>>=f):=h.bind hf
theorem Plain.map {L:α→Prop}{M:β→Prop}{x:Sem α}{f:α→β}(h:Plain P L x)(hf:∀a,L a→M (f a)):Plain P M (f<$>x):=h.bind hf
theorem Plain.ret {L:α→Prop}{a:α}(h:L a):Plain P L (pure a):=h
theorem oD {u:Unsupported}:Dead P (unsupported u:Sem α):=trivial
theorem Dead.bindM {x:Sem α}{f:α→Sem β}(h:Dead P x):Dead P (x>>=f):=h.bind
theorem Dead.bindM' {x:Sem α}{f:α→Sem β}(h:∀a,Dead P (f a)):Dead P (x>>=f):=Dead.bind' h
theorem oC {e:RuntimeError}:Dead P (runtimePanic e:Sem α):=by
 unfold runtimePanic
 refine Dead.bindM' fun p=>?_
 cases e<;>first|exact trivial|exact Dead.bindM' fun _=>Dead.bindM' fun _=>trivial
theorem aq {L:α→Prop}{s:String}:Plain P L (stuck s:Sem α):=trivial
theorem ay {L:α→Prop}{u:Unsupported}:Plain P L (unsupported u:Sem α):=trivial
theorem aL {L:α→Prop}{v:Value}:Plain P L (goPanic v:Sem α):=trivial
theorem aG {L:α→Prop}{e:RuntimeError}:Plain P L (runtimePanic e:Sem α):=oC.plain
theorem ap {q:Question}:Plain P aZ (choose q):=fun _=>trivial
theorem aH (t:TypeId):Plain P (fun i=>P.info? t=some i) (typeInfo t):=by
 show Plain P _ (match P.info? t with | some i => (pure i : Sem TypeInfo) | none => stuck "no such type")
 split
 ·rename_i i h;exact h
 ·exact trivial
theorem av (t:TypeId):Plain P (fun d=>P.underlying t=some d) (underlying t):=by
 show Plain P _ (match P.underlying t with | some i => (pure i : Sem TypeDesc) | none => stuck "no such type")
 split
 ·rename_i i h;exact h
 ·exact trivial
theorem aJ (t:TypeId):Plain P (fun n=>(P.info? t).map (·.size)=some n) (sizeOf t):=(aH t).bindM fun i h=>by rw[h];rfl
theorem aO (t:TypeId):Plain P aZ (isAgg t):=(av t).bindM fun d _=>by split<;>trivial
theorem aV (t:TypeId):Plain P aZ (zeroValue t):=(aH t).bindM fun i _=>by split<;>trivial
theorem aE {a:Addr}:Plain P aZ (load a):=.inl ⟨rfl,fun _=>trivial⟩
theorem uK {a:Addr}{v:Value}:Plain P aZ (store a v):=.inl ⟨rfl,trivial⟩
theorem f9 (a:Addr):∀(n i:Nat) (acc:Array Value),Plain P aZ (loadCellsFrom a i n acc)
 |0,_,_=>trivial
 |n+1,i,acc=>aE.bindM fun v _=>f9 a n (i+1) (acc.push v)
theorem ab {a:Addr}{n:Nat}:Plain P aZ (loadCells a n):=f9 a n 0 #[]
theorem cG (a:Addr):∀(vs:List Value) (i:Nat),Plain P aZ (storeCells a vs i)
 |[],_=>by unfold storeCells;exact trivial
 |v::vs,i=>by unfold storeCells;exact uK.bindM fun _ _=>cG a vs (i+1)
theorem ai {t:TypeId}{a:Addr}:Plain P aZ (loadVar t a):=(aO t).bindM fun b _=>by
 split
 ·exact(aJ t).bindM fun n _=>ab.bindM fun _ _=>trivial
 ·exact aE
theorem ag {t:TypeId}{a:Addr}{v:Value}:Plain P aZ (storeVar t a v):=(aJ t).bindM fun n _=>by
 split
 ·exact trivial
 ·exact cG _ _ _
theorem al {t:TypeId}{c:Array Value}:Plain P aZ (newRow t c):=Plain.bindM (L:=aZ) (.inl ⟨(fun _ _ h=>by cases h),fun _=>trivial⟩) fun _ _=>trivial
theorem au {t:TypeId}{v:Value}:Plain P aZ (newVar t v):=al
theorem ax {v:Value}:Plain P aZ (asInt v):=by unfold asInt asIntOf;split<;>exact trivial
theorem ak {v:Value}:Plain P aZ (asIntOf v):=by unfold asIntOf;split<;>exact trivial
theorem ao {v:Value}:Plain P aZ (asBool v):=by unfold asBool;split<;>exact trivial
theorem aw {v:Value}:Plain P aZ (asAgg v):=by unfold asAgg;split<;>exact trivial
theorem af {v:Value}:Plain P aZ (Instr.sureAddr v):=by unfold Instr.sureAddr;split<;>exact trivial
theorem am {v:Value}:Plain P aZ (asAddr v):=by
 unfold asAddr;split
 ·exact trivial
 ·exact aG
 ·exact trivial
theorem aF {t:TypeId}{cs:Array Value}{n:Nat}:Plain P aZ (part t cs n):=(aO t).bindM fun b _=>by
 split
 ·exact(aJ t).bindM fun n _=>trivial
 ·split<;>exact trivial
theorem ar {L:α→Prop}{k:IntKind}{x y:Int}{c:BoundsCode}:Plain P L (boundsPanic k x y c:Sem α):=by
 unfold boundsPanic
 refine Dead.plain ?_
 split
 ·exact Dead.bindM' fun _=>oC
 ·exact Dead.bindM' fun _=>oC
theorem ah {n:Nat}:Plain P aZ (askRoom n):=by
 unfold askRoom;split
 ·exact .inl ⟨rfl,trivial⟩
 ·exact trivial
theorem pu {γ:Type}{L:γ→Prop}{f:α→Sem γ}(hf:∀a,Plain P L (f a)):∀l:List α,Plain P aZ (l.mapM f)
 |[]=>by rw[List.mapM_nil];exact trivial
 |a::l=>by rw[gh];exact(hf a).bindM fun _ _=>(pu hf l).bindM fun _ _=>trivial
end
end Go.Proofs.Ytbmnihglaokhmaa.Am
namespace Go.Proofs.Ytbmnihglaokhmaa.Am
open Go Go.RowKit Go.Conc
theorem bz {x:Blk}(h:x.mutable=true):x.live=true:=by cases x<;>simp_all[Blk.mutable,Blk.live]
theorem BlkOK.monoA {P:Program}{A A':Nat→Prop}{ρ ρ':Id→Pl}{h h':HL}{w w':World}{b b2:Id}{x:Blk}(hx:BlkOK P A ρ h w b x)(e:ρ' b2=ρ b)(hρ:∀b,Live h b→Live h' b∧ρ' b=ρ b)
  (hok:∀k,okOf A ρ h w k→okOf A' ρ' h' w' k∧w'.heap[k]?=w.heap[k]?) (hs:x.mutable=true→w'.heap[(ρ b).blk]?=w.heap[(ρ b).blk]?):BlkOK P A' ρ' h' w' b2 x:=by
 cases x with
 |var T cs=>
  obtain⟨c,h1,h2,h3⟩:=hx
  exact⟨c,by rw[e,hs rfl];exact h1,h2,fun j hj=>(h3 j hj).mono hρ hok⟩
 |row E l=>
  obtain⟨c,h1,h2,h3,h4,h5,h6,h7,h8,h9⟩:=hx
  simp only[BlkOK,e]
  exact⟨c,by rw[hs rfl];exact h1,h2,h3,h4,h5,h6,h7,h8,fun i j hi hj=>(h9 i j hi hj).mono hρ hok⟩
 |froz l=>simp only[BlkOK,e];exact Rep.mono hx hok
 |fvar cs=>simp only[BlkOK,e];exact Rep.mono hx hok
 |moved b'=>exact⟨(hρ b' hx.1).1,e.trans (hx.2.trans (hρ b' hx.1).2.symm)⟩
 |obj b' p=>
  obtain⟨h1,o,h2,h3,h4⟩:=hx
  exact⟨(h1.mono1 hρ).1,o,by rw[e,hs rfl];exact h2,h3,by rw[(h1.mono1 hρ).2];exact h4⟩
 |gone=>trivial
def Gh.At (γ:Gh)(w:World)(k:Nat):Prop:=γ.A k∨w.heap.size≤k
abbrev SimN (P:Program)(dfs:List Deferred)(γ:Gh)(N:Nat)(ρ:Id→Pl)(t:List (Nat×D))(h:HL)(a:Act)(w:World):Prop:=Sim P w ⟨γ.S,dfs⟩ (γ.At w) N ρ t h a w
section
variable {P:Program} {main:Bool} {dfs:List Deferred} {γ γ':Gh} {N:Nat} {ρ:Id→Pl} {t:List (Nat×D)} {h:HL} {a:Act} {w w1 w':World}
theorem SimN.own (s:SimN P dfs γ N ρ t h a w){b:Id}{x:Blk}(hx:look h b=some x)(hl:x.live=true):(ρ b).blk<w.heap.size∧γ.S (ρ b).blk:=by
 have:=Sim.own s b x hx hl
 exact⟨this.1,this.2.elim id fun h=>by omega⟩
theorem SimN.ok (h':HL)(hS:∀k,γ.S k→γ'.S k)(hR:∀k,γ.R k→γ'.R k)(hw:∀k,k<w.heap.size→γ.A k→w1.heap[k]?=w.heap[k]?)(hsz:w.heap.size≤w1.heap.size){k:Nat}(hk:okOf (γ.At w) ρ h' w k):
  okOf (γ'.At w1) ρ h' w1 k∧w1.heap[k]?=w.heap[k]?:=by
 have hA:γ.A k:=hk.1.2.elim id fun h=>by have:=hk.1.1;omega
 exact⟨⟨⟨bU hk.1.1 hsz,.inl (hA.imp (hS k) (hR k))⟩,hk.2⟩,hw k hk.1.1 hA⟩
theorem SimN.next (s:SimN P dfs γ N ρ t h a w)(hS:∀k,γ.S k→γ'.S k)(hR:∀k,γ.R k→γ'.R k)(hnew:∀k,γ'.S k→γ.S k∨w.heap.size≤k)(hw:∀k,k<w.heap.size→γ.A k→w1.heap[k]?=w.heap[k]?)(hsz:w.heap.size≤w1.heap.size):
  SimN P dfs γ' N ρ t h a w1:=by
 have hok:∀k,okOf (γ.At w) ρ h w k→okOf (γ'.At w1) ρ h w1 k∧w1.heap[k]?=w.heap[k]?:=fun k hk=>SimN.ok h hS hR hw hsz hk
 refine⟨fun k hk=>.inr hk,fun k hk=>.inl (.inl hk),Fr.refl _ _,s.defers,s.size,fun k d hk=>⟨(s.tmp k d hk).1,(s.tmp k d hk).2.mono (fun b hb=>⟨hb,rfl⟩) hok⟩,fun b x hx=>?_,fun b x hx hl=>⟨bU (SimN.own s hx hl).1 hsz,.inl (hS _ (SimN.own s hx hl).2)⟩,s.inj,fun g x hx=>?_,fun g zs hx=>?_⟩
 ·exact BlkOK.monoA (s.blk b x hx) rfl (fun b hb=>⟨hb,rfl⟩) hok fun hm=>hw _ (SimN.own s hx (bz hm)).1 (.inl (SimN.own s hx (bz hm)).2)
 ·obtain⟨⟨q1,q2,q3⟩,ad,q4⟩:=s.gl.1 g x hx
  have hA:γ.A g:=q1.elim id fun h=>by omega
  exact⟨⟨.inl (hA.imp (hS g) (hR g)),fun h=>(hnew g h).elim q2 fun h=>by omega,by omega⟩,ad,(World.cell?_of_block (w:=w) (hw g q3 hA)).trans q4⟩
 ·obtain⟨⟨q1,q2,q3⟩,T,fz,q4⟩:=s.gl.2 g zs hx
  have hA:γ.A g:=q1.elim id fun h=>by omega
  exact⟨⟨.inl (hA.imp (hS g) (hR g)),fun h=>(hnew g h).elim q2 fun h=>by omega,by omega⟩,T,fz,(hw g q3 hA).trans q4⟩
theorem SimN.rely (s:SimN P dfs γ N ρ t h a w)(hr:Rel γ w w1):SimN P dfs γ N ρ t h a w1:=
 SimN.next s (fun _ h=>h) (fun _ h=>h) (fun _ h=>.inl h) (fun k hk hA=>hr.toFr.block k hk fun hn=>hn hA) hr.size
theorem sC {h':HL}{k:Nat}(hk:okOf (γ.At w1) ρ h' w' k):okOf ((γ.grow w1 w').At w') ρ h' w' k:=by
 refine⟨⟨hk.1.1,?_⟩,hk.2⟩
 rcases hk.1.2 with(h|h)|h
 ·exact .inl (.inl (.inl h))
 ·exact .inl (.inr h)
 ·exact .inl (.inl (.inr ⟨h,hk.1.1⟩))
theorem SimN.after (s:Sim P w1 ⟨γ.S,dfs⟩ (γ.At w1) N ρ t h a w'):SimN P dfs (γ.grow w1 w') N ρ t h a w':=by
 have hok:∀k,okOf (γ.At w1) ρ h w' k→okOf ((γ.grow w1 w').At w') ρ h w' k∧w'.heap[k]?=w'.heap[k]?:=fun k hk=>⟨sC hk,rfl⟩
 refine⟨fun k hk=>.inr hk,fun k hk=>.inl (.inl hk),Fr.refl _ _,s.defers,s.size,fun k d hk=>⟨(s.tmp k d hk).1,(s.tmp k d hk).2.mono (fun b hb=>⟨hb,rfl⟩) hok⟩,fun b x hx=>?_,fun b x hx hl=>⟨(s.own b x hx hl).1,.inl ((s.own b x hx hl).2.imp id fun h=>⟨h,(s.own b x hx hl).1⟩)⟩,s.inj,fun g x hx=>?_,fun g zs hx=>?_⟩
 ·exact BlkOK.monoA (s.blk b x hx) rfl (fun b hb=>⟨hb,rfl⟩) hok fun _=>rfl
 ·obtain⟨⟨q1,q2,q3⟩,ad,q4⟩:=s.gl.1 g x hx
  have hA:γ.A g:=q1.elim id fun h=>by omega
  refine⟨⟨.inl (hA.imp .inl id),fun h=>h.elim q2 fun h=>by omega,bU q3 s.fr.size⟩,ad,(World.cell?_of_block (w:=w1) (s.fr.block g q3 q2)).trans q4⟩
 ·obtain⟨⟨q1,q2,q3⟩,T,fz,q4⟩:=s.gl.2 g zs hx
  have hA:γ.A g:=q1.elim id fun h=>by omega
  exact⟨⟨.inl (hA.imp .inl id),fun h=>h.elim q2 fun h=>by omega,bU q3 s.fr.size⟩,T,fz,(s.fr.block g q3 q2).trans q4⟩
end
end Go.Proofs.Ytbmnihglaokhmaa.Am
namespace Go.Proofs.Ytbmnihglaokhmaa.Am
open Go Go.RowKit Go.Conc
variable {P:Program} {w0:World} {S:SD} {A:Nat→Prop} {N:Nat} {ρ:Id→Pl} {t:List (Nat×D)} {h:HL} {a:Act} {w:World}
def jD:Act:=⟨#[],[]⟩
def oV (ρ:Id→Pl)(hin:HL)(k:Nat):Prop:=∃b x,look hin b=some x∧x.live=true∧(ρ b).blk=k
def DT (P:Program)[PhC P](f:FuncId)(ds:List D)(hin:HL)(r:D)(hout:HL)(n:Nat):Prop:=
 ∀(main:Bool) (γ:Gh) (w:World) (ρ:Id→Pl) (vs:Array Value),γ.S=oV ρ hin→SimN P [] γ 0 ρ [] hin jD w→ds.length=vs.size→
  (∀i,i<ds.length→C ρ (Live hin) (okOf (γ.At w) ρ hin w) w (ds.getD i .undef) (vs.getD i undef))→
  CallsG P main f vs n γ w fun γ' u w'=>∃ρ',(∀b,Live hin b→ρ' b=ρ b∧Live hout b)∧SimN P [] γ' 0 ρ' [] hout jD w'∧C ρ' (Live hout) (okOf (γ'.At w') ρ' hout w') w' r u
def Con (P:Program)[PhC P](f:FuncId)(ds:List D)(hin:HL)(r:D)(hout:HL):Prop:=
 (∃ fn, P.funcs[f]? = some fn ∧ fn.body.isNone = false ∧ (fn.name == "runtime.NumGoroutine") = false) ∧ ∃ n, DT P f ds hin r hout n
mutual
def renD (g:Id→Id):D→D
 | .ref b=>.ref (g b)
 | .vref b o n=>.vref (g b) o n
 | .ptr b o=>.ptr (g b) o
 | .eptr b i o=>.eptr (g b) i o
 | .mp b=>.mp (g b)
 | .ifc T d=>.ifc T (renD g d)
 | .clo f cs=>.clo f (k6 g cs)
 | .agg cs=>.agg (k6 g cs)
 | .tup cs=>.tup (k6 g cs)
 |d=>d
def k6 (g:Id→Id):List D→List D
 |[]=>[]
 |d::l=>renD g d::k6 g l
end
theorem fD (g:Id→Id):∀l,k6 g l=l.map (renD g)
 |[]=>by simp[k6]
 |d::l=>by simp[k6,fD g l]
def renB (g:Id→Id):Blk→Blk
 | .var T cs=>.var T (cs.map (renD g))
 | .row E l=>.row E (l.map (renD g))
 | .moved b=>.moved (g b)
 | .obj b p=>.obj (b.map g) p
 |x=>x
def renH (g:Id→Id)(h:HL):HL:=h.map fun p=>(g p.1,renB g p.2)
theorem jd (g:Id→Id)(d:D):(renD g d).cells=d.cells.map (renD g):=by
 cases d<;>simp[renD,D.cells,fD]
theorem BI (g:Id→Id)(d:D):(renD g d).one=d.one:=by cases d<;>simp[renD,D.one]
theorem lP (g:Id→Id)(x:Blk):(renB g x).mutable=x.mutable:=by cases x<;>rfl
theorem iR (g:Id→Id)(x:Blk):(renB g x).live=x.live:=by cases x<;>rfl
theorem Rep.ren {ok:Nat→Prop}{d:D}{v:Value}(g:Id→Id)(hr:Rep ok w d v):Rep ok w (renD g d) v:=by
 induction hr with
 |agg cs vs hl h ih=>
  simp only[renD,fD]
  refine .agg _ _ (by simpa using hl) fun i hi=>?_
  have hi':i<cs.length:=by simpa using hi
  have:=ih i hi'
  simpa[aX,hi'] using this
 |tup cs vs hl h ih=>
  simp only[renD,fD]
  refine .tup _ _ (by simpa using hl) fun i hi=>?_
  have hi':i<cs.length:=by simpa using hi
  have:=ih i hi'
  simpa[aX,hi'] using this
 |int k n=>exact .int k n
 |bool b=>exact .bool b
 |str s=>exact .str s
 |none a cap ha hcap=>exact .none a cap ha hcap
 |lst l n b off cap f hn hcap hmax hok hsz hpos hc hr ih=>exact .lst l n b off cap f hn hcap hmax hok hsz hpos hc hr
 |box cs b off f hok hpos hc hr ih=>exact .box cs b off f hok hpos hc hr
 |nilp=>exact .nilp
 |nils=>exact .nils
 |nilf=>exact .nilf
 |nilm=>exact .nilm
 |val v hv=>exact .val v hv
 |nili=>exact .nili
theorem C.ren {ρ ρ':Id→Pl}{L L':Id→Prop}{ok ok':Nat→Prop}{d:D}{v:Value}(g:Id→Id)(hc:C ρ L ok w d v)(hl:∀b,L b→L' (g b)∧ρ' (g b)=ρ b)(hm:∀k,ok k→ok' k):C ρ' L' ok' w (renD g d) v:=by
 induction hc with
 |pure hr=>exact .pure ((hr.mono fun k hk=>⟨hm k hk,rfl⟩).ren g)
 |ref b hb=>simp only[renD];rw[←(hl b hb).2];exact .ref (g b) (hl b hb).1
 |ptr b o hb=>simp only[renD];rw[←(hl b hb).2];exact .ptr (g b) o (hl b hb).1
 |eptr b i o hb=>simp only[renD];rw[←(hl b hb).2];exact .eptr (g b) i o (hl b hb).1
 |vref b o n hb hn=>simp only[renD];rw[←(hl b hb).2];exact .vref (g b) o n (hl b hb).1 hn
 |mp b hb=>simp only[renD];rw[←(hl b hb).2];exact .mp (g b) (hl b hb).1
 |iptr e o b off f hok hc hr=>exact .iptr e o b off f (hm b hok) hc fun j hj=>(hr j hj).mono fun k hk=>⟨hm k hk,rfl⟩
 |agg cs vs hl' h ih=>
  simp only[renD,fD]
  refine .agg _ _ (by simpa using hl') fun i hi=>?_
  have hi':i<cs.length:=by simpa using hi
  have:=ih i hi'
  simpa[aX,hi'] using this
 |tup cs vs hl' h ih=>
  simp only[renD,fD]
  refine .tup _ _ (by simpa using hl') fun i hi=>?_
  have hi':i<cs.length:=by simpa using hi
  have:=ih i hi'
  simpa[aX,hi'] using this
 |clo f cs vs hl' h ih=>
  simp only[renD,fD]
  refine .clo _ _ _ (by simpa using hl') fun i hi=>?_
  have hi':i<cs.length:=by simpa using hi
  have:=ih i hi'
  simpa[aX,hi'] using this
 |ifc T d v h ih=>exact .ifc T _ v ih
 |any v=>exact .any v
 |junk v hv=>exact .junk v hv
 |gp g x ad hx hok hc=>exact .gp g x ad hx (hm g hok) hc
 |gv g x ad hx hok hc=>exact .gv g x ad hx (hm g hok) hc
mutual
def noMem:D→Bool
 | .lst []=>true
 | .lst _| .box _| .iptr .. | .gp _| .gv _=>false
 | .ifc _ d=>noMem d
 | .clo _ cs=>ew cs
 | .agg cs=>ew cs
 | .tup cs=>ew cs
 |_=>true
def ew:List D→Bool
 |[]=>true
 |d::l=>noMem d && ew l
end
theorem fu:∀l,ew l=l.all noMem
 |[]=>by simp[ew]
 |d::l=>by simp[ew,fu l]
theorem jR {cs:List D}(hn:ew cs=true){i:Nat}(hi:i<cs.length):noMem (cs.getD i .undef)=true:=by
 rw[fu,bc] at hn
 exact hn _ (br hi)
theorem Rep.free {ok ok':Nat→Prop}{d:D}{v:Value}(hr:Rep ok w d v)(hn:noMem d=true):Rep ok' w d v:=by
 induction hr with
 |int k n=>exact .int k n
 |bool b=>exact .bool b
 |str s=>exact .str s
 |none a cap ha hcap=>exact .none a cap ha hcap
 |nilp=>exact .nilp
 |nils=>exact .nils
 |nilf=>exact .nilf
 |nilm=>exact .nilm
 |val v hv=>exact .val v hv
 |nili=>exact .nili
 |agg cs vs hl h ih=>
  simp only[noMem] at hn
  exact .agg cs vs hl fun i hi=>ih i hi (jR hn hi)
 |tup cs vs hl h ih=>
  simp only[noMem] at hn
  exact .tup cs vs hl fun i hi=>ih i hi (jR hn hi)
 |lst l n b off cap f hn' hcap hmax hok hsz hpos hc hr ih=>
  cases l with
  |nil=>subst hn';exact .none _ _ (fun h=>by cases h) hmax
  |cons e l=>simp[noMem] at hn
 |box cs b off f hok hpos hc hr ih=>simp[noMem] at hn
theorem C.free {L:Id→Prop}{ok ok':Nat→Prop}{d:D}{v:Value}(hc:C ρ L ok w d v)(hn:noMem d=true):C ρ L ok' w d v:=by
 induction hc with
 |pure hr=>exact .pure (hr.free hn)
 |ref b hb=>exact .ref b hb
 |ptr b o hb=>exact .ptr b o hb
 |eptr b i o hb=>exact .eptr b i o hb
 |vref b o n hb hn'=>exact .vref b o n hb hn'
 |mp b hb=>exact .mp b hb
 |gp g x ad hx hok hc=>simp[noMem] at hn
 |gv g x ad hx hok hc=>simp[noMem] at hn
 |iptr e o b off f hok hc hr=>simp[noMem] at hn
 |agg cs vs hl h ih=>
  simp only[noMem] at hn
  exact .agg cs vs hl fun i hi=>ih i hi (jR hn hi)
 |tup cs vs hl h ih=>
  simp only[noMem] at hn
  exact .tup cs vs hl fun i hi=>ih i hi (jR hn hi)
 |clo f cs vs hl h ih=>
  simp only[noMem] at hn
  exact .clo f cs vs hl fun i hi=>ih i hi (jR hn hi)
 |ifc T d v h ih=>simp only[noMem] at hn;exact .ifc T d v (ih hn)
 |any v=>exact .any v
 |junk v hv=>exact .junk v hv
def noMemB:Blk→Bool
 | .var _ cs=>cs.all noMem
 | .row _ l=>l.all fun e=>e.cells.all noMem
 | .froz l=>l.isEmpty
 | .fvar _=>false
 |_=>true
def VLive (h:HL)(g:Id→Id)(hin:HL)(F:List Nat)(b:Id):Prop:=Live hin b∨((g b).1∈F∧(Live h (g b)→Live hin b))
theorem VLive.at {h:HL}{g:Id→Id}{hin:HL}{F:List Nat}{b:Id}(hv:VLive h g hin F b)(hl:Live h (g b)):Live hin b:=hv.elim id fun h=>h.2 hl
inductive View (h:HL) (g:Id→Id) (hin:HL) (W:List Id) (F:List Nat):D→D→Prop where
 |ref (b:Id) (hb:VLive h g hin F b):View h g hin W F (.ref (g b)) (.ref b)
 |ptr (b:Id) (o:Nat) (hb:VLive h g hin F b):View h g hin W F (.ptr (g b) o) (.ptr b o)
 |eptr (b:Id) (i o:Nat) (hb:VLive h g hin F b):View h g hin W F (.eptr (g b) i o) (.eptr b i o)
 |vref (b:Id) (o n:Nat) (hb:VLive h g hin F b):View h g hin W F (.vref (g b) o n) (.vref b o n)
 |mp (b:Id) (hb:VLive h g hin F b):View h g hin W F (.mp (g b)) (.mp b)
 |pure (k:Nat) (d d':D) (hd:purD h k d=some d') (hw:∀b∈idsD h k d,b∈W):View h g hin W F d d'
 |nils:View h g hin W F .nils .nils
 |agg (cs cs':List D) (hl:cs.length=cs'.length) (hc:∀i,i<cs.length→View h g hin W F (cs.getD i .undef) (cs'.getD i .undef)):View h g hin W F (.agg cs) (.agg cs')
 |clo (f:FuncId) (cs cs':List D) (hl:cs.length=cs'.length) (hc:∀i,i<cs.length→View h g hin W F (cs.getD i .undef) (cs'.getD i .undef)):View h g hin W F (.clo f cs) (.clo f cs')
 |ifc (T:TypeId) (d d':D) (hd:View h g hin W F d d'):View h g hin W F (.ifc T d) (.ifc T d')
 |junk:View h g hin W F .junk .junk
 |gv (k:Nat):View h g hin W F (.gv k) (.gv k)
inductive ViewB (h:HL) (g:Id→Id) (hin:HL) (W:List Id) (F:List Nat):Blk→Blk→Prop where
 |var (T:TypeId) (cs cs':List D) (hl:cs.length=cs'.length) (hc:∀i,i<cs.length→View h g hin W F (cs.getD i .undef) (cs'.getD i .undef)):ViewB h g hin W F (.var T cs) (.var T cs')
 |row (E:TypeId) (l l':List D) (hl:l.length=l'.length) (hc:∀i,i<l.length→View h g hin W F (l.getD i .undef) (l'.getD i .undef)):ViewB h g hin W F (.row E l) (.row E l')
 |obj (p:Nat→Obj→Prop):ViewB h g hin W F (.obj none p) (.obj none p)
 |gone:ViewB h g hin W F .gone .gone
structure CallOK (P:Program)[PhC P](f:FuncId)(h:HL)(n:Nat)(ds:List D)(d:D)(u:HL)(fs:List Nat) where
 g:Id→Id
 W:List Id
 F:List Nat
 ds':List D
 hin:HL
 r:D
 hout:HL
 con:Con P f ds' hin r hout
 len:ds.length=ds'.length
 args:∀i,i<ds.length→View h g hin W F (ds.getD i .undef) (ds'.getD i .undef)
 blks:∀b x',look hin b=some x'→∃x,look h (g b)=some x∧ViewB h g hin W F x x'
 keys:(hout.map (·.1)).Nodup
 inj:∀b b',Live hout b→Live hout b'→g b=g b'→b=b'
 sub:∀b,Live hin b→Live hout b
 new:∀b,Live hout b→¬Live hin b→look h (g b)=none
 apart:∀b∈W,∀b',Live hin b'→g b'≠b
 foot:(∀b,Live hout b→(g b).1∈fs∨n≤(g b).1)∧(∀b∈W,b.1∈fs)∧∀k∈F,k∈fs
 res:d=renD g r
 upd:(noMem r=true∧(∀p∈hout,noMemB p.2=true)∧u=renH g hout)∨((∀b∈W,∀x,look h b=some x→x.mutable=true→(frzB h b).isSome=true)∧u=frz h W++renH g hout)
theorem uO {k:Nat}{d d':D}(hd:purD h k d=some d'):d.one=true∧d'.one=true:=by
 refine⟨?_,kx (rh k d d' hd)⟩
 cases d with
 |agg cs=>rw[pw] at hd;cases hd
 |tup cs=>cases k<;>cases hd
 |undef=>cases k<;>cases hd
 |_=>rfl
theorem View.one {g:Id→Id}{hin:HL}{W:List Id}{F:List Nat}{d d':D}(hv:View h g hin W F d d'):d'.one=d.one:=by
 cases hv with
 |pure k _ _ hd hw=>rw[(uO hd).1,(uO hd).2]
 |_=>rfl
theorem View.wf {g:Id→Id}{hin:HL}{W:List Id}{F:List Nat}{s:Nat}{d d':D}(hv:View h g hin W F d d')(hw:wfC s d):wfC s d'∧∀j,j<s→View h g hin W F (d.cells.getD j .undef) (d'.cells.getD j .undef):=by
 by_cases hag:∃cs,d= .agg cs
 ·obtain⟨cs,rfl⟩:=hag
  cases hv with
  |pure k _ _ hd _=>rw[pw] at hd;cases hd
  |agg _ cs' hl hc=>
   have h1:cs.length=s:=hw.1
   refine⟨⟨by show cs'.length=s;omega,?_⟩,fun j hj=>hc j (by omega)⟩
   rw[bc]
   intro x hx
   obtain⟨j,hj,rfl⟩:=bW hx
   have hj':j<cs.length:=by simp only[D.cells] at hj;omega
   have h2:=hw.2
   rw[bc] at h2
   rw[show (D.agg cs').cells=cs' from rfl,(hc j hj').one]
   exact h2 _ (br hj')
 ·have hc:d.cells=[d]:=cS fun cs hcs=>hag ⟨cs,hcs⟩
  have h1:s=1:=by have:=hw.1;rw[hc] at this;simpa using this.symm
  subst h1
  have h2:d.one=true:=by have:=hw.2;rw[hc] at this;simpa using this
  have h3:d'.one=true:=by rw[hv.one];exact h2
  rw[cF h3,hc]
  refine⟨⟨by rw[cF h3];rfl,by rw[cF h3];simp[h3]⟩,fun j hj=>?_⟩
  obtain rfl:j=0:=by omega
  exact hv
theorem ViewB.live {g:Id→Id}{hin:HL}{W:List Id}{F:List Nat}{x x':Blk}(hv:ViewB h g hin W F x x')(hl:x'.live=true):x.live=true∧x'.live=true∧x.mutable=true∧x'.mutable=true:=by
 cases hv<;>first|exact⟨rfl,rfl,rfl,rfl⟩|cases hl
end Go.Proofs.Ytbmnihglaokhmaa.Am
namespace Go.Proofs.Ytbmnihglaokhmaa.Am
open Go Go.RowKit Go.Conc
variable {P:Program} {w0:World} {S:SD} {A:Nat→Prop} {N:Nat} {ρ:Id→Pl} {t:List (Nat×D)} {h:HL} {a:Act} {w:World}
theorem aS {κ α:Type}[DecidableEq κ]:∀(us g:List (κ×α)) (b:κ),(∀x∈us,x.1≠b)→look (puts us g) b=look g b
 |[],g,b,_=>rfl
 |x::us,g,b,hx=>by
  show look (puts us (put x.1 x.2 g)) b=look g b
  rw[aS us _ b fun y hy=>hx y (bl _ hy),aD,if_neg (cq (hx x (bh ..)))]
theorem iq {κ α:Type}[DecidableEq κ]:∀(us g:List (κ×α)) (b:κ) (y:α),(us.map (·.1)).Nodup→(b,y)∈us→look (puts us g) b=some y
 |[],g,b,y,_,hm=>by cases hm
 |x::us,g,b,y,hn,hm=>by
  simp only[bI,List.nodup_cons] at hn
  show look (puts us (put x.1 x.2 g)) b=some y
  rcases a9.1 hm with rfl|hm
  ·rw[aS us _ b fun z hz e=>hn.1 (aP.2 ⟨z,hz,e⟩),aD]
   simp
  ·exact iq us _ b y hn.2 hm
theorem bG {κ α:Type}[DecidableEq κ](u v g:List (κ×α)):puts (u++v) g=puts v (puts u g):=by simp[puts,List.foldl_append]
theorem dr {κ α:Type}[DecidableEq κ]:∀{l:List (κ×α)} {k:κ} {a:α},look l k=some a→(k,a)∈l
 |[],k,a,h=>by cases h
 |(x,b)::l,k,a,h=>by
  simp only[look] at h
  split at h
  ·rename_i e;subst e;simp only[aK] at h;subst h;exact bh ..
  ·exact bl _ (dr h)
theorem gC {κ α:Type}[DecidableEq κ]:∀{l:List (κ×α)} {k:κ} {a:α},(l.map (·.1)).Nodup→(k,a)∈l→look l k=some a
 |[],k,a,_,h=>by cases h
 |(x,b)::l,k,a,hn,h=>by
  simp only[bI,List.nodup_cons] at hn
  simp only[look]
  rcases a9.1 h with e|h
  ·simp only[bi] at e;obtain⟨rfl,rfl⟩:=e;simp
  ·rw[if_neg]
   ·exact gC hn.2 h
   ·intro e
    exact hn.1 (aP.2 ⟨(k,a),h,e⟩)
theorem Sim.view (s:Sim P w0 S A N ρ t h a w){g:Id→Id}{hin:HL}{W:List Id}{F:List Nat}{ok':Nat→Prop}(hok:∀k,okOf A ρ h w k→ok' k)(hW:∀b∈W,∀x,look h b=some x→x.mutable=true→ok' (ρ b).blk){d d':D}{v:Value}
  (hv:View h g hin W F d d'):C ρ (Live h) (okOf A ρ h w) w d v→C (fun b=>ρ (g b)) (Live hin) ok' w d' v:=by
 induction hv generalizing v with
 |ref b hb=>intro hc;obtain⟨hl,rfl⟩:=hc.ref_inv;exact .ref (ρ:=fun b=>ρ (g b)) b (hb.at hl)
 |ptr b o hb=>intro hc;obtain⟨hl,rfl⟩:=hc.ptr_inv;exact .ptr (ρ:=fun b=>ρ (g b)) b o (hb.at hl)
 |eptr b i o hb=>intro hc;obtain⟨hl,rfl⟩:=hc.eptr_inv;exact .eptr (ρ:=fun b=>ρ (g b)) b i o (hb.at hl)
 |vref b o n hb=>intro hc;obtain⟨hl,hn,rfl⟩:=hc.vref_inv;exact .vref (ρ:=fun b=>ρ (g b)) b o n (hb.at hl) hn
 |mp b hb=>intro hc;obtain⟨hl,rfl⟩:=hc.mp_inv;exact .mp (ρ:=fun b=>ρ (g b)) b (hb.at hl)
 |pure k d d' hd hw=>intro hc;exact .pure (s.purD hok k _ _ _ hd (fun b hb=>hW b (hw b hb)) hc)
 |nils=>intro hc;obtain rfl:=hc.nils_inv;exact .pure .nils
 |agg cs cs' hl hcs ih=>
  intro hc
  obtain⟨vs,rfl,h1,h2⟩:=hc.agg_inv
  exact .agg _ _ (by omega) fun i hi=>ih i (by omega) (h2 i (by omega))
 |clo f cs cs' hl hcs ih=>
  intro hc
  obtain⟨vs,rfl,h1,h2⟩:=hc.clo_inv
  exact .clo _ _ _ (by omega) fun i hi=>ih i (by omega) (h2 i (by omega))
 |ifc T d d' hd ih=>
  intro hc
  obtain⟨v',rfl,h1⟩:=hc.ifc_inv
  exact .ifc _ _ _ (ih h1)
 |junk=>intro hc;exact .junk _ hc.junk_inv
 |gv k=>intro hc;obtain⟨x,ad,rfl,h1,h2,h3⟩:=hc.gv_inv;exact .gv k x ad h1 (hok k h2) h3
theorem Sim.into (s:Sim P w0 S A N ρ t h a w){ds ds':List D}{g:Id→Id}{hin:HL}{W:List Id}{F:List Nat}{K:Nat→Prop}(hlen:ds.length=ds'.length)(hargs:∀i,i<ds.length→View h g hin W F (ds.getD i .undef) (ds'.getD i .undef))
  (hblk:∀b x',look hin b=some x'→∃x,look h (g b)=some x∧ViewB h g hin W F x x') (hinj:∀b b',Live hin b→Live hin b'→g b=g b'→b=b') (hapart:∀b∈W,∀b',Live hin b'→g b'≠b)
  (hK:∀k,w.heap.size≤k→K k) (hKi:∀k,oV (fun b=>ρ (g b)) hin k→K k) (hKo:∀k,okOf A ρ h w k→K k) (hKr:∀b∈W,∀x,look h b=some x→x.mutable=true→K (ρ b).blk)
  {vs:Array Value} (hl:ds.length=vs.size) (hv:∀i,i<ds.length→C ρ (Live h) (okOf A ρ h w) w (ds.getD i .undef) (vs.getD i undef)):
  Sim P w (oV (fun b=>ρ (g b)) hin) K 0 (fun b=>ρ (g b)) [] hin jD w∧ds'.length=vs.size∧
   ∀i,i<ds'.length→C (fun b=>ρ (g b)) (Live hin) (okOf K (fun b=>ρ (g b)) hin w) w (ds'.getD i .undef) (vs.getD i undef):=by
 have hmut:∀b x',look hin b=some x'→x'.live=true→∃x,look h (g b)=some x∧x.mutable=true∧x.live=true:=fun b x' hx hlv=>by
  obtain⟨x,h1,h2⟩:=hblk b x' hx
  exact⟨x,h1,(h2.live hlv).2.2.1,(h2.live hlv).1⟩
 have hok:∀k,okOf A ρ h w k→okOf K (fun b=>ρ (g b)) hin w k:=by
  rintro k hk
  refine⟨⟨hk.1.1,hKo k hk⟩,fun b x' hx hmx=>?_⟩
  obtain⟨x,h1,h2,_⟩:=hmut b x' hx (bz hmx)
  exact hk.2 _ x h1 h2
 have hW:∀b∈W,∀x,look h b=some x→x.mutable=true→okOf K (fun b=>ρ (g b)) hin w (ρ b).blk:=by
  intro b hb x hx hmu
  refine⟨⟨(s.own b _ hx (bz hmu)).1,hKr b hb x hx hmu⟩,fun b' x' hx' hmx he=>?_⟩
  obtain⟨y,h1,h2,h3⟩:=hmut b' x' hx' (bz hmx)
  exact hapart b hb b' (by simp[Live,hx']) (s.inj _ b y x h1 hx h3 (bz hmu) he)
 have cv:∀{d d':D} {v:Value},View h g hin W F d d'→C ρ (Live h) (okOf A ρ h w) w d v→C (fun b=>ρ (g b)) (Live hin) (okOf K (fun b=>ρ (g b)) hin w) w d' v:=fun hv hc=>s.view hok hW hv hc
 refine⟨⟨hK,hKi,Fr.refl _ _,rfl,rfl,fun k d hk=>(by cases hk),fun b x' hx=>?_,fun b x' hx hlv=>?_,fun b b' x x' hx hx' hlx hlx' he=>?_,fun k x hx=>?_,fun k zs hx=>?_⟩,by omega,fun i hi=>cv (hargs i (by omega)) (hv i (by omega))⟩
 ·obtain⟨x,h1,h2⟩:=hblk b x' hx
  cases h2 with
  |var T cs cs' hl hc=>
   obtain⟨c,c1,c2,c3⟩:=s.blk _ _ h1
   exact⟨c,c1,by omega,fun j hj=>cv (hc j (by omega)) (c3 j (by omega))⟩
  |row E l l' hl hc=>
   obtain⟨c,h1,h2,h3,h4,h5,h6,h7,h8,h9⟩:=s.blk _ _ h1
   refine⟨c,h1,h2,by rw[←hl];exact h3,h4,h5,h6,h7,fun e he=>?_,fun i j hi hj=>?_⟩
   ·obtain⟨i,hi,rfl⟩:=bW he
    exact((hc i (by omega)).wf (h8 _ (br (by omega)))).1
   ·exact cv (((hc i (by omega)).wf (h8 _ (br (by omega)))).2 j hj) (h9 i j (by omega) hj)
  |obj p=>exact s.blk _ _ h1
  |gone=>trivial
 ·obtain⟨x,h1,h2,h3⟩:=hmut b x' hx hlv
  exact⟨(s.own _ x h1 h3).1,.inl ⟨b,x',hx,hlv,rfl⟩⟩
 ·obtain⟨y,h1,_,h3⟩:=hmut b x hx hlx
  obtain⟨y',h1',_,h3'⟩:=hmut b' x' hx' hlx'
  exact hinj b b' (by simp[Live,hx]) (by simp[Live,hx']) (s.inj _ _ y y' h1 h1' h3 h3' he)
 ·obtain⟨⟨q1,q2,q3⟩,-⟩:=s.gl.1 k x hx
  obtain⟨h1,h2⟩:=s.glob hx
  refine⟨⟨hKo k h1,?_,h1.1.1⟩,h2⟩
  rintro⟨b,x',hb,hlv,he⟩
  obtain⟨y,y1,y2,y3⟩:=hmut b x' hb hlv
  rcases (s.own _ y y1 y3).2 with h|h
  ·exact q2 (he▸h)
  ·have:(ρ (g b)).blk=k:=he
   omega
 ·obtain⟨⟨q1,q2,q3⟩,-⟩:=s.gl.2 k zs hx
  obtain⟨h1,h2⟩:=s.tab hx
  refine⟨⟨hKo k h1,?_,h1.1.1⟩,h2⟩
  rintro⟨b,x',hb,hlv,he⟩
  obtain⟨y,y1,y2,y3⟩:=hmut b x' hb hlv
  rcases (s.own _ y y1 y3).2 with h|h
  ·exact q2 (he▸h)
  ·have:(ρ (g b)).blk=k:=he
   omega
theorem Rep.lst_nil {ok ok':Nat→Prop}{w w':World}{v:Value}(h:Rep ok w (.lst []) v):Rep ok' w' (.lst []) v:=by
 cases h with
 |none a cap ha hcap=>exact .none a cap ha hcap
 |lst _ n b off cap f hn hcap hmax hok hsz hpos hc hr=>simp[szl] at hpos
theorem BlkOK.ren {A':Nat→Prop}{ρ':Id→Pl}{h':HL}(g:Id→Id){i:Id}{x:Blk}(hb:BlkOK P A ρ h w i x)(he:ρ' (g i)=ρ i){good:D→Prop}
  (hlv:∀b,Live h b→Live h' (g b)∧ρ' (g b)=ρ b)
  (hc:∀d v,good d→C ρ (Live h) (okOf A ρ h w) w d v→C ρ' (Live h') (okOf A' ρ' h' w) w (renD g d) v) (hr:∀d v,good d→Rep (okOf A ρ h w) w d v→Rep (okOf A' ρ' h' w) w d v)
  (hg:match x with| .var _ cs=>∀d∈cs,good d| .row _ l=>∀e∈l,∀d∈e.cells,good d| .froz l=>l=[]∨good (.lst l)| .fvar cs=>good (.box cs)|_=>True):BlkOK P A' ρ' h' w (g i) (renB g x):=by
 cases x with
 |var T cs=>
  obtain⟨c,h1,h2,h3⟩:=hb
  simp only[renB,BlkOK,he]
  refine⟨c,h1,by simpa using h2,fun j hj=>?_⟩
  have hj':j<cs.length:=by simpa using hj
  have:=hc _ _ (hg (cs.getD j .undef) (br hj')) (h3 j hj')
  simpa[aX,hj'] using this
 |row E l=>
  obtain⟨c,h1,h2,h3,h4,h5,h6,h7,h8,h9⟩:=hb
  simp only[renB,BlkOK,he]
  refine⟨c,h1,h2,by simpa using h3,h4,h5,h6,h7,fun e he'=>?_,fun k j hk hj=>?_⟩
  ·obtain⟨e0,he0,rfl⟩:=aP.1 he'
   refine⟨by rw[jd,bH];exact(h8 e0 he0).1,?_⟩
   have:=(h8 e0 he0).2
   rw[bc] at this⊢
   rw[jd]
   intro y hy
   obtain⟨z,hz,rfl⟩:=aP.1 hy
   rw[BI]
   exact this z hz
  ·have hk':k<l.length:=by simpa using hk
   have hj':j<(l.getD k .undef).cells.length:=by rw[(h8 _ (br hk')).1];exact hj
   have:=hc _ _ (hg _ (br hk') _ (br hj')) (h9 k j hk' hj)
   have e1:(l.map (renD g)).getD k .undef=renD g (l.getD k .undef):=by simp[aX,hk']
   have e2:((l.getD k .undef).cells.map (renD g)).getD j .undef=renD g ((l.getD k .undef).cells.getD j .undef):=by
    rw[aX,cd,a6 hj',aX (i:=j),a6 hj'];rfl
   rw[e1,jd,e2]
   exact this
 |froz l=>
  simp only[renB,BlkOK,he] at hb⊢
  rcases hg with rfl|hg
  ·exact hb.lst_nil
  ·exact hr _ _ hg hb
 |fvar cs=>
  simp only[renB,BlkOK,he] at hb⊢
  exact hr _ _ hg hb
 |moved b=>exact⟨(hlv b hb.1).1,by rw[he,hb.2,(hlv b hb.1).2]⟩
 |obj b p=>
  obtain⟨h1,o,h2,h3,h4⟩:=hb
  exact⟨(h1.mono hlv).1,o,by rw[he];exact h2,h3,by rw[(h1.mono hlv).2];exact h4⟩
 |gone=>trivial
set_option maxHeartbeats 1000000 in
open Classical in
theorem SimN.back {dfs:List Deferred}{γ γc γ' γ2:Gh}{M:Nat→Prop}{g:Id→Id}{hin hout:HL}{r:D}{h1:HL}(s1:SimN P dfs γ N ρ t h1 a w)(hmut:∀b x',look hin b=some x'→x'.live=true→∃x,look h1 (g b)=some x∧x.mutable=true∧x.live=true)
  (hkeys:(hout.map (·.1)).Nodup) (hinj:∀b b',Live hout b→Live hout b'→g b=g b'→b=b') (hnew:∀b,Live hout b→¬Live hin b→look h1 (g b)=none)
  {ρ':Id→Pl} {w':World} {u:Value} (hγc:γc.S=oV (fun b=>ρ (g b)) hin) (hfr:Fra γc γ w M γ' γ2 w') (hρ:∀b,Live hin b→ρ' b=ρ (g b)∧Live hout b)
  (sc:SimN P [] γ' 0 ρ' [] hout jD w') (hr:C ρ' (Live hout) (okOf (γ'.At w') ρ' hout w') w' r u)
  (hmode:(noMem r=true∧∀p∈hout,noMemB p.2=true)∨∀k,γc.R k→okOf (γ.At w) ρ h1 w k):
  ∃ρ2,Ext h1 ρ ρ2∧SimN P dfs γ2 N ρ2 t (puts (renH g hout) h1) a w'∧C ρ2 (Live (puts (renH g hout) h1)) (okOf (γ2.At w') ρ2 (puts (renH g hout) h1) w') w' (renD g r) u:=by
 let ρ2:Id→Pl:=fun b=>if hb:∃c,Live hout c∧g c=b then ρ' (Classical.choose hb) else ρ b
 have r1:∀b,Live hout b→ρ2 (g b)=ρ' b:=by
  intro b hb
  have he:∃c,Live hout c∧g c=g b:=⟨b,hb,rfl⟩
  simp only[ρ2]
  rw[dif_pos he]
  have:=Classical.choose_spec he
  rw[hinj _ b this.1 hb this.2]
 have hkeys2:((renH g hout).map (·.1)).Nodup:=by
  have e:(renH g hout).map (·.1)=(hout.map (·.1)).map g:=by simp[renH]
  rw[e,List.Nodup,List.pairwise_map]
  refine List.Pairwise.imp_of_mem ?_ hkeys
  intro x y hx hy hne e
  obtain⟨⟨x1,x2⟩,hx',rfl⟩:=aP.1 hx
  obtain⟨⟨y1,y2⟩,hy',rfl⟩:=aP.1 hy
  exact hne (hinj _ _ (by simp[Live,gC hkeys hx']) (by simp[Live,gC hkeys hy']) e)
 let h2:=puts (renH g hout) h1
 have l1:∀b x,look hout b=some x→look h2 (g b)=some (renB g x):=fun b x hx=>iq _ _ _ _ hkeys2 (aP.2 ⟨(b,x),dr hx,rfl⟩)
 have l2:∀b,(∀c,Live hout c→g c≠b)→look h2 b=look h1 b:=by
  intro b hb
  refine aS _ _ _ ?_
  rintro⟨k,y⟩ hx
  obtain⟨⟨c,x⟩,hm,he⟩:=aP.1 hx
  simp only[bi] at he
  rw[←he.1]
  exact hb c (by simp[Live,gC hkeys hm])
 have cases2:∀b y,look h2 b=some y→(∃c x,look hout c=some x∧b=g c∧y=renB g x)∨(look h1 b=some y∧∀c,Live hout c→g c≠b):=by
  intro b y hy
  by_cases hb:∃c,Live hout c∧g c=b
  ·obtain⟨c,hc,rfl⟩:=hb
   obtain⟨x,hx⟩:=mh.1 hc
   rw[l1 c x hx] at hy
   exact .inl ⟨c,x,hx,rfl,(bm hy).symm⟩
  ·have hb':∀c,Live hout c→g c≠b:=fun c hc e=>hb ⟨c,hc,e⟩
   rw[l2 b hb'] at hy
   exact .inr ⟨hy,hb'⟩
 have rother:∀b,(∀c,Live hout c→g c≠b)→ρ2 b=ρ b:=by
  intro b hb
  simp only[ρ2]
  rw[dif_neg]
  rintro⟨c,hc,e⟩
  exact hb c hc e
 have hlive:∀b,Live h1 b→Live h2 b∧ρ2 b=ρ b:=by
  intro b hl
  by_cases hb:∃c,Live hout c∧g c=b
  ·obtain⟨c,hc,rfl⟩:=hb
   obtain⟨x,hx⟩:=mh.1 hc
   refine⟨by simp[Live,l1 c x hx],?_⟩
   by_cases a1:Live hin c
   ·rw[r1 c hc];exact(hρ c a1).1
   ·simp[Live,hnew c hc a1] at hl
  ·have hb':∀c,Live hout c→g c≠b:=fun c hc e=>hb ⟨c,hc,e⟩
   exact⟨by simpa[Live,l2 b hb'] using hl,rother b hb'⟩
 have hin_own:∀k,oV (fun b=>ρ (g b)) hin k→k<w.heap.size∧γ.S k:=by
  rintro k ⟨b,x',hx,hlx,rfl⟩
  obtain⟨x,e,_,hl⟩:=hmut b x' hx hlx
  exact SimN.own s1 e hl
 have hsz:w.heap.size≤w'.heap.size:=hfr.fr.size
 have scown:∀c x,look hout c=some x→x.live=true→(ρ' c).blk<w'.heap.size∧(oV (fun b=>ρ (g b)) hin (ρ' c).blk∨w.heap.size≤(ρ' c).blk)∧γ2.S (ρ' c).blk:=by
  intro c x hx hl
  have h1:=SimN.own sc hx hl
  rcases (hfr.S _).1 h1.2 with h|h
  ·rw[hγc] at h
   exact⟨h1.1,.inl h,(hfr.S2 _).2 (.inl (hin_own _ h).2)⟩
  ·exact⟨h1.1,.inr (hfr.new _ h).1,(hfr.S2 _).2 (.inr h)⟩
 have scblk:∀k,k<w.heap.size→γ.A k→¬oV (fun b=>ρ (g b)) hin k→w'.heap[k]?=w.heap[k]?:=fun k hk hA hn=>hfr.fr.block k hk fun h=>h.elim (fun h=>h hA) fun h=>hn (by rw[hγc] at h;exact h)
 have hS2:∀k,γ.S k→γ2.S k:=fun k hk=>(hfr.S2 k).2 (.inl hk)
 have hok:∀k,okOf (γ.At w) ρ h1 w k→okOf (γ2.At w') ρ2 h2 w' k∧w'.heap[k]?=w.heap[k]?:=by
  rintro k ⟨⟨hk,hAt⟩,hm⟩
  have hA:γ.A k:=hAt.elim id fun h=>by omega
  have hni:¬oV (fun b=>ρ (g b)) hin k:=by
   rintro⟨b,x',hx,hlx,rfl⟩
   obtain⟨x,e,hmu,_⟩:=hmut b x' hx hlx
   exact hm _ x e hmu rfl
  refine⟨⟨⟨bU hk hsz,.inl (hA.imp (hS2 k) fun h=>by rw[hfr.R2];exact h)⟩,fun b y hy hmu=>?_⟩,scblk k hk hA hni⟩
  rcases cases2 b y hy with⟨c,x,hx,rfl,rfl⟩|⟨hy1,hne⟩
  ·rw[r1 c (by simp[Live,hx])]
   have hxl:x.live=true:=bz (by rw[←lP g];exact hmu)
   have:=scown c x hx hxl
   rcases this.2.1 with h'|h'
   ·intro e2;subst e2;exact hni h'
   ·omega
  ·rw[rother b hne]
   exact hm b y hy1 hmu
 have hokc:¬(noMem r=true∧∀p∈hout,noMemB p.2=true)→∀k,okOf (γ'.At w') ρ' hout w' k→okOf (γ2.At w') ρ2 h2 w' k:=by
  intro hnf k hk
  have hKm0:=hmode.resolve_left hnf
  obtain⟨⟨hk1,hK0⟩,hm⟩:=hk
  have hK:okOf (γ.At w) ρ h1 w k∨oV (fun b=>ρ (g b)) hin k∨M k:=by
   rcases hK0 with(h|h)|h
   ·rcases (hfr.S k).1 h with h|h
    ·rw[hγc] at h;exact .inr (.inl h)
    ·exact .inr (.inr h)
   ·rw[hfr.R] at h;exact .inl (hKm0 k h)
   ·omega
  have hKm:∀k,(okOf (γ.At w) ρ h1 w k∨oV (fun b=>ρ (g b)) hin k∨M k)→okOf (γ.At w) ρ h1 w k∨oV (fun b=>ρ (g b)) hin k∨w.heap.size≤k:=fun k hk=>hk.imp id fun h=>h.imp id fun h=>(hfr.new k h).1
  refine⟨⟨hk1,?_⟩,fun b y hy hmu=>?_⟩
  ·rcases hK with h'|h'|h'
   ·exact(hok k h').1.1.2
   ·exact .inl (.inl (hS2 k (hin_own k h').2))
   ·exact .inl (.inl ((hfr.S2 k).2 (.inr h')))
  ·rcases cases2 b y hy with⟨c,x,hx,rfl,rfl⟩|⟨hy1,hne⟩
   ·rw[r1 c (by simp[Live,hx])]
    exact hm c x hx (by rw[←lP g];exact hmu)
   ·rw[rother b hne]
    have hbl:=SimN.own s1 hy1 (bz hmu)
    rcases hKm k hK with h'|h'|h'
    ·exact h'.2 b y hy1 hmu
    ·obtain⟨c,x',hx,hlx,rfl⟩:=h'
     obtain⟨x,e,_,hl⟩:=hmut c x' hx hlx
     intro he
     have:=s1.inj b _ y x hy1 e (bz hmu) hl he
     exact hne c (hρ c (by simp[Live,hx])).2 this.symm
    ·omega
 have hgl:∀b,Live hout b→Live h2 (g b)∧ρ2 (g b)=ρ' b:=by
  intro b hb
  obtain⟨x,hx⟩:=mh.1 hb
  exact⟨by simp[Live,l1 b x hx],r1 b hb⟩
 have convC:∀d v,((noMem r=true∧∀p∈hout,noMemB p.2=true)→noMem d=true)→C ρ' (Live hout) (okOf (γ'.At w') ρ' hout w') w' d v→C ρ2 (Live h2) (okOf (γ2.At w') ρ2 h2 w') w' (renD g d) v:=by
  intro d v hd hc
  by_cases hf:noMem r=true∧∀p∈hout,noMemB p.2=true
  ·exact(hc.free (ok':=fun _=>False) (hd hf)).ren g hgl (fun k h=>h.elim)
  ·exact hc.ren g hgl (hokc hf)
 have convR:∀d v,((noMem r=true∧∀p∈hout,noMemB p.2=true)→noMem d=true)→Rep (okOf (γ'.At w') ρ' hout w') w' d v→Rep (okOf (γ2.At w') ρ2 h2 w') w' d v:=by
  intro d v hd hc
  by_cases hf:noMem r=true∧∀p∈hout,noMemB p.2=true
  ·exact hc.free (hd hf)
  ·exact hc.mono fun k hk=>⟨hokc hf k hk,rfl⟩
 have blk2:∀b y,look h2 b=some y→BlkOK P (γ2.At w') ρ2 h2 w' b y∧(y.live=true→(ρ2 b).blk<w'.heap.size∧γ2.S (ρ2 b).blk):=by
  intro b y hy
  rcases cases2 b y hy with⟨c,x,hx,rfl,rfl⟩|⟨hy1,hne⟩
  ·have hlc:Live hout c:=by simp[Live,hx]
   refine⟨BlkOK.ren g (sc.blk c x hx) (r1 c hlc) (good:=fun d=>(noMem r=true∧∀p∈hout,noMemB p.2=true)→noMem d=true) hgl (fun d v hd hc=>convC d v hd hc) (fun d v hd hc=>convR d v hd hc) ?_,fun hl=>?_⟩
   ·have hm:(c,x)∈hout:=dr hx
    cases x with
    |var T cs=>exact fun d hd hf=>by have:=hf.2 _ hm;simp only[noMemB,bc] at this;exact this d hd
    |row E l=>exact fun e he d hd hf=>by have:=hf.2 _ hm;simp only[noMemB,bc] at this;exact this e he d hd
    |froz l=>
     by_cases hf:noMem r=true∧∀p∈hout,noMemB p.2=true
     ·have:=hf.2 _ hm
      simp only[noMemB,List.isEmpty_iff] at this
      exact .inl this
     ·exact .inr fun h=>absurd h hf
    |fvar cs=>exact fun hf=>by have:=hf.2 _ hm;simp[noMemB] at this
    |moved b=>trivial
    |obj b p=>trivial
    |gone=>trivial
   ·have hxl:x.live=true:=by rw[←iR g];exact hl
    rw[r1 c hlc]
    exact⟨(scown c x hx hxl).1,(scown c x hx hxl).2.2⟩
  ·have e:=rother b hne
   refine⟨BlkOK.monoA (s1.blk b y hy1) e hlive hok fun hmu=>?_,fun hl=>?_⟩
   ·have hl:y.live=true:=bz hmu
    have ho:=SimN.own s1 hy1 hl
    refine scblk _ ho.1 (.inl ho.2) ?_
    rintro⟨c,x',hx,hlx,e⟩
    obtain⟨x,e2,_,hxl⟩:=hmut c x' hx hlx
    have:=s1.inj _ b x y e2 hy1 hxl hl e
    exact hne c (hρ c (by simp[Live,hx])).2 this
   ·rw[e]
    have ho:=SimN.own s1 hy1 hl
    exact⟨bU ho.1 hsz,hS2 _ ho.2⟩
 have glob:∀k,γ.At w k→¬γ.S k→k<w.heap.size→γ2.At w' k∧¬γ2.S k∧k<w'.heap.size∧w'.heap[k]?=w.heap[k]?:=by
  intro k hAt hn hlt
  have hA:γ.A k:=hAt.elim id fun h=>by omega
  refine⟨.inl (hA.imp (hS2 k) fun h=>by rw[hfr.R2];exact h),fun h=>((hfr.S2 k).1 h).elim hn fun h=>by have:=(hfr.new k h).1;omega,bU hlt hsz,scblk k hlt hA fun h=>hn (hin_own k h).2⟩
 refine⟨ρ2,fun b hb=>(hlive b hb).2,⟨fun k hk=>.inr hk,fun k hk=>.inl (.inl hk),Fr.refl _ _,s1.defers,s1.size,fun k d hk=>⟨(s1.tmp k d hk).1,(s1.tmp k d hk).2.mono hlive hok⟩,fun b y hy=>(blk2 b y hy).1,fun b y hy hl=>⟨((blk2 b y hy).2 hl).1,.inl ((blk2 b y hy).2 hl).2⟩,fun b1 b2 y1 y2 hy1 hy2 hl1 hl2 he=>?_,fun k x hx=>?_,fun k zs hx=>?_⟩,convC r u (fun hf=>hf.1) hr⟩
 ·have other:∀b c x y,look hout c=some x→x.live=true→look h1 b=some y→y.live=true→(∀c,Live hout c→g c≠b)→(ρ' c).blk=(ρ b).blk→False:=by
   intro b c x y hx hxl hy hyl hne he
   have ho:=scown c x hx hxl
   have hb2:=(SimN.own s1 hy hyl).1
   rcases ho.2.1 with⟨b',z',hz,hlz,e⟩|h'
   ·obtain⟨z,e2,_,hzl⟩:=hmut b' z' hz hlz
    have:=s1.inj _ b z y e2 hy hzl hyl (e.trans he)
    exact hne b' (hρ b' (by simp[Live,hz])).2 this
   ·omega
  rcases cases2 b1 y1 hy1 with⟨c,x,hx,rfl,rfl⟩|⟨q1,hne1⟩<;>rcases cases2 b2 y2 hy2 with⟨c',x',hx',rfl,rfl⟩|⟨q2,hne2⟩
  ·rw[r1 c (by simp[Live,hx]),r1 c' (by simp[Live,hx'])] at he
   rw[sc.inj c c' x x' hx hx' (by rw[←iR g];exact hl1) (by rw[←iR g];exact hl2) he]
  ·rw[r1 c (by simp[Live,hx]),rother b2 hne2] at he
   exact(other b2 c x y2 hx (by rw[←iR g];exact hl1) q2 hl2 hne2 he).elim
  ·rw[r1 c' (by simp[Live,hx']),rother b1 hne1] at he
   exact(other b1 c' x' y1 hx' (by rw[←iR g];exact hl2) q1 hl1 hne1 he.symm).elim
  ·rw[rother b1 hne1,rother b2 hne2] at he
   exact s1.inj b1 b2 y1 y2 q1 q2 hl1 hl2 he
 ·obtain⟨⟨q1,q2,q3⟩,ad,q4⟩:=s1.gl.1 k x hx
  obtain⟨p1,p2,p3,p4⟩:=glob k q1 q2 q3
  exact⟨⟨p1,p2,p3⟩,ad,(World.cell?_of_block (w:=w) p4).trans q4⟩
 ·obtain⟨⟨q1,q2,q3⟩,T,fz,q4⟩:=s1.gl.2 k zs hx
  obtain⟨p1,p2,p3,p4⟩:=glob k q1 q2 q3
  exact⟨⟨p1,p2,p3⟩,T,fz,p4.trans q4⟩
def nO (K:Nat→Prop)(ρ:Id→Pl)(hin:HL):Gh:={S:=oV ρ hin,R:=fun k=>K k∧¬oV ρ hin k}
theorem SimN.call [PhC P]{main:Bool}{dfs:List Deferred}{γ:Gh}(s:SimN P dfs γ N ρ t h a w){f:FuncId}{n:Nat}{ds:List D}{d:D}{u:HL}{fs:List Nat}(c:CallOK P f h n ds d u fs){nn:Nat}(hc:DT P f c.ds' c.hin c.r c.hout nn)
  {vs:Array Value} (hl:ds.length=vs.size) (hv:∀i,i<ds.length→C ρ (Live h) (okOf (γ.At w) ρ h w) w (ds.getD i .undef) (vs.getD i undef)):
  CallsG P main f vs nn γ w fun γ' v w'=>∃ρ2,Ext h ρ ρ2∧SimN P dfs γ' N ρ2 t (puts u h) a w'∧C ρ2 (Live (puts u h)) (okOf (γ'.At w') ρ2 (puts u h) w') w' d v:=by
 obtain⟨g,W,F,ds',hin,r,hout,_,len,args,blks,keys,inj,sub,new,apart,foot,rfl,upd⟩:=c
 have con:DT P f ds' hin r hout nn:=hc
 clear hc
 have hmut:∀b x',look hin b=some x'→x'.live=true→∃x,look h (g b)=some x∧x.mutable=true∧x.live=true:=fun b x' hx hlv=>by
  obtain⟨x,h1,h2⟩:=blks b x' hx
  exact⟨x,h1,(h2.live hlv).2.2.1,(h2.live hlv).1⟩
 have inj':∀b b',Live hin b→Live hin b'→g b=g b'→b=b':=fun b b' hb hb'=>inj b b' (sub b hb) (sub b' hb')
 have hinS:∀k,oV (fun b=>ρ (g b)) hin k→γ.S k:=by
  rintro k ⟨b,x',hx,hlx,rfl⟩
  obtain⟨x,e,_,hl⟩:=hmut b x' hx hlx
  exact(SimN.own s e hl).2
 have go:∀(K:Nat→Prop),(∀k,K k→γ.A k)→(∀k,okOf (γ.At w) ρ h w k→K k∨oV (fun b=>ρ (g b)) hin k)→(∀b∈W,∀x,look h b=some x→x.mutable=true→K (ρ b).blk∨oV (fun b=>ρ (g b)) hin (ρ b).blk)→
   CallsG P main f vs nn γ w fun γ2 v w'=>∃γ' M ρ',(∀b,Live hin b→ρ' b=ρ (g b)∧Live hout b)∧SimN P [] γ' 0 ρ' [] hout jD w'∧C ρ' (Live hout) (okOf (γ'.At w') ρ' hout w') w' r v∧Fra (nO K (fun b=>ρ (g b)) hin) γ w M γ' γ2 w':=by
  intro K hK1 hK2 hK3
  have hAt:∀k,K k∨oV (fun b=>ρ (g b)) hin k→(nO K (fun b=>ρ (g b)) hin).At w k:=fun k hk=>by
   by_cases hi:oV (fun b=>ρ (g b)) hin k
   ·exact .inl (.inl hi)
   ·exact .inl (.inr ⟨hk.resolve_right hi,hi⟩)
  obtain⟨p3,p4,p5⟩:=Sim.into (K:=(nO K (fun b=>ρ (g b)) hin).At w) s len args blks inj' apart (fun _ h=>.inr h) (fun _ h=>.inl (.inl h)) (fun k h=>hAt k (hK2 k h)) (fun b hb x hx hmu=>hAt _ (hK3 b hb x hx hmu)) hl hv
  have:=con main (nO K (fun b=>ρ (g b)) hin) w _ vs rfl p3 p4 p5
  refine(this.frame (γ2:=γ) hinS (fun k hk=>hk.elim (fun h=>.inl (hinS k h)) fun(h:K k∧¬oV (fun b=>ρ (g b)) hin k)=>hK1 k h.1) (fun _ _ (h:False)=>h.elim)).mono (aN _) ?_
  rintro γ2 v w' ⟨γ',M,⟨ρ',h1,h3,h4⟩,hfr⟩
  exact⟨γ',M,ρ',h1,h3,h4,hfr⟩
 rcases upd with⟨f1,f2,rfl⟩|⟨f1,rfl⟩
 ·refine(go γ.A (fun _ h=>h) (fun k hk=>.inl (hk.1.2.elim id fun h=>by have:=hk.1.1;omega)) (fun b hb x hx hmu=>.inl (.inl (SimN.own s hx (bz hmu)).2))).mono (aN _) ?_
  rintro γ2 v w' ⟨γ',M,ρ',h1,h3,h4,hfr⟩
  exact SimN.back s hmut keys inj new rfl hfr h1 h3 h4 (.inl ⟨f1,f2⟩)
 ·obtain⟨q1,q2,q3⟩:=Sim.frz_ok s W
  have q1':SimN P dfs γ N ρ t (puts (frz h W) h) a w:=q1
  have keepM:∀b x,look h b=some x→(∀c∈W,c≠b)→look (puts (frz h W) h) b=some x:=by
   intro b x hx hne
   rw[cW,if_neg (fun hm=>hne b hm rfl)]
   exact hx
  have hok1:∀k,okOf (γ.At w) ρ h w k→okOf (γ.At w) ρ (puts (frz h W) h) w k:=by
   rintro k ⟨hk,hm⟩
   refine⟨hk,fun b y hy hmu=>?_⟩
   rcases q2 b with q|⟨y',z1,z2⟩
   ·rw[q] at hy;exact hm b y hy hmu
   ·rw[z2] at hy
    obtain rfl:=bm hy
    rw[(jH z1).2.1] at hmu;cases hmu
  have hrow1:∀b∈W,∀x,look h b=some x→x.mutable=true→okOf (γ.At w) ρ (puts (frz h W) h) w (ρ b).blk:=by
   intro b hb x hx hmu
   obtain⟨y,hy⟩:=mh.1 (f1 b hb x hx hmu)
   have hfr:=q3 b hb y hy
   have hyo:=jH hy
   have ho:=SimN.own q1' hfr hyo.2.2
   refine⟨⟨ho.1,.inl (.inl ho.2)⟩,fun b' z hz hmz he=>?_⟩
   have:=q1.inj b' b z _ hz hfr (bz hmz) hyo.2.2 he
   rw[this,hfr] at hz
   obtain rfl:=bm hz
   rw[hyo.2.1] at hmz;cases hmz
  have hmut1:∀b x',look hin b=some x'→x'.live=true→∃x,look (puts (frz h W) h) (g b)=some x∧x.mutable=true∧x.live=true:=by
   intro b x' hx hlx
   obtain⟨x,e1,e2,e3⟩:=hmut b x' hx hlx
   exact⟨x,keepM _ x e1 (fun c hc e=>apart c hc b (by simp[Live,hx]) e.symm),e2,e3⟩
  have new1:∀b,Live hout b→¬Live hin b→look (puts (frz h W) h) (g b)=none:=by
   intro b hb hb'
   have:=new b hb hb'
   rcases q2 (g b) with q|⟨y',z1,_⟩
   ·exact q.trans this
   ·obtain⟨⟨x,hx,_⟩,_⟩:=jH z1
    rw[this] at hx;cases hx
  refine(go (fun k=>okOf (γ.At w) ρ (puts (frz h W) h) w k) (fun k hk=>hk.1.2.elim id fun h=>by have:=hk.1.1;omega) (fun k h=>.inl (hok1 k h)) (fun b hb x hx hmu=>.inl (hrow1 b hb x hx hmu))).mono (aN _) ?_
  rintro γ2 v w' ⟨γ',M,ρ',h1,h3,h4,hfr⟩
  obtain⟨ρ2,g0,g1,g2⟩:=SimN.back q1' hmut1 keys inj new1 rfl hfr h1 h3 h4 (.inr fun k hk=>hk.1)
  rw[bG]
  refine⟨ρ2,fun b hb=>g0 b ?_,g1,g2⟩
  rcases q2 b with q|⟨y,_,z2⟩
  ·simpa[Live,q] using hb
  ·simp[Live,z2]
end Go.Proofs.Ytbmnihglaokhmaa.Am
namespace Go.Proofs.Ytbmnihglaokhmaa.Am
open Go Go.RowKit
variable {P:Program} {w0:World} {S:SD} {A:Nat→Prop} {N:Nat} {ρ:Id→Pl} {t:List (Nat×D)} {h h':HL} {a:Act} {w:World}
mutual
def aA:D→List Id
 | .ref b=>[b]
 | .ptr b _=>[b]
 | .eptr b _ _=>[b]
 | .vref b _ _=>[b]
 | .mp b=>[b]
 | .ifc _ d=>aA d
 | .clo _ cs=>bE cs
 | .agg cs=>bE cs
 | .tup cs=>bE cs
 |_=>[]
def bE:List D→List Id
 |[]=>[]
 |d::l=>aA d++bE l
end
theorem gS {l:List D}{d:D}(hd:d∈l):∀b∈aA d,b∈bE l:=by
 induction l with
 |nil=>cases hd
 |cons x l ih=>
  intro b hb
  simp only[bE,cm]
  rcases a9.1 hd with rfl|hd
  ·exact .inl hb
  ·exact .inr (ih hd b hb)
theorem fl:∀l:List D,bE l=l.flatMap aA
 |[]=>rfl
 |d::l=>by simp[bE,fl l]
mutual
def fwd (h:HL):D→D
 | .ref b=>(match look h b with|some (.moved c)=>.ref c|some (.froz l)=>.lst l|_=>.ref b)
 | .ptr b o=>(match look h b with|some (.moved c)=>.ptr c o|some (.fvar cs)=>(match o with|0=>.box cs|o+1=>.iptr (.agg cs) (o+1))|_=>.ptr b o)
 | .eptr b i o=>(match look h b with|some (.moved c)=>.eptr c i o|_=>.eptr b i o)
 | .vref b o n=>(match look h b with|some (.moved c)=>.vref c o n|_=>.vref b o n)
 | .mp b=>(match look h b with|some (.moved c)=>.mp c|_=>.mp b)
 | .ifc T d=>.ifc T (fwd h d)
 | .clo f cs=>.clo f (i5 h cs)
 | .agg cs=>.agg (i5 h cs)
 | .tup cs=>.tup (i5 h cs)
 |d=>d
def i5 (h:HL):List D→List D
 |[]=>[]
 |d::l=>fwd h d::i5 h l
end
theorem d9 (h:HL):∀l,i5 h l=l.map (fwd h)
 |[]=>by simp[i5]
 |d::l=>by simp[i5,d9 h l]
theorem Rep.fwd {ok:Nat→Prop}{d:D}{v:Value}(h:HL)(hr:Rep ok w d v):Rep ok w (fwd h d) v:=by
 induction hr with
 |agg cs vs hl hh ih=>
  simp only[Am.fwd,d9]
  refine .agg _ _ (by simpa using hl) fun i hi=>?_
  have hi':i<cs.length:=by simpa using hi
  have:=ih i hi'
  simpa[aX,hi'] using this
 |tup cs vs hl hh ih=>
  simp only[Am.fwd,d9]
  refine .tup _ _ (by simpa using hl) fun i hi=>?_
  have hi':i<cs.length:=by simpa using hi
  have:=ih i hi'
  simpa[aX,hi'] using this
 |int k n=>exact .int k n
 |bool b=>exact .bool b
 |str s=>exact .str s
 |none a cap ha hcap=>exact .none a cap ha hcap
 |lst l n b off cap f hn hcap hmax hok hsz hpos hc hr ih=>exact .lst l n b off cap f hn hcap hmax hok hsz hpos hc hr
 |box cs b off f hok hpos hc hr ih=>exact .box cs b off f hok hpos hc hr
 |nilp=>exact .nilp
 |nils=>exact .nils
 |nilf=>exact .nilf
 |nilm=>exact .nilm
 |val v hv=>exact .val v hv
 |nili=>exact .nili
theorem Sim.fwd (s:Sim P w0 S A N ρ t h a w){d:D}{v:Value}(hc:C ρ (Live h) (okOf A ρ h w) w d v):C ρ (Live h) (okOf A ρ h w) w (fwd h d) v:=by
 induction hc with
 |pure hr=>exact .pure (hr.fwd h)
 |ref b hb=>
  simp only[Am.fwd]
  split
  ·rename_i c hl
   have:=s.blk b _ hl
   rw[this.2];exact .ref c this.1
  ·rename_i l hl;exact .pure (s.blk b _ hl)
  ·exact .ref b hb
 |ptr b o hb=>
  simp only[Am.fwd]
  split
  ·rename_i c hl
   have:=s.blk b _ hl
   rw[this.2];exact .ptr c o this.1
  ·rename_i cs hl
   have hbk:Rep _ _ _ _:=s.blk b _ hl
   split
   ·exact .pure hbk
   ·rename_i o
    generalize (ρ b).blk=blk at *
    cases hbk with
    |box _ _ off f hok hpos h1 h2=>
     have:=C.iptr (ρ:=ρ) (L:=Live h) (ok:=okOf A ρ h w) (w:=w) (.agg cs) (o+1) blk 0 f hok h1 h2
     simpa using this
  ·exact .ptr b o hb
 |eptr b i o hb=>
  simp only[Am.fwd]
  split
  ·rename_i c hl
   have:=s.blk b _ hl
   rw[this.2];exact .eptr c i o this.1
  ·exact .eptr b i o hb
 |vref b o n hb hn=>
  simp only[Am.fwd]
  split
  ·rename_i c hl
   have:=s.blk b _ hl
   rw[this.2];exact .vref c o n this.1 hn
  ·exact .vref b o n hb hn
 |mp b hb=>
  simp only[Am.fwd]
  split
  ·rename_i c hl
   have:=s.blk b _ hl
   rw[this.2];exact .mp c this.1
  ·exact .mp b hb
 |iptr e o b off f hok h1 h2=>exact .iptr e o b off f hok h1 h2
 |gp g x ad hx hok hc=>exact .gp g x ad hx hok hc
 |gv g x ad hx hok hc=>exact .gv g x ad hx hok hc
 |agg cs vs hl hh ih=>
  simp only[Am.fwd,d9]
  refine .agg _ _ (by simpa using hl) fun i hi=>?_
  have hi':i<cs.length:=by simpa using hi
  have:=ih i hi'
  simpa[aX,hi'] using this
 |tup cs vs hl hh ih=>
  simp only[Am.fwd,d9]
  refine .tup _ _ (by simpa using hl) fun i hi=>?_
  have hi':i<cs.length:=by simpa using hi
  have:=ih i hi'
  simpa[aX,hi'] using this
 |clo f cs vs hl hh ih=>
  simp only[Am.fwd,d9]
  refine .clo _ _ _ (by simpa using hl) fun i hi=>?_
  have hi':i<cs.length:=by simpa using hi
  have:=ih i hi'
  simpa[aX,hi'] using this
 |ifc T d v hh ih=>exact .ifc T _ v ih
 |any v=>exact .any v
 |junk v hv=>exact .junk v hv
def gD:HL→List (Id×Id)→Option HL
 |_,[]=>some []
 |h,(b,c)::ms=>match look h b with
  |some x=>if x.live=true∧look h c=none then(gD (puts [(b,.moved c),(c,x)] h) ms).map fun u=>[(b,.moved c),(c,x)]++u else none
  |none=>none
theorem Sim.moves (s:Sim P w0 S A N ρ t h a w):∀(ms:List (Id×Id)) (u:HL),gD h ms=some u→∃ρ',Ext h ρ ρ'∧(∀b,Live h b→Live (puts u h) b)∧Sim P w0 S A N ρ' t (puts u h) a w:=by
 intro ms
 induction ms generalizing h ρ with
 |nil=>
  intro u hu
  simp only[gD,aK] at hu
  subst hu
  exact⟨ρ,Ext.refl _ _,fun b hb=>hb,s⟩
 |cons m ms ih=>
  obtain⟨b,c⟩:=m
  intro u hu
  simp only[gD] at hu
  split at hu
  ·rename_i x hx
   split at hu
   ·rename_i hcond
    obtain⟨u',h1,rfl⟩:=bj.1 hu
    obtain⟨e1,s1⟩:=s.move hx hcond.1 hcond.2
    obtain⟨ρ',e2,e3,s2⟩:=ih (h:=puts [(b,.moved c),(c,x)] h) s1 u' h1
    have hl:∀b',Live h b'→Live (puts [(b,.moved c),(c,x)] h) b':=fun b' hb'=>Live.put (Live.put hb')
    rw[bG]
    exact⟨ρ',fun b' hb'=>(e2 b' (hl b' hb')).trans (e1 b' hb'),fun b' hb'=>e3 b' (hl b' hb'),s2⟩
   ·cases hu
  ·cases hu
def Agree (fs:List Nat)(h h':HL):Prop:=∀b:Id,b.1∈fs→look h b=look h' b
def kJ (bs:List Id):List Nat:=bs.map (·.1)
theorem cL {bs:List Id}{b:Id}(hb:b∈bs):b.1∈kJ bs:=aP.2 ⟨b,hb,rfl⟩
theorem Agree.sub {fs gs:List Nat}(ha:Agree fs h h')(hs:∀k∈gs,k∈fs):Agree gs h h':=fun b hb=>ha b (hs _ hb)
theorem Agree.at {fs:List Nat}(ha:Agree fs h h'){bs:List Id}(hs:∀k∈kJ bs,k∈fs){b:Id}(hb:b∈bs):look h b=look h' b:=ha b (hs _ (cL hb))
theorem bX {α β:Type}{f g:α→Option β}:∀{l:List α},(∀x∈l,f x=g x)→l.mapM f=l.mapM g
 |[],_=>rfl
 |x::l,h=>by simp only[gh,h x (bh ..),bX fun y hy=>h y (bl _ hy)]
theorem bQ {u:HL}{b:Id}(hb:look h b=look h' b):look (puts u h) b=look (puts u h') b:=by
 induction u generalizing h h' with
 |nil=>exact hb
 |cons x u ih=>
  show look (puts u (put x.1 x.2 h)) b=look (puts u (put x.1 x.2 h')) b
  refine ih ?_
  rw[aD,aD,hb]
theorem Agree.puts {fs:List Nat}(ha:Agree fs h h')(u:HL):Agree fs (puts u h) (puts u h'):=fun b hb=>bQ (ha b hb)
mutual
theorem mL:∀{d:D},(∀b∈aA d,look h b=look h' b)→fwd h d=fwd h' d
 | .ref b,hb=>by simp only[fwd,hb b (by simp[aA])]
 | .ptr b o,hb=>by simp only[fwd,hb b (by simp[aA])]
 | .eptr b i o,hb=>by simp only[fwd,hb b (by simp[aA])]
 | .vref b o n,hb=>by simp only[fwd,hb b (by simp[aA])]
 | .mp b,hb=>by simp only[fwd,hb b (by simp[aA])]
 | .ifc T d,hb=>by simp only[fwd,mL (d:=d) fun b h1=>hb b (by simpa[aA] using h1)]
 | .clo f cs,hb=>by simp only[fwd,nQ (l:=cs) fun b h1=>hb b (by simpa[aA] using h1)]
 | .agg cs,hb=>by simp only[fwd,nQ (l:=cs) fun b h1=>hb b (by simpa[aA] using h1)]
 | .tup cs,hb=>by simp only[fwd,nQ (l:=cs) fun b h1=>hb b (by simpa[aA] using h1)]
 | .int ..,_| .bool _,_| .str _,_| .lst _,_| .box _,_| .nilp,_| .nils,_| .nilf,_| .nilm,_| .val _,_| .nili,_| .iptr ..,_| .undef,_| .junk,_| .gp _,_| .gv _,_=>by simp only[fwd]
theorem nQ:∀{l:List D},(∀b∈bE l,look h b=look h' b)→i5 h l=i5 h' l
 |[],_=>by simp only[i5]
 |d::l,hb=>by
  simp only[i5,mL (d:=d) fun b h1=>hb b (by simp[bE,h1]),nQ (l:=l) fun b h1=>hb b (by simp[bE,h1])]
end
theorem yX {d:D}(ha:Agree (kJ (aA d)) h h'):fwd h d=fwd h' d:=mL fun b hb=>ha b (cL hb)
theorem eD {d:D}(ha:Agree (kJ (aA d)) h h'):elems h d=elems h' d:=by
 cases d<;>simp only[elems]
 ·rename_i b;rw[ha b (cL (by simp[aA]))]
 ·rename_i b o n;rw[ha b (cL (by simp[aA]))]
def oU:D→List Id
 | .ref b=>[b]
 | .ptr b 0=>[b]
 |_=>[]
def Ev:D→List Id
 | .agg cs=>cs.flatMap oU
 | .tup cs=>cs.flatMap oU
 |d=>oU d
theorem AW (d:D):∀b∈Ev d,b∈aA d:=by
 have h0:∀d,∀b∈oU d,b∈aA d:=by
  intro d b hb
  unfold oU at hb
  split at hb
  ·simpa[aA] using hb
  ·simpa[aA] using hb
  ·cases hb
 intro b hb
 unfold Ev at hb
 split at hb
 ·obtain⟨x,hx,hb⟩:=dM.1 hb
  simp only[aA];exact gS hx b (h0 x b hb)
 ·obtain⟨x,hx,hb⟩:=dM.1 hb
  simp only[aA];exact gS hx b (h0 x b hb)
 ·exact h0 _ b hb
theorem oO {b:Id}(hb:look h b=look h' b):frzB h b=frzB h' b:=by unfold frzB;rw[hb]
theorem iI {α β:Type}{f g:α→Option β}:∀{l:List α},(∀x∈l,f x=g x)→l.filterMap f=l.filterMap g
 |[],_=>rfl
 |x::l,h=>by simp only[List.filterMap_cons,h x (bh ..),iI fun y hy=>h y (bl _ hy)]
theorem qO {bs:List Id}(hb:∀b∈bs,look h b=look h' b):frz h bs=frz h' bs:=iI fun b h1=>by rw[oO (hb b h1)]
theorem lJ:∀(ms:List (Id×Id)) {h h':HL},Agree (kJ (ms.flatMap fun m=>[m.1,m.2])) h h'→gD h ms=gD h' ms
 |[],_,_,_=>rfl
 |(b,c)::ms,h,h',ha=>by
  have e1:=ha b (cL (by simp))
  have e2:=ha c (cL (by simp))
  simp only[gD,e1,e2]
  split
  ·rename_i x hx
   rw[lJ ms (h:=puts [(b,.moved c),(c,x)] h) (h':=puts [(b,.moved c),(c,x)] h') fun d hd=>bQ (ha d ?_)]
   unfold kJ at hd⊢
   simp only[i0,jr]
   exact dA _ hd
  ·rfl

end Go.Proofs.Ytbmnihglaokhmaa.Am
