/- Orders: FnWorldAvailable. FnWorldAvailable's card holds: it returns true for all bytes, and leaves its argument as it was. -/
import Derived.Test.YthmfppknagbkeaaGreatDoorRows
import Derived.Test.YthmfppknagbkeaaGreatDoorCards
import Derived.Test.YthmfppknagbkeaaGreatDoorTie
import Derived.Stop.LaidErr
import Derived.Stop.Joined
import Derived.MakeChecks
import Derived.ChangeVars
import Derived.LaidHandle
import Derived.SevenTiedAt
import Derived.Test.YthmfppknagbkeaaGreatDoorA412
set_option linter.unusedSimpArgs false
set_option linter.unusedVariables false
set_option maxHeartbeats 1000000
namespace Go.Proofs.YthmfppknagbkeaaGreatDoor.Am
open Go
attribute [local irreducible] Mk bk Ari eD ky iB br b8 fY er At af kQ
set_option maxRecDepth 10000
theorem DI (c:List Int)(hc:comV c=true):af Tryz.prog 25 [.lst (.int .i64) c] [] (.int .i64 (uU c)) []:=by
 have hV:=oO c
 rw[hc] at hV
 have hS:=A9 c hc
 refine aa al Tryz.func25 rfl rfl false 0 4 rfl rfl rfl rfl fun K hK hb1 hb2=>?_;simp only[ae,enc,Nat.reduceAdd]
 clear hb1 hb2
 (repeat' first|refine st ?_|refine sa fun xe hxe=>?_|refine sb (fun hq=>?_) fun hq=>?_|refine cr (hV) ?_|refine cr (hS) ?_|exact True.intro)
 (try any_goals(first|exact absurd trivial hq|exact absurd rfl hq|exact absurd hq (by omega)|(exfalso;simp at hq;done)))
 exact⟨rfl,rfl⟩
def uT (o:List Slt)(x:Slt):Bool:=o.any fun y=>y.round==x.round && y.author==x.author
theorem HY (o:List Slt)(x:Slt)(hl:o.length≤1000000):af Tryz.prog 23 [.lst .slt o,.agg [.int .i64 x.round,.int .i64 x.author]] [] (.bool (uT o x)) []:=by
 refine aa al Tryz.func23 rfl rfl false 0 4 rfl rfl rfl rfl fun K hK hb1 hb2=>?_;simp only[ae,enc,Nat.reduceAdd]
 clear hb1 hb2
 (repeat' first|refine st ?_|refine sa fun xe hxe=>?_|refine sb (fun hq=>?_) fun hq=>?_|exact True.intro)
 (try any_goals(first|exact absurd trivial hq|exact absurd rfl hq|exact absurd hq (by omega)|(exfalso;simp at hq;done)))
 refine ab hK [] [0,3,5] (fun i:Nat=>⟨[(0,.lst .slt o),(3,.ptr 4 0),(5,.int .i64 (i:Int))],[(4,.var 54 [.int .i64 x.round,.int .i64 x.author])],5⟩) (fun i=>i≤o.length∧uT (o.take i) x=false) (fun i=>o.length-i) 0 ⟨Nat.zero_le _,rfl⟩ rfl ?_
 rintro i ⟨hi,hno⟩
 by_cases hlt:i<o.length
 ·have hxe:o[i]?=some o[i]:=List.getElem?_eq_getElem hlt
  have hsn:uT (o.take (i+1)) x=(o[i].round==x.round && o[i].author==x.author):=by
   have h0:uT (o.take i) x=false:=hno
   unfold uT at h0⊢
   rw[List.take_succ_eq_append_getElem hlt,List.any_append,h0]
   simp
  have hall:(o[i].round==x.round && o[i].author==x.author)=true→uT o x=true:=fun h=>List.any_eq_true.2 ⟨_,List.getElem_mem hlt,h⟩
  generalize o[i]=y at *
  cases hq0:(y.round==x.round && y.author==x.author)
  ·rw[hq0] at hsn
   (repeat' first|refine st ?_|refine sa fun xe hxe=>?_|refine sb (fun hq=>?_) fun hq=>?_|exact True.intro)
   (try any_goals(first|exact absurd trivial hq|exact absurd rfl hq|exact absurd hq (by omega)|(exfalso;simp at hq;done)))
   exact⟨i+1,⟨by omega,hsn⟩,by omega,rfl⟩
  ·rw[hall hq0]
   (repeat' first|refine st ?_|refine sa fun xe hxe=>?_|refine sb (fun hq=>?_) fun hq=>?_|exact True.intro)
   (try any_goals(first|exact absurd trivial hq|exact absurd rfl hq|exact absurd hq (by omega)|(exfalso;simp at hq;done)))
   exact⟨rfl,rfl⟩
 ·rw[List.take_of_length_le (by omega)] at hno
  rw[hno]
  (repeat' first|refine st ?_|refine sa fun xe hxe=>?_|refine sb (fun hq=>?_) fun hq=>?_|exact True.intro)
  (try any_goals(first|exact absurd trivial hq|exact absurd rfl hq|exact absurd hq (by omega)|(exfalso;simp at hq;done)))
  exact⟨rfl,rfl⟩
theorem F5 {c ms:List Int}{b:Int}(hc:comV c=true)(hb:badS c b=true)(hm:cd c ms=true)(hq:quo c≤cR c ms):uU c-1≤cR c (ms.filter fun m=>m !=b):=by
 have h1:=l7 (c:=c) (b:=b) (gQ (bG hm))
 have hle:(if b∈ms then c.getD b.toNat 0 else 0)≤pD c:=by
  have hf:=kF hc
  split
  ·rename_i hx
   rcases dy.1 hb with h|⟨-,h⟩
   ·have:=bf hm _ hx;omega
   ·exact h
  ·exact hf.1
 have ht:=en hc
 have e1:quo c=2*jf c/3+1:=by
  unfold quo
  rw[Int.tdiv_eq_ediv_of_nonneg (by omega)]
 have e2:pD c=(jf c-1)/3:=by
  unfold pD
  rw[Int.tdiv_eq_ediv_of_nonneg (by omega)]
 have e3:uU c=jf c/3+1:=by
  unfold uU
  rw[Int.tdiv_eq_ediv_of_nonneg (by omega)]
 omega
theorem Bn {c ms:List Int}(b:Int)(hm:cd c ms=true):cd c (ms.filter fun m=>m !=b)=true:=rV (fun m h=>bf hm m (List.mem_filter.1 h).1) ((bG hm).filter _)
set_option maxHeartbeats 1000000 in
theorem Bg (c:List Int)(hc:∀x∈c,0≤x∧x≤255):af Tryz.prog 5 [.lst (.int .u8) c] [] (.bool true) []:=by
 obtain⟨⟨w,es⟩,⟨hw,he1,he2⟩,hd⟩:=Fc c hc
 dsimp only at hw he1 he2 hd
 have hI:=A6 w es (fun g hg=>by have:=hw.vl g hg;omega) (by omega)
 have hS:=Cp w es (by have:=hw.len;omega) (by omega) (fun e he=>by have:=he2 e he;omega)
 rw[ce.2 hw,Bool.and_true] at hI hS
 refine aa al Tryz.func5 rfl rfl false 0 4 rfl rfl rfl rfl fun K hK hb1 hb2=>?_;simp only[ae,enc,Nat.reduceAdd]
 clear hb1 hb2
 by_cases hl:1048576<(c.length:Int)
 ·(repeat' first|refine st ?_|refine sa fun xe hxe=>?_|refine sb (fun hq=>?_) fun hq=>?_|exact True.intro)
  (try any_goals(first|exact absurd trivial hq|exact absurd rfl hq|exact absurd hq (by omega)|(exfalso;simp at hq;done)))
  exact⟨rfl,rfl⟩
 cases h80:decide (es.length≤80)
 ·simp only[h80,Bool.false_eq_true,if_false] at hI hS
  (repeat' first|refine st ?_|refine sa fun xe hxe=>?_|refine sb (fun hq=>?_) fun hq=>?_|refine cr (hd) ?_|refine cr (hI) ?_|refine cr (hS) ?_|refine cr (pg) ?_|exact True.intro)
  (try any_goals(first|exact absurd trivial hq|exact absurd rfl hq|exact absurd hq (by omega)|(exfalso;simp at hq;done)))
  exact⟨rfl,rfl⟩
 ·simp only[h80,if_true] at hI hS
  have hu:=lJ hw es
  generalize eC w es=u at *
  have hE:=pf u
  have h7:=hu.len
  have hvl:=hu.vlen
  have hpl:=hu.plen
  have hmm:=hu.mem
  (repeat' first|refine st ?_|refine sa fun xe hxe=>?_|refine sb (fun hq=>?_) fun hq=>?_|refine cr (hd) ?_|refine cr (hI) ?_|refine cr (hS) ?_|refine cr (hE) ?_|exact True.intro)
  (try any_goals(first|exact absurd trivial hq|exact absurd rfl hq|exact absurd hq (by omega)|(exfalso;simp at hq;done)))
  refine ab hK [] [5,9] (fun m:Nat=>⟨[(5,.ptr 4 0),(9,.int .i64 (m:Int))],[(4,.var 33 (ap u).cells)],5⟩) (fun m=>m≤u.views.length) (fun m=>u.views.length-m) 0 (Nat.zero_le _) rfl ?_
  intro m hm
  clear hI hS hd hE
  by_cases hlt:m<u.views.length
  ·have hA:=lu u (m:Int) (fun g hg=>by have:=hu.vl g hg;omega)
   have hol:=i7 hu (m:Int)
   generalize wo u (m:Int)=o at *
   (repeat' first|refine st ?_|refine sa fun xe hxe=>?_|refine sb (fun hq=>?_) fun hq=>?_|refine cr (hA) ?_|exact True.intro)
   (try any_goals(first|exact absurd trivial hq|exact absurd rfl hq|exact absurd hq (by omega)|(exfalso;simp at hq;done)))
   refine ab hK [] [5,9,10,11] (fun i:Nat=>⟨[(5,.ptr 4 0),(9,.int .i64 (m:Int)),(10,.lst .slt o),(11,.int .i64 (i:Int))],[(4,.var 33 (ap u).cells)],5⟩) (fun i=>i≤u.props.length) (fun i=>u.props.length-i) 0 (Nat.zero_le _) rfl ?_
   intro i hi
   by_cases hil:i<u.props.length
   ·have hx:u.props[i]?=some u.props[i]:=List.getElem?_eq_getElem hil
    have hpm:=(hu.pv _ (List.mem_of_getElem? hx)).2
    have hml:=hmm _ (List.mem_of_getElem? hx)
    have hD:=H8 u i _ hu hx
    have hH:=HY o ⟨(u.props[i]).v.round,(u.props[i]).v.author⟩ hol
    generalize u.props[i]=p at *
    dsimp only at hH
    generalize uT o _=b at *
    cases hd:don u.com p
    ·rw[hd] at hD
     (repeat' first|refine st ?_|refine sa fun xe hxe=>?_|refine sb (fun hq=>?_) fun hq=>?_|refine cr (hD) ?_|refine cr (hH) ?_|exact True.intro)
     (try any_goals(first|exact absurd trivial hq|exact absurd rfl hq|exact absurd hq (by omega)|(exfalso;simp at hq;done)))
     exact⟨i+1,by omega,by omega,rfl⟩
    rw[hd] at hD
    cases b
    ·(repeat' first|refine st ?_|refine sa fun xe hxe=>?_|refine sb (fun hq=>?_) fun hq=>?_|refine cr (hD) ?_|refine cr (hH) ?_|exact True.intro)
     (try any_goals(first|exact absurd trivial hq|exact absurd rfl hq|exact absurd hq (by omega)|(exfalso;simp at hq;done)))
     exact⟨i+1,by omega,by omega,rfl⟩
    (repeat' first|refine st ?_|refine sa fun xe hxe=>?_|refine sb (fun hq=>?_) fun hq=>?_|refine cr (hD) ?_|refine cr (hH) ?_|exact True.intro)
    (try any_goals(first|exact absurd trivial hq|exact absurd rfl hq|exact absurd hq (by omega)|(exfalso;simp at hq;done)))
    refine ab hK [] [5,9,10,11,13,14] (fun k:Nat=>⟨[(5,.ptr 4 0),(9,.int .i64 (m:Int)),(10,.lst .slt o),(11,.int .i64 (i:Int)),(13,.ref 5),(14,.int .i64 (k:Int))],[(4,.var 33 (ap u).cells),(5,.row 3 (.int .i64) ((p.members.take k).filter fun m=>m !=u.bad))],6⟩) (fun k=>k≤p.members.length) (fun k=>p.members.length-k) 0 (Nat.zero_le _) rfl ?_
    intro k hk
    by_cases hkl:k<p.members.length
    ·have hx2:p.members[k]?=some p.members[k]:=List.getElem?_eq_getElem hkl
     have hsn:((p.members.take (k+1)).filter fun m=>m !=u.bad)=if p.members[k]≠u.bad then((p.members.take k).filter fun m=>m !=u.bad)++[p.members[k]] else((p.members.take k).filter fun m=>m !=u.bad):=by
      rw[List.take_succ_eq_append_getElem hkl,List.filter_append,List.filter_cons,List.filter_nil]
      by_cases e:p.members[k]=u.bad<;>simp[e]
     have hll:((p.members.take k).filter fun m=>m !=u.bad).length≤k:=Nat.le_trans (List.length_filter_le _ _) (by rw[List.length_take];omega)
     generalize p.members[k]=x at *
     generalize ((p.members.take k).filter fun m=>m !=u.bad)=r at *
     by_cases e:x=u.bad
     ·rw[if_neg (by simpa using e)] at hsn
      (repeat' first|refine st ?_|refine sa fun xe hxe=>?_|refine sb (fun hq=>?_) fun hq=>?_|exact True.intro)
      (try any_goals(first|exact absurd trivial hq|exact absurd rfl hq|exact absurd hq (by omega)|(exfalso;simp at hq;done)))
      exact⟨k+1,by omega,by omega,by rw[hsn];rfl⟩
     ·rw[if_pos e] at hsn
      (repeat' first|refine st ?_|refine sa fun xe hxe=>?_|refine sb (fun hq=>?_) fun hq=>?_|exact True.intro)
      (try any_goals(first|exact absurd trivial hq|exact absurd rfl hq|exact absurd hq (by omega)|(exfalso;simp at hq;done)))
      exact⟨k+1,by omega,by omega,by rw[hsn];rfl⟩
    ·rw[List.take_of_length_le (by omega)]
     have hmb:=Bn u.bad hpm
     have hW:=nI u.com (p.members.filter fun m=>m !=u.bad)
     have hwe:pR u.com (p.members.filter fun m=>m !=u.bad)=cR u.com (p.members.filter fun m=>m !=u.bad):=by simp[pR,hu.com,hmb]
     rw[hwe] at hW
     have hC:=DI u.com hu.com
     have hge:=F5 hu.com hu.bad hpm (of_decide_eq_true hd)
     generalize cR u.com _=z at *
     generalize (p.members.filter fun m=>m !=u.bad)=r at *
     have hsp:1≤uU u.com∧uU u.com≤22:=by
      have a1:=lP hu.com
      have a2:=en hu.com
      omega
     generalize uU u.com=s at *
     (repeat' first|refine st ?_|refine sa fun xe hxe=>?_|refine sb (fun hq=>?_) fun hq=>?_|refine cr (hW) ?_|refine cr (hC) ?_|exact True.intro)
     (try any_goals(first|exact absurd trivial hq|exact absurd rfl hq|exact absurd hq (by omega)|(exfalso;simp at hq;done)))
     exact⟨i+1,by omega,by omega,rfl⟩
   ·(repeat' first|refine st ?_|refine sa fun xe hxe=>?_|refine sb (fun hq=>?_) fun hq=>?_|exact True.intro)
    (try any_goals(first|exact absurd trivial hq|exact absurd rfl hq|exact absurd hq (by omega)|(exfalso;simp at hq;done)))
    exact⟨m+1,by omega,by omega,rfl⟩
  ·(repeat' first|refine st ?_|refine sa fun xe hxe=>?_|refine sb (fun hq=>?_) fun hq=>?_|exact True.intro)
   (try any_goals(first|exact absurd trivial hq|exact absurd rfl hq|exact absurd hq (by omega)|(exfalso;simp at hq;done)))
   exact⟨rfl,rfl⟩
end Go.Proofs.YthmfppknagbkeaaGreatDoor.Am
namespace Go.Proofs.YthmfppknagbkeaaGreatDoor.rowAva
open Go Go.RowKit Go.ChangeShapes Go.WideShapes Go.ChangeAt Go.Proofs.YthmfppknagbkeaaGreatDoor.Am
theorem own:ownKnob Tryz.prog.godebug=none:=by kernel_rfl
theorem GD:laidOutB Tryz.prog=true:=by kernel_rfl
theorem kD:Tryz.prog.cellsOf 5=1:=by kernel_rfl
theorem dK:Tryz.prog.cellsOf 272=1:=by kernel_rfl
theorem dL:Tryz.prog.cellsOf 9=1:=by kernel_rfl
theorem pp : "*" ++ "errors.errorString" = "*errors.errorString" := by decide
theorem rowE (u : TypeId) (h : Tryz.prog.typeName? 3 u = some "*errors.errorString") : u = 248 :=
 typeName_ptr_named (nm := "errors.errorString") (by rw [pp]; kernel_rfl) (by kernel_rfl) (by decide) u (by rw [pp]; exact h)
theorem gI : Tryz.prog.globalNamed "loop.example/dagconsensus/impl.errInvalid" = some 0 := by kernel_rfl
theorem tI:(Tryz.prog.globals[(0:Nat)]?).map (·.type)=some 128:=by kernel_rfl
abbrev sI:ByteArray:={data:=#[116,104,101,32,103,114,97,112,104,32,111,114,32,116,104,101,32,108,101,97,100,101,114,115,32,97,114,101,32,105,110,118,97,108,105,100]}
theorem gW : Tryz.prog.globalNamed "loop.example/dagconsensus/impl.errNoWave" = some 1 := by kernel_rfl
theorem tW:(Tryz.prog.globals[(1:Nat)]?).map (·.type)=some 128:=by kernel_rfl
abbrev sW:ByteArray:={data:=#[116,104,101,114,101,32,105,115,32,110,111,32,115,117,99,104,32,119,97,118,101]}
theorem gX : Tryz.prog.globalNamed "loop.example/dagconsensus/impl.errNoVertex" = some 2 := by kernel_rfl
theorem tX:(Tryz.prog.globals[(2:Nat)]?).map (·.type)=some 128:=by kernel_rfl
abbrev sX:ByteArray:={data:=#[116,104,101,32,108,101,97,100,101,114,32,104,97,115,32,110,111,32,118,101,114,116,101,120,32,105,110,32,116,104,105,115,32,119,97,118,101]}
noncomputable def low:Nat:=(World.holding Tryz.prog default ⟨#[],#[],[]⟩).heap.size
noncomputable def put (g:Nat) (b:Nat) (h:Array Obj):Array Obj:=h.modify g fun
 | .cells _ t frozen=>.cells #[.iface 248 (.pointer (some ⟨b,0,none⟩))] t frozen
 |o=>o
noncomputable def laidWorld (os:Os):World:=
 let w0:=World.holding Tryz.prog os ⟨#[.cells #[.string sI] 272,.cells #[.string sW] 272,.cells #[.string sX] 272],#[],[]⟩
 {w0 with heap:=put 2 (low+2) (put 1 (low+1) (put 0 low w0.heap))}
theorem fN (os:Os)(args:Array Value):laidMetH Tryz.prog Rows.fnWorldAvailableRow.laid ((laidWorld os).forCall (fun _ _=>0) ⟨#[],args,[]⟩).memory:=by
 rw[Go.MakeChecks.laidMetH_plain _ _ _ (by kernel_rfl)]
 exact laidMet_of_run (ps:=[.cell 0 0,.cell low 0,.cell 1 0,.cell (low+1) 0,.cell 2 0,.cell (low+2) 0]) 8 (by kernel_rfl) (by kernel_rfl) (by kernel_rfl)
theorem jK {H : Type} (enc : TypeId × Value → H) {W : World} {x0 x1 x2 : Value} (h0 : W.var? Tryz.prog "loop.example/dagconsensus/impl.errInvalid" = some #[x0]) (i0 : IsIface x0) (h1 : W.var? Tryz.prog "loop.example/dagconsensus/impl.errNoWave" = some #[x1]) (i1 : IsIface x1) (h2 : W.var? Tryz.prog "loop.example/dagconsensus/impl.errNoVertex" = some #[x2]) (i2 : IsIface x2) (sp : Nat → Bool) :
  DataW.TrodVars enc Tryz.prog W sp ["loop.example/dagconsensus/impl.errInvalid", "loop.example/dagconsensus/impl.errNoWave", "loop.example/dagconsensus/impl.errNoVertex"] [tok enc x0, tok enc x1, tok enc x2] [.cell 0 0, .cell 1 0, .cell 2 0] :=
 ⟨_,_,#[x0],1,[],[.cell 1 0,.cell 2 0],gI,tI,h0,trod_held Tryz.underlying128 i0 0,⟨_,_,#[x1],1,[],[.cell 2 0],gW,tW,h1,trod_held Tryz.underlying128 i1 0,⟨_,_,#[x2],1,[],[],gX,tX,h2,trod_held Tryz.underlying128 i2 0,rfl,rfl⟩,rfl⟩,rfl⟩
theorem bj {W W':World}{n:String}{g:Nat}{cs:Array Value}(hb:Below W.heap.size W W')(hg:Tryz.prog.globalNamed n=some g)(hlt:g<W.heap.size)(h:W.var? Tryz.prog n=some cs):W'.var? Tryz.prog n=some cs:=by
 unfold World.var? at h⊢
 rw[hg] at h⊢
 simp only[Option.bind_some] at h⊢
 rw[hb.block g hlt]
 exact h
theorem eI {W : World} (h : laidMetH Tryz.prog Rows.fnWorldAvailableRow.laid W) : ∃ a0 a1 a2 : Addr, W.var? Tryz.prog "loop.example/dagconsensus/impl.errInvalid" = some #[.iface 248 (.pointer (some a0))] ∧ W.var? Tryz.prog "loop.example/dagconsensus/impl.errNoWave" = some #[.iface 248 (.pointer (some a1))] ∧ W.var? Tryz.prog "loop.example/dagconsensus/impl.errNoVertex" = some #[.iface 248 (.pointer (some a2))] := by
 rw[Go.MakeChecks.laidMetH_plain _ _ _ (by kernel_rfl)] at h
 obtain⟨a0,_,h0,-⟩:=laid_sentinel h gI tI Tryz.underlying128 rowE Tryz.underlying248 Tryz.underlying272 rfl rfl Tryz.underlying9 dK dL
 obtain⟨a1,_,h1,-⟩:=laid_sentinel h.tail gW tW Tryz.underlying128 rowE Tryz.underlying248 Tryz.underlying272 rfl rfl Tryz.underlying9 dK dL
 obtain⟨a2,_,h2,-⟩:=laid_sentinel h.tail.tail gX tX Tryz.underlying128 rowE Tryz.underlying248 Tryz.underlying272 rfl rfl Tryz.underlying9 dK dL
 exact⟨a0,a1,a2,h0,h1,h2⟩
theorem oT {g:Nat}{x:TypeId×TypeId}(h:Go.Proofs.YthmfppknagbkeaaGreatDoor.Am.look Gl g=some x):x.1=248∧(g=0∨g=1∨g=2):=by
 unfold Gl at h
 simp only[Go.Proofs.YthmfppknagbkeaaGreatDoor.Am.look] at h
 split at h
 ·rename_i e
  obtain rfl:=Option.some.inj h
  exact⟨rfl,.inl (by simpa using e)⟩
 ·split at h
  ·rename_i e
   obtain rfl:=Option.some.inj h
   exact⟨rfl,.inr (.inl (by simpa using e))⟩
  ·split at h
   ·rename_i e
    obtain rfl:=Option.some.inj h
    exact⟨rfl,.inr (.inr (by simpa using e))⟩
   ·cases h
set_option maxRecDepth 100000 in
theorem lifted (os:Os)(started:os.Started)(H:Type)(enc:TypeId×Value→H):
  ReturnsInHanded {} Tryz.checked os 5 .any (fun w args=>(Rows.fnWorldAvailableSpec.pre enc Tryz.prog Tryz.f5 Rows.fnWorldAvailableRow.domain false w args∧laidMetH Tryz.prog Rows.fnWorldAvailableRow.laid w)∧sizedMet enc Tryz.prog Tryz.f5 (OpenSpec.ofChange Rows.fnWorldAvailableSpec) false w args) (Rows.fnWorldAvailableSpec.post enc Tryz.prog Tryz.f5 false true false false):=by
 refine returnsInHanded_of_change_and (C:=Tryz.checked) (X:=fun w _=>laidMetH Tryz.prog Rows.fnWorldAvailableRow.laid w) (fun _ _ _ hh h=>h.of_heap hh) own started (by kernel_rfl) Tryz.func5
  (ChangeSpec.witness_at (enc:=enc) (C:=Tryz.checked) (os:=os) (X:=fun w _=>laidMetH Tryz.prog Rows.fnWorldAvailableRow.laid w) false (laidWorld os) #[.slice none 0 0] 8 rfl (by kernel_rfl) (by kernel_rfl) (by kernel_rfl) (by kernel_rfl) (by kernel_rfl) (fN os _)) ?_
 intro W base args ds gs before hval hW _ _ hL _
 have hW':=hW
 obtain⟨p,q,hA0,hV,rfl,hfz,hnd⟩:=hW
 have hA:DataW.TrodAll enc Tryz.prog W 0 (fun _=>true) true Tryz.f5.params.toList args.toList ds p:=hA0
 rw[Tryz.params5] at hA hval
 obtain⟨v0,vs0,d0,ds0,p0,q0,hargs,rfl,rfl,h0,r0⟩:=trodAll_cons hA
 obtain⟨rfl,rfl,rfl⟩:=trodAll_nil r0
 obtain rfl:args= #[v0]:=by cases args;simp_all
 obtain⟨a0,a1,a2,w0,w1,w2⟩:=eI hL
 obtain⟨rfl,rfl⟩:=hV.unique (jK enc w0 trivial w1 trivial w2 trivial _)
 obtain⟨c0,hc0,hr0⟩:=jS Tryz.underlying40 Tryz.underlying5 kD (hval 0 _ v0 rfl rfl) h0
 clear hA0
 simp only[List.append_nil] at hW'
 have c1:W.cell? ⟨0,0,none⟩=some (.iface 248 (.pointer (some a0))):=by simpa using World.var?_cell gI w0 0
 have c2:W.cell? ⟨1,0,none⟩=some (.iface 248 (.pointer (some a1))):=by simpa using World.var?_cell gW w1 0
 have c3:W.cell? ⟨2,0,none⟩=some (.iface 248 (.pointer (some a2))):=by simpa using World.var?_cell gX w2 0
 have l1:=cO c1
 have l2:=cO c2
 have l3:=cO c3
 refine(j6 (Bg c0 hc0) rfl (fun i hi=>?_) (fun g x hx=>?_)).mono fun e W' ⟨he,hb⟩=>?_
 ·obtain rfl:i=0:=by simp[ah] at hi;omega
  exact hr0
 ·obtain⟨e,e1|e1|e1⟩:=oT (g:=g) (x:=x) hx
  ·subst e1
   rw[e]
   exact⟨l1,a0,c1⟩
  ·subst e1
   rw[e]
   exact⟨l2,a1,c2⟩
  ·subst e1
   rw[e]
   exact⟨l3,a2,c3⟩
 subst he
 have hlt:∀x∈p0,x.block<W.heap.size:=fun x hx=>hW'.lt x (List.mem_append.2 (.inl hx))
 have hx1:=bj hb gI l1 w0
 have hx2:=bj hb gW l2 w1
 have hx3:=bj hb gX l3 w2
 exact⟨_,rfl,iO (pa:=p0) (pv:=_) hW' (fun _ _ _=>trodAll_cons_mk (shut_bool Tryz.underlying4 _) trodAll_mk0)
  (fun sp hsp=>trodAll_mk1 (WideElems.Trod_stays GD (by kernel_rfl) (of_decide_eq_true (by kernel_rfl)) h0 (fun x hx=>hb.same (hlt x hx)) (fun x hx=>hsp x (List.mem_append.2 (.inl hx)))))
  (fun sp hsp=>jK enc hx1 trivial hx2 trivial hx3 trivial sp) rfl hb (ok_one (by kernel_rfl) rfl (okWide_bool_mk Tryz.underlying4 _))⟩
theorem jA:(Rows.fnWorldAvailableRow.inPlace==Tryz.pinned.checked.prog.inPlace 5)=true:=by kernel_rfl
theorem jB:(Rows.fnWorldAvailableRow.unfollowed==Tryz.pinned.checked.prog.unfollowed 5)=true:=by kernel_rfl
theorem jC:(Rows.fnWorldAvailableRow.recurses==Tryz.pinned.checked.prog.recurses 5)=true:=by kernel_rfl
theorem jD:(Rows.fnWorldAvailableRow.named==Tryz.pinned.checked.prog.varsNamed 5)=true:=by kernel_rfl
theorem jE:Tryz.pinned.checked.prog.mayEnter=true:=by kernel_rfl
theorem jF:(Rows.fnWorldAvailableRow.lifted==Tryz.pinned.checked.prog.liftsFinal)=true:=by kernel_rfl
theorem jG:(Tryz.pinned.checked.prog.make==some Rows.fnWorldAvailableRow.make)=true:=by kernel_rfl
theorem kE:joinedFacts Tryz.pinned.checked.prog 5 Tryz.f5 Rows.fnWorldAvailableSpec Rows.fnWorldAvailableRow=true:=by
 unfold joinedFacts
 rw[jA,jB,jC,jD,jE,jF,jG]
 exact of_decide_eq_true (by kernel_rfl)
theorem wl:Rows.FnWorldAvailableSaid:=
 OpenClaim.holds_of_wide 5 Tryz.f5 rfl rfl rfl rfl rfl rfl rfl ⟨rfl,rfl,rfl,rfl,rfl⟩ rfl rfl rfl rfl rfl (by kernel_rfl) Tryz.func5 kE
  (of_decide_eq_true (by kernel_rfl)) (by unfold Func.isWrapper;first|(rw[if_pos (by decide+kernel)];kernel_rfl)|(rw[if_neg (by decide+kernel)];exact⟨rfl,rfl⟩))
  (fun os started H enc _=>lifted os started H enc)
theorem holds:Rows.FnWorldAvailableCardSaid:=
 Claim7.holds_tied_plain_at .later [] [.sentinel,.sentinel,.sentinel] true Rows.fnWorldAvailableCard.stood.harness true
  wl (fun _ h=>by cases h) (by kernel_rfl) (fun _ h=>by cases h) fnWorldAvailable_row_tie rfl ⟨rfl,rfl⟩ (by kernel_rfl) rfl
  (fun k fn hf hfn=>by
   obtain rfl:k=5:=Option.some.inj ((show Tryz.pinned.checked.prog.funcNamed Rows.fnWorldAvailableRow.func=some 5 by kernel_rfl).symm.trans hf)|>.symm
   obtain rfl:fn=Tryz.f5:=(Option.some.inj (Tryz.func5.symm.trans hfn)).symm
   exact⟨by kernel_rfl,fun j t ht=>by
    rw[Tryz.params5] at ht
    have h3:t=40:=by
     rcases j with _|j
     ·simpa using ht.symm
     ·simp at ht
    subst h3
    exact(show Tryz.prog.wantsStandIn 40=false by kernel_rfl)⟩)
  (by kernel_rfl)
#print axioms holds

end Go.Proofs.YthmfppknagbkeaaGreatDoor.rowAva
