/- A plain machine over data: values, blocks, and what they stand for in a world. The plain machine: operands, scalars, parts of values. The plain machine: what a step does to the blocks. The plain machine: loads, addresses, new variables, stores. The plain machine: indexes, parts, lengths, conversions. The plain machine: conversions, new variables, stores. The plain machine: append, make. The plain machine: make, literals, slices of slices. The plain machine: rows that grow by zeros. -/
import Derived.Orders
import Derived.BigRegion
import Derived.WalkKit
import Derived.Below
import Derived.Laws.AppendOwn
import Derived.WalkSpells
import Derived.WalkLawsBesides
import Derived.Laws.BytesString
import Derived.Laws.OwnMore
import Derived.Great.BuildSlice
import Derived.Lib.AppendZerosOnto
set_option linter.unusedSimpArgs false
set_option linter.unusedVariables false
set_option maxHeartbeats 1000000
namespace Go.Proofs.Ytbmnihglaokhmaa.Am
open Go Go.RowKit
set_option linter.defProp false
def a6:= @List.getElem?_eq_getElem
def aX:= @List.getD_eq_getElem?_getD
def aK:= @Option.some.injEq
def cz:= @List.getElem?_eq_some_iff
def bm:= @Option.some.inj
def b6:= @Bool.and_eq_true
def pW:= @List.take_succ_eq_append_getElem
def bj:= @Option.map_eq_some_iff
def dm:= @List.mem_of_getElem?
def cd:= @List.getElem?_map
def bH:= @List.length_map
def bV:= @Array.getD_eq_getD_getElem?
def bc:= @List.all_eq_true
def aM:= @Option.map_some
def bu:= @Option.bind_eq_some_iff
def ck:= @List.length_append
def ii:= @List.take_of_length_le
def bd:= @List.mem_singleton
def aN:= @Nat.le_refl
def bl:= @List.mem_cons_of_mem
def aP:= @List.mem_map
def bh:= @List.mem_cons_self
def a9:= @List.mem_cons
def bp:= @Option.bind_some
def fh:= @List.getElem_mem
def gg:= @List.getElem?_append_left
def bi:= @Prod.mk.injEq
def bY:= @Nat.eq_of_beq_eq_true
def cm:= @List.mem_append
def dZ:= @List.length_cons
def cV:= @List.append_assoc
def nz:= @List.length_take
def gJ:= @Nat.zero_le
def eH:= @Array.getElem?_eq_getElem
def jq:= @List.getElem?_append_right
def jr:= @List.map_append
def bI:= @List.map_cons
def js:= @List.getElem?_eq_none
def dA:= @List.mem_append_right
def dK:= @List.mem_append_left
def dL:= @Nat.mul_le_mul_right
def jt:= @List.getElem?_take
def eZ:= @Bool.false_eq_true
def e9:= @Option.getD_some
def dM:= @List.mem_flatMap
def gK:= @Nat.le_trans
def fi:= @List.getElem?_cons_zero
def cY:= @Nat.lt_or_ge
def ij:= @List.length_replicate
def mg:= @List.length_nil
def iZ:= @Bool.not_eq_true'
def kP:= @List.mem_filter
def d5:= @List.nil_append
def gL:= @List.mem_range
def i0:= @List.flatMap_cons
def j6:= @Array.mem_toList_iff
def cZ:= @Nat.add_mul
def mh:= @Option.isSome_iff_exists
def d6:= @List.not_mem_nil
def eI:= @List.map_map
def il:= @List.append_nil
def gM:= @Nat.zero_add
def dt:= @List.map_nil
def pX:= @List.mem_of_mem_take
def bU:= @Nat.lt_of_lt_of_le
def gh:= @List.mapM_cons
def mi:= @Bool.and_eq_false_iff
def fR:= @List.cons_append
def nA:= @Array.length_toList
def nB:= @List.drop_eq_getElem_cons
def im:= @Nat.one_mul
def fa:= @Classical.em
def dN:= @Array.getElem?_eq_some_iff
def rB:= @List.map_congr_left
def cq:= @Ne.symm
def vw:= @List.eq_nil_of_length_eq_zero
def nC:= @List.size_toArray
def pY:= @List.zipIdx_cons
def gO:= @List.range_succ
def pZ:= @List.ext_getElem?
def kQ:= @Array.getElem?_setIfInBounds_ne
def rC:= @Option.bind_eq_bind
def mj:= @Nat.add_assoc
def p6:= @List.getElem_of_mem
def aC:= @True.intro
abbrev Id:=Nat×Nat
inductive D where
 |int (k:IntKind) (n:Int)
 |bool (b:Bool)
 |str (s:ByteArray)
 |lst (l:List D)
 |agg (cs:List D)
 |tup (cs:List D)
 |box (cs:List D)
 |nilp
 |nils
 |nilf
 |nilm
 |val (v:Value)
 |nili
 |ifc (T:TypeId) (d:D)
 |clo (f:FuncId) (cs:List D)
 |ref (b:Id)
 |ptr (b:Id) (o:Nat)
 |eptr (b:Id) (i o:Nat)
 |iptr (e:D) (o:Nat)
 |vref (b:Id) (o n:Nat)
 |mp (b:Id)
 |undef
 |junk
 |gp (g:Nat)
 |gv (g:Nat)
 deriving Inhabited
def D.cells:D→List D
 | .agg cs=>cs
 |d=>[d]
def szl (l:List D):Nat:=match l with|[]=>0|e::_=>e.cells.length
def D.pure0:D→Bool
 | .int .. | .bool _| .str _| .lst _| .box _| .nilp| .nils| .nilf| .nilm| .nili| .val _=>true
 |_=>false
def D.one:D→Bool
 | .agg _| .tup _| .undef=>false
 |_=>true
def wfE (s:Nat)(e:D):Prop:=e.cells.length=s∧e.cells.all D.pure0=true
def wfC (s:Nat)(e:D):Prop:=e.cells.length=s∧e.cells.all D.one=true
inductive Rep (ok:Nat→Prop) (w:World):D→Value→Prop where
 |int (k:IntKind) (n:Int):Rep ok w (.int k n) (.int k n)
 |bool (b:Bool):Rep ok w (.bool b) (.bool b)
 |str (s:ByteArray):Rep ok w (.str s) (.string s)
 |none (a:Option Addr) (cap:Nat) (ha:a=none→cap=0) (hcap:cap≤maxLen):Rep ok w (.lst []) (.slice a 0 cap)
 |lst (l:List D) (n b off cap:Nat) (f:Nat→Nat→Value) (hn:l.length=n) (hcap:n≤cap) (hmax:cap≤maxLen) (hok:ok b)
   (hsz:∀e∈l,wfE (szl l) e) (hpos:0<szl l)
   (hc:∀i j,i<n→j<szl l→w.cell? ⟨b,off+i*szl l+j,.none⟩=some (f i j))
   (hr:∀i j,i<n→j<szl l→Rep ok w ((l.getD i .undef).cells.getD j .undef) (f i j)):
   Rep ok w (.lst l) (.slice (some ⟨b,off,.none⟩) n cap)
 |agg (cs:List D) (vs:Array Value) (hl:cs.length=vs.size) (h:∀i,i<cs.length→Rep ok w (cs.getD i .undef) (vs.getD i undef)):Rep ok w (.agg cs) (.agg vs)
 |tup (cs:List D) (vs:Array Value) (hl:cs.length=vs.size) (h:∀i,i<cs.length→Rep ok w (cs.getD i .undef) (vs.getD i undef)):Rep ok w (.tup cs) (.tuple vs)
 |box (cs:List D) (b off:Nat) (f:Nat→Value) (hok:ok b) (hpos:0<cs.length)
   (hc:∀j,j<cs.length→w.cell? ⟨b,off+j,.none⟩=some (f j))
   (hr:∀j,j<cs.length→Rep ok w (cs.getD j .undef) (f j)):Rep ok w (.box cs) (.pointer (some ⟨b,off,.none⟩))
 |nilp:Rep ok w .nilp (.pointer .none)
 |nils:Rep ok w .nils (.slice .none 0 0)
 |nilf:Rep ok w .nilf .nilFunc
 |nilm:Rep ok w .nilm (.map none)
 |val (v:Value) (hv:v.oneCell'=true):Rep ok w (.val v) v
 |nili:Rep ok w .nili .nilIface
theorem Rep.mono {ok ok':Nat→Prop}{w w':World}{d:D}{v:Value}(h:Rep ok w d v)(hm:∀b,ok b→ok' b∧w'.heap[b]?=w.heap[b]?):Rep ok' w' d v:=by
 induction h with
 |int k n=>exact .int k n
 |bool b=>exact .bool b
 |str s=>exact .str s
 |none a cap ha hcap=>exact .none a cap ha hcap
 |lst l n b off cap f hn hcap hmax hok hsz hpos hc hr ih=>
  exact .lst l n b off cap f hn hcap hmax (hm b hok).1 hsz hpos (fun i j hi hj=>(World.cell?_of_block (w:=w) (hm b hok).2).trans (hc i j hi hj)) ih
 |agg cs vs hl h ih=>exact .agg cs vs hl ih
 |tup cs vs hl h ih=>exact .tup cs vs hl ih
 |box cs b off f hok hpos hc hr ih=>exact .box cs b off f (hm b hok).1 hpos (fun j hj=>(World.cell?_of_block (w:=w) (hm b hok).2).trans (hc j hj)) ih
 |nilp=>exact .nilp
 |nils=>exact .nils
 |nilf=>exact .nilf
 |nilm=>exact .nilm
 |val v hv=>exact .val v hv
 |nili=>exact .nili
def look {κ α:Type}[DecidableEq κ]:List (κ×α)→κ→Option α
 |[],_=>none
 |(k,a)::l,x=>if x=k then some a else look l x
def put {κ α:Type}[DecidableEq κ](x:κ)(a:α):List (κ×α)→List (κ×α)
 |[]=>[(x,a)]
 |(k,b)::l=>if x=k then(k,a)::l else(k,b)::put x a l
abbrev Gl:List (Nat×TypeId×TypeId):=[]
abbrev Gt:List (Nat×List Int):=[]
inductive Blk where
 |var (T:TypeId) (cs:List D)
 |row (E:TypeId) (l:List D)
 |froz (l:List D)
 |fvar (cs:List D)
 |moved (b:Id)
 |obj (b:Option Id) (p:Nat→Obj→Prop)
 |gone
 deriving Inhabited
def Blk.mutable:Blk→Bool
 | .var .. | .row .. | .obj ..=>true
 |_=>false
def Blk.live:Blk→Bool
 | .gone| .moved _=>false
 |_=>true
structure Pl where
 blk:Nat
 cap:Nat:=0
 sz:Nat:=0
 len:Nat:=0
inductive C (ρ:Id→Pl) (L:Id→Prop) (ok:Nat→Prop) (w:World):D→Value→Prop where
 |pure {d:D} {v:Value} (h:Rep ok w d v):C ρ L ok w d v
 |ref (b:Id) (hb:L b):C ρ L ok w (.ref b) (.slice (some ⟨(ρ b).blk,0,none⟩) (ρ b).len (ρ b).cap)
 |ptr (b:Id) (o:Nat) (hb:L b):C ρ L ok w (.ptr b o) (.pointer (some ⟨(ρ b).blk,o,none⟩))
 |eptr (b:Id) (i o:Nat) (hb:L b):C ρ L ok w (.eptr b i o) (.pointer (some ⟨(ρ b).blk,i*(ρ b).sz+o,none⟩))
 |iptr (e:D) (o b off:Nat) (f:Nat→Value) (hok:ok b)
   (hc:∀j,j<e.cells.length→w.cell? ⟨b,off+j,none⟩=some (f j)) (hr:∀j,j<e.cells.length→Rep ok w (e.cells.getD j .undef) (f j)):
   C ρ L ok w (.iptr e o) (.pointer (some ⟨b,off+o,none⟩))
 |vref (b:Id) (o n:Nat) (hb:L b) (hn:n≤maxLen):C ρ L ok w (.vref b o n) (.slice (some ⟨(ρ b).blk,o,none⟩) n n)
 |mp (b:Id) (hb:L b):C ρ L ok w (.mp b) (.map (some (ρ b).blk))
 |agg (cs:List D) (vs:Array Value) (hl:cs.length=vs.size) (h:∀i,i<cs.length→C ρ L ok w (cs.getD i .undef) (vs.getD i undef)):C ρ L ok w (.agg cs) (.agg vs)
 |tup (cs:List D) (vs:Array Value) (hl:cs.length=vs.size) (h:∀i,i<cs.length→C ρ L ok w (cs.getD i .undef) (vs.getD i undef)):C ρ L ok w (.tup cs) (.tuple vs)
 |ifc (T:TypeId) (d:D) (v:Value) (h:C ρ L ok w d v):C ρ L ok w (.ifc T d) (.iface T v)
 |clo (f:FuncId) (cs:List D) (vs:Array Value) (hl:cs.length=vs.size) (h:∀i,i<cs.length→C ρ L ok w (cs.getD i .undef) (vs.getD i undef)):C ρ L ok w (.clo f cs) (.func (.func f) #[] vs)
 |any (v:Value):C ρ L ok w .undef v
 |junk (v:Value) (hv:v.oneCell'=true):C ρ L ok w .junk v
 |gp (g:Nat) (x:TypeId×TypeId) (ad:Addr) (hx:look Gl g=some x) (hok:ok g) (hc:w.cell? ⟨g,0,none⟩=some (.iface x.1 (.pointer (some ad)))):C ρ L ok w (.gp g) (.pointer (some ⟨g,0,none⟩))
 |gv (g:Nat) (x:TypeId×TypeId) (ad:Addr) (hx:look Gl g=some x) (hok:ok g) (hc:w.cell? ⟨g,0,none⟩=some (.iface x.1 (.pointer (some ad)))):C ρ L ok w (.gv g) (.iface x.1 (.pointer (some ad)))
theorem C.mono {ρ ρ':Id→Pl}{L L':Id→Prop}{ok ok':Nat→Prop}{w w':World}{d:D}{v:Value}(h:C ρ L ok w d v)(hl:∀b,L b→L' b∧ρ' b=ρ b)
  (hm:∀b,ok b→ok' b∧w'.heap[b]?=w.heap[b]?):C ρ' L' ok' w' d v:=by
 induction h with
 |pure h=>exact .pure (h.mono hm)
 |ref b hb=>rw[←(hl b hb).2];exact .ref b (hl b hb).1
 |ptr b o hb=>rw[←(hl b hb).2];exact .ptr b o (hl b hb).1
 |eptr b i o hb=>rw[←(hl b hb).2];exact .eptr b i o (hl b hb).1
 |vref b o n hb hn=>rw[←(hl b hb).2];exact .vref b o n (hl b hb).1 hn
 |mp b hb=>rw[←(hl b hb).2];exact .mp b (hl b hb).1
 |iptr e o b off f hok hc hr=>
  exact .iptr e o b off f (hm b hok).1 (fun j hj=>(World.cell?_of_block (w:=w) (hm b hok).2).trans (hc j hj)) fun j hj=>(hr j hj).mono hm
 |agg cs vs hl' h ih=>exact .agg cs vs hl' ih
 |tup cs vs hl' h ih=>exact .tup cs vs hl' ih
 |ifc T d v h ih=>exact .ifc T d v ih
 |clo f cs vs hl' h ih=>exact .clo f cs vs hl' ih
 |any v=>exact .any v
 |junk v hv=>exact .junk v hv
 |gp g x ad hx hok hc=>exact .gp g x ad hx (hm g hok).1 ((World.cell?_of_block (w:=w) (hm g hok).2).trans hc)
 |gv g x ad hx hok hc=>exact .gv g x ad hx (hm g hok).1 ((World.cell?_of_block (w:=w) (hm g hok).2).trans hc)
theorem aD {κ α:Type}[DecidableEq κ](x:κ)(a:α)(l:List (κ×α))(y:κ):look (put x a l) y=if y=x then some a else look l y:=by
 induction l with
 |nil=>simp[put,look]
 |cons p l ih=>
  obtain⟨k,b⟩:=p
  simp only[put]
  by_cases h:x=k
  ·subst h
   simp only[if_true,look]
   split<;>rfl
  ·simp only[h,if_false,look,ih]
   by_cases h1:y=k
   ·subst h1
    simp[cq h]
   ·simp[h1]
def puts {κ α:Type}[DecidableEq κ](u:List (κ×α))(l:List (κ×α)):List (κ×α):=u.foldl (fun l x=>put x.1 x.2 l) l
abbrev HL:=List (Id×Blk)
def Live (h:HL)(b:Id):Prop:=(look h b).isSome
def okOf (A:Nat→Prop)(ρ:Id→Pl)(h:HL)(w:World)(k:Nat):Prop:=(k<w.heap.size∧A k)∧∀b x,look h b=some x→x.mutable=true→(ρ b).blk≠k
structure Fr (S:Nat→Prop)(w w':World):Prop where
 os:w'.os=w.os
 tape:w'.tape=w.tape
 output:w'.output=w.output
 size:w.heap.size≤w'.heap.size
 block:∀i,i<w.heap.size→¬S i→w'.heap[i]?=w.heap[i]?
theorem Fr.refl (S:Nat→Prop)(w:World):Fr S w w:=⟨rfl,rfl,rfl,aN _,fun _ _ _=>rfl⟩
theorem Fr.mono {S T:Nat→Prop}{a b:World}(h:Fr S a b)(hs:∀i,S i→T i):Fr T a b:=⟨h.os,h.tape,h.output,h.size,fun i hi hn=>h.block i hi fun hm=>hn (hs i hm)⟩
def LiveO (L:Id→Prop):Option Id→Prop
 |some c=>L c
 |none=>True
def wP (ρ:Id→Pl):Option Id→Nat
 |some c=>(ρ c).blk
 |none=>0
theorem LiveO.mono {ρ ρ':Id→Pl}{L L':Id→Prop}{g:Id→Id}(hl:∀b,L b→L' (g b)∧ρ' (g b)=ρ b){b:Option Id}(h:LiveO L b):LiveO L' (b.map g)∧wP ρ' (b.map g)=wP ρ b:=by
 cases b with
 |none=>exact⟨trivial,rfl⟩
 |some c=>exact⟨(hl c h).1,congrArg Pl.blk (hl c h).2⟩
theorem LiveO.mono1 {ρ ρ':Id→Pl}{L L':Id→Prop}(hl:∀b,L b→L' b∧ρ' b=ρ b){b:Option Id}(h:LiveO L b):LiveO L' b∧wP ρ' b=wP ρ b:=by
 cases b with
 |none=>exact⟨trivial,rfl⟩
 |some c=>exact⟨(hl c h).1,congrArg Pl.blk (hl c h).2⟩
def BlkOK (P:Program)(A:Nat→Prop)(ρ:Id→Pl)(h:HL)(w:World)(b:Id):Blk→Prop
 | .var T cs=>∃c:Array Value,w.heap[(ρ b).blk]?=some (.cells c T (0,0))∧c.size=cs.length∧∀j,j<cs.length→C ρ (Live h) (okOf A ρ h w) w (cs.getD j .undef) (c.getD j undef)
 | .row E l=>∃c:Array Value,w.heap[(ρ b).blk]?=some (.cells c E (0,0))∧c.size=(ρ b).cap*(ρ b).sz∧l.length=(ρ b).len∧(ρ b).len≤(ρ b).cap∧(ρ b).cap≤maxLen∧0<(ρ b).sz∧
   (P.info? E).map (·.size)=some (ρ b).sz∧(∀e∈l,wfC (ρ b).sz e)∧
   ∀i j,i<l.length→j<(ρ b).sz→C ρ (Live h) (okOf A ρ h w) w ((l.getD i .undef).cells.getD j .undef) (c.getD (i*(ρ b).sz+j) undef)
 | .froz l=>Rep (okOf A ρ h w) w (.lst l) (.slice (some ⟨(ρ b).blk,0,none⟩) (ρ b).len (ρ b).cap)
 | .fvar cs=>Rep (okOf A ρ h w) w (.box cs) (.pointer (some ⟨(ρ b).blk,0,none⟩))
 | .moved b'=>Live h b'∧ρ b=ρ b'
 | .obj b' p=>LiveO (Live h) b'∧∃o,w.heap[(ρ b).blk]?=some o∧(∀ad T,o≠ .view ad T)∧p (wP ρ b') o
 | .gone=>True
structure SD where
 S:Nat→Prop
 dfs:List Deferred
instance:CoeFun SD (fun _=>Nat→Prop):=⟨SD.S⟩
instance:Coe (Nat→Prop) SD:=⟨fun S=>⟨S,[]⟩⟩
instance:CoeOut SD (Nat→Prop):=⟨SD.S⟩
structure Sim (P:Program)(w0:World)(S:SD)(A:Nat→Prop)(N:Nat)(ρ:Id→Pl)(t:List (Nat×D))(h:HL)(a:Act)(w:World):Prop where
 base:∀k,w0.heap.size≤k→A k
 inS:∀k,S k→A k
 fr:Fr S w0 w
 defers:a.defers=S.dfs
 size:a.tmps.size=N
 tmp:∀k d,look t k=some d→k<N∧C ρ (Live h) (okOf A ρ h w) w d (a.tmps.getD k undef)
 blk:∀b x,look h b=some x→BlkOK P A ρ h w b x
 own:∀b x,look h b=some x→x.live=true→(ρ b).blk<w.heap.size∧(S (ρ b).blk∨w0.heap.size≤(ρ b).blk)
 inj:∀b b' x x',look h b=some x→look h b'=some x'→x.live=true→x'.live=true→(ρ b).blk=(ρ b').blk→b=b'
 gl:(∀g x,look Gl g=some x→(A g∧¬S g∧g<w0.heap.size)∧∃ad,w0.cell? ⟨g,0,none⟩=some (.iface x.1 (.pointer (some ad))))∧
  ∀g zs,look Gt g=some zs→(A g∧¬S g∧g<w0.heap.size)∧∃T fz,w0.heap[g]?=some (.cells (zs.map (Value.int .u64)).toArray T fz)
variable {P:Program} {w0:World} {S:SD} {A:Nat→Prop} {N:Nat} {ρ:Id→Pl} {t:List (Nat×D)} {h:HL} {a:Act} {w:World}
theorem BlkOK.mono' {ρ':Id→Pl}{h':HL}{w':World}{b b2:Id}{x:Blk}(hx:BlkOK P A ρ h w b x)(e:ρ' b2=ρ b)(hρ:∀b,Live h b→Live h' b∧ρ' b=ρ b)
  (hok:∀k,okOf A ρ h w k→okOf A ρ' h' w' k∧w'.heap[k]?=w.heap[k]?) (hs:x.mutable=true→w'.heap[(ρ b).blk]?=w.heap[(ρ b).blk]?):BlkOK P A ρ' h' w' b2 x:=by
 cases x with
 |var T cs=>
  obtain⟨c,h1,h2,h3⟩:=hx
  exact⟨c,by rw[e,hs rfl];exact h1,h2,fun j hj=>(h3 j hj).mono hρ hok⟩
 |row E l=>
  obtain⟨c,h1,h2,h3,h4,h5,h6,h7,h8,h9⟩:=hx
  simp only[BlkOK,e]
  exact⟨c,by rw[hs rfl];exact h1,h2,h3,h4,h5,h6,h7,h8,fun i j hi hj=>(h9 i j hi hj).mono hρ hok⟩
 |froz l=>simp only[BlkOK,e];exact Rep.mono hx hok
 |fvar cs=>simp only[BlkOK,e];exact Rep.mono hx hok
 |moved b'=>exact⟨(hρ b' hx.1).1,e.trans (hx.2.trans (hρ b' hx.1).2.symm)⟩
 |obj b' p=>
  obtain⟨h1,o,h2,h3,h4⟩:=hx
  exact⟨(h1.mono1 hρ).1,o,by rw[e,hs rfl];exact h2,h3,by rw[(h1.mono1 hρ).2];exact h4⟩
 |gone=>trivial
theorem BlkOK.mono {ρ':Id→Pl}{h':HL}{w':World}{b:Id}{x:Blk}(hx:BlkOK P A ρ h w b x)(hb:Live h b)(hρ:∀b,Live h b→Live h' b∧ρ' b=ρ b)
  (hok:∀k,okOf A ρ h w k→okOf A ρ' h' w' k∧w'.heap[k]?=w.heap[k]?) (hs:x.mutable=true→w'.heap[(ρ b).blk]?=w.heap[(ρ b).blk]?):BlkOK P A ρ' h' w' b x:=
 hx.mono' (hρ b hb).2 hρ hok hs
theorem Sim.step (s:Sim P w0 S A N ρ t h a w){ρ':Id→Pl}{h':HL}{w':World}(hfr:Fr S w0 w')(hρ:∀b,Live h b→Live h' b∧ρ' b=ρ b)
  (hok:∀k,okOf A ρ h w k→okOf A ρ' h' w' k∧w'.heap[k]?=w.heap[k]?)
  (hb:∀b x,look h' b=some x→(look h b=some x∧(x.mutable=true→w'.heap[(ρ b).blk]?=w.heap[(ρ b).blk]?))∨
   (BlkOK P A ρ' h' w' b x∧(x.live=true→(ρ' b).blk<w'.heap.size∧(S (ρ' b).blk∨w0.heap.size≤(ρ' b).blk))))
  (hw:w.heap.size≤w'.heap.size)
  (hinj:∀b b' x x',look h' b=some x→look h' b'=some x'→x.live=true→x'.live=true→(ρ' b).blk=(ρ' b').blk→b=b'):Sim P w0 S A N ρ' t h' a w' where
 base:=s.base
 inS:=s.inS
 fr:=hfr
 defers:=s.defers
 size:=s.size
 tmp:=fun k d hk=>⟨(s.tmp k d hk).1,(s.tmp k d hk).2.mono hρ hok⟩
 blk:=fun b x hx=>by
  rcases hb b x hx with⟨h1,h2⟩|⟨h1,_⟩
  ·exact(s.blk b x h1).mono (by simp[Live,h1]) hρ hok h2
  ·exact h1
 own:=fun b x hx hl=>by
  rcases hb b x hx with⟨h1,h2⟩|⟨_,h1⟩
  ·have:=s.own b x h1 hl
   rw[(hρ b (by simp[Live,h1])).2]
   exact⟨bU this.1 hw,this.2⟩
  ·exact h1 hl
 inj:=hinj
 gl:=s.gl
theorem Sim.glob (s:Sim P w0 S A N ρ t h a w){g:Nat}{x:TypeId×TypeId}(hx:look Gl g=some x):okOf A ρ h w g∧∃ad,w.cell? ⟨g,0,none⟩=some (.iface x.1 (.pointer (some ad))):=by
 obtain⟨⟨h1,h2,h3⟩,ad,h4⟩:=s.gl.1 g x hx
 refine⟨⟨⟨bU h3 s.fr.size,h1⟩,fun b y hy hmu he=>?_⟩,ad,(World.cell?_of_block (w:=w0) (s.fr.block g h3 h2)).trans h4⟩
 have hl:y.live=true:=by cases y<;>first|rfl|cases hmu
 rcases (s.own b y hy hl).2 with h|h
 ·exact h2 (he▸h)
 ·omega
theorem Sim.tab (s:Sim P w0 S A N ρ t h a w){g:Nat}{zs:List Int}(hx:look Gt g=some zs):okOf A ρ h w g∧∃T fz,w.heap[g]?=some (.cells (zs.map (Value.int .u64)).toArray T fz):=by
 obtain⟨⟨h1,h2,h3⟩,T,fz,h4⟩:=s.gl.2 g zs hx
 refine⟨⟨⟨bU h3 s.fr.size,h1⟩,fun b y hy hmu he=>?_⟩,T,fz,(s.fr.block g h3 h2).trans h4⟩
 have hl:y.live=true:=by cases y<;>first|rfl|cases hmu
 rcases (s.own b y hy hl).2 with h|h
 ·exact h2 (he▸h)
 ·omega
theorem Sim.putT (s:Sim P w0 S A N ρ t h a w){d:D}{v:Value}(dst:Nat)(hd:dst<N)(hc:C ρ (Live h) (okOf A ρ h w) w d v):Sim P w0 S A N ρ (put dst d t) h (a.put (some dst) v) w where
 base:=s.base
 inS:=s.inS
 fr:=s.fr
 defers:=s.defers
 size:=by simpa[Act.put] using s.size
 tmp:=fun k d' hk=>by
  rw[aD] at hk
  by_cases e:k=dst
  ·subst e
   simp only[if_true,aK] at hk
   subst hk
   refine⟨hd,?_⟩
   have:k<a.tmps.size:=by rw[s.size];exact hd
   simpa[Act.put,bV,this] using hc
  ·simp only[e,if_false] at hk
   have:=s.tmp k d' hk
   refine⟨this.1,?_⟩
   simpa[Act.put,bV,kQ (cq e)] using this.2
 blk:=s.blk
 own:=s.own
 inj:=s.inj
 gl:=s.gl
theorem Sim.drew (s:Sim P w0 S A N ρ t h a w)(n:Nat):Sim P w0 S A N ρ t h a {w with drawn:=n}:=by
 refine s.step ⟨s.fr.os,s.fr.tape,s.fr.output,s.fr.size,s.fr.block⟩ (fun b hb=>⟨hb,rfl⟩) (fun k hk=>⟨hk,rfl⟩) (fun b x hx=>.inl ⟨hx,fun _=>rfl⟩) (aN _) s.inj
end Go.Proofs.Ytbmnihglaokhmaa.Am
namespace Go.Proofs.Ytbmnihglaokhmaa.Am
open Go Go.RowKit
section
variable {ρ:Id→Pl} {L:Id→Prop} {ok:Nat→Prop} {w:World}
theorem C.int_inv {k:IntKind}{n:Int}{v:Value}(h:C ρ L ok w (.int k n) v):v= .int k n:=by cases h with|pure h=>cases h;rfl
theorem C.bool_inv {b:Bool}{v:Value}(h:C ρ L ok w (.bool b) v):v= .bool b:=by cases h with|pure h=>cases h;rfl
theorem C.str_inv {s:ByteArray}{v:Value}(h:C ρ L ok w (.str s) v):v= .string s:=by cases h with|pure h=>cases h;rfl
theorem C.nilp_inv {v:Value}(h:C ρ L ok w .nilp v):v= .pointer none:=by cases h with|pure h=>cases h;rfl
theorem C.val_inv {x v:Value}(h:C ρ L ok w (.val x) v):v=x∧x.oneCell'=true:=by cases h with|pure h=>cases h with|val _ hv=>exact⟨rfl,hv⟩
theorem C.nili_inv {v:Value}(h:C ρ L ok w .nili v):v= .nilIface:=by cases h with|pure h=>cases h;rfl
theorem C.ifc_inv {T:TypeId}{d:D}{v:Value}(h:C ρ L ok w (.ifc T d) v):∃v',v= .iface T v'∧C ρ L ok w d v':=by
 cases h with|pure h=>cases h|ifc _ _ v' h=>exact⟨v',rfl,h⟩
theorem C.clo_inv {f:FuncId}{cs:List D}{v:Value}(h:C ρ L ok w (.clo f cs) v):∃vs:Array Value,v= .func (.func f) #[] vs∧cs.length=vs.size∧∀i,i<cs.length→C ρ L ok w (cs.getD i .undef) (vs.getD i undef):=by
 cases h with|pure h=>cases h|clo _ _ vs hl h=>exact⟨vs,rfl,hl,h⟩
theorem C.junk_inv {v:Value}(h:C ρ L ok w .junk v):v.oneCell'=true:=by
 cases h with|pure h=>cases h|junk _ h=>exact h
theorem C.nils_inv {v:Value}(h:C ρ L ok w .nils v):v= .slice none 0 0:=by cases h with|pure h=>cases h;rfl
theorem C.ref_inv {b:Id}{v:Value}(h:C ρ L ok w (.ref b) v):L b∧v= .slice (some ⟨(ρ b).blk,0,none⟩) (ρ b).len (ρ b).cap:=by
 cases h with|pure h=>cases h|ref b hb=>exact⟨hb,rfl⟩
theorem C.ptr_inv {b:Id}{o:Nat}{v:Value}(h:C ρ L ok w (.ptr b o) v):L b∧v= .pointer (some ⟨(ρ b).blk,o,none⟩):=by
 cases h with|pure h=>cases h|ptr b o hb=>exact⟨hb,rfl⟩
theorem C.eptr_inv {b:Id}{i o:Nat}{v:Value}(h:C ρ L ok w (.eptr b i o) v):L b∧v= .pointer (some ⟨(ρ b).blk,i*(ρ b).sz+o,none⟩):=by
 cases h with|pure h=>cases h|eptr b i o hb=>exact⟨hb,rfl⟩
theorem C.vref_inv {b:Id}{o n:Nat}{v:Value}(h:C ρ L ok w (.vref b o n) v):L b∧n≤maxLen∧v= .slice (some ⟨(ρ b).blk,o,none⟩) n n:=by
 cases h with|pure h=>cases h|vref b o n hb hn=>exact⟨hb,hn,rfl⟩
theorem C.mp_inv {b:Id}{v:Value}(h:C ρ L ok w (.mp b) v):L b∧v= .map (some (ρ b).blk):=by
 cases h with|pure h=>cases h|mp b hb=>exact⟨hb,rfl⟩
theorem C.lst_inv {l:List D}{v:Value}(h:C ρ L ok w (.lst l) v):Rep ok w (.lst l) v:=by cases h with|pure h=>exact h
theorem C.box_inv {l:List D}{v:Value}(h:C ρ L ok w (.box l) v):Rep ok w (.box l) v:=by cases h with|pure h=>exact h
theorem C.iptr_inv {e:D}{o:Nat}{v:Value}(h:C ρ L ok w (.iptr e o) v):∃(b off:Nat) (f:Nat→Value),v= .pointer (some ⟨b,off+o,none⟩)∧ok b∧
   (∀j,j<e.cells.length→w.cell? ⟨b,off+j,none⟩=some (f j))∧(∀j,j<e.cells.length→Rep ok w (e.cells.getD j .undef) (f j)):=by
 cases h with|pure h=>cases h|iptr e o b off f hok hc hr=>exact⟨b,off,f,rfl,hok,hc,hr⟩
theorem C.agg_inv {cs:List D}{v:Value}(h:C ρ L ok w (.agg cs) v):∃vs:Array Value,v= .agg vs∧cs.length=vs.size∧∀i,i<cs.length→C ρ L ok w (cs.getD i .undef) (vs.getD i undef):=by
 cases h with
 |pure h=>cases h with|agg _ vs hl h=>exact⟨vs,rfl,hl,fun i hi=>.pure (h i hi)⟩
 |agg _ vs hl h=>exact⟨vs,rfl,hl,h⟩
theorem C.tup_inv {cs:List D}{v:Value}(h:C ρ L ok w (.tup cs) v):∃vs:Array Value,v= .tuple vs∧cs.length=vs.size∧∀i,i<cs.length→C ρ L ok w (cs.getD i .undef) (vs.getD i undef):=by
 cases h with
 |pure h=>cases h with|tup _ vs hl h=>exact⟨vs,rfl,hl,fun i hi=>.pure (h i hi)⟩
 |tup _ vs hl h=>exact⟨vs,rfl,hl,h⟩
theorem C.gp_inv {g:Nat}{v:Value}(h:C ρ L ok w (.gp g) v):∃x ad,v= .pointer (some ⟨g,0,none⟩)∧look Gl g=some x∧ok g∧w.cell? ⟨g,0,none⟩=some (.iface x.1 (.pointer (some ad))):=by
 cases h with|pure h=>cases h|gp g x ad hx hok hc=>exact⟨x,ad,rfl,hx,hok,hc⟩
theorem C.gv_inv {g:Nat}{v:Value}(h:C ρ L ok w (.gv g) v):∃x ad,v= .iface x.1 (.pointer (some ad))∧look Gl g=some x∧ok g∧w.cell? ⟨g,0,none⟩=some (.iface x.1 (.pointer (some ad))):=by
 cases h with|pure h=>cases h|gv g x ad hx hok hc=>exact⟨x,ad,rfl,hx,hok,hc⟩
theorem C.int (k:IntKind)(n:Int):C ρ L ok w (.int k n) (.int k n):=.pure (.int k n)
theorem C.bool (b:Bool):C ρ L ok w (.bool b) (.bool b):=.pure (.bool b)
theorem C.str (s:ByteArray):C ρ L ok w (.str s) (.string s):=.pure (.str s)
theorem C.cells {d:D}{v:Value}(h:C ρ L ok w d v)(hd:d≠ .undef)(ht:∀cs,d≠ .tup cs):v.cells.size=d.cells.length∧∀i,i<d.cells.length→C ρ L ok w (d.cells.getD i .undef) (v.cells.getD i undef):=by
 have one:∀{d:D} {v:Value},C ρ L ok w d v→d.cells=[d]→v.cells= #[v]→v.cells.size=d.cells.length∧∀i,i<d.cells.length→C ρ L ok w (d.cells.getD i .undef) (v.cells.getD i undef):=by
  intro d v h e1 e2
  rw[e1,e2]
  refine⟨rfl,fun i hi=>?_⟩
  obtain rfl:i=0:=by simp at hi;omega
  exact h
 cases h with
 |pure h=>cases h with
  |agg cs vs hl h=>exact⟨by simp[Value.cells,D.cells,hl],fun i hi=>.pure (h i hi)⟩
  |tup cs vs hl h=>exact absurd rfl (ht _)
  |int k n=>exact one (.int _ _) rfl rfl
  |bool b=>exact one (.bool _) rfl rfl
  |str s=>exact one (.str _) rfl rfl
  |none a cap ha hc=>exact one (.pure (.none a cap ha hc)) rfl rfl
  |lst l n b off cap f hn hcap hmax hok hsz hpos hc hr=>exact one (.pure (.lst l n b off cap f hn hcap hmax hok hsz hpos hc hr)) rfl rfl
  |box cs b off f hok hpos hc hr=>exact one (.pure (.box cs b off f hok hpos hc hr)) rfl rfl
  |nilp=>exact one (.pure .nilp) rfl rfl
  |nils=>exact one (.pure .nils) rfl rfl
  |nilf=>exact one (.pure .nilf) rfl rfl
  |nilm=>exact one (.pure .nilm) rfl rfl
  |val v hv=>exact one (.pure (.val v hv)) rfl (by cases v<;>first|rfl|cases hv)
  |nili=>exact one (.pure .nili) rfl rfl
 |ref b hb=>exact one (.ref b hb) rfl rfl
 |ptr b o hb=>exact one (.ptr b o hb) rfl rfl
 |eptr b i o hb=>exact one (.eptr b i o hb) rfl rfl
 |vref b o n hb hn=>exact one (.vref b o n hb hn) rfl rfl
 |mp b hb=>exact one (.mp b hb) rfl rfl
 |iptr e o b off f hok hc hr=>exact one (.iptr e o b off f hok hc hr) rfl rfl
 |agg cs vs hl h=>exact⟨by simp[Value.cells,D.cells,hl],h⟩
 |tup cs vs hl h=>exact absurd rfl (ht _)
 |ifc T d v h=>exact one (.ifc T d v h) rfl rfl
 |clo f cs vs hl h=>exact one (.clo f cs vs hl h) rfl rfl
 |junk v hv=>exact one (.junk v hv) rfl (by cases v<;>first|rfl|cases hv)
 |gp g x ad hx hok hc=>exact one (.gp g x ad hx hok hc) rfl rfl
 |gv g x ad hx hok hc=>exact one (.gv g x ad hx hok hc) rfl rfl
 |any v=>exact absurd rfl hd
theorem C.oneCell {d:D}{v:Value}(h:C ρ L ok w d v)(hd:d.one=true):v.oneCell'=true:=by
 cases h with
 |pure h=>cases h<;>first|rfl|(simp[D.one] at hd;done)|assumption
 |agg cs vs hl h=>simp[D.one] at hd
 |tup cs vs hl h=>simp[D.one] at hd
 |any v=>simp[D.one] at hd
 |junk v hv=>exact hv
 |_=>rfl
end
def jn:Value→Option D
 | .int k n=>some (.int k n)
 | .bool b=>some (.bool b)
 | .string s=>some (.str s)
 | .pointer none=>some .nilp
 | .slice none 0 0=>some .nils
 | .nilFunc=>some .nilf
 | .map none=>some .nilm
 | .nilIface=>some .nili
 |_=>none
theorem pq {ok:Nat→Prop}{w:World}{v:Value}{d:D}(h:jn v=some d):Rep ok w d v:=by
 unfold jn at h
 split at h<;>simp only[aK,reduceCtorEq] at h<;>subst h
 ·exact .int _ _
 ·exact .bool _
 ·exact .str _
 ·exact .nilp
 ·exact .nils
 ·exact .nilf
 ·exact .nilm
 ·exact .nili
def aW (t:List (Nat×D)):Operand→Option D
 | .tmp k=>look t k
 | .const v=>jn v
 | .global g=>if(look Gl g).isSome=true then some (.gp g) else none
 |_=>none
variable {P:Program} {w0:World} {S:SD} {A:Nat→Prop} {N:Nat} {ρ:Id→Pl} {t:List (Nat×D)} {h:HL} {a:Act} {w:World}
theorem Sim.eval (s:Sim P w0 S A N ρ t h a w){x:Operand}{d:D}(hd:aW t x=some d):C ρ (Live h) (okOf A ρ h w) w d (a.eval x):=by
 cases x with
 |tmp k=>exact(s.tmp k d hd).2
 |const v=>exact .pure (pq hd)
 |global g=>
  have hd:(if(look Gl g).isSome=true then some (D.gp g) else none)=some d:=hd
  split at hd
  ·rename_i hs
   obtain rfl:=bm hd
   obtain⟨x,hx⟩:=mh.1 hs
   obtain⟨h1,ad,h2⟩:=s.glob hx
   exact .gp g x ad hx h1 h2
  ·cases hd
 |func f=>cases hd
def eJ (op:BinOp):D→D→Option D
 | .int k x,.int k' y=>if k=k' then(match op with
  | .add=>some (.int k (k.wrap (x+y)))
  | .sub=>some (.int k (k.wrap (x-y)))
  | .mul=>some (.int k (k.wrap (x*y)))
  | .quo=>if y=0 then none else some (.int k (k.wrap (x.tdiv y)))
  | .rem=>if y=0 then none else some (.int k (x.tmod y))
  | .and=>some (.int k (k.wrap (BitVec.ofInt k.bits x &&& BitVec.ofInt k.bits y).toNat))
  | .or=>some (.int k (k.wrap (BitVec.ofInt k.bits x|||BitVec.ofInt k.bits y).toNat))
  | .xor=>some (.int k (k.wrap (BitVec.ofInt k.bits x^^^BitVec.ofInt k.bits y).toNat))
  | .eql=>some (.bool (x==y))
  | .neq=>some (.bool (x !=y))
  | .lss=>some (.bool (decide (x<y)))
  | .leq=>some (.bool (decide (x≤y)))
  | .gtr=>some (.bool (decide (y<x)))
  | .geq=>some (.bool (decide (y≤x)))
  |_=>none) else none
 | .str x,.str y=>match op with
  | .add=>if x.size+y.size≤9223372036854775807 then some (.str (x++y)) else none
  | .eql=>some (.bool (x.toList==y.toList))
  | .neq=>some (.bool !(x.toList==y.toList))
  |_=>none
 |_,_=>none
theorem Cm {op:BinOp}{T:TypeId}{x y:Operand}{d1 d2 d:D}{v1 v2:Value}{L:Id→Prop}{ok:Nat→Prop}(hd:eJ op d1 d2=some d)(h1:C ρ L ok w d1 v1)(h2:C ρ L ok w d2 v2):
  ∃v,(do eqGuard op T x y v1 v2;binOp op T v1 v2:Sem Value).run P w= .ok v w∧Rep ok w d v:=by
 unfold eJ at hd
 split at hd
 ·rename_i k n k' m
  obtain rfl:=h1.int_inv
  obtain rfl:=h2.int_inv
  split at hd
  ·rename_i hk
   subst hk
   have hg:eqGuard op T x y (.int k n) (.int k m)=pure ():=by unfold eqGuard;split<;>rfl
   rw[hg]
   split at hd
   all_goals first
    |(simp only[aK] at hd;subst hd;exact⟨_,rfl,by constructor⟩)
    |(split at hd<;>first|(cases hd;done)|(rename_i h0;simp only[aK] at hd;subst hd;refine⟨_,?_,.int _ _⟩;simp[binOp,Op.intDiv,h0,go_sem]))
    |(cases hd;done)
    |skip
   all_goals (simp only[aK] at hd;subst hd;refine⟨_,?_,by constructor⟩;simp[binOp,Op.intArith,Op.intBits,Op.intCmp,go_sem])
  ·cases hd
 ·rename_i s u
  obtain rfl:=h1.str_inv
  obtain rfl:=h2.str_inv
  have hg:eqGuard op T x y (.string s) (.string u)=pure ():=by unfold eqGuard;split<;>rfl
  rw[hg]
  split at hd
  ·split at hd
   ·rename_i hle
    simp only[aK] at hd
    subst hd
    refine⟨_,?_,.str _⟩
    simp[binOp,Op.stringOp,go_sem]
    omega
   ·cases hd
  ·simp only[aK] at hd;subst hd;refine⟨_,?_,.bool _⟩;simp[binOp,Op.stringOp,go_sem]
  ·simp only[aK] at hd;subst hd;refine⟨_,?_,.bool _⟩;simp[binOp,Op.stringOp,go_sem]
  ·cases hd
 ·cases hd
def E0 (op:UnOp):D→Option D
 | .int k n=>match op with| .neg=>some (.int k (k.wrap (0-n)))|_=>none
 | .bool b=>match op with| .not=>some (.bool !b)|_=>none
 |_=>none
theorem DW {op:UnOp}{d1 d:D}{v1:Value}{L:Id→Prop}{ok:Nat→Prop}(hd:E0 op d1=some d)(h1:C ρ L ok w d1 v1):∃v,(Op.unary op v1).run P w= .ok v w∧Rep ok w d v:=by
 unfold E0 at hd
 split at hd
 ·obtain rfl:=h1.int_inv
  split at hd
  ·simp only[aK] at hd;subst hd;exact⟨_,rfl,.int _ _⟩
  ·cases hd
 ·obtain rfl:=h1.bool_inv
  split at hd
  ·simp only[aK] at hd;subst hd;exact⟨_,rfl,.bool _⟩
  ·cases hd
 ·cases hd
end Go.Proofs.Ytbmnihglaokhmaa.Am
namespace Go.Proofs.Ytbmnihglaokhmaa.Am
open Go Go.RowKit
variable {P:Program} {w0:World} {S:SD} {A:Nat→Prop} {N:Nat} {ρ:Id→Pl} {t:List (Nat×D)} {h:HL} {a:Act} {w:World}
def at' (ρ:Id→Pl)(n:Id)(p:Pl)(b:Id):Pl:=if b=n then p else ρ b
theorem aT (ρ:Id→Pl)(n:Id)(p:Pl):at' ρ n p n=p:=by simp[at']
theorem bM (ρ:Id→Pl){n b:Id}(p:Pl)(hb:b≠n):at' ρ n p b=ρ b:=by simp[at',hb]
theorem Live.ne {n b:Id}(hn:look h n=none)(hb:Live h b):b≠n:=by rintro rfl;simp[Live,hn] at hb
def Ext (h:HL)(ρ ρ':Id→Pl):Prop:=∀b,Live h b→ρ' b=ρ b
theorem Ext.refl (h:HL)(ρ:Id→Pl):Ext h ρ ρ:=fun _ _=>rfl
theorem Ext.at {n:Id}(hn:look h n=none)(p:Pl):Ext h ρ (at' ρ n p):=fun b hb=>bM ρ p (hb.ne hn)
theorem Live.put {n b:Id}{x:Blk}(hb:Live h b):Live (put n x h) b:=by
 unfold Live at *;rw[aD];split
 ·rfl
 ·exact hb
theorem Live.of_look {b:Id}{x:Blk}(hb:look h b=some x):Live h b:=by simp[Live,hb]
theorem C.rep_pure0 {ρ:Id→Pl}{L:Id→Prop}{ok:Nat→Prop}{d:D}{v:Value}(h:C ρ L ok w d v)(hp:d.pure0=true):Rep ok w d v:=by
 cases h with
 |pure h=>exact h
 |_=>simp[D.pure0] at hp
theorem Sim.new (s:Sim P w0 S A N ρ t h a w){n:Id}(hn:look h n=none)(x:Blk)(o:Obj)(p:Pl)(hp:p.blk=w.heap.size)
  (hx:(∀d v,C ρ (Live h) (okOf A ρ h w) w d v→C (at' ρ n p) (Live (put n x h)) (okOf A (at' ρ n p) (put n x h) (w.alloc o)) (w.alloc o) d v)→(∀d v,Rep (okOf A ρ h w) w d v→Rep (okOf A (at' ρ n p) (put n x h) (w.alloc o)) (w.alloc o) d v)→
   BlkOK P A (at' ρ n p) (put n x h) (w.alloc o) n x):
  Sim P w0 S A N (at' ρ n p) t (put n x h) a (w.alloc o):=by
 have hρ:∀b,Live h b→Live (put n x h) b∧at' ρ n p b=ρ b:=fun b hb=>⟨hb.put,bM ρ p (hb.ne hn)⟩
 have hok:∀k,okOf A ρ h w k→okOf A (at' ρ n p) (put n x h) (w.alloc o) k∧(w.alloc o).heap[k]?=w.heap[k]?:=by
  rintro k ⟨hk,hm⟩
  refine⟨⟨⟨by have:=hk.1;simp;omega,hk.2⟩,fun b y hy hmu=>?_⟩,Below.heap_alloc w o k hk.1⟩
  rw[aD] at hy
  by_cases e:b=n
  ·subst e;rw[aT,hp];have:=hk.1;omega
  ·simp only[e,if_false] at hy
   rw[bM ρ p e]
   exact hm b y hy hmu
 have hpo:=s.own
 refine s.step ⟨s.fr.os,s.fr.tape,s.fr.output,gK s.fr.size (by simp),fun i hi hs=>(Below.heap_alloc w o i (bU hi s.fr.size)).trans (s.fr.block i hi hs)⟩ hρ hok (fun b y hy=>?_) (by simp) (fun b b' y y' hy hy' hl hl' he=>?_)
 ·rw[aD] at hy
  by_cases e:b=n
  ·subst e
   simp only[if_true,aK] at hy
   subst hy
   refine .inr ⟨hx (fun d v hc=>hc.mono hρ hok) (fun d v hc=>hc.mono hok),fun _=>?_⟩
   rw[aT,hp]
   exact⟨by simp,.inr s.fr.size⟩
  ·simp only[e,if_false] at hy
   exact .inl ⟨hy,fun hmu=>Below.heap_alloc w o _ (hpo b y hy (by cases y<;>simp_all[Blk.mutable,Blk.live])).1⟩
 ·rw[aD] at hy hy'
  by_cases e:b=n<;>by_cases e':b'=n
  ·rw[e,e']
  ·subst e
   simp only[e',if_false] at hy'
   rw[aT,bM ρ p e',hp] at he
   have:=(hpo b' y' hy' hl').1
   omega
  ·subst e'
   simp only[e,if_false] at hy
   rw[aT,bM ρ p e,hp] at he
   have:=(hpo b y hy hl).1
   omega
  ·simp only[e,e',if_false] at hy hy'
   rw[bM ρ p e,bM ρ p e'] at he
   exact s.inj b b' y y' hy hy' hl hl' he
theorem Sim.still (s:Sim P w0 S A N ρ t h a w){b:Id}{x y:Blk}(hb:look h b=some x)(hxm:x.mutable=true)(hym:y.mutable=false)(hyl:y.live=true)
  (hy:okOf A ρ (put b y h) w (ρ b).blk→(∀d v,Rep (okOf A ρ h w) w d v→Rep (okOf A ρ (put b y h) w) w d v)→BlkOK P A ρ (put b y h) w b y):Sim P w0 S A N ρ t (put b y h) a w:=by
 have hxl:x.live=true:=by cases x<;>simp_all[Blk.mutable,Blk.live]
 have hρ:∀b',Live h b'→Live (put b y h) b'∧ρ b'=ρ b':=fun b' hb'=>⟨hb'.put,rfl⟩
 have hok:∀k,okOf A ρ h w k→okOf A ρ (put b y h) w k∧w.heap[k]?=w.heap[k]?:=by
  rintro k ⟨hk,hm⟩
  refine⟨⟨hk,fun b' z hz hmu=>?_⟩,rfl⟩
  rw[aD] at hz
  by_cases e:b'=b
  ·subst e
   simp only[if_true,aK] at hz
   subst hz
   rw[hym] at hmu;cases hmu
  ·simp only[e,if_false] at hz
   exact hm b' z hz hmu
 have hlt:=(s.own b _ hb hxl).1
 have hself:okOf A ρ (put b y h) w (ρ b).blk:=by
  refine⟨⟨hlt,(s.own b _ hb hxl).2.elim (s.inS _) (s.base _)⟩,fun b' z hz hmu he=>?_⟩
  rw[aD] at hz
  by_cases e:b'=b
  ·subst e
   simp only[if_true,aK] at hz
   subst hz
   rw[hym] at hmu;cases hmu
  ·simp only[e,if_false] at hz
   exact e (s.inj b' b z _ hz hb (by cases z<;>simp_all[Blk.mutable,Blk.live]) hxl he)
 refine s.step s.fr hρ hok (fun b' z hz=>?_) (aN _) (fun b1 b2 y1 y2 hy1 hy2 hl1 hl2 he=>?_)
 ·rw[aD] at hz
  by_cases e:b'=b
  ·subst e
   simp only[if_true,aK] at hz
   subst hz
   exact .inr ⟨hy hself fun d v hr=>hr.mono hok,fun _=>s.own b' _ hb hxl⟩
  ·simp only[e,if_false] at hz
   exact .inl ⟨hz,fun _=>rfl⟩
 ·rw[aD] at hy1 hy2
  have l1:∃z,look h b1=some z∧z.live=true:=by
   by_cases e:b1=b
   ·subst e;exact⟨_,hb,hxl⟩
   ·simp only[e,if_false] at hy1;exact⟨_,hy1,hl1⟩
  have l2:∃z,look h b2=some z∧z.live=true:=by
   by_cases e:b2=b
   ·subst e;exact⟨_,hb,hxl⟩
   ·simp only[e,if_false] at hy2;exact⟨_,hy2,hl2⟩
  obtain⟨z1,a1,a2⟩:=l1
  obtain⟨z2,c1,c2⟩:=l2
  exact s.inj b1 b2 z1 z2 a1 c1 a2 c2 he
theorem Sim.freeze (s:Sim P w0 S A N ρ t h a w){b:Id}{E:TypeId}{l:List D}(hb:look h b=some (.row E l))(hpu:∀e∈l,e.cells.all D.pure0=true):Sim P w0 S A N ρ t (put b (.froz l) h) a w:=by
 obtain⟨c,h1,h2,h3,h4,h5,h6,h7,h8,h9⟩:=s.blk b _ hb
 refine s.still hb rfl rfl rfl fun hself hR=>?_
 simp only[BlkOK]
 cases l with
 |nil=>
  simp only[mg] at h3
  rw[←h3]
  exact .none _ _ (fun h=>by cases h) h5
 |cons e0 l0=>
  have hsz:szl (e0::l0)=(ρ b).sz:=(h8 e0 (bh ..)).1
  refine .lst _ _ _ _ _ (fun i j=>c.getD (i*(ρ b).sz+j) undef) h3 h4 h5 hself (fun e he=>by rw[hsz];exact⟨(h8 e he).1,hpu e he⟩) (by rw[hsz];exact h6) (fun i j hi hj=>?_) (fun i j hi hj=>?_)
  ·rw[hsz] at hj⊢
   have hlt':i*(ρ b).sz+j<c.size:=by
    rw[h2]
    have:(i+1)*(ρ b).sz≤(ρ b).cap*(ρ b).sz:=dL _ (by omega)
    rw[cZ] at this
    omega
   simp[World.cell?,h1,hlt',bV]
  ·rw[hsz] at hj
   have hi':i<(e0::l0).length:=by omega
   have hm:(e0::l0).getD i .undef∈e0::l0:=by rw[aX,a6 hi'];exact fh hi'
   have hj':j<((e0::l0).getD i .undef).cells.length:=by rw[(h8 _ hm).1];exact hj
   have hpc:=hpu _ hm
   rw[bc] at hpc
   have hm2:((e0::l0).getD i .undef).cells.getD j .undef∈((e0::l0).getD i .undef).cells:=by rw[aX (i:=j),a6 hj'];exact fh hj'
   exact hR _ _ ((h9 i j hi' hj).rep_pure0 (hpc _ hm2))
theorem Sim.move (s:Sim P w0 S A N ρ t h a w){b b2:Id}{x:Blk}(hb:look h b=some x)(hxl:x.live=true)(hn:look h b2=none):
  Ext h ρ (at' ρ b2 (ρ b))∧Sim P w0 S A N (at' ρ b2 (ρ b)) t (put b2 x (put b (.moved b2) h)) a w:=by
 have hbb:b≠b2:=by rintro rfl;rw[hn] at hb;cases hb
 have key:∀b' y,look (put b2 x (put b (.moved b2) h)) b'=some y→(b'=b2∧y=x)∨(b'=b∧y= .moved b2)∨(b'≠b2∧b'≠b∧look h b'=some y):=by
  intro b' y hy
  rw[aD,aD] at hy
  by_cases e:b'=b2
  ·rw[if_pos e] at hy;exact .inl ⟨e,(bm hy).symm⟩
  ·rw[if_neg e] at hy
   by_cases e2:b'=b
   ·rw[if_pos e2] at hy;exact .inr (.inl ⟨e2,(bm hy).symm⟩)
   ·rw[if_neg e2] at hy;exact .inr (.inr ⟨e,e2,hy⟩)
 have hlv:∀b',Live h b'→Live (put b2 x (put b (.moved b2) h)) b':=fun b' hb'=>hb'.put.put
 have hl2:Live (put b2 x (put b (.moved b2) h)) b2:=by unfold Live;rw[aD];simp
 have hρ:∀b',Live h b'→Live (put b2 x (put b (.moved b2) h)) b'∧at' ρ b2 (ρ b) b'=ρ b':=fun b' hb'=>⟨hlv b' hb',bM ρ _ (hb'.ne hn)⟩
 have hok:∀k,okOf A ρ h w k→okOf A (at' ρ b2 (ρ b)) (put b2 x (put b (.moved b2) h)) w k∧w.heap[k]?=w.heap[k]?:=by
  rintro k ⟨hk,hm⟩
  refine⟨⟨hk,fun b' y hy hmu=>?_⟩,rfl⟩
  rcases key b' y hy with⟨rfl,rfl⟩|⟨rfl,rfl⟩|⟨e1,_,hy⟩
  ·rw[aT];exact hm b y hb hmu
  ·cases hmu
  ·rw[bM ρ _ e1];exact hm b' y hy hmu
 refine⟨Ext.at hn _,s.step s.fr hρ hok (fun b' y hy=>?_) (aN _) (fun b1 b3 y1 y3 hy1 hy3 hl1 hl3 he=>?_)⟩
 ·rcases key b' y hy with⟨rfl,rfl⟩|⟨rfl,rfl⟩|⟨e1,e2,hy⟩
  ·refine .inr ⟨(s.blk b y hb).mono' (aT ρ _ _) hρ hok fun _=>rfl,fun hl=>?_⟩
   rw[aT];exact s.own b y hb hl
  ·exact .inr ⟨⟨hl2,by rw[aT,bM ρ _ hbb]⟩,fun hl=>by cases hl⟩
  ·exact .inl ⟨hy,fun _=>rfl⟩
 ·rcases key b1 y1 hy1 with⟨e1,f1⟩|⟨e1,f1⟩|⟨e1,g1,f1⟩
  ·rcases key b3 y3 hy3 with⟨e3,f3⟩|⟨e3,f3⟩|⟨e3,g3,f3⟩
   ·rw[e1,e3]
   ·rw[f3] at hl3;cases hl3
   ·rw[e1,aT,bM ρ _ e3] at he
    exact absurd (s.inj b b3 x y3 hb f3 hxl hl3 he).symm g3
  ·rw[f1] at hl1;cases hl1
  ·rcases key b3 y3 hy3 with⟨e3,f3⟩|⟨e3,f3⟩|⟨e3,g3,f3⟩
   ·rw[e3,aT,bM ρ _ e1] at he
    exact absurd (s.inj b1 b y1 x f1 hb hl1 hxl he) g1
   ·rw[f3] at hl3;cases hl3
   ·rw[bM ρ _ e1,bM ρ _ e3] at he
    exact s.inj b1 b3 y1 y3 f1 f3 hl1 hl3 he
theorem Sim.write (s:Sim P w0 S A N ρ t h a w){b:Id}{x y:Blk}(hb:look h b=some x)(hxm:x.mutable=true)(cs:Array Value)
  (hy:(∀d v,C ρ (Live h) (okOf A ρ h w) w d v→C ρ (Live (put b y h)) (okOf A ρ (put b y h) (w.setRow (ρ b).blk cs)) (w.setRow (ρ b).blk cs) d v)→
   (∀d v,Rep (okOf A ρ h w) w d v→Rep (okOf A ρ (put b y h) (w.setRow (ρ b).blk cs)) (w.setRow (ρ b).blk cs) d v)→BlkOK P A ρ (put b y h) (w.setRow (ρ b).blk cs) b y):
  Sim P w0 S A N ρ t (put b y h) a (w.setRow (ρ b).blk cs):=by
 have hsz:(w.setRow (ρ b).blk cs).heap.size=w.heap.size:=by simp[World.setRow]
 have hρ:∀b',Live h b'→Live (put b y h) b'∧ρ b'=ρ b':=fun b' hb'=>⟨hb'.put,rfl⟩
 have hxl:x.live=true:=by cases x<;>simp_all[Blk.mutable,Blk.live]
 have hown:=s.own b x hb hxl
 have hok:∀k,okOf A ρ h w k→okOf A ρ (put b y h) (w.setRow (ρ b).blk cs) k∧(w.setRow (ρ b).blk cs).heap[k]?=w.heap[k]?:=by
  rintro k ⟨hk,hm⟩
  refine⟨⟨by rw[hsz];exact hk,fun b' z hz hmu=>?_⟩,setRow_other w _ _ _ (cq (hm b x hb hxm))⟩
  rw[aD] at hz
  by_cases e:b'=b
  ·subst e;exact hm b' x hb hxm
  ·simp only[e,if_false] at hz
   exact hm b' z hz hmu
 refine s.step ⟨s.fr.os,s.fr.tape,s.fr.output,by rw[hsz];exact s.fr.size,fun i hi hs=>?_⟩ hρ hok (fun b' z hz=>?_) (by rw[hsz];exact aN _) (fun b1 b2 y1 y2 hy1 hy2 hl1 hl2 he=>?_)
 ·refine(setRow_other w _ _ _ ?_).trans (s.fr.block i hi hs)
  rintro rfl
  rcases hown.2 with h'|h'
  ·exact hs h'
  ·omega
 ·rw[aD] at hz
  by_cases e:b'=b
  ·subst e
   simp only[if_true,aK] at hz
   subst hz
   exact .inr ⟨hy (fun d v hc=>hc.mono hρ hok) (fun d v hc=>hc.mono hok),fun _=>⟨by rw[hsz];exact hown.1,hown.2⟩⟩
  ·simp only[e,if_false] at hz
   refine .inl ⟨hz,fun hmu=>setRow_other w _ _ _ fun he=>e (s.inj b' b z x hz hb (by cases z<;>simp_all[Blk.mutable,Blk.live]) hxl he)⟩
 ·rw[aD] at hy1 hy2
  have l1:∃z,look h b1=some z∧z.live=true:=by
   by_cases e:b1=b
   ·subst e;exact⟨_,hb,hxl⟩
   ·simp only[e,if_false] at hy1;exact⟨_,hy1,hl1⟩
  have l2:∃z,look h b2=some z∧z.live=true:=by
   by_cases e:b2=b
   ·subst e;exact⟨_,hb,hxl⟩
   ·simp only[e,if_false] at hy2;exact⟨_,hy2,hl2⟩
  obtain⟨z1,a1,a2⟩:=l1
  obtain⟨z2,c1,c2⟩:=l2
  exact s.inj b1 b2 z1 z2 a1 c1 a2 c2 he
end Go.Proofs.Ytbmnihglaokhmaa.Am
namespace Go.Proofs.Ytbmnihglaokhmaa.Am
open Go Go.RowKit
variable {P:Program} {w0:World} {S:SD} {A:Nat→Prop} {N:Nat} {ρ:Id→Pl} {t:List (Nat×D)} {h:HL} {a:Act} {w:World}
theorem dD (b o j:Nat):(⟨b,o,none⟩:Addr).add j=⟨b,o+j,none⟩:=by unfold Addr.add;split<;>simp_all
def isAggT (P:Program)(T:TypeId):Option Bool:=
 match P.underlying T with
 |some (.struct _)=>some true
 |some (.array _ _)=>some true
 |some _=>some false
 |none=>none
def sizeT (P:Program)(T:TypeId):Option Nat:=(P.info? T).map (·.size)
theorem ky {T:TypeId}{b:Bool}(hb:isAggT P T=some b)(w:World):(isAgg T).run P w= .ok b w:=by
 unfold isAggT at hb
 cases hu:P.underlying T with
 |none=>simp[hu] at hb
 |some d=>
  rw[hu] at hb
  simp only[isAgg,Sem.run_bind,run_underlying hu,Result.andThen_ok]
  cases d<;>simp_all
theorem bS {T:TypeId}{s:Nat}(hs:sizeT P T=some s)(w:World):(sizeOf T).run P w= .ok s w:=by
 unfold sizeT at hs
 cases hi:P.info? T with
 |none=>simp[hi] at hs
 |some i=>simp[sizeOf,typeInfo,hi] at hs⊢;exact hs
def bT (P:Program)(T:TypeId)(cs:List D)(o:Nat):Option D:=
 match isAggT P T,sizeT P T with
 |some true,some s=>if o+s≤cs.length then some (.agg ((cs.drop o).take s)) else none
 |some false,_=>cs[o]?
 |_,_=>none
theorem uZ {T:TypeId}{cs:List D}{o:Nat}{d:D}(hd:bT P T cs o=some d){blk off:Nat}{f:Nat→Value}{Q:D→Value→Prop}
  (hQ:∀(cs:List D) (vs:Array Value),cs.length=vs.size→(∀i,i<cs.length→Q (cs.getD i .undef) (vs.getD i undef))→Q (.agg cs) (.agg vs))
  (hc:∀j,j<cs.length→w.cell? ⟨blk,off+j,none⟩=some (f j)) (hr:∀j,j<cs.length→Q (cs.getD j .undef) (f j)):
  ∃v,(loadVar T ⟨blk,off+o,none⟩).run P w= .ok v w∧Q d v:=by
 unfold bT at hd
 split at hd
 ·rename_i s ha hs
  split at hd
  ·rename_i hle
   simp only[aK] at hd
   subst hd
   have hl:(loadCells ⟨blk,off+o,none⟩ s).run P w= .ok ((List.range s).map fun j=>f (o+j)).toArray w:=
    run_loadCells w _ s _ fun j hj=>by rw[dD,mj];exact hc (o+j) (by omega)
   refine⟨.agg ((List.range s).map fun j=>f (o+j)).toArray,?_,hQ _ _ (by simp;omega) fun i hi=>?_⟩
   ·simp[loadVar,ky ha,bS hs,hl]
   ·have hi':i<s:=by simp at hi;omega
    have:=hr (o+i) (by omega)
    have hlt:o+i<cs.length:=by omega
    simpa[aX,bV,hi',jt,List.getElem?_drop,hlt] using this
  ·cases hd
 ·rename_i ha
  have hlt:o<cs.length:=(cz.1 hd).1
  refine⟨f o,?_,?_⟩
  ·have:=hc o hlt
   simp[loadVar,ky ha,run_load,this]
  ·have:=hr o hlt
   rw[aX,hd] at this
   exact this
 ·cases hd
def cP (P:Program)(h:HL)(T:TypeId):D→Option D
 | .ptr b o=>match look h b with|some (.var _ cs)=>bT P T cs o|some (.fvar cs)=>bT P T cs o|_=>none
 | .eptr b i o=>match look h b with|some (.row _ l)=>(match l[i]? with|some e=>bT P T e.cells o|none=>none)|_=>none
 | .iptr e o=>bT P T e.cells o
 | .box cs=>bT P T cs 0
 | .gp g=>bT P T [.gv g] 0
 |_=>none
theorem BlkOK.row_cells {b:Id}{E:TypeId}{l:List D}(hb:BlkOK P A ρ h w b (.row E l)){i:Nat}{e:D}(he:l[i]?=some e):
  (∃f:Nat→Value,(∀j,j<e.cells.length→w.cell? ⟨(ρ b).blk,i*(ρ b).sz+j,none⟩=some (f j))∧∀j,j<e.cells.length→C ρ (Live h) (okOf A ρ h w) w (e.cells.getD j .undef) (f j))∧e.cells.length=(ρ b).sz:=by
 obtain⟨c,h1,h2,h3,h4,h5,h6,h7,h8,h9⟩:=hb
 have hi:i<l.length:=(cz.1 he).1
 have hsz:e.cells.length=(ρ b).sz:=(h8 e (dm he)).1
 refine⟨⟨fun j=>c.getD (i*(ρ b).sz+j) undef,fun j hj=>?_,fun j hj=>?_⟩,hsz⟩
 ·have hlt':i*(ρ b).sz+j<c.size:=by
   rw[h2]
   have:(i+1)*(ρ b).sz≤(ρ b).cap*(ρ b).sz:=dL _ (by omega)
   rw[cZ] at this
   omega
  simp[World.cell?,h1,hlt',bV]
 ·have:=h9 i j hi (by omega)
  rw[aX (l:=l),he] at this
  exact this
theorem BlkOK.var_cells {b:Id}{T:TypeId}{cs:List D}(hb:BlkOK P A ρ h w b (.var T cs)):
  ∃f:Nat→Value,(∀j,j<cs.length→w.cell? ⟨(ρ b).blk,0+j,none⟩=some (f j))∧∀j,j<cs.length→C ρ (Live h) (okOf A ρ h w) w (cs.getD j .undef) (f j):=by
 obtain⟨c,h1,h2,h3⟩:=hb
 refine⟨fun j=>c.getD j undef,fun j hj=>?_,fun j hj=>h3 j hj⟩
 have:j<c.size:=by omega
 simp[World.cell?,h1,this,bV]
theorem Sim.load (s:Sim P w0 S A N ρ t h a w){T:TypeId}{d d':D}{v:Value}(hd:cP P h T d=some d')(hv:C ρ (Live h) (okOf A ρ h w) w d v):
  ∃v',(Instr.loadAt T v).run P w= .ok v' w∧C ρ (Live h) (okOf A ρ h w) w d' v':=by
 have fin:∀{blk off o:Nat} {cs:List D} {f:Nat→Value},bT P T cs o=some d'→v= .pointer (some ⟨blk,off+o,none⟩)→(∀j,j<cs.length→w.cell? ⟨blk,off+j,none⟩=some (f j))→
   (∀j,j<cs.length→C ρ (Live h) (okOf A ρ h w) w (cs.getD j .undef) (f j))→∃v',(Instr.loadAt T v).run P w= .ok v' w∧C ρ (Live h) (okOf A ρ h w) w d' v':=by
  intro blk off o cs f ht hv hc hr
  obtain⟨v',h1,h2⟩:=uZ ht (Q:=C ρ (Live h) (okOf A ρ h w) w) (fun cs vs hl h=>.agg cs vs hl h) hc hr
  refine⟨v',?_,h2⟩
  subst hv
  simp[Instr.loadAt,Instr.sureAddr,h1]
 unfold cP at hd
 split at hd
 ·rename_i b o
  obtain⟨hl,rfl⟩:=hv.ptr_inv
  split at hd
  ·rename_i T' cs hb
   obtain⟨f,h1,h2⟩:=BlkOK.var_cells (s.blk b _ hb)
   exact fin hd (off:=0) (by simp) h1 h2
  ·rename_i cs hb
   have hbk:Rep _ _ _ _:=s.blk b _ hb
   cases hbk with
   |box _ b' off f hok hpos hc hr=>exact fin hd (off:=0) (by simp) hc fun j hj=>.pure (hr j hj)
  ·cases hd
 ·rename_i b i o
  obtain⟨hl,rfl⟩:=hv.eptr_inv
  split at hd
  ·rename_i E l hb
   split at hd
   ·rename_i e he
    obtain⟨⟨f,h1,h2⟩,_⟩:=BlkOK.row_cells (s.blk b _ hb) he
    exact fin hd rfl h1 h2
   ·cases hd
  ·cases hd
 ·rename_i e o
  obtain⟨b,off,f,rfl,hok,h1,h2⟩:=hv.iptr_inv
  exact fin hd rfl h1 fun j hj=>.pure (h2 j hj)
 ·rename_i cs
  cases hv.box_inv with
  |box _ b off f hok hpos hc hr=>exact fin hd (by simp) hc fun j hj=>.pure (hr j hj)
 ·rename_i g
  obtain⟨x,ad,rfl,h1,h2,h3⟩:=hv.gp_inv
  refine fin hd (blk:=g) (off:=0) (o:=0) (f:=fun _=>.iface x.1 (.pointer (some ad))) (by simp) (fun j hj=>?_) fun j hj=>?_
  ·obtain rfl:j=0:=by simpa using hj
   exact h3
  ·obtain rfl:j=0:=by simpa using hj
   exact .gv g x ad h1 h2 h3
 ·cases hd
def fU (P:Program)(T:TypeId)(i:Nat):Option Nat:=
 match P.underlying T with
 |some (.struct fs)=>(match fs[i]? with
  |some f=>(match sizeT P f.type with|some (_+1)=>some f.offset|_=>none)
  |none=>none)
 |_=>none
def fj (P:Program)(T:TypeId)(i:Nat):D→Option D
 | .ptr b o=>(fU P T i).map fun k=>.ptr b (o+k)
 | .eptr b j o=>(fU P T i).map fun k=>.eptr b j (o+k)
 | .iptr e o=>(fU P T i).map fun k=>.iptr e (o+k)
 | .box cs=>(fU P T i).map fun k=>.iptr (.agg cs) k
 |_=>none
theorem hY {T:TypeId}{i k:Nat}(hk:fU P T i=some k)(b o:Nat):(Instr.fieldAt T (.pointer (some ⟨b,o,none⟩)) i).run P w= .ok (.pointer (some ⟨b,o+k,none⟩)) w:=by
 unfold fU at hk
 split at hk
 ·rename_i fs hu
  split at hk
  ·rename_i f hf
   split at hk
   ·rename_i s hs
    simp only[aK] at hk
    subst hk
    simp[Instr.fieldAt,run_underlying hu,hf,Instr.sureAddr,fieldPlace,bS hs,dD]
   ·cases hk
  ·cases hk
 ·cases hk
theorem yz {T:TypeId}{i:Nat}{d d':D}{v:Value}{L:Id→Prop}{ok:Nat→Prop}(hd:fj P T i d=some d')(hv:C ρ L ok w d v):
  ∃v',(Instr.fieldAt T v i).run P w= .ok v' w∧C ρ L ok w d' v':=by
 unfold fj at hd
 split at hd
 ·obtain⟨hl,rfl⟩:=hv.ptr_inv
  obtain⟨k,hk,rfl⟩:=bj.1 hd
  exact⟨_,hY hk _ _,.ptr _ _ hl⟩
 ·obtain⟨hl,rfl⟩:=hv.eptr_inv
  obtain⟨k,hk,rfl⟩:=bj.1 hd
  exact⟨_,hY hk _ _,by rw[mj];exact .eptr _ _ _ hl⟩
 ·obtain⟨b,off,f,rfl,hok,h1,h2⟩:=hv.iptr_inv
  obtain⟨k,hk,rfl⟩:=bj.1 hd
  exact⟨_,hY hk _ _,by rw[mj];exact .iptr _ _ _ _ _ hok h1 h2⟩
 ·rename_i cs
  obtain⟨k,hk,rfl⟩:=bj.1 hd
  cases hv.box_inv with
  |box _ b off f hok hpos hc hr=>exact⟨_,hY hk _ _,.iptr (.agg cs) k b off f hok hc hr⟩
 ·cases hd
def elems (h:HL):D→Option (List D)
 | .lst l=>some l
 | .nils=>some []
 | .ref b=>match look h b with
  |some (.row _ l)=>some l
  |some (.froz l)=>some l
  |_=>none
 | .vref b o n=>(match look h b with
  |some (.var _ cs)=>if o+n≤cs.length∧cs.all D.pure0=true then some ((cs.drop o).take n) else none
  |_=>none)
 |_=>none
def SliceAt (ρ:Id→Pl)(L:Id→Prop)(ok:Nat→Prop)(w:World)(l:List D)(v:Value):Prop:=
 ∃a cap,v= .slice a l.length cap∧l.length≤cap∧cap≤maxLen∧(a=none→cap=0)∧
  (l≠[]→∃(b off:Nat) (f:Nat→Nat→Value),a=some ⟨b,off,none⟩∧0<szl l∧(∀e∈l,wfC (szl l) e)∧(∀i j,i<l.length→j<szl l→w.cell? ⟨b,off+i*szl l+j,none⟩=some (f i j))∧
   ∀i j,i<l.length→j<szl l→C ρ L ok w ((l.getD i .undef).cells.getD j .undef) (f i j))
theorem kx {d:D}(h:d.pure0=true):d.one=true:=by cases d<;>simp_all[D.pure0,D.one]
theorem wfE.one {s:Nat}{e:D}(h:wfE s e):wfC s e:=⟨h.1,by
 have:=h.2
 rw[bc] at this⊢
 exact fun x hx=>kx (this x hx)⟩
theorem SliceAt.of_rep {L:Id→Prop}{ok:Nat→Prop}{l:List D}{v:Value}(hr:Rep ok w (.lst l) v):SliceAt ρ L ok w l v:=by
 cases hr with
 |none a cap ha hcap=>exact⟨a,cap,rfl,gJ _,hcap,ha,fun hne=>absurd rfl hne⟩
 |lst _ n b off cap f hn hcap hmax hok hsz hpos hc hr=>
  subst hn
  exact⟨_,cap,rfl,hcap,hmax,fun h=>(by cases h),fun _=>⟨b,off,f,rfl,hpos,fun e he=>(hsz e he).one,hc,fun i j hi hj=>.pure (hr i j hi hj)⟩⟩
theorem SliceAt.of_row {b:Id}{E:TypeId}{l:List D}(hb:BlkOK P A ρ h w b (.row E l)):SliceAt ρ (Live h) (okOf A ρ h w) w l (.slice (some ⟨(ρ b).blk,0,none⟩) (ρ b).len (ρ b).cap):=by
 obtain⟨c,h1,h2,h3,h4,h5,h6,h7,h8,h9⟩:=hb
 refine⟨_,_,by rw[h3],by rw[h3];exact h4,h5,fun h=>(by cases h),fun hne=>?_⟩
 cases l with
 |nil=>exact absurd rfl hne
 |cons e0 l0=>
  have hsz:szl (e0::l0)=(ρ b).sz:=(h8 e0 (bh ..)).1
  refine⟨_,_,fun i j=>c.getD (i*(ρ b).sz+j) undef,rfl,by rw[hsz];exact h6,fun e he=>by rw[hsz];exact h8 e he,fun i j hi hj=>?_,fun i j hi hj=>?_⟩
  ·rw[hsz] at hj⊢
   have hlt':i*(ρ b).sz+j<c.size:=by
    rw[h2]
    have:(i+1)*(ρ b).sz≤(ρ b).cap*(ρ b).sz:=dL _ (by omega)
    rw[cZ] at this
    omega
   simp[World.cell?,h1,hlt',bV]
  ·rw[hsz] at hj
   exact h9 i j hi hj
theorem cR {e:D}(h:e.pure0=true):e.cells=[e]:=by cases e<;>simp[D.pure0] at h<;>rfl
theorem SliceAt.of_var {ρ:Id→Pl}{L:Id→Prop}{ok:Nat→Prop}{c:Array Value}{cs:List D}{T:TypeId}{g o n:Nat}(g1:w.heap[g]?=some (.cells c T (0,0)))(g2:c.size=cs.length)(g3:∀j,j<cs.length→C ρ L ok w (cs.getD j .undef) (c.getD j undef))(hle:o+n≤cs.length)(hp:cs.all D.pure0=true)(hn:n≤maxLen):
  SliceAt ρ L ok w ((cs.drop o).take n) (.slice (some ⟨g,o,none⟩) n n):=by
 have hlen:((cs.drop o).take n).length=n:=by simp;omega
 rw[bc] at hp
 refine⟨_,n,by rw[hlen],by rw[hlen];exact aN _,hn,fun h=>(by cases h),fun hne=>?_⟩
 have hmem:∀e∈(cs.drop o).take n,e∈cs:=fun e he=>List.mem_of_mem_drop (pX he)
 have hsz:szl ((cs.drop o).take n)=1:=by
  cases hq:(cs.drop o).take n with
  |nil=>exact absurd hq hne
  |cons e l=>
   have:e∈cs:=hmem e (by rw[hq];exact bh ..)
   simp[szl,cR (hp e this)]
 refine⟨g,o,fun i _=>c.getD (o+i) undef,rfl,by rw[hsz];exact Nat.one_pos,fun e he=>?_,fun i j hi hj=>?_,fun i j hi hj=>?_⟩
 ·rw[hsz]
  have:=hp e (hmem e he)
  exact⟨by rw[cR this];rfl,by rw[cR this];simp[kx this]⟩
 ·rw[hsz] at hj⊢
  rw[hlen] at hi
  obtain rfl:j=0:=by omega
  have:o+i<c.size:=by omega
  simp[World.cell?,g1,this,bV]
 ·rw[hsz] at hj
  rw[hlen] at hi
  obtain rfl:j=0:=by omega
  have h1:o+i<cs.length:=by omega
  have e1:((cs.drop o).take n).getD i .undef=cs.getD (o+i) .undef:=by
   simp[aX,jt,hi,List.getElem?_drop]
  have hm:cs.getD (o+i) .undef∈cs:=by
   rw[aX,a6 h1];exact fh h1
  rw[e1,cR (hp _ hm)]
  exact g3 (o+i) h1
theorem Sim.slice (s:Sim P w0 S A N ρ t h a w){d:D}{v:Value}{l:List D}(hd:elems h d=some l)(hv:C ρ (Live h) (okOf A ρ h w) w d v):SliceAt ρ (Live h) (okOf A ρ h w) w l v:=by
 unfold Am.elems at hd
 split at hd
 ·simp only[aK] at hd;subst hd;exact .of_rep hv.lst_inv
 ·simp only[aK] at hd;subst hd
  obtain rfl:=hv.nils_inv
  exact⟨none,0,rfl,gJ _,gJ _,fun _=>rfl,fun hne=>absurd rfl hne⟩
 ·rename_i b
  obtain⟨hl,rfl⟩:=hv.ref_inv
  split at hd
  ·rename_i E l' hb
   simp only[aK] at hd;subst hd
   exact .of_row (s.blk b _ hb)
  ·rename_i l' hb
   simp only[aK] at hd;subst hd
   exact .of_rep (s.blk b _ hb)
  ·cases hd
 ·rename_i b o n
  obtain⟨hl,hn,rfl⟩:=hv.vref_inv
  split at hd
  ·rename_i T cs hb
   split at hd
   ·rename_i hc
    simp only[aK] at hd;subst hd
    obtain⟨c,g1,g2,g3⟩:=s.blk b _ hb
    exact .of_var g1 g2 g3 hc.1 hc.2 hn
   ·cases hd
  ·cases hd
 ·cases hd
end Go.Proofs.Ytbmnihglaokhmaa.Am
namespace Go.Proofs.Ytbmnihglaokhmaa.Am
open Go Go.RowKit
variable {P:Program} {w0:World} {S:SD} {A:Nat→Prop} {N:Nat} {ρ:Id→Pl} {t:List (Nat×D)} {h:HL} {a:Act} {w:World}
def bL (P:Program)(h:HL)(T:TypeId)(d:D)(ix:D):Option D:=
 match ix,P.underlying T with
 | .int _ i,some (.slice E)=>
  (match sizeT P E,elems h d with
  |some s,some l=>if 0≤i∧i<(l.length:Int) then
    (match d with
    | .ref b=>(match look h b with
     |some (.row E' _)=>if sizeT P E'=some s then some (.eptr b i.toNat 0) else none
     |_=>match l[i.toNat]? with|some e=>if e.cells.length=s then some (.iptr e 0) else none|none=>none)
    | .vref ..=>none
    |_=>match l[i.toNat]? with|some e=>if e.cells.length=s then some (.iptr e 0) else none|none=>none)
   else none
  |_,_=>none)
 | .int _ i,some (.array n E)=>
  (match sizeT P E with
  |some s=>if 0≤i∧i<(n:Int) then
    (match d with
    | .ptr b o=>some (.ptr b (o+i.toNat * s))
    | .eptr b j o=>some (.eptr b j (o+i.toNat * s))
    | .iptr e o=>some (.iptr e (o+i.toNat * s))
    | .box cs=>some (.iptr (.agg cs) (i.toNat * s))
    |_=>none) else none
  |none=>none)
 |_,_=>none
theorem SliceAt.elem {L:Id→Prop}{ok:Nat→Prop}{l:List D}{v:Value}(hs:SliceAt ρ L ok w l v){i:Nat}{e:D}(he:l[i]?=some e):
  ∃(b off cap:Nat) (f:Nat→Value),v= .slice (some ⟨b,off,none⟩) l.length cap∧(∀j,j<e.cells.length→w.cell? ⟨b,(off+i*e.cells.length)+j,none⟩=some (f j))∧
   ∀j,j<e.cells.length→C ρ L ok w (e.cells.getD j .undef) (f j):=by
 have hi:i<l.length:=(cz.1 he).1
 obtain⟨a,cap,rfl,h1,h2,h3,h4⟩:=hs
 obtain⟨b,off,f,rfl,hpos,hsz,hc,hr⟩:=h4 (by rintro rfl;simp at hi)
 have e1:=(hsz e (dm he)).1
 refine⟨b,off,cap,f i,rfl,fun j hj=>?_,fun j hj=>?_⟩
 ·rw[e1] at hj⊢
  exact hc i j hi hj
 ·rw[e1] at hj
  have:=hr i j hi hj
  rw[aX (l:=l),he] at this
  exact this
theorem jW {T E:TypeId}{s:Nat}(hu:P.underlying T=some (.slice E))(hs:sizeT P E=some s){k:IntKind}{i:Int}{b off n cap:Nat}(hi:0≤i∧i<(n:Int)):
  (Instr.indexAt T (.slice (some ⟨b,off,none⟩) n cap) (.int k i)).run P w= .ok (.pointer (some ⟨b,off+i.toNat * s,none⟩)) w:=by
 simp[Instr.indexAt,asIntOf,run_underlying hu,hi.1,hi.2,bS hs,dD]
theorem dy {T E:TypeId}{s m:Nat}(hu:P.underlying T=some (.array m E))(hs:sizeT P E=some s){k:IntKind}{i:Int}{b off:Nat}(hi:0≤i∧i<(m:Int)):
  (Instr.indexAt T (.pointer (some ⟨b,off,none⟩)) (.int k i)).run P w= .ok (.pointer (some ⟨b,off+i.toNat * s,none⟩)) w:=by
 simp[Instr.indexAt,asIntOf,run_underlying hu,hi.1,hi.2,bS hs,dD,Instr.sureAddr]
theorem Sim.okBlk (_:Sim P w0 S A N ρ t h a w){l:List D}{v:Value}{i:Nat}{e:D}(hr:Rep (okOf A ρ h w) w (.lst l) v)(he:l[i]?=some e):
  ∃(b off cap:Nat) (f:Nat→Value),v= .slice (some ⟨b,off,none⟩) l.length cap∧okOf A ρ h w b∧(∀j,j<e.cells.length→w.cell? ⟨b,(off+i*e.cells.length)+j,none⟩=some (f j))∧
   ∀j,j<e.cells.length→Rep (okOf A ρ h w) w (e.cells.getD j .undef) (f j):=by
 have hi:i<l.length:=(cz.1 he).1
 cases hr with
 |none a cap ha hcap=>simp at hi
 |lst _ n b off cap f hn hcap hmax hok hsz hpos hc hr=>
  subst hn
  have e1:=(hsz e (dm he)).1
  refine⟨b,off,cap,f i,rfl,hok,fun j hj=>?_,fun j hj=>?_⟩
  ·rw[e1] at hj⊢
   exact hc i j hi hj
  ·rw[e1] at hj
   have:=hr i j hi hj
   rw[aX (l:=l),he] at this
   exact this
theorem Sim.indexAddr (s:Sim P w0 S A N ρ t h a w){T:TypeId}{d ix d':D}{v vi:Value}(hd:bL P h T d ix=some d')(hv:C ρ (Live h) (okOf A ρ h w) w d v)(hvi:C ρ (Live h) (okOf A ρ h w) w ix vi):
  ∃v',(Instr.indexAt T v vi).run P w= .ok v' w∧C ρ (Live h) (okOf A ρ h w) w d' v':=by
 unfold bL at hd
 split at hd
 ·rename_i k i E hu
  obtain rfl:=hvi.int_inv
  split at hd
  ·rename_i sz l hs he
   split at hd
   ·rename_i hi
    have ro:∀{e:D},l[i.toNat]?=some e→e.cells.length=sz→Rep (okOf A ρ h w) w (.lst l) v→d'= .iptr e 0→∃v',(Instr.indexAt T v (.int k i)).run P w= .ok v' w∧C ρ (Live h) (okOf A ρ h w) w d' v':=by
     rintro e he hsz hr rfl
     obtain⟨b,off,cap,f,rfl,hok,h1,h2⟩:=s.okBlk hr he
     subst hsz
     exact⟨_,jW hu hs hi,.iptr e 0 b _ f hok h1 h2⟩
    have ro':Rep (okOf A ρ h w) w (.lst l) v→(match l[i.toNat]? with|some e=>if e.cells.length=sz then some (D.iptr e 0) else none|none=>none)=some d'→∃v',(Instr.indexAt T v (.int k i)).run P w= .ok v' w∧C ρ (Live h) (okOf A ρ h w) w d' v':=by
     intro hr hd
     split at hd
     ·rename_i e hl
      split at hd
      ·rename_i hsz
       simp only[aK] at hd
       exact ro hl hsz hr hd.symm
      ·cases hd
     ·cases hd
    split at hd
    ·rename_i b
     obtain⟨hl,rfl⟩:=hv.ref_inv
     split at hd
     ·rename_i E' l' hb
      split at hd
      ·rename_i hE
       simp only[aK] at hd
       subst hd
       simp only[Am.elems,hb,aK] at he
       subst he
       obtain⟨c,h1,h2,h3,h4,h5,h6,h7,h8,h9⟩:=s.blk b _ hb
       have e2:(ρ b).sz=sz:=by
        have:sizeT P E'=some (ρ b).sz:=h7
        rw[hE] at this
        exact(bm this).symm
       refine⟨_,jW hu hs (by rw[←h3];exact hi),?_⟩
       rw[gM,←e2]
       exact .eptr b _ 0 hl
      ·cases hd
     ·rename_i hnr
      refine ro' ?_ hd
      simp only[Am.elems] at he
      split at he
      ·rename_i E' l' hb;exact absurd hb (hnr E' l')
      ·rename_i l' hb
       simp only[aK] at he;subst he
       exact s.blk b _ hb
      ·cases he
    ·cases hd
    ·rename_i hnr hnv
     refine ro' ?_ hd
     unfold Am.elems at he
     split at he
     ·simp only[aK] at he;subst he;exact hv.lst_inv
     ·simp only[aK] at he;subst he;simp at hi;omega
     ·rename_i b;exact absurd rfl (hnr b)
     ·rename_i b o n;exact absurd rfl (hnv b o n)
     ·cases he
   ·cases hd
  ·cases hd
 ·rename_i k i n E hu
  obtain rfl:=hvi.int_inv
  split at hd
  ·rename_i sz hs
   split at hd
   ·rename_i hi
    split at hd<;>simp only[aK,reduceCtorEq] at hd<;>subst hd
    ·obtain⟨hl,rfl⟩:=hv.ptr_inv
     exact⟨_,dy hu hs hi,.ptr _ _ hl⟩
    ·obtain⟨hl,rfl⟩:=hv.eptr_inv
     exact⟨_,dy hu hs hi,by rw[mj];exact .eptr _ _ _ hl⟩
    ·obtain⟨b,off,f,rfl,hok,h1,h2⟩:=hv.iptr_inv
     exact⟨_,dy hu hs hi,by rw[mj];exact .iptr _ _ _ _ _ hok h1 h2⟩
    ·rename_i cs
     cases hv.box_inv with
     |box _ b off f hok hpos hc hr=>exact⟨_,dy hu hs hi,.iptr (.agg cs) _ b off f hok hc hr⟩
   ·cases hd
  ·cases hd
 ·cases hd
theorem u5 {T:TypeId}{cs:List D}{vs:Array Value}{o:Nat}{d:D}{L:Id→Prop}{ok:Nat→Prop}(hd:bT P T cs o=some d)(hl:cs.length=vs.size)
  (hc:∀i,i<cs.length→C ρ L ok w (cs.getD i .undef) (vs.getD i undef)):∃v,(part T vs o).run P w= .ok v w∧C ρ L ok w d v:=by
 unfold bT at hd
 split at hd
 ·rename_i s ha hs
  split at hd
  ·rename_i hle
   simp only[aK] at hd
   subst hd
   refine⟨.agg (vs.extract o (o+s)),by simp[part,ky ha,bS hs],.agg _ _ (by simp;omega) fun i hi=>?_⟩
   have hi':i<s:=by simp at hi;omega
   have:=hc (o+i) (by omega)
   have h1:o+i<cs.length:=by omega
   have h2:o+i<vs.size:=by omega
   have h3:i<min (o+s) vs.size-o:=by omega
   simpa[aX,bV,hi',jt,List.getElem?_drop,h1,h2,h3,Array.getElem?_extract] using this
  ·cases hd
 ·rename_i ha
  have hlt:o<cs.length:=(cz.1 hd).1
  have h2:o<vs.size:=by omega
  refine⟨vs[o],by simp[part,ky ha,h2],?_⟩
  have:=hc o hlt
  rw[aX,hd] at this
  simpa[bV,h2] using this
 ·cases hd
def wo (P:Program)(T:TypeId)(i:Nat):Option (TypeId×Nat):=
 match P.underlying T with
 |some (.struct fs)=>(match fs[i]? with|some f=>some (f.type,f.offset)|none=>none)
 |_=>none
def xr (P:Program)(T:TypeId)(i:Nat):D→Option D
 | .agg cs=>(match wo P T i with
  |some (E,o)=>bT P E cs o
  |none=>none)
 |_=>none
theorem zX {T:TypeId}{i:Nat}{d d':D}{v:Value}{L:Id→Prop}{ok:Nat→Prop}(hd:xr P T i d=some d')(hv:C ρ L ok w d v):∃v',(Instr.field T v i).run P w= .ok v' w∧C ρ L ok w d' v':=by
 unfold xr at hd
 split at hd
 ·split at hd
  ·rename_i E o hp
   unfold wo at hp
   split at hp
   ·rename_i fs hu
    split at hp
    ·rename_i f hf
     simp only[aK,bi] at hp
     obtain⟨rfl,rfl⟩:=hp
     obtain⟨vs,rfl,hl,hc⟩:=hv.agg_inv
     obtain⟨v',h1,h2⟩:=u5 (P:=P) hd hl hc
     exact⟨v',by simp[Instr.field,run_underlying hu,hf,asAgg,h1],h2⟩
    ·cases hp
   ·cases hp
  ·cases hd
 ·cases hd
def iB (i:Nat):D→Option D
 | .tup cs=>cs[i]?
 |_=>none
theorem ta {i:Nat}{d d':D}{v:Value}{L:Id→Prop}{ok:Nat→Prop}(hd:iB i d=some d')(hv:C ρ L ok w d v):∃v',(Instr.extract v i).run P w= .ok v' w∧C ρ L ok w d' v':=by
 unfold iB at hd
 split at hd
 ·obtain⟨vs,rfl,hl,hc⟩:=hv.tup_inv
  have hlt:=(cz.1 hd).1
  have h2:i<vs.size:=by omega
  refine⟨vs[i],by simp[Instr.extract,h2],?_⟩
  have:=hc i hlt
  rw[aX,hd] at this
  simpa[bV,h2] using this
 ·cases hd
def ol (P:Program)(T:TypeId)(d ix:D):Option D:=
 match d,ix with
 | .str s,.int _ i=>(match P.underlying T with
  |some .string=>if 0≤i∧i<(s.size:Int) then some (.int .u8 ((s.data.toList.getD i.toNat 0).toNat:Nat)) else none
  |_=>none)
 | .agg cs,.int _ i=>(match P.underlying T with
  |some (.array n E)=>(match sizeT P E with
   |some s=>if 0≤i∧i<(n:Int) then bT P E cs (i.toNat * s) else none
   |none=>none)
  |_=>none)
 |_,_=>none
theorem yC {T:TypeId}{d ix d':D}{v vi:Value}{L:Id→Prop}{ok:Nat→Prop}(hd:ol P T d ix=some d')(hv:C ρ L ok w d v)(hvi:C ρ L ok w ix vi):∃v',(Instr.index T v vi).run P w= .ok v' w∧C ρ L ok w d' v':=by
 unfold ol at hd
 split at hd
 ·rename_i s k i
  obtain rfl:=hv.str_inv
  obtain rfl:=hvi.int_inv
  split at hd
  ·rename_i hu
   split at hd
   ·rename_i hi
    simp only[aK] at hd
    subst hd
    have hlt:i.toNat<s.size:=by omega
    refine⟨_,?_,.int _ _⟩
    have e1:s[i.toNat]?=some s[i.toNat]:=by simp[hlt]
    simp only[Instr.index,asIntOf,Sem.run_bind,Sem.run_pure,Result.andThen_ok,run_underlying hu,hi.1,if_true,e1]
    congr 3
    have e2:s.data.toList.getD i.toNat 0=s[i.toNat]:=by
     have:i.toNat<s.data.size:=hlt
     simp only[aX,Array.getElem?_toList,eH this,e9]
     rfl
    rw[e2]
   ·cases hd
  ·cases hd
 ·rename_i cs k i
  obtain⟨vs,rfl,hl,hc⟩:=hv.agg_inv
  obtain rfl:=hvi.int_inv
  split at hd
  ·rename_i n E hu
   split at hd
   ·rename_i s hs
    split at hd
    ·rename_i hi
     obtain⟨v',h1,h2⟩:=u5 (P:=P) hd hl hc
     exact⟨v',by simp[Instr.index,asIntOf,run_underlying hu,hi.1,hi.2,bS hs,h1],h2⟩
    ·cases hd
   ·cases hd
  ·cases hd
 ·cases hd
def om (P:Program)(h:HL)(T:TypeId)(d:D):Option D:=
 match P.underlying T with
 |some .string=>(match d with| .str s=>some (.int .i64 (s.size:Nat))|_=>none)
 |some (.slice _)=>(elems h d).map fun l=>.int .i64 (l.length:Nat)
 |_=>none
theorem Sim.len (s:Sim P w0 S A N ρ t h a w){T ty:TypeId}{d d':D}{v:Value}(hd:om P h T d=some d')(hv:C ρ (Live h) (okOf A ρ h w) w d v):
  ∃v',(Builtin.len_ #[T] ty #[v]).run P w= .ok v' w∧C ρ (Live h) (okOf A ρ h w) w d' v':=by
 unfold om at hd
 split at hd
 ·rename_i hu
  split at hd
  ·obtain rfl:=hv.str_inv
   simp only[aK] at hd
   subst hd
   exact⟨_,by simp[Builtin.len_,run_underlying hu,goInt],.int _ _⟩
  ·cases hd
 ·rename_i E hu
  obtain⟨l,hl,rfl⟩:=bj.1 hd
  obtain⟨a',cap,rfl,_⟩:=s.slice hl hv
  exact⟨_,by simp[Builtin.len_,run_underlying hu,goInt],.int _ _⟩
 ·cases hd
def kj:D→Option UInt8
 | .int .u8 n=>some (UInt8.ofNat n.toNat)
 |_=>none
def jl (P:Program)(h:HL)(src dst:TypeId)(d:D):Option D:=
 match P.underlying dst,P.underlying src with
 |some (.int k),some _=>(match d with| .int _ n=>some (.int k (k.wrap n))|_=>none)
 |some .string,some (.slice e)=>(match P.underlying e,sizeT P e with
  |some (.int .u8),some 1=>(match elems h d with
   |some l=>(match l.mapM kj with|some bs=>some (.str ⟨bs.toArray⟩)|none=>none)
   |none=>none)
  |_,_=>none)
 |some .string,some _=>(match d with| .str s=>some (.str s)|_=>none)
 |_,_=>none
end Go.Proofs.Ytbmnihglaokhmaa.Am
namespace Go.Proofs.Ytbmnihglaokhmaa.Am
open Go Go.RowKit
variable {P:Program} {w0:World} {S:SD} {A:Nat→Prop} {N:Nat} {ρ:Id→Pl} {t:List (Nat×D)} {h:HL} {a:Act} {w:World}
theorem wq (ns:List Int)(s:ByteArray):(ns.foldl (fun r n=>r.push (UInt8.ofNat n.toNat)) s).data.toList=s.data.toList++ns.map fun n=>UInt8.ofNat n.toNat:=by
 induction ns generalizing s with
 |nil=>simp
 |cons n ns ih=>simp only[List.foldl_cons,ih];simp[ByteArray.push]
theorem wG {l:List D}{bs:List UInt8}(hb:l.mapM kj=some bs):∃ns:List Int,l=ns.map (D.int .u8)∧bs=ns.map fun n=>UInt8.ofNat n.toNat:=by
 induction l generalizing bs with
 |nil=>simp at hb;exact⟨[],rfl,by simp[hb]⟩
 |cons d l ih=>
  simp only[gh,rC,bu,Option.pure_def,aK] at hb
  obtain⟨b,h1,bs',h2,rfl⟩:=hb
  obtain⟨ns,rfl,rfl⟩:=ih h2
  unfold kj at h1
  split at h1
  ·rename_i n
   simp only[aK] at h1
   exact⟨n::ns,rfl,by simp[h1]⟩
  ·cases h1
theorem Sim.convBytes (s:Sim P w0 S A N ρ t h a w){src dst e:TypeId}{d:D}{l:List D}{bs:List UInt8}{v:Value}(hk:P.underlying dst=some .string)(hs:P.underlying src=some (.slice e))(he:P.underlying e=some (.int .u8))(hl:elems h d=some l)(hbs:l.mapM kj=some bs)
  (hv:C ρ (Live h) (okOf A ρ h w) w d v):∃v',(convert src dst v).run P w= .ok v' w∧C ρ (Live h) (okOf A ρ h w) w (.str ⟨bs.toArray⟩) v':=by
 obtain⟨a',cap,rfl,hcap,hmax,ha,hne⟩:=s.slice hl hv
 obtain⟨ns,rfl,rfl⟩:=wG hbs
 refine⟨.string (ns.foldl (fun r n=>r.push (UInt8.ofNat n.toNat)) ByteArray.empty),?_,?_⟩
 ·rw[run_convert_bytes_string w src dst e _ _ _ hs he hk]
  cases ns with
  |nil=>
   cases a' with
   |none=>simp[Conv.bytesToString]
   |some ad=>
    exact run_bytesToString w ad 0 cap [] (by simp[loadCells,loadCellsFrom])
  |cons n ns=>
   obtain⟨b,off,f,rfl,hp,hsz,hc,hr⟩:=hne (by simp)
   have e1:szl ((n::ns).map (D.int .u8))=1:=rfl
   rw[e1] at hc hr
   refine run_bytesToString w _ _ cap (n::ns) ?_
   have hlen:((n::ns).map (Value.int .u8)).length=((n::ns).map (D.int .u8)).length:=by simp
   rw[←hlen]
   refine run_loadCells_list w _ _ fun j u hu=>?_
   have hj:j<(n::ns).length:=by have:=(cz.1 hu).1;simpa using this
   have h1:=hc j 0 (by simpa using hj) (by omega)
   have h2:=hr j 0 (by simpa using hj) (by omega)
   rw[dD]
   simp only[Nat.mul_one,Nat.add_zero] at h1
   rw[h1]
   have e2:((n::ns).map (D.int .u8)).getD j .undef= .int .u8 (n::ns)[j]:=by simp only[aX,cd,a6 hj,aM,e9]
   rw[e2] at h2
   have e3:u= .int .u8 (n::ns)[j]:=by
    have:((n::ns).map (Value.int .u8))[j]?=some (.int .u8 (n::ns)[j]):=by simp only[cd,a6 hj,aM]
    rw[this] at hu
    exact(bm hu).symm
   rw[e3]
   rw[h2.int_inv]
 ·have e4:(⟨(ns.map fun n=>UInt8.ofNat n.toNat).toArray⟩:ByteArray)=ns.foldl (fun r n=>r.push (UInt8.ofNat n.toNat)) ByteArray.empty:=by
   apply ByteArray.ext
   apply Array.ext'
   rw[wq]
   rfl
  rw[e4]
  exact .str _
theorem Sim.conv (s:Sim P w0 S A N ρ t h a w){src dst:TypeId}{d d':D}{v:Value}(hd:jl P h src dst d=some d')(hv:C ρ (Live h) (okOf A ρ h w) w d v):
  ∃v',(convert src dst v).run P w= .ok v' w∧C ρ (Live h) (okOf A ρ h w) w d' v':=by
 unfold jl at hd
 split at hd
 ·rename_i k x hk hs
  split at hd
  ·obtain rfl:=hv.int_inv
   simp only[aK] at hd
   subst hd
   refine⟨_,?_,.int _ _⟩
   simp[convert,run_underlying hs,run_underlying hk,Conv.intToInt]
  ·cases hd
 ·rename_i e hk hs
  split at hd
  ·rename_i he h1
   split at hd
   ·rename_i l hl
    split at hd
    ·rename_i bs hbs
     simp only[aK] at hd
     subst hd
     exact s.convBytes hk hs he hl hbs hv
    ·cases hd
   ·cases hd
  ·cases hd
 ·rename_i x _ hk hs
  split at hd
  ·obtain rfl:=hv.str_inv
   simp only[aK] at hd
   subst hd
   exact⟨_,by simp[convert,run_underlying hs,run_underlying hk],.str _⟩
  ·cases hd
 ·cases hd
def D.whole:D→Bool
 | .tup _| .undef=>false
 |_=>true
theorem Sim.newVar (s:Sim P w0 S A N ρ t h a w){n:Id}(hn:look h n=none){T:TypeId}{d:D}{v:Value}(hd:d.whole=true)(hv:C ρ (Live h) (okOf A ρ h w) w d v):
  ∃ρ',Ext h ρ ρ'∧(newVar T v).run P w= .ok ⟨(ρ' n).blk,0,none⟩ (w.alloc (.cells v.cells T (0,0)))∧Sim P w0 S A N ρ' t (put n (.var T d.cells) h) a (w.alloc (.cells v.cells T (0,0))):=by
 have hc:=hv.cells (by rintro rfl;simp[D.whole] at hd) (by rintro cs rfl;simp[D.whole] at hd)
 refine⟨at' ρ n {blk:=w.heap.size},Ext.at hn _,?_,?_⟩
 ·rw[aT]
  cases v<;>simp[Go.newVar,newRow,newObj,go_sem,Value.cells]<;>rfl
 ·refine s.new hn _ _ _ rfl fun hC hR=>?_
  refine⟨v.cells,?_,hc.1,fun j hj=>hC _ _ (hc.2 j hj)⟩
  rw[aT]
  exact heap_alloc_new w _
theorem ur {v:Value}{d:D}(h:jn v=some d):d.whole=true:=by
 unfold jn at h
 split at h<;>simp only[aK,reduceCtorEq] at h<;>subst h<;>rfl
def ofZero (P:Program)(T:TypeId):Option D:=
 match(P.info? T).bind (·.zero) with
 |some (.agg vs)=>(vs.toList.mapM jn).map .agg
 |some v=>jn v
 |none=>none
theorem pm {ok:Nat→Prop}:∀{l:List Value} {cs:List D},l.mapM jn=some cs→cs.length=l.length∧∀i,i<cs.length→Rep ok w (cs.getD i .undef) (l.getD i undef)
 |[],cs,h=>by simp at h;subst h;simp
 |v::l,cs,h=>by
  simp only[gh,rC,bu,Option.pure_def,aK] at h
  obtain⟨d,h1,cs',h2,rfl⟩:=h
  obtain⟨e,ih⟩:=pm (ok:=ok) h2
  refine⟨by simp[e],fun i hi=>?_⟩
  cases i with
  |zero=>simpa using pq h1
  |succ i=>simpa using ih i (by simpa using hi)
theorem gq {T:TypeId}{d:D}(hd:ofZero P T=some d)(ok:Nat→Prop)(w:World):∃v,(zeroValue T).run P w= .ok v w∧Rep ok w d v∧d.whole=true∧(P.info? T).bind (·.zero)=some v:=by
 unfold ofZero at hd
 cases hi:P.info? T with
 |none=>simp[hi] at hd
 |some i=>
  simp only[hi,bp] at hd
  cases hz:i.zero with
  |none=>simp[hz] at hd
  |some z=>
   rw[hz] at hd
   refine⟨z,by simp[zeroValue,typeInfo,hi,hz],?_⟩
   cases z with
   |agg vs=>
    simp only at hd
    obtain⟨cs,h1,rfl⟩:=bj.1 hd
    obtain⟨e,ih⟩:=pm (ok:=ok) (w:=w) h1
    exact⟨.agg cs vs (by simpa using e) fun i hi=>by simpa[bV,aX] using ih i hi,rfl,by simp[hz]⟩
   |_=>exact⟨pq hd,ur hd,by simp[hz]⟩
theorem gV {α:Type}(l m:List α)(o j:Nat)(d:α)(hl:o+m.length≤l.length):
  (l.take o++m++l.drop (o+m.length)).getD j d=if o≤j∧j<o+m.length then m.getD (j-o) d else l.getD j d:=by
 simp only[aX]
 congr 1
 rw[cV,List.getElem?_append,List.getElem?_append]
 simp only[nz,Nat.min_eq_left (show o≤l.length by omega)]
 by_cases h1:j<o
 ·have:¬(o≤j∧j<o+m.length):=by omega
  rw[if_pos h1,if_neg this,jt,if_pos h1]
 ·by_cases h2:j-o<m.length
  ·have:o≤j∧j<o+m.length:=by omega
   rw[if_neg h1,if_pos h2,if_pos this]
  ·have:¬(o≤j∧j<o+m.length):=by omega
   rw[if_neg h1,if_neg h2,if_neg this,List.getElem?_drop]
   rw[show o+m.length+(j-o-m.length)=j by omega]
theorem bB {α:Type}(l m:List α)(o:Nat)(hl:o+m.length≤l.length):(l.take o++m++l.drop (o+m.length)).length=l.length:=by
 simp only[ck,nz,List.length_drop,Nat.min_eq_left (show o≤l.length by omega)]
 omega
theorem C.rep0 {L:Id→Prop}{ok:Nat→Prop}{d:D}{v:Value}(h:C ρ L ok w d v)(hd:d.pure0=true):Rep ok w d v:=by
 cases h with
 |pure h=>exact h
 |_=>simp[D.pure0] at hd
def cj (e:D)(cs:List D):D:=match e with| .agg _=>.agg cs|_=>cs.headD .undef
def bk (l:List D)(o:Nat)(m:List D):List D:=l.take o++m++l.drop (o+m.length)
theorem m7 {Q:D→Value→Prop}{cs m:List D}{vs mv:List Value}{o:Nat}(hl:cs.length=vs.length)(hm:m.length=mv.length)(hle:o+m.length≤cs.length)
  (h1:∀j,j<cs.length→Q (cs.getD j .undef) (vs.getD j undef)) (h2:∀j,j<m.length→Q (m.getD j .undef) (mv.getD j undef)):
  ∀j,j<cs.length→Q ((bk cs o m).getD j .undef) ((vs.take o++mv++vs.drop (o+mv.length)).getD j undef):=by
 intro j hj
 rw[bk,gV _ _ _ _ _ hle,gV _ _ _ _ _ (by omega),←hm]
 split
 ·exact h2 _ (by omega)
 ·exact h1 j hj
theorem nK {e:D}{cs:List D}(hl:cs.length=e.cells.length)(h1:∀x∈cs,x.cells=[x]):(cj e cs).cells=cs:=by
 have key:e.cells=[e]→cs.headD .undef=cj e cs→(cj e cs).cells=cs:=by
  intro he hw
  rw[he] at hl
  match cs,hl with
  |[x],_=>
   rw[←hw]
   exact h1 x (bd.2 rfl)
 cases e<;>first|rfl|exact key rfl rfl
theorem cF {d:D}(h:d.one=true):d.cells=[d]:=by cases d<;>simp_all[D.cells,D.one]
theorem cS {e:D}(he:∀cs,e≠ .agg cs):e.cells=[e]:=by cases e<;>first|rfl|exact absurd rfl (he _)
theorem jh {e:D}{m:List D}{o:Nat}(hle:o+m.length≤e.cells.length)(hm:∀x∈m,x.cells=[x]):(cj e (bk e.cells o m)).cells=bk e.cells o m:=by
 by_cases hag:∃cs,e= .agg cs
 ·obtain⟨cs,rfl⟩:=hag;rfl
 ·have he:=cS (e:=e) fun cs h=>hag ⟨cs,h⟩
  refine nK (bB _ _ _ hle) fun x hx=>?_
  rw[he] at hx
  simp only[bk,cm] at hx
  rcases hx with(hx|hx)|hx
  ·obtain rfl:=bd.1 (pX hx);exact he
  ·exact hm x hx
  ·obtain rfl:=bd.1 (List.mem_of_mem_drop hx);exact he
theorem w9 {Q:D→Value→Prop}{l:List D}{c mv:List Value}{m:List D}{i o sz:Nat}{e:D}(he:l[i]?=some e)(hsz:e.cells.length=sz)(hm:m.length=mv.length)(hle:o+m.length≤sz)(hc:(i+1)*sz≤c.length)
  (h1:∀i' j,i'<l.length→j<sz→Q ((l.getD i' .undef).cells.getD j .undef) (c.getD (i'*sz+j) undef)) (h2:∀j,j<m.length→Q (m.getD j .undef) (mv.getD j undef)) (hs:∀x∈m,x.cells=[x]):
  ∀i' j,i'<l.length→j<sz→Q (((l.set i (cj e (bk e.cells o m))).getD i' .undef).cells.getD j .undef) ((c.take (i*sz+o)++mv++c.drop (i*sz+o+mv.length)).getD (i'*sz+j) undef):=by
 intro i' j hi' hj
 have hi:i<l.length:=(cz.1 he).1
 rw[cZ,im] at hc
 rw[gV _ _ _ _ _ (by omega),←hm]
 by_cases hii:i'=i
 ·subst hii
  have e2:(l.set i' (cj e (bk e.cells o m))).getD i' .undef=cj e (bk e.cells o m):=by simp[aX,hi]
  rw[e2,jh (by omega) hs,bk,gV _ _ _ _ _ (by omega)]
  by_cases hj2:o≤j∧j<o+m.length
  ·rw[if_pos hj2,if_pos (by omega),show i'*sz+j-(i'*sz+o)=j-o by omega]
   exact h2 _ (by omega)
  ·rw[if_neg hj2,if_neg (by omega)]
   have:=h1 i' j hi hj
   rwa [aX (l:=l),he] at this
 ·have e2:(l.set i (cj e (bk e.cells o m))).getD i' .undef=l.getD i' .undef:=by
   simp only[aX,List.getElem?_set_ne (cq hii)]
  rw[e2]
  have hj3:¬(i*sz+o≤i'*sz+j∧i'*sz+j<i*sz+o+m.length):=by
   rintro⟨q1,q2⟩
   rcases cY i' i with hlt|hge
   ·have:(i'+1)*sz≤i*sz:=dL _ (by omega)
    rw[cZ,im] at this
    omega
   ·have:(i+1)*sz≤i'*sz:=dL _ (by omega)
    rw[cZ,im] at this
    omega
  rw[if_neg hj3]
  exact h1 i' j hi' hj
def fk (P:Program)(h:HL)(T:TypeId)(d dv:D):Option (HL):=
 match d with
 | .ptr b o=>(match look h b with
  |some (.var T' cs)=>if dv.whole=true∧sizeT P T=some dv.cells.length∧o+dv.cells.length≤cs.length∧dv.cells.all D.one=true then some [(b,.var T' (bk cs o dv.cells))] else none
  |_=>none)
 | .eptr b i o=>(match look h b with
  |some (.row E l)=>(match l[i]? with
   |some e=>if dv.whole=true∧sizeT P T=some dv.cells.length∧o+dv.cells.length≤e.cells.length∧dv.cells.all D.one=true then some [(b,.row E (l.set i (cj e (bk e.cells o dv.cells))))] else none
   |none=>none)
  |_=>none)
 |_=>none
theorem iD (l:List Value)(j:Nat):l.toArray.getD j undef=l.getD j undef:=by simp[bV,aX]
theorem cB (c:Array Value)(j:Nat):c.getD j undef=c.toList.getD j undef:=by simp[bV,aX]
theorem Sim.store (s:Sim P w0 S A N ρ t h a w){T:TypeId}{d dv:D}{v vv:Value}{u:HL}(hd:fk P h T d dv=some u)(hv:C ρ (Live h) (okOf A ρ h w) w d v)(hvv:C ρ (Live h) (okOf A ρ h w) w dv vv):
  ∃w',(Instr.storeAt T v vv).run P w= .ok () w'∧Sim P w0 S A N ρ t (puts u h) a w':=by
 have pre:dv.whole=true→dv.cells.all D.one=true→(vv.cells.toList.length=dv.cells.length∧(∀x∈vv.cells.toList,x.oneCell'=true)∧∀j,j<dv.cells.length→C ρ (Live h) (okOf A ρ h w) w (dv.cells.getD j .undef) (vv.cells.toList.getD j undef)):=by
  intro hwh h1
  have hc:=hvv.cells (by rintro rfl;simp[D.whole] at hwh) (by rintro cs rfl;simp[D.whole] at hwh)
  refine⟨by simpa using hc.1,fun x hx=>?_,fun j hj=>by rw[←cB];exact hc.2 j hj⟩
  obtain⟨j,hj,rfl⟩:=p6 hx
  have hj':j<dv.cells.length:=by rw[←hc.1];simpa using hj
  have:=(hc.2 j hj').oneCell (by
   rw[bc] at h1
   refine h1 _ ?_
   simp[aX,hj'])
  have hj2:j<vv.cells.size:=by rw[hc.1];exact hj'
  simpa[bV,hj2] using this
 have run:∀{g o:Nat},v= .pointer (some ⟨g,o,none⟩)→sizeT P T=some dv.cells.length→dv.whole=true→dv.cells.all D.one=true→∀(c:Array Value) (E:TypeId),w.heap[g]?=some (.cells c E (0,0))→o+dv.cells.length≤c.size→
   (Instr.storeAt T v vv).run P w= .ok () (w.setRow g (c.toList.take o++vv.cells.toList++c.toList.drop (o+vv.cells.toList.length)).toArray):=by
  intro g o hv hsz hwh h1 c E hg hle
  obtain⟨p1,p2,_⟩:=pre hwh h1
  have hst:=run_storeCells_at P g o E vv.cells.toList 0 c w hg (by omega) p2
  subst hv
  simp only[Instr.storeAt,Instr.sureAddr,storeVar,Sem.run_bind,Sem.run_pure,Result.andThen_ok,bS hsz]
  rw[if_neg (by have:vv.cells.size=dv.cells.length:=(by simpa using p1);simp[this])]
  exact hst
 unfold fk at hd
 split at hd
 ·rename_i b o
  obtain⟨hl,rfl⟩:=hv.ptr_inv
  split at hd
  ·rename_i T' cs hb
   split at hd
   ·rename_i hcond
    obtain⟨hwh,hsz,hle,h1⟩:=hcond
    simp only[aK] at hd
    subst hd
    obtain⟨c,g1,g2,g3⟩:=s.blk b _ hb
    obtain⟨p1,p2,p3⟩:=pre hwh h1
    have hr:=run rfl hsz hwh h1 c T' g1 (by omega)
    refine⟨_,hr,s.write (y:=.var T' (bk cs o dv.cells)) hb rfl _ fun hC hR=>⟨_,setRow_heap w _ c _ T' _ g1,?_,fun j hj=>?_⟩⟩
    ·simp only[nC,bk]
     rw[bB _ _ _ (by have e:=nA (xs:=c);omega),bB _ _ _ hle]
     simpa using g2
    ·rw[iD]
     have hj':j<cs.length:=by rw[bk,bB _ _ _ hle] at hj;exact hj
     exact m7 (Q:=fun d v=>C _ _ _ _ d v) (by simpa using g2.symm) p1.symm hle (fun j hj=>hC _ _ (by rw[←cB];exact g3 j hj)) (fun j hj=>hC _ _ (p3 j hj)) j hj'
   ·cases hd
  ·cases hd
 ·rename_i b i o
  obtain⟨hl,rfl⟩:=hv.eptr_inv
  split at hd
  ·rename_i E l hb
   split at hd
   ·rename_i e he
    split at hd
    ·rename_i hcond
     obtain⟨hwh,hsz,hle,h1⟩:=hcond
     simp only[aK] at hd
     subst hd
     have hone:∀x∈dv.cells,x.one=true:=by simpa[bc] using h1
     obtain⟨c,g1,g2,g3,g4,g5,g6,g7,g8,g9⟩:=s.blk b _ hb
     obtain⟨p1,p2,p3⟩:=pre hwh h1
     have hi:i<l.length:=(cz.1 he).1
     have hesz:e.cells.length=(ρ b).sz:=(g8 e (dm he)).1
     have hefl:=(g8 e (dm he)).2
     have hbound:(i+1)*(ρ b).sz≤(ρ b).cap*(ρ b).sz:=dL _ (by omega)
     have hbound':=hbound
     rw[cZ,im] at hbound'
     have hr:=run rfl hsz hwh h1 c E g1 (by omega)
     refine⟨_,hr,s.write (y:=.row E (l.set i (cj e (bk e.cells o dv.cells)))) hb rfl _ fun hC hR=>⟨_,setRow_heap w _ c _ E _ g1,?_,by simpa using g3,g4,g5,g6,g7,fun x hx=>?_,fun i' j hi' hj=>?_⟩⟩
     ·simp only[nC]
      rw[bB _ _ _ (by have e:=nA (xs:=c);omega)]
      simpa using g2
     ·rcases List.mem_or_eq_of_mem_set hx with hx|rfl
      ·exact g8 x hx
      ·have hsp:=jh hle fun x hx=>cF (hone x hx)
       refine⟨by rw[hsp,bk,bB _ _ _ hle,hesz],?_⟩
       rw[hsp,bc]
       intro x hx
       rw[bc] at hefl
       simp only[bk,cm] at hx
       rcases hx with(hx|hx)|hx
       ·exact hefl x (pX hx)
       ·exact hone x hx
       ·exact hefl x (List.mem_of_mem_drop hx)
     ·rw[iD]
      exact w9 (Q:=fun d v=>C _ _ _ _ d v) he hesz p1.symm (by omega) (by simp;omega) (fun i' j hi' hj=>hC _ _ (by rw[←cB];exact g9 i' j hi' hj)) (fun j hj=>hC _ _ (p3 j hj)) (fun x hx=>cF (hone x hx)) i' j (by simpa using hi') hj
    ·cases hd
   ·cases hd
  ·cases hd
 ·cases hd
end Go.Proofs.Ytbmnihglaokhmaa.Am
namespace Go.Proofs.Ytbmnihglaokhmaa.Am
open Go Go.RowKit
variable {P:Program} {w0:World} {S:SD} {A:Nat→Prop} {N:Nat} {ρ:Id→Pl} {t:List (Nat×D)} {h:HL} {a:Act} {w:World}
def elemT (P:Program)(E:TypeId):Option (Nat×Nat):=
 match P.info? E with
 |some i=>(match i.zero with
  |some z=>if z.cells.size=i.size∧0<i.size then some (i.size,i.bytes) else none
  |none=>none)
 |none=>none
theorem lm {E:TypeId}{s b:Nat}(he:elemT P E=some (s,b)):∃i z,P.info? E=some i∧i.zero=some z∧z.cells.size=s∧i.size=s∧i.bytes=b∧0<s∧sizeT P E=some s:=by
 unfold elemT at he
 split at he
 ·rename_i i hi
  split at he
  ·rename_i z hz
   split at he
   ·rename_i hc
    simp only[aK,bi] at he
    obtain⟨rfl,rfl⟩:=he
    exact⟨i,z,hi,hz,hc.1,rfl,rfl,hc.2,by simp[sizeT,hi]⟩
   ·cases he
  ·cases he
 ·cases he
theorem SliceAt.flat {L:Id→Prop}{ok:Nat→Prop}{l:List D}{v:Value}(hs:SliceAt ρ L ok w l v)(hne:l≠[]):
  ∃(b off cap:Nat) (news:List Value),v= .slice (some ⟨b,off,none⟩) l.length cap∧news.length=l.length*szl l∧(∀k u,news[k]?=some u→w.cell? ((⟨b,off,none⟩:Addr).add k)=some u)∧
   (∀u∈news,u.oneCell'=true)∧0<szl l∧(∀e∈l,wfC (szl l) e)∧∀i j,i<l.length→j<szl l→C ρ L ok w ((l.getD i .undef).cells.getD j .undef) (news.getD (i*szl l+j) undef):=by
 obtain⟨a,cap,rfl,h1,h2,h3,h4⟩:=hs
 obtain⟨b,off,f,rfl,hpos,hsz,hc,hr⟩:=h4 hne
 have hd:∀k,k<l.length*szl l→k/szl l<l.length∧k % szl l<szl l∧k/szl l*szl l+k % szl l=k:=fun k hk=>
  ⟨Nat.div_lt_of_lt_mul (by rw[Nat.mul_comm];exact hk),Nat.mod_lt _ hpos,Nat.div_add_mod' k (szl l)⟩
 refine⟨b,off,cap,(List.range (l.length*szl l)).map fun k=>f (k/szl l) (k % szl l),rfl,by simp,fun k u hu=>?_,fun u hu=>?_,hpos,hsz,fun i j hi hj=>?_⟩
 ·have hk:k<l.length*szl l:=by have:=(cz.1 hu).1;simpa using this
  have hu':u=f (k/szl l) (k % szl l):=by
   simp[hk] at hu
   exact hu.symm
  obtain⟨d1,d2,d3⟩:=hd k hk
  rw[dD,hu',←hc _ _ d1 d2]
  congr 2
  omega
 ·obtain⟨k,hk,rfl⟩:=aP.1 hu
  obtain⟨d1,d2,d3⟩:=hd k (gL.1 hk)
  have hr':=hr _ _ d1 d2
  have hw:=hsz (l.getD (k/szl l) .undef) (by simp[aX,d1])
  refine hr'.oneCell ?_
  have hm:=hw.2
  rw[bc] at hm
  refine hm _ ?_
  have:k % szl l<(l.getD (k/szl l) .undef).cells.length:=by rw[hw.1];exact d2
  rw[aX (i:=k % szl l),a6 this]
  exact fh this
 ·have hk:i*szl l+j<l.length*szl l:=by
   have:(i+1)*szl l≤l.length*szl l:=dL _ (by omega)
   rw[cZ,im] at this
   omega
  have e1:(i*szl l+j)/szl l=i:=by rw[Nat.mul_comm,Nat.mul_add_div hpos,Nat.div_eq_of_lt hj];omega
  have e2:(i*szl l+j) % szl l=j:=by rw[Nat.mul_comm,Nat.mul_add_mod,Nat.mod_eq_of_lt hj]
  have:((List.range (l.length*szl l)).map fun k=>f (k/szl l) (k % szl l)).getD (i*szl l+j) undef=f i j:=by
   simp[aX,hk,e1,e2]
  rw[this]
  exact hr i j hi hj
theorem Sim.newRow (s:Sim P w0 S A N ρ t h a w){n:Id}(hn:look h n=none){E:TypeId}{l:List D}{c:Array Value}{sz cap:Nat}(hc:c.size=cap*sz)(hl:l.length≤cap)(hmax:cap≤maxLen)(hpos:0<sz)
  (hsz:sizeT P E=some sz) (he:∀e∈l,wfC sz e) (hr:∀i j,i<l.length→j<sz→C ρ (Live h) (okOf A ρ h w) w ((l.getD i .undef).cells.getD j .undef) (c.getD (i*sz+j) undef)):
  Sim P w0 S A N (at' ρ n ⟨w.heap.size,cap,sz,l.length⟩) t (put n (.row E l) h) a (w.alloc (.cells c E (0,0))):=by
 refine s.new hn _ _ _ rfl fun hC hR=>?_
 simp only[BlkOK,aT]
 exact⟨c,heap_alloc_new w _,hc,trivial,hl,hmax,hpos,hsz,he,fun i j hi hj=>hC _ _ (hr i j hi hj)⟩
theorem Sim.gone (s:Sim P w0 S A N ρ t h a w){b:Id}{x:Blk}(_:look h b=some x):Sim P w0 S A N ρ t (put b .gone h) a w:=by
 have key:∀b' y,look (put b .gone h) b'=some y→y.live=true→look h b'=some y∧b'≠b:=by
  intro b' y hy hl
  rw[aD] at hy
  by_cases e:b'=b
  ·simp only[e,if_true,aK] at hy
   subst hy
   simp[Blk.live] at hl
  ·simp only[e,if_false] at hy
   exact⟨hy,e⟩
 refine s.step s.fr (fun b' hb'=>⟨hb'.put,rfl⟩) (fun k ⟨hk,hm⟩=>⟨⟨hk,fun b' y hy hmu=>hm b' y (key b' y hy (by cases y<;>simp_all[Blk.mutable,Blk.live])).1 hmu⟩,rfl⟩) (fun b' y hy=>?_) (aN _)
  (fun b1 b2 y1 y2 hy1 hy2 hl1 hl2 he=>s.inj b1 b2 y1 y2 (key b1 y1 hy1 hl1).1 (key b2 y2 hy2 hl2).1 hl1 hl2 he)
 by_cases hl:y.live=true
 ·exact .inl ⟨(key b' y hy hl).1,fun _=>rfl⟩
 ·by_cases e:b'=b
  ·subst e
   rw[aD] at hy
   simp only[if_true,aK] at hy
   subst hy
   exact .inr ⟨trivial,fun h=>absurd h hl⟩
  ·rw[aD,if_neg e] at hy
   exact .inl ⟨hy,fun _=>rfl⟩
def xg (s:Nat)(l:List D):Nat:=match l with|[]=>s|e::_=>e.cells.length
theorem Dp {s:Nat}{l:List D}(h:∀e∈l,e.cells.length=s):xg s l=s:=by
 cases l with
 |nil=>rfl
 |cons e l=>exact h e (bh ..)
theorem sR {s:Nat}{l:List D}(hne:l≠[])(h:xg s l=s):szl l=s:=by
 cases l with
 |nil=>exact absurd rfl hne
 |cons e l=>exact h
def nG (bytes n:Nat):Prop:=n*bytes≤140737488355328∧n≤140737488355328
instance (bytes n:Nat):Decidable (nG bytes n):=by unfold nG;infer_instance
def gQ (P:Program)(h:HL)(n:Id)(T:TypeId)(d1 d2:D):Option (D×HL):=
 match P.underlying T with
 |some (.slice E)=>(match elemT P E,elems h d2 with
  |some (s,bytes),some ys=>if xg s ys=s then
    (match d1 with
    | .ref b=>(match look h b with
     |some (.row E' xs)=>if E'=E∧nG bytes (xs.length+ys.length) then some (.ref n,[(b,.gone),(n,.row E (xs++ys))]) else none
     |_=>none)
    | .nils=>(match ys with
     |[]=>some (.nils,[])
     |y::ys'=>if nG bytes (ys'.length+1) then some (.ref n,[(n,.row E (y::ys'))]) else none)
    |_=>none) else none
  |_,_=>none)
 |_=>none
theorem oQ (xs ns:List Value)(Z:Array Value)(k:Nat)(hk:k<xs.length+ns.length):(xs.toArray++ns.toArray++Z).getD k undef=if k<xs.length then xs.getD k undef else ns.getD (k-xs.length) undef:=by
 rw[cB]
 simp only[Array.toList_append,aX]
 by_cases h1:k<xs.length
 ·rw[if_pos h1]
  simp[List.getElem?_append,h1]
 ·have h2:k-xs.length<ns.length:=by omega
  rw[if_neg h1]
  simp[List.getElem?_append,h1,h2]
theorem jf {Q:D→Value→Prop}{xs ys:List D}{sz:Nat}{vx vy:List Value}{c:Array Value}(hx:vx.length=xs.length*sz)(hy:vy.length=ys.length*sz)
  (hc:∀k,k<vx.length+vy.length→c.getD k undef=if k<vx.length then vx.getD k undef else vy.getD (k-vx.length) undef)
  (h1:∀i j,i<xs.length→j<sz→Q ((xs.getD i .undef).cells.getD j .undef) (vx.getD (i*sz+j) undef))
  (h2:∀i j,i<ys.length→j<sz→Q ((ys.getD i .undef).cells.getD j .undef) (vy.getD (i*sz+j) undef)):
  ∀i j,i<(xs++ys).length→j<sz→Q (((xs++ys).getD i .undef).cells.getD j .undef) (c.getD (i*sz+j) undef):=by
 intro i j hi hj
 simp only[ck] at hi
 have hb:i*sz+j<(xs.length+ys.length)*sz:=by
  have:(i+1)*sz≤(xs.length+ys.length)*sz:=dL _ (by omega)
  rw[cZ,im] at this
  omega
 rw[cZ] at hb
 rw[hc _ (by omega)]
 by_cases hlt:i<xs.length
 ·have hb2:i*sz+j<xs.length*sz:=by
   have:(i+1)*sz≤xs.length*sz:=dL _ (by omega)
   rw[cZ,im] at this
   omega
  rw[if_pos (by omega)]
  have e:(xs++ys).getD i .undef=xs.getD i .undef:=by simp only[aX,gg hlt]
  rw[e]
  exact h1 i j hlt hj
 ·have hge:xs.length*sz≤i*sz:=dL _ (by omega)
  rw[if_neg (by omega)]
  have e:(xs++ys).getD i .undef=ys.getD (i-xs.length) .undef:=by simp only[aX,jq (Nat.le_of_not_lt hlt)]
  rw[e]
  have:=h2 (i-xs.length) j (by omega) hj
  rw[show i*sz+j-vx.length=(i-xs.length)*sz+j by rw[Nat.sub_mul];omega]
  exact this
theorem Sim.append (s:Sim P w0 S A N ρ t h a w){n:Id}{T ty:TypeId}{d1 d2 d:D}{u:HL}{v1 v2:Value}(hd:gQ P h n T d1 d2=some (d,u))(hn0:u≠[]→look h n=none)
  (hv1:C ρ (Live h) (okOf A ρ h w) w d1 v1) (hv2:C ρ (Live h) (okOf A ρ h w) w d2 v2):
  ∃v' w' ρ',Ext h ρ ρ'∧(Builtin.append_ #[T,T] ty #[v1,v2]).run P w= .ok v' w'∧Sim P w0 S A N ρ' t (puts u h) a w'∧C ρ' (Live (puts u h)) (okOf A ρ' (puts u h) w') w' d v':=by
 unfold gQ at hd
 split at hd
 ·rename_i E hu
  split at hd
  ·rename_i sz bytes ys he hys
   obtain⟨i,z,hi,hz,hzs,rfl,hby,hpos,hsT⟩:=lm he
   have hsl:=s.slice hys hv2
   split at hd
   ·rename_i hso
    split at hd
    ·rename_i b
     obtain⟨hlb,rfl⟩:=hv1.ref_inv
     split at hd
     ·rename_i E' xs hb
      split at hd
      ·rename_i hcond
       obtain⟨rfl,hf1,hf2⟩:=hcond
       simp only[aK,bi] at hd
       obtain⟨rfl,rfl⟩:=hd
       have hn:=hn0 (by simp)
       obtain⟨c,g1,g2,g3,g4,g5,g6,g7,g8,g9⟩:=s.blk b _ hb
       have hbsz:(ρ b).sz=i.size:=by
        have:sizeT P E'=some (ρ b).sz:=g7
        rw[hsT] at this
        exact(bm this).symm
       rw[hbsz] at g2 g8 g9
       have hbn:b≠n:=by rintro rfl;rw[hn] at hb;cases hb
       have hxlen:(c.toList.take (xs.length*i.size)).length=xs.length*i.size:=by
        have:xs.length*i.size≤(ρ b).cap*i.size:=dL _ (by omega)
        simp;omega
       have hxrep:∀k j,k<xs.length→j<i.size→C ρ (Live h) (okOf A ρ h w) w ((xs.getD k .undef).cells.getD j .undef) ((c.toList.take (xs.length*i.size)).getD (k*i.size+j) undef):=by
        intro k j hk hj
        have hkj:k*i.size+j<xs.length*i.size:=by
         have:(k+1)*i.size≤xs.length*i.size:=dL _ (by omega)
         rw[cZ,im] at this
         omega
        have:=g9 k j hk hj
        rw[cB] at this
        simpa[aX,jt,hkj] using this
       obtain⟨_,news,rfl,hnl,hno,hnr,hyw,hsrc⟩:∃(m:Nat) (news:List Value),m=ys.length∧news.length=m*i.size∧(∀u∈news,u.oneCell'=true)∧
         (∀k j,k<ys.length→j<i.size→C ρ (Live h) (okOf A ρ h w) w ((ys.getD k .undef).cells.getD j .undef) (news.getD (k*i.size+j) undef))∧(∀e∈ys,wfC i.size e)∧
         ((ys=[]∧∃a' c',v2= .slice a' 0 c')∨∃ad c',v2= .slice (some ad) m c'∧∀k u,news[k]?=some u→w.cell? (ad.add k)=some u):=by
        by_cases hne:ys=[]
        ·subst hne
         obtain⟨a',cap,rfl,_⟩:=hsl
         exact⟨0,[],rfl,by simp,by simp,by simp,by simp,.inl ⟨rfl,a',cap,rfl⟩⟩
        ·have e:=sR hne hso
         obtain⟨b2,off,cap,news,rfl,q1,q2,q3,q4,q5,q6⟩:=hsl.flat hne
         rw[e] at q1 q5 q6
         exact⟨_,news,rfl,q1,q3,q6,q5,.inr ⟨_,cap,rfl,q2⟩⟩
       have hxy:∀e∈xs++ys,wfC i.size e:=fun e he=>(cm.1 he).elim (g8 e) (hyw e)
       by_cases hroom:xs.length+ys.length≤(ρ b).cap
       ·-- in place
        have hfit:xs.length*i.size+news.length≤c.size:=by
         rw[hnl,g2,←cZ]
         exact dL _ hroom
        have hrun:(Builtin.append_ #[T,T] ty #[.slice (some ⟨(ρ b).blk,0,none⟩) (ρ b).len (ρ b).cap,v2]).run P w= .ok (.slice (some ⟨(ρ b).blk,0,none⟩) (xs.length+ys.length) (ρ b).cap)
          (w.setRow (ρ b).blk (c.toList.take (xs.length*i.size)++news++c.toList.drop (xs.length*i.size+news.length)).toArray):=by
         rw[←g3]
         rcases hsrc with⟨rfl,a',c',rfl⟩|⟨ad,c',rfl,hcell⟩
         ·have h0:news=[]:=vw (by rw[hnl];simp)
          subst h0
          have hfc:(Builtin.firstCells i.size 0 (.slice a' 0 c')).run P w= .ok #[] w:=by
           cases a'<;>simp[Builtin.firstCells,loadCells,loadCellsFrom]
          have hr0:xs.length≤(ρ b).cap:=by simpa using hroom
          simp only[il,mg,Nat.add_zero,List.take_append_drop,Array.toArray_toList,setRow_self w _ c _ _ g1]
          simp[Builtin.append_,run_underlying hu,sizeOf,typeInfo,hi,Builtin.lenOf,hr0,hfc,storeCells]
         ·exact run_append_room (P:=P) w T ty E' i hu hi _ _ _ c g1 ad _ c' news hnl hcell hno hroom hfit
        refine⟨_,_,at' ρ n ⟨(ρ b).blk,(ρ b).cap,i.size,xs.length+ys.length⟩,Ext.at hn _,hrun,?_,?_⟩
        ·have hpu:puts [(b,Blk.gone),(n,.row E' (xs++ys))] h=put n (.row E' (xs++ys)) (put b .gone h):=rfl
         rw[hpu]
         have hsz':∀cs,(w.setRow (ρ b).blk cs).heap.size=w.heap.size:=fun cs=>by simp[World.setRow]
         have hown:=s.own b _ hb rfl
         have key:∀b' y,look (put n (.row E' (xs++ys)) (put b .gone h)) b'=some y→y.live=true→b'≠n→look h b'=some y∧b'≠b:=by
          intro b' y hy hl hne
          rw[aD,if_neg hne,aD] at hy
          by_cases e:b'=b
          ·simp only[e,if_true,aK] at hy
           subst hy
           simp[Blk.live] at hl
          ·simp only[e,if_false] at hy
           exact⟨hy,e⟩
         have hlv:∀b',Live h b'→Live (put n (.row E' (xs++ys)) (put b .gone h)) b'∧at' ρ n ⟨(ρ b).blk,(ρ b).cap,i.size,xs.length+ys.length⟩ b'=ρ b':=fun b' hb'=>⟨hb'.put.put,bM ρ _ (hb'.ne hn)⟩
         have hok:∀k,okOf A ρ h w k→okOf A (at' ρ n ⟨(ρ b).blk,(ρ b).cap,i.size,xs.length+ys.length⟩) (put n (.row E' (xs++ys)) (put b .gone h)) (w.setRow (ρ b).blk (c.toList.take (xs.length*i.size)++news++c.toList.drop (xs.length*i.size+news.length)).toArray) k∧
           (w.setRow (ρ b).blk (c.toList.take (xs.length*i.size)++news++c.toList.drop (xs.length*i.size+news.length)).toArray).heap[k]?=w.heap[k]?:=by
          rintro k ⟨hk,hm'⟩
          have hkb:=hm' b _ hb rfl
          refine⟨⟨by rw[hsz'];exact hk,fun b' y hy hmu=>?_⟩,setRow_other w _ _ _ (cq hkb)⟩
          by_cases e:b'=n
          ·subst e;rw[aT];exact hkb
          ·rw[bM ρ _ e]
           exact hm' b' y (key b' y hy (by cases y<;>simp_all[Blk.mutable,Blk.live]) e).1 hmu
         refine s.step ⟨s.fr.os,s.fr.tape,s.fr.output,by rw[hsz'];exact s.fr.size,fun k hk hs=>(setRow_other w _ _ _ ?_).trans (s.fr.block k hk hs)⟩
          hlv hok (fun b' y hy=>?_) (by rw[hsz'];exact aN _) (fun b1 b2 y1 y2 hy1 hy2 hl1 hl2 he=>?_)
         ·rintro rfl
          rcases hown.2 with h'|h'
          ·exact hs h'
          ·omega
         ·by_cases e:b'=n
          ·subst e
           rw[aD] at hy
           simp only[if_true,aK] at hy
           subst hy
           refine .inr ⟨?_,fun _=>by rw[aT,hsz'];exact hown⟩
           simp only[BlkOK,aT]
           refine⟨_,setRow_heap w _ c _ E' _ g1,?_,by simp,by simpa using hroom,g5,hpos,hsT,hxy,?_⟩
           ·have e1:=hxlen
            simp only[nC,ck,e1,List.length_drop,nA]
            omega
           ·refine jf (Q:=fun d v=>C _ _ _ _ d v) (vx:=c.toList.take (xs.length*i.size)) (vy:=news) hxlen hnl (fun k hk=>?_) (fun k j hk hj=>(hxrep k j hk hj).mono hlv hok) (fun k j hk hj=>(hnr k j hk hj).mono hlv hok)
            rw[iD]
            simp only[aX]
            by_cases q:k<(c.toList.take (xs.length*i.size)).length
            ·rw[if_pos q,cV,gg q]
            ·rw[if_neg q,cV,jq (by omega),gg (by omega)]
          ·by_cases hl:y.live=true
           ·obtain⟨q1,q2⟩:=key b' y hy hl e
            exact .inl ⟨q1,fun hmu=>setRow_other w _ _ _ fun he=>q2 (s.inj b' b y _ q1 hb hl rfl he)⟩
           ·by_cases e3:b'=b
            ·rw[aD,if_neg e,aD,if_pos e3] at hy
             obtain rfl:=bm hy
             exact .inr ⟨trivial,fun h=>absurd h hl⟩
            ·rw[aD,if_neg e,aD,if_neg e3] at hy
             exact .inl ⟨hy,fun hmu=>absurd (by cases y<;>simp_all[Blk.mutable,Blk.live]) hl⟩
         ·by_cases e1:b1=n<;>by_cases e2:b2=n
          ·rw[e1,e2]
          ·subst e1
           obtain⟨q1,q2⟩:=key b2 y2 hy2 hl2 e2
           rw[aT,bM ρ _ e2] at he
           exact absurd (s.inj b b2 _ y2 hb q1 rfl hl2 he) (cq q2)
          ·subst e2
           obtain⟨q1,q2⟩:=key b1 y1 hy1 hl1 e1
           rw[aT,bM ρ _ e1] at he
           exact absurd (s.inj b1 b y1 _ q1 hb hl1 rfl he) q2
          ·rw[bM ρ _ e1,bM ρ _ e2] at he
           exact s.inj b1 b2 y1 y2 (key b1 y1 hy1 hl1 e1).1 (key b2 y2 hy2 hl2 e2).1 hl1 hl2 he
        ·have hL:Live (puts [(b,Blk.gone),(n,.row E' (xs++ys))] h) n:=by
          show Live (put n _ (put b _ h)) n
          unfold Live;rw[aD];simp
         have:=C.ref (ρ:=at' ρ n ⟨(ρ b).blk,(ρ b).cap,i.size,xs.length+ys.length⟩) (L:=Live (puts [(b,Blk.gone),(n,.row E' (xs++ys))] h)) (ok:=okOf A (at' ρ n ⟨(ρ b).blk,(ρ b).cap,i.size,xs.length+ys.length⟩) (puts [(b,Blk.gone),(n,.row E' (xs++ys))] h) (w.setRow (ρ b).blk (c.toList.take (xs.length*i.size)++news++c.toList.drop (xs.length*i.size+news.length)).toArray)) (w:=w.setRow (ρ b).blk (c.toList.take (xs.length*i.size)++news++c.toList.drop (xs.length*i.size+news.length)).toArray) n hL
         simpa only[aT] using this
       ·-- a new row
        rcases hsrc with⟨rfl,a',c',rfl⟩|⟨ad,c',rfl,hcell⟩
        ·exfalso
         simp only[mg] at hroom
         omega
        ·have hf3:(xs.length+ys.length)*i.bytes≤140737488355328:=by rw[hby];exact hf1
         have hold:∀k u,(c.toList.take (xs.length*i.size))[k]?=some u→w.cell? ((⟨(ρ b).blk,0,none⟩:Addr).add k)=some u:=by
          intro k u hu
          rw[dD,gM]
          rw[jt] at hu
          split at hu
          ·simp only[Array.getElem?_toList] at hu
           simp[World.cell?,g1,hu]
          ·cases hu
         have hrun:=run_append_grow (P:=P) w T ty E' i z hu hi hz ⟨(ρ b).blk,0,none⟩ xs.length (ρ b).cap (c.toList.take (xs.length*i.size)) hxlen hold ad ys.length c' news hnl hcell (by omega) (by omega) (growslice_fits (by omega) hf3)
         have s1:=(s.drew (w.drawn+1)).gone hb
         have hlv1:∀b',Live h b'→Live (put b .gone h) b'∧ρ b'=ρ b':=fun b' hb'=>⟨hb'.put,rfl⟩
         have hn1:look (put b .gone h) n=none:=by rw[aD,if_neg (cq hbn)];exact hn
         have hcm:grownCap w (xs.length+ys.length) (ρ b).cap E'≤maxLen:=grownCap_le_maxLen w _ _ _ (by unfold maxLen;omega)
         have hcg:=grownCap_ge w (xs.length+ys.length) (ρ b).cap E'
         have hok1:∀k,okOf A ρ h w k→okOf A ρ (put b .gone h) {w with drawn:=w.drawn+1} k∧({w with drawn:=w.drawn+1}:World).heap[k]?=w.heap[k]?:=by
          rintro k ⟨hk,hm'⟩
          refine⟨⟨hk,fun b' y hy hmu=>?_⟩,rfl⟩
          rw[aD] at hy
          by_cases e:b'=b
          ·simp only[e,if_true,aK] at hy
           subst hy
           simp[Blk.mutable] at hmu
          ·simp only[e,if_false] at hy
           exact hm' b' y hy hmu
         have s2:=s1.newRow hn1 (E:=E') (l:=xs++ys) (c:=(c.toList.take (xs.length*i.size)).toArray++news.toArray++Builtin.zeroCells z.cells (grownCap w (xs.length+ys.length) (ρ b).cap E'-(xs.length+ys.length))) (sz:=i.size) (cap:=grownCap w (xs.length+ys.length) (ρ b).cap E')
          (by
           simp only[Array.size_append,nC,size_zeroCells,hzs,hxlen,hnl]
           rw[←cZ,←cZ]
           congr 1
           omega) (by simpa using hcg) hcm hpos hsT hxy
          (jf (Q:=fun d v=>C _ _ _ _ d v) (vx:=c.toList.take (xs.length*i.size)) (vy:=news) hxlen hnl (fun k hk=>oQ _ _ _ _ hk) (fun k j hk hj=>(hxrep k j hk hj).mono hlv1 hok1) (fun k j hk hj=>(hnr k j hk hj).mono hlv1 hok1))
         refine⟨_,_,_,Ext.at hn _,by rw[←g3];exact hrun,s2,?_⟩
         have hL:Live (puts [(b,Blk.gone),(n,.row E' (xs++ys))] h) n:=by
          show Live (put n _ (put b _ h)) n
          unfold Live;rw[aD];simp
         have:=C.ref (ρ:=at' ρ n ⟨w.heap.size,grownCap w (xs.length+ys.length) (ρ b).cap E',i.size,(xs++ys).length⟩) (L:=Live (puts [(b,Blk.gone),(n,.row E' (xs++ys))] h)) (ok:=okOf A (at' ρ n ⟨w.heap.size,grownCap w (xs.length+ys.length) (ρ b).cap E',i.size,(xs++ys).length⟩) (puts [(b,Blk.gone),(n,.row E' (xs++ys))] h) (({w with drawn:=w.drawn+1}:World).alloc (.cells ((c.toList.take (xs.length*i.size)).toArray++news.toArray++Builtin.zeroCells z.cells (grownCap w (xs.length+ys.length) (ρ b).cap E'-(xs.length+ys.length))) E' (0,0))))
          (w:=({w with drawn:=w.drawn+1}:World).alloc (.cells ((c.toList.take (xs.length*i.size)).toArray++news.toArray++Builtin.zeroCells z.cells (grownCap w (xs.length+ys.length) (ρ b).cap E'-(xs.length+ys.length))) E' (0,0))) n hL
         simp only[aT,ck] at this
         simpa only[ck] using this
      ·cases hd
     ·cases hd
    ·obtain rfl:=hv1.nils_inv
     split at hd
     ·simp only[aK,bi] at hd
      obtain⟨rfl,rfl⟩:=hd
      obtain⟨a',cap,rfl,_⟩:=hsl
      have hfc:(Builtin.firstCells i.size 0 (.slice a' 0 cap)).run P w= .ok #[] w:=by
       cases a'<;>simp[Builtin.firstCells,loadCells,loadCellsFrom]
      refine⟨.slice none 0 0,w,ρ,Ext.refl _ _,?_,s,.pure .nils⟩
      simp[Builtin.append_,run_underlying hu,sizeOf,typeInfo,hi,Builtin.lenOf,hfc]
     ·rename_i y ys'
      split at hd
      ·rename_i hf
       obtain⟨hf1,hf2⟩:=hf
       simp only[aK,bi] at hd
       obtain⟨rfl,rfl⟩:=hd
       have hn:=hn0 (by simp)
       have e:=sR (by simp) hso
       obtain⟨b2,off,cap,news,rfl,q1,q2,q3,q4,q5,q6⟩:=hsl.flat (by simp)
       rw[e] at q1 q5 q6
       have hf3:(ys'.length+1)*i.bytes≤140737488355328:=by rw[hby];exact hf1
       have hrun:=run_append_nil (P:=P) w T ty E i z hu hi hz ⟨b2,off,none⟩ (y::ys').length cap news q1 q2 (by simp) (by simp only[dZ];omega) (by simp only[dZ];omega)
       have hcm:grownCap w (y::ys').length 0 E≤maxLen:=grownCap_le_maxLen w _ _ _ (by simp only[dZ];unfold maxLen;omega)
       have hcg:=grownCap_ge w (y::ys').length 0 E
       have s2:=(s.drew (w.drawn+1)).newRow hn (E:=E) (l:=y::ys') (c:=news.toArray++Builtin.zeroCells z.cells (grownCap w (y::ys').length 0 E-(y::ys').length)) (sz:=i.size) (cap:=grownCap w (y::ys').length 0 E)
        (by
         simp only[Array.size_append,nC,size_zeroCells,hzs,q1]
         rw[←cZ]
         congr 1
         omega) hcg hcm hpos hsT q5
        (fun k j hk hj=>by
         have hkj:k*i.size+j<news.length:=by
          rw[q1]
          have:(k+1)*i.size≤(y::ys').length*i.size:=dL _ (by omega)
          rw[cZ,im] at this
          omega
         have:=(q6 k j hk hj)
         have e2:(news.toArray++Builtin.zeroCells z.cells (grownCap w (y::ys').length 0 E-(y::ys').length)).getD (k*i.size+j) undef=news.getD (k*i.size+j) undef:=by
          rw[cB]
          simp[aX,List.getElem?_append,hkj]
         rw[e2]
         exact this.mono (fun b hb=>⟨hb,rfl⟩) fun k hk=>⟨hk,rfl⟩)
       refine⟨_,_,_,Ext.at hn _,hrun,s2,?_⟩
       have hL:Live (puts [(n,Blk.row E (y::ys'))] h) n:=by
        show Live (put n _ h) n
        unfold Live;rw[aD];simp
       have:=C.ref (ρ:=at' ρ n ⟨w.heap.size,grownCap w (y::ys').length 0 E,i.size,(y::ys').length⟩) (L:=Live (puts [(n,Blk.row E (y::ys'))] h)) (ok:=okOf A (at' ρ n ⟨w.heap.size,grownCap w (y::ys').length 0 E,i.size,(y::ys').length⟩) (puts [(n,Blk.row E (y::ys'))] h) (({w with drawn:=w.drawn+1}:World).alloc (.cells (news.toArray++Builtin.zeroCells z.cells (grownCap w (y::ys').length 0 E-(y::ys').length)) E (0,0))))
        (w:=({w with drawn:=w.drawn+1}:World).alloc (.cells (news.toArray++Builtin.zeroCells z.cells (grownCap w (y::ys').length 0 E-(y::ys').length)) E (0,0))) n hL
       simp only[aT] at this
       exact this
      ·cases hd
    ·cases hd
   ·cases hd
  ·cases hd
 ·cases hd
end Go.Proofs.Ytbmnihglaokhmaa.Am
namespace Go.Proofs.Ytbmnihglaokhmaa.Am
open Go Go.RowKit
variable {P:Program} {w0:World} {S:SD} {A:Nat→Prop} {N:Nat} {ρ:Id→Pl} {t:List (Nat×D)} {h:HL} {a:Act} {w:World}
theorem mn {L:Id→Prop}{ok:Nat→Prop}{n:Id}(hL:L n)(p:Pl)(hp:(ρ n)=p):C ρ L ok w (.ref n) (.slice (some ⟨p.blk,0,none⟩) p.len p.cap):=by
 subst hp;exact .ref n hL
def FH (s:Nat)(e:D):Bool:=e.cells.length==s && e.cells.all D.pure0
theorem EX {s:Nat}{e:D}(h:FH s e=true):wfE s e:=by simpa[FH,wfE] using h
def E4 (s:Nat)(e:D):Bool:=e.whole && (e.cells.length==s && e.cells.all D.one)
theorem EY {s:Nat}{e:D}(h:E4 s e=true):wfC s e∧e.whole=true:=by
 simp only[E4,b6,beq_iff_eq] at h
 exact⟨⟨h.2.1,h.2.2⟩,h.1⟩
def nz0:D→D
 | .nils=>.lst []
 |d=>d
def nzE:D→D
 | .agg cs=>.agg (cs.map nz0)
 |d=>nz0 d
theorem fv (d:D):(nzE d).cells=d.cells.map nz0:=by cases d<;>rfl
theorem Rep.nz0 {ok:Nat→Prop}{d:D}{v:Value}(h:Rep ok w d v):Rep ok w (Am.nz0 d) v:=by
 cases h with
 |nils=>exact .none Option.none 0 (fun _=>rfl) (by unfold maxLen;omega)
 |int k n=>exact .int k n
 |bool b=>exact .bool b
 |str s=>exact .str s
 |none a cap ha hcap=>exact .none a cap ha hcap
 |lst l n b off cap f hn hcap hmax hok hsz hpos hc hr=>exact .lst l n b off cap f hn hcap hmax hok hsz hpos hc hr
 |agg cs vs hl h=>exact .agg cs vs hl h
 |tup cs vs hl h=>exact .tup cs vs hl h
 |box cs b off f hok hpos hc hr=>exact .box cs b off f hok hpos hc hr
 |nilp=>exact .nilp
 |nilf=>exact .nilf
 |nilm=>exact .nilm
 |val v hv=>exact .val v hv
 |nili=>exact .nili
theorem rb {d:D}(h:d.pure0=true):(nz0 d).pure0=true:=by cases d<;>first|rfl|cases h
theorem ED {s:Nat}{e:D}(h:wfE s e):wfE s (nzE e):=by
 refine⟨by rw[fv,bH];exact h.1,?_⟩
 have:=h.2
 rw[bc] at this⊢
 rw[fv]
 intro x hx
 obtain⟨y,hy,rfl⟩:=aP.1 hx
 exact rb (this y hy)
def nzM (q:Bool)(d:D):D:=if q then d else nzE d
def te (P:Program)(q:Bool)(n:Id)(T:TypeId)(dl dc:D):Option (D×HL):=
 match P.underlying T,dl,dc with
 |some (.slice E),.int _ l,.int _ c=>(match elemT P E,ofZero P E with
  |some (s,bytes),some z=>if 0≤l∧l=c∧nG bytes l.toNat∧FH s z=true then some (.ref n,[(n,.row E (List.replicate l.toNat (nzM q z)))]) else none
  |_,_=>none)
 |_,_,_=>none
theorem yZ (z:Array Value)(m k:Nat)(hk:k<m):(madeCells z m).getD k undef=z.getD (k % z.size) undef∨z.size=0:=by
 by_cases hz:z.size=0
 ·exact .inr hz
 ·left
  have hlt:k % z.size<z.size:=Nat.mod_lt _ (by omega)
  simp[madeCells,bV,hk,hlt]
theorem Sim.make (s:Sim P w0 S A N ρ t h a w){n:Id}(hn:look h n=none){T:TypeId}{dl dc d:D}{u:HL}{vl vc:Value}{q:Bool}(hd:te P q n T dl dc=some (d,u))
  (hvl:C ρ (Live h) (okOf A ρ h w) w dl vl) (hvc:C ρ (Live h) (okOf A ρ h w) w dc vc):
  ∃v' w' ρ',Ext h ρ ρ'∧(Instr.makeSlice T vl vc).run P w= .ok v' w'∧Sim P w0 S A N ρ' t (puts u h) a w'∧C ρ' (Live (puts u h)) (okOf A ρ' (puts u h) w') w' d v':=by
 unfold te at hd
 split at hd
 ·rename_i E k1 l k2 c hu
  obtain rfl:=hvl.int_inv
  obtain rfl:=hvc.int_inv
  split at hd
  ·rename_i sz bytes z he hz
   split at hd
   ·rename_i hcond
    obtain⟨h0,rfl,⟨hf1,hf2⟩,hwf⟩:=hcond
    simp only[aK,bi] at hd
    obtain⟨rfl,rfl⟩:=hd
    obtain⟨i,zv,hi,hzv,hzs,rfl,hby,hpos,hsT⟩:=lm he
    obtain⟨zv',_,hzr,hzw,hzz⟩:=gq hz (okOf A ρ h w) w
    have hzc:zv'=zv:=by
     rw[hi] at hzz
     simp only[bp,hzv,aK] at hzz
     exact hzz.symm
    subst hzc
    have hwf0:=EX hwf
    have hwf':wfE i.size (nzM q z):=by unfold nzM;split;exact hwf0;exact ED hwf0
    have hl:(l.toNat:Int)=l:=by omega
    have hb:(i.bytes:Int)*l≤281474976710656:=by
     have:l.toNat * i.bytes≤140737488355328:=by rw[hby];exact hf1
     have h2:((l.toNat * i.bytes:Nat):Int)≤281474976710656:=by omega
     rw[Int.natCast_mul,hl,Int.mul_comm] at h2
     exact h2
    have hrun:=run_make (P:=P) w T E i zv' hu hi hzv k1 k2 l l h0 (Int.le_refl _) hb (by omega)
    have hcells:=C.cells (ρ:=ρ) (L:=Live h) (.pure hzr) (by rintro rfl;simp[D.whole] at hzw) (by rintro cs rfl;simp[D.whole] at hzw)
    have s2:=s.newRow hn (E:=E) (l:=List.replicate l.toNat (nzM q z)) (c:=madeCells zv'.cells (l.toNat * i.size)) (sz:=i.size) (cap:=l.toNat) (by simp[madeCells]) (by simp) (by unfold maxLen;omega) hpos hsT
     (fun e he=>by rw[List.eq_of_mem_replicate he];exact hwf'.one) (fun k j hk hj=>by
      have hk':k<l.toNat:=by simpa using hk
      have hlt:k*i.size+j<l.toNat * i.size:=by
       have:(k+1)*i.size≤l.toNat * i.size:=dL _ (by omega)
       rw[cZ,im] at this
       omega
      rcases yZ zv'.cells (l.toNat * i.size) (k*i.size+j) hlt with e|e
      ·rw[e,hzs]
       have e1:(k*i.size+j) % i.size=j:=by rw[Nat.mul_comm,Nat.mul_add_mod,Nat.mod_eq_of_lt hj]
       rw[e1]
       have e2:(List.replicate l.toNat (nzM q z)).getD k .undef=nzM q z:=by simp[aX,hk']
       have hjz:j<z.cells.length:=by rw[hwf0.1];exact hj
       have hbase:Rep (okOf A ρ h w) w (z.cells.getD j .undef) (zv'.cells.getD j undef):=by
        refine(hcells.2 j hjz).rep0 ?_
        have hm:=hwf0.2
        rw[bc] at hm
        refine hm _ ?_
        rw[aX,a6 hjz]
        exact fh hjz
       rw[e2]
       unfold nzM
       split
       ·exact .pure hbase
       ·have e3:(nzE z).cells.getD j .undef=nz0 (z.cells.getD j .undef):=by rw[fv];simp[aX,hjz]
        rw[e3]
        exact .pure (Rep.nz0 hbase)
      ·omega)
    refine⟨_,_,_,Ext.at hn _,hrun,s2,?_⟩
    have hL:Live (puts [(n,Blk.row E (List.replicate l.toNat (nzM q z)))] h) n:=by
     show Live (put n _ h) n
     unfold Live;rw[aD];simp
    have:=mn (ok:=okOf A (at' ρ n ⟨w.heap.size,l.toNat,i.size,(List.replicate l.toNat (nzM q z)).length⟩) (puts [(n,Blk.row E (List.replicate l.toNat (nzM q z)))] h) (w.alloc (.cells (madeCells zv'.cells (l.toNat * i.size)) E (0,0)))) (w:=w.alloc (.cells (madeCells zv'.cells (l.toNat * i.size)) E (0,0))) hL _ (aT ρ n ⟨w.heap.size,l.toNat,i.size,(List.replicate l.toNat (nzM q z)).length⟩)
    simp only[ij] at this⊢
    exact this
   ·cases hd
  ·cases hd
 ·cases hd
def gw (place:Nat→Option (Nat×Nat))(cs:List D):List (Nat×D)→Option (List D)
 |[]=>some cs
 |(i,d)::rest=>match place i with
  |some (off,size)=>if d.whole=true∧d.cells.length=size∧off+d.cells.length≤cs.length then gw place (bk cs off d.cells) rest else none
  |none=>none
theorem qM (off:Nat):∀(l:List Value) (k:Nat) (cs:Array Value),off+k+l.length≤cs.size→
  ((l.zipIdx k).foldl (fun(cs:Array Value) (x:Value×Nat)=>cs.setIfInBounds (off+x.2) x.1) cs).toList=cs.toList.take (off+k)++l++cs.toList.drop (off+k+l.length)
 |[],k,cs,_=>by simp
 |v::l,k,cs,hl=>by
  simp only[pY,List.foldl_cons]
  rw[qM off l (k+1) _ (by simp at hl⊢;omega)]
  have e:=list_seg_step cs.toList (off+k) v l (by simp at hl⊢;omega)
  simpa[Array.toList_setIfInBounds,mj] using e
theorem rZ {Q:D→Value→Prop}{place:Nat→Option (Nat×Nat)}:∀{ps:List (Nat×D)} {vs:List (Nat×Value)} {cs cs':List D} {cells:Array Value},gw place cs ps=some cs'→cs.length=cells.size→
  (∀j,j<cs.length→Q (cs.getD j .undef) (cells.getD j undef))→ps.length=vs.length→
  (∀k,k<ps.length→(ps.getD k (0,.undef)).1=(vs.getD k (0,undef)).1∧((ps.getD k (0,.undef)).2.whole=true→(vs.getD k (0,undef)).2.cells.size=(ps.getD k (0,.undef)).2.cells.length∧
   ∀j,j<(ps.getD k (0,.undef)).2.cells.length→Q ((ps.getD k (0,.undef)).2.cells.getD j .undef) ((vs.getD k (0,undef)).2.cells.getD j undef)))→
  ∃cells',Instr.fill place cells vs=some cells'∧cs'.length=cells'.size∧cs'.length=cs.length∧∀j,j<cs'.length→Q (cs'.getD j .undef) (cells'.getD j undef)
 |[],[],cs,cs',cells,hd,hl,hq,_,_=>by
  simp only[gw,aK] at hd
  subst hd
  exact⟨cells,rfl,hl,rfl,hq⟩
 |[],_::_,_,_,_,_,_,_,h,_=>by simp at h
 |_::_,[],_,_,_,_,_,_,h,_=>by simp at h
 |(i,d)::ps,(i',v)::vs,cs,cs',cells,hd,hl,hq,hlen,hp=>by
  obtain⟨hi0,hp0⟩:=hp 0 (by simp)
  simp only[List.getD_cons_zero] at hp0 hi0
  subst hi0
  unfold gw at hd
  split at hd
  ·rename_i off size hpl
   split at hd
   ·rename_i hc
    obtain⟨hw,hs,hle⟩:=hc
    obtain⟨hv1,hv2⟩:=hp0 hw
    have hfold:(v.cells.zipIdx.foldl (fun(cs:Array Value) (x:Value×Nat)=>cs.setIfInBounds (off+x.2) x.1) cells).toList=cells.toList.take off++v.cells.toList++cells.toList.drop (off+v.cells.toList.length):=by
     have:=qM off v.cells.toList 0 cells (by simp;omega)
     rw[←Array.foldl_toList]
     simpa using this
    have hcell':(v.cells.zipIdx.foldl (fun(cs:Array Value) (x:Value×Nat)=>cs.setIfInBounds (off+x.2) x.1) cells).size=cells.size:=by
     rw[←nA,hfold,bB _ _ _ (by simp;omega)]
     simp
    have ih:=rZ (Q:=Q) (vs:=vs) (cells:=v.cells.zipIdx.foldl (fun(cs:Array Value) (x:Value×Nat)=>cs.setIfInBounds (off+x.2) x.1) cells) hd (by rw[bk,bB _ _ _ hle,hcell',hl]) (fun j hj=>by
      rw[bk,bB _ _ _ hle] at hj
      rw[cB,hfold]
      exact m7 (Q:=Q) (vs:=cells.toList) (by simpa using hl) (by simpa using hv1.symm) hle (fun j hj=>by rw[←cB];exact hq j hj) (fun j hj=>by rw[←cB];exact hv2 j hj) j hj) (by simpa using hlen)
     (fun k hk=>by have:=hp (k+1) (by simpa using hk);simpa using this)
    obtain⟨cells',h1,h2,h3,h4⟩:=ih
    refine⟨cells',?_,h2,by rw[h3,bk,bB _ _ _ hle],h4⟩
    simp only[Instr.fill,hpl]
    rw[if_neg (by simp;omega)]
    exact h1
   ·cases hd
  ·cases hd
def kv (P:Program)(T:TypeId):Option (List (Nat×Nat)):=
 match P.underlying T with
 |some (.struct fields)=>fields.toList.mapM fun f=>(P.info? f.type).map fun i=>(f.offset,i.size)
 |some (.array _ E)=>(P.info? E).map fun _=>[]
 |_=>none
def oh (P:Program)(T:TypeId)(ps:List (Nat×D)):Option D:=
 match kv P T,ofZero P T with
 |some pl,some (.agg zs)=>(gw (pl[·]?) zs ps).map .agg
 |_,_=>none
theorem yy {L:Id→Prop}{ok:Nat→Prop}{T:TypeId}{ps:List (Nat×D)}{vs:Array (Nat×Value)}{d:D}(hd:oh P T ps=some d)(hlen:ps.length=vs.toList.length)
  (hp:∀k,k<ps.length→(ps.getD k (0,.undef)).1=(vs.toList.getD k (0,undef)).1∧C ρ L ok w (ps.getD k (0,.undef)).2 (vs.toList.getD k (0,undef)).2):
  ∃v,(Instr.build T vs).run P w= .ok v w∧C ρ L ok w d v:=by
 unfold oh at hd
 split at hd
 ·rename_i pl zs hpl hz
  obtain⟨cs',hf,rfl⟩:=bj.1 hd
  obtain⟨zv,_,hzr,hzw,hzz⟩:=gq hz ok w
  obtain⟨zvs,rfl,hzl,hzq⟩:=C.agg_inv (ρ:=ρ) (L:=L) (.pure hzr)
  unfold kv at hpl
  split at hpl
  ·rename_i fields hu
   obtain⟨it,hit⟩:∃it,P.info? T=some it:=by
    cases h':P.info? T with
    |none=>simp[h'] at hzz
    |some it=>exact⟨it,rfl⟩
   rw[hit] at hzz
   simp only[bp] at hzz
   obtain⟨cells',h1,h2,_,h4⟩:=rZ (Q:=C ρ L ok w) (cells:=zvs) (vs:=vs.toList) hf hzl hzq hlen (fun k hk=>by
    obtain⟨q1,q2⟩:=hp k hk
    refine⟨q1,fun hw=>?_⟩
    have:=q2.cells (by intro e;rw[e] at hw;simp[D.whole] at hw) (by intro cs e;rw[e] at hw;simp[D.whole] at hw)
    exact this)
   refine⟨.agg cells',run_build w T vs cells' ?_,.agg _ _ h2 h4⟩
   unfold Program.built
   simp only[hit,hu,hzz,hpl]
   simpa[Value.cells] using h1
  ·rename_i m E hu
   obtain⟨ie,hie,rfl⟩:=bj.1 hpl
   obtain⟨it,hit⟩:∃it,P.info? T=some it:=by
    cases h':P.info? T with
    |none=>simp[h'] at hzz
    |some it=>exact⟨it,rfl⟩
   rw[hit] at hzz
   simp only[bp] at hzz
   cases ps with
   |cons x l=>simp[gw] at hf
   |nil=>
    have hv:vs.toList=[]:=List.length_eq_zero_iff.1 hlen.symm
    simp only[gw,aK] at hf
    subst hf
    refine⟨.agg zvs,run_build w T vs zvs ?_,.agg _ _ hzl hzq⟩
    unfold Program.built
    simp only[hit,hu,hzz,hie,hv,Instr.fill,Value.cells]
  ·cases hpl
 ·cases hd
theorem qH (s:Nat):∀(ds:List D) (k:Nat) (Z:List D),(∀e∈ds,wfC s e∧e.whole=true)→Z.length=(k+ds.length)*s→gw (fun i=>some (i*s,s)) Z ((ds.zipIdx k).map fun x=>(x.2,x.1))=some (Z.take (k*s)++ds.flatMap D.cells)
 |[],k,Z,_,hZ=>by
  simp only[mg,Nat.add_zero] at hZ
  simp[gw,ii (Nat.le_of_eq hZ)]
 |d::ds,k,Z,hd,hZ=>by
  obtain⟨⟨h1,h2⟩,h3⟩:=hd d (bh ..)
  simp only[pY,bI,gw]
  have hle:k*s+d.cells.length≤Z.length:=by
   rw[hZ,h1,cZ]
   have:1*s≤(d::ds).length*s:=dL _ (by simp)
   omega
  rw[if_pos ⟨h3,h1,hle⟩,qH s ds (k+1) _ (fun e he=>hd e (bl _ he)) (by rw[bk,bB _ _ _ hle,hZ];simp only[dZ];congr 1;omega)]
  congr 1
  simp only[bk,i0]
  have e1:(Z.take (k*s)++d.cells).length=(k+1)*s:=by
   rw[ck,nz,h1,Nat.min_eq_left (by omega),cZ,im]
  rw[←e1,List.take_left,cV]
theorem qQ (s:Nat):∀(ds:List D) (i j:Nat),(∀e∈ds,e.cells.length=s)→i<ds.length→j<s→(ds.flatMap D.cells).getD (i*s+j) .undef=(ds.getD i .undef).cells.getD j .undef
 |[],i,j,_,hi,_=>by simp at hi
 |d::ds,i,j,hd,hi,hj=>by
  have h1:=hd d (bh ..)
  simp only[i0,aX]
  cases i with
  |zero=>
   rw[Nat.zero_mul,gM,gg (by omega)]
   rfl
  |succ i=>
   have ih:=qQ s ds i j (fun e he=>hd e (bl _ he)) (by simpa using hi) hj
   simp only[aX] at ih
   rw[cZ,im,jq (by omega),show i*s+s+j-d.cells.length=i*s+j by omega,ih]
   rfl
theorem mf:∀(ps:List (Nat×D)) (k:Nat),ps.map (·.1)=List.range' k ps.length→ps=((ps.map (·.2)).zipIdx k).map fun x=>(x.2,x.1)
 |[],_,_=>rfl
 |(i,d)::ps,k,h=>by
  simp only[bI,dZ,List.range'_succ,List.cons.injEq] at h
  obtain⟨rfl,h⟩:=h
  simp only[bI,pY]
  rw[←mf ps (i+1) h]
def dC (P:Program)(n:Id)(T:TypeId)(len:Nat)(ps:List (Nat×D)):Option (D×HL):=
 match P.underlying T with
 |some (.slice E)=>(match elemT P E with
  |some (s,_)=>if ps.map (·.1)=List.range' 0 len∧len*s≤16777216∧(ps.map (·.2)).all (fun e=>E4 s e)=true then some (.ref n,[(n,.row E (ps.map (·.2)))]) else none
  |none=>none)
 |_=>none
theorem Sim.buildSlice (s:Sim P w0 S A N ρ t h a w){n:Id}(hn:look h n=none){T:TypeId}{len:Nat}{ps:List (Nat×D)}{vs:Array (Nat×Value)}{d:D}{u:HL}(hd:dC P n T len ps=some (d,u))
  (hlen:ps.length=vs.toList.length)
  (hp:∀k,k<ps.length→(ps.getD k (0,.undef)).1=(vs.toList.getD k (0,undef)).1∧C ρ (Live h) (okOf A ρ h w) w (ps.getD k (0,.undef)).2 (vs.toList.getD k (0,undef)).2):
  ∃v' w' ρ',Ext h ρ ρ'∧(Instr.buildSlice T len vs).run P w= .ok v' w'∧Sim P w0 S A N ρ' t (puts u h) a w'∧C ρ' (Live (puts u h)) (okOf A ρ' (puts u h) w') w' d v':=by
 unfold dC at hd
 split at hd
 ·rename_i E hu
  split at hd
  ·rename_i sz bytes he
   split at hd
   ·rename_i hcond
    obtain⟨hr,hsmall,hwf⟩:=hcond
    simp only[aK,bi] at hd
    obtain⟨rfl,rfl⟩:=hd
    obtain⟨i,zv,hi,hzv,hzs,rfl,hby,hpos,hsT⟩:=lm he
    have hpl:ps.length=len:=by have:=congrArg List.length hr;simpa using this
    subst hpl
    have hzip:=mf ps 0 hr
    have hds:∀e∈ps.map (·.2),wfC i.size e∧e.whole=true:=by
     intro e he
     rw[bc] at hwf
     exact EY (hwf e he)
    have hL:Live (puts [(n,Blk.row E (ps.map (·.2)))] h) n:=by
     show Live (put n _ h) n
     unfold Live;rw[aD];simp
    by_cases h0:ps.length=0
    ·have hps:ps=[]:=vw h0
     subst hps
     have hvs:vs.toList=[]:=vw (by simpa using hlen.symm)
     have hrun:(Instr.buildSlice T ([]:List (Nat×D)).length vs).run P w= .ok (.slice (some ⟨w.heap.size,0,none⟩) 0 0) (w.alloc (.cells #[] E)):=by
      have hve:vs= #[]:=Array.ext' hvs
      subst hve
      simp[Instr.buildSlice,run_underlying hu,bS hsT,Instr.fill,Go.newRow,newObj,go_sem]
      rfl
     have s2:=s.newRow hn (E:=E) (l:=[]) (c:=#[]) (sz:=i.size) (cap:=0) (by simp) (by simp) (by unfold maxLen;omega) hpos hsT (by simp) (by simp)
     refine⟨_,_,_,Ext.at hn _,hrun,s2,?_⟩
     have:=mn (ok:=okOf A (at' ρ n ⟨w.heap.size,0,i.size,0⟩) (puts [(n,Blk.row E [])] h) (w.alloc (.cells #[] E (0,0)))) (w:=w.alloc (.cells #[] E (0,0))) hL _ (aT ρ n ⟨w.heap.size,0,i.size,0⟩)
     exact this
    ·have hZ:((Array.range (ps.length*i.size)).map (zv.cells[· % zv.cells.size]!)).size=ps.length*i.size:=by simp
     have hdf:=qH i.size (ps.map (·.2)) 0 (List.replicate (ps.length*i.size) .undef) hds (by simp)
     rw[←hzip] at hdf
     simp only[Nat.zero_mul,List.take_zero,d5] at hdf
     obtain⟨cells',h1,h2,h3,h4⟩:=rZ (Q:=C ρ (Live h) (okOf A ρ h w) w) (cells:=(Array.range (ps.length*i.size)).map (zv.cells[· % zv.cells.size]!)) (vs:=vs.toList) hdf (by simp) (fun j hj=>by
      have:(List.replicate (ps.length*i.size) D.undef).getD j .undef= .undef:=by
       simp only[aX,List.getElem?_replicate]
       split<;>rfl
      rw[this]
      exact .any _) hlen (fun k hk=>by
      obtain⟨q1,q2⟩:=hp k hk
      refine⟨q1,fun hw=>?_⟩
      exact q2.cells (by intro e;rw[e] at hw;simp[D.whole] at hw) (by intro cs e;rw[e] at hw;simp[D.whole] at hw))
     have hpz:¬ps.length*i.size=0:=by
      intro e
      rcases Nat.mul_eq_zero.1 e with e|e<;>omega
     have hrun:=run_buildSlice (P:=P) w T E ps.length vs cells' i zv hu hi hzv (by simpa using hsmall) hpz h1
     simp only[ij] at h3
     have s2:=s.newRow hn (E:=E) (l:=ps.map (·.2)) (c:=cells') (sz:=i.size) (cap:=ps.length) (by rw[←h2,h3]) (by simp) (by
      unfold maxLen
      have:ps.length*1≤ps.length*i.size:=Nat.mul_le_mul_left _ hpos
      omega) hpos hsT (fun e he=>(hds e he).1) (fun k j hk hj=>by
      have hk':k<ps.length:=by simpa using hk
      have hlt:k*i.size+j<ps.length*i.size:=by
       have:(k+1)*i.size≤ps.length*i.size:=dL _ (by omega)
       rw[cZ,im] at this
       omega
      have hq:=h4 (k*i.size+j) (by rw[h3];exact hlt)
      rw[qQ i.size _ k j (fun e he=>(hds e he).1.1) hk hj] at hq
      exact hq)
     refine⟨_,_,_,Ext.at hn _,hrun,s2,?_⟩
     have:=mn (ok:=okOf A (at' ρ n ⟨w.heap.size,ps.length,i.size,(ps.map (·.2)).length⟩) (puts [(n,Blk.row E (ps.map (·.2)))] h) (w.alloc (.cells cells' E (0,0)))) (w:=w.alloc (.cells cells' E (0,0))) hL _ (aT ρ n ⟨w.heap.size,ps.length,i.size,(ps.map (·.2)).length⟩)
     simp only[bH] at this⊢
     exact this
   ·cases hd
  ·cases hd
 ·cases hd
def fS (len:Nat):Option D→Nat→Option Nat
 |none,dflt=>some dflt
 |some (.int _ i),_=>if 0≤i∧i≤(len:Int) then some i.toNat else none
 |_,_=>none
def eK (P:Program)(h:HL)(q:Bool)(n:Id)(T:TypeId)(d:D)(lo hi:Option D):Option (D×HL):=
 match P.underlying T with
 |some .string=>(match d with
  | .str s=>(match fS s.size hi s.size with
   |some hh=>(match fS hh lo 0 with
    |some ll=>some (.str (s.extract ll hh),[])
    |none=>none)
   |none=>none)
  |_=>none)
 |some (.slice E)=>(match sizeT P E,elems h d with
  |some s,some l=>if xg s l=s then(match fS l.length hi l.length with
   |some hh=>(match fS hh lo 0 with
    |some ll=>(match d with
     | .ref b=>(match look h b with
      |some (.row E' l)=>if q then(if ll=0 then some (.ref n,[(b,.gone),(n,.row E' (l.take hh))]) else none)
       else if l.all (fun e=>e.cells.all D.pure0)=true then some (.lst ((l.take hh).drop ll),[(b,.froz l)]) else none
      |_=>some (.lst ((l.take hh).drop ll),[]))
     | .vref ..=>none
     |_=>some (.lst ((l.take hh).drop ll),[]))
    |none=>none)
   |none=>none) else none
  |_,_=>none)
 |some (.array n E)=>(match d with
  | .ptr b o=>(match sizeT P E,lo,hi,look h b with
   |some _,none,none,some (.var _ _)=>if n≤maxLen then some (.vref b o n,[]) else none
   |_,_,_,_=>none)
  |_=>none)
 |_=>none
end Go.Proofs.Ytbmnihglaokhmaa.Am
namespace Go.Proofs.Ytbmnihglaokhmaa.Am
open Go Go.RowKit
variable {P:Program} {w0:World} {S:SD} {A:Nat→Prop} {N:Nat} {ρ:Id→Pl} {t:List (Nat×D)} {h:HL} {a:Act} {w:World}
theorem Sim.appendRow (s:Sim P w0 S A N ρ t h a w){n b:Id}{E':TypeId}{i:TypeInfo}{z:Value}{xs ys:List D}(hn:look h n=none)(hb:look h b=some (.row E' xs))(hzs:z.cells.size=i.size)(hpos:0<i.size)(hsT:sizeT P E'=some i.size)
  (hf1:(xs.length+ys.length)*i.bytes≤140737488355328) (hf2:xs.length+ys.length≤9223372036854775807) {news:List Value} (hnl:news.length=ys.length*i.size)
  (hnr:∀k j,k<ys.length→j<i.size→C ρ (Live h) (okOf A ρ h w) w ((ys.getD k .undef).cells.getD j .undef) (news.getD (k*i.size+j) undef)) (hyw:∀e∈ys,wfC i.size e) {M:Sem Value}
  (hM1:∀c,w.heap[(ρ b).blk]?=some (.cells c E' (0,0))→xs.length+ys.length≤(ρ b).cap→xs.length*i.size+news.length≤c.size→
   M.run P w= .ok (.slice (some ⟨(ρ b).blk,0,none⟩) (xs.length+ys.length) (ρ b).cap) (w.setRow (ρ b).blk (c.toList.take (xs.length*i.size)++news++c.toList.drop (xs.length*i.size+news.length)).toArray))
  (hM2:∀olds:List Value,olds.length=xs.length*i.size→(∀k u,olds[k]?=some u→w.cell? ((⟨(ρ b).blk,0,none⟩:Addr).add k)=some u)→(ρ b).cap<xs.length+ys.length→
   M.run P w= .ok (.slice (some ⟨w.heap.size,0,none⟩) (xs.length+ys.length) (grownCap w (xs.length+ys.length) (ρ b).cap E')) (w.drew.alloc (.cells (olds.toArray++news.toArray++Builtin.zeroCells z.cells (grownCap w (xs.length+ys.length) (ρ b).cap E'-(xs.length+ys.length))) E'))):
  ∃v' w' ρ',Ext h ρ ρ'∧M.run P w= .ok v' w'∧Sim P w0 S A N ρ' t (puts [(b,.gone),(n,.row E' (xs++ys))] h) a w'∧C ρ' (Live (puts [(b,.gone),(n,.row E' (xs++ys))] h)) (okOf A ρ' (puts [(b,.gone),(n,.row E' (xs++ys))] h) w') w' (.ref n) v':=by
 obtain⟨c,g1,g2,g3,g4,g5,g6,g7,g8,g9⟩:=s.blk b _ hb
 have hbsz:(ρ b).sz=i.size:=by
  have:sizeT P E'=some (ρ b).sz:=g7
  rw[hsT] at this
  exact(bm this).symm
 rw[hbsz] at g2 g8 g9
 have hbn:b≠n:=by rintro rfl;rw[hn] at hb;cases hb
 have hxlen:(c.toList.take (xs.length*i.size)).length=xs.length*i.size:=by
  have:xs.length*i.size≤(ρ b).cap*i.size:=dL _ (by omega)
  simp;omega
 have hxrep:∀k j,k<xs.length→j<i.size→C ρ (Live h) (okOf A ρ h w) w ((xs.getD k .undef).cells.getD j .undef) ((c.toList.take (xs.length*i.size)).getD (k*i.size+j) undef):=by
  intro k j hk hj
  have hkj:k*i.size+j<xs.length*i.size:=by
   have:(k+1)*i.size≤xs.length*i.size:=dL _ (by omega)
   rw[cZ,im] at this
   omega
  have:=g9 k j hk hj
  rw[cB] at this
  simpa[aX,jt,hkj] using this
 have hxy:∀e∈xs++ys,wfC i.size e:=fun e he=>(cm.1 he).elim (g8 e) (hyw e)
 by_cases hroom:xs.length+ys.length≤(ρ b).cap
 ·-- in place
  have hfit:xs.length*i.size+news.length≤c.size:=by
   rw[hnl,g2,←cZ]
   exact dL _ hroom
  have hrun:=hM1 c g1 hroom hfit
  refine⟨_,_,at' ρ n ⟨(ρ b).blk,(ρ b).cap,i.size,xs.length+ys.length⟩,Ext.at hn _,hrun,?_,?_⟩
  ·have hpu:puts [(b,Blk.gone),(n,.row E' (xs++ys))] h=put n (.row E' (xs++ys)) (put b .gone h):=rfl
   rw[hpu]
   have hsz':∀cs,(w.setRow (ρ b).blk cs).heap.size=w.heap.size:=fun cs=>by simp[World.setRow]
   have hown:=s.own b _ hb rfl
   have key:∀b' y,look (put n (.row E' (xs++ys)) (put b .gone h)) b'=some y→y.live=true→b'≠n→look h b'=some y∧b'≠b:=by
    intro b' y hy hl hne
    rw[aD,if_neg hne,aD] at hy
    by_cases e:b'=b
    ·simp only[e,if_true,aK] at hy
     subst hy
     simp[Blk.live] at hl
    ·simp only[e,if_false] at hy
     exact⟨hy,e⟩
   have hlv:∀b',Live h b'→Live (put n (.row E' (xs++ys)) (put b .gone h)) b'∧at' ρ n ⟨(ρ b).blk,(ρ b).cap,i.size,xs.length+ys.length⟩ b'=ρ b':=fun b' hb'=>⟨hb'.put.put,bM ρ _ (hb'.ne hn)⟩
   have hok:∀k,okOf A ρ h w k→okOf A (at' ρ n ⟨(ρ b).blk,(ρ b).cap,i.size,xs.length+ys.length⟩) (put n (.row E' (xs++ys)) (put b .gone h)) (w.setRow (ρ b).blk (c.toList.take (xs.length*i.size)++news++c.toList.drop (xs.length*i.size+news.length)).toArray) k∧
     (w.setRow (ρ b).blk (c.toList.take (xs.length*i.size)++news++c.toList.drop (xs.length*i.size+news.length)).toArray).heap[k]?=w.heap[k]?:=by
    rintro k ⟨hk,hm'⟩
    have hkb:=hm' b _ hb rfl
    refine⟨⟨by rw[hsz'];exact hk,fun b' y hy hmu=>?_⟩,setRow_other w _ _ _ (cq hkb)⟩
    by_cases e:b'=n
    ·subst e;rw[aT];exact hkb
    ·rw[bM ρ _ e]
     exact hm' b' y (key b' y hy (by cases y<;>simp_all[Blk.mutable,Blk.live]) e).1 hmu
   refine s.step ⟨s.fr.os,s.fr.tape,s.fr.output,by rw[hsz'];exact s.fr.size,fun k hk hs=>(setRow_other w _ _ _ ?_).trans (s.fr.block k hk hs)⟩
    hlv hok (fun b' y hy=>?_) (by rw[hsz'];exact aN _) (fun b1 b2 y1 y2 hy1 hy2 hl1 hl2 he=>?_)
   ·rintro rfl
    rcases hown.2 with h'|h'
    ·exact hs h'
    ·omega
   ·by_cases e:b'=n
    ·subst e
     rw[aD] at hy
     simp only[if_true,aK] at hy
     subst hy
     refine .inr ⟨?_,fun _=>by rw[aT,hsz'];exact hown⟩
     simp only[BlkOK,aT]
     refine⟨_,setRow_heap w _ c _ E' _ g1,?_,by simp,by simpa using hroom,g5,hpos,hsT,hxy,?_⟩
     ·have e1:=hxlen
      simp only[nC,ck,e1,List.length_drop,nA]
      omega
     ·refine jf (Q:=fun d v=>C _ _ _ _ d v) (vx:=c.toList.take (xs.length*i.size)) (vy:=news) hxlen hnl (fun k hk=>?_) (fun k j hk hj=>(hxrep k j hk hj).mono hlv hok) (fun k j hk hj=>(hnr k j hk hj).mono hlv hok)
      rw[iD]
      simp only[aX]
      by_cases q:k<(c.toList.take (xs.length*i.size)).length
      ·rw[if_pos q,cV,gg q]
      ·rw[if_neg q,cV,jq (by omega),gg (by omega)]
    ·by_cases hl:y.live=true
     ·obtain⟨q1,q2⟩:=key b' y hy hl e
      exact .inl ⟨q1,fun hmu=>setRow_other w _ _ _ fun he=>q2 (s.inj b' b y _ q1 hb hl rfl he)⟩
     ·by_cases e3:b'=b
      ·rw[aD,if_neg e,aD,if_pos e3] at hy
       obtain rfl:=bm hy
       exact .inr ⟨trivial,fun h=>absurd h hl⟩
      ·rw[aD,if_neg e,aD,if_neg e3] at hy
       exact .inl ⟨hy,fun hmu=>absurd (by cases y<;>simp_all[Blk.mutable,Blk.live]) hl⟩
   ·by_cases e1:b1=n<;>by_cases e2:b2=n
    ·rw[e1,e2]
    ·subst e1
     obtain⟨q1,q2⟩:=key b2 y2 hy2 hl2 e2
     rw[aT,bM ρ _ e2] at he
     exact absurd (s.inj b b2 _ y2 hb q1 rfl hl2 he) (cq q2)
    ·subst e2
     obtain⟨q1,q2⟩:=key b1 y1 hy1 hl1 e1
     rw[aT,bM ρ _ e1] at he
     exact absurd (s.inj b1 b y1 _ q1 hb hl1 rfl he) q2
    ·rw[bM ρ _ e1,bM ρ _ e2] at he
     exact s.inj b1 b2 y1 y2 (key b1 y1 hy1 hl1 e1).1 (key b2 y2 hy2 hl2 e2).1 hl1 hl2 he
  ·have hL:Live (puts [(b,Blk.gone),(n,.row E' (xs++ys))] h) n:=by
    show Live (put n _ (put b _ h)) n
    unfold Live;rw[aD];simp
   have:=C.ref (ρ:=at' ρ n ⟨(ρ b).blk,(ρ b).cap,i.size,xs.length+ys.length⟩) (L:=Live (puts [(b,Blk.gone),(n,.row E' (xs++ys))] h)) (ok:=okOf A (at' ρ n ⟨(ρ b).blk,(ρ b).cap,i.size,xs.length+ys.length⟩) (puts [(b,Blk.gone),(n,.row E' (xs++ys))] h) (w.setRow (ρ b).blk (c.toList.take (xs.length*i.size)++news++c.toList.drop (xs.length*i.size+news.length)).toArray)) (w:=w.setRow (ρ b).blk (c.toList.take (xs.length*i.size)++news++c.toList.drop (xs.length*i.size+news.length)).toArray) n hL
   simpa only[aT] using this
 ·-- a new row
  have hf3:(xs.length+ys.length)*i.bytes≤140737488355328:=hf1
  have hold:∀k u,(c.toList.take (xs.length*i.size))[k]?=some u→w.cell? ((⟨(ρ b).blk,0,none⟩:Addr).add k)=some u:=by
   intro k u hu
   rw[dD,gM]
   rw[jt] at hu
   split at hu
   ·simp only[Array.getElem?_toList] at hu
    simp[World.cell?,g1,hu]
   ·cases hu
  have hrun:=hM2 (c.toList.take (xs.length*i.size)) hxlen hold (by omega)
  have s1:=(s.drew (w.drawn+1)).gone hb
  have hlv1:∀b',Live h b'→Live (put b .gone h) b'∧ρ b'=ρ b':=fun b' hb'=>⟨hb'.put,rfl⟩
  have hn1:look (put b .gone h) n=none:=by rw[aD,if_neg (cq hbn)];exact hn
  have hcm:grownCap w (xs.length+ys.length) (ρ b).cap E'≤maxLen:=grownCap_le_maxLen w _ _ _ (by unfold maxLen;omega)
  have hcg:=grownCap_ge w (xs.length+ys.length) (ρ b).cap E'
  have hok1:∀k,okOf A ρ h w k→okOf A ρ (put b .gone h) {w with drawn:=w.drawn+1} k∧({w with drawn:=w.drawn+1}:World).heap[k]?=w.heap[k]?:=by
   rintro k ⟨hk,hm'⟩
   refine⟨⟨hk,fun b' y hy hmu=>?_⟩,rfl⟩
   rw[aD] at hy
   by_cases e:b'=b
   ·simp only[e,if_true,aK] at hy
    subst hy
    simp[Blk.mutable] at hmu
   ·simp only[e,if_false] at hy
    exact hm' b' y hy hmu
  have s2:=s1.newRow hn1 (E:=E') (l:=xs++ys) (c:=(c.toList.take (xs.length*i.size)).toArray++news.toArray++Builtin.zeroCells z.cells (grownCap w (xs.length+ys.length) (ρ b).cap E'-(xs.length+ys.length))) (sz:=i.size) (cap:=grownCap w (xs.length+ys.length) (ρ b).cap E')
   (by
    simp only[Array.size_append,nC,size_zeroCells,hzs,hxlen,hnl]
    rw[←cZ,←cZ]
    congr 1
    omega) (by simpa using hcg) hcm hpos hsT hxy
   (jf (Q:=fun d v=>C _ _ _ _ d v) (vx:=c.toList.take (xs.length*i.size)) (vy:=news) hxlen hnl (fun k hk=>oQ _ _ _ _ hk) (fun k j hk hj=>(hxrep k j hk hj).mono hlv1 hok1) (fun k j hk hj=>(hnr k j hk hj).mono hlv1 hok1))
  refine⟨_,_,_,Ext.at hn _,hrun,s2,?_⟩
  have hL:Live (puts [(b,Blk.gone),(n,.row E' (xs++ys))] h) n:=by
   show Live (put n _ (put b _ h)) n
   unfold Live;rw[aD];simp
  have:=C.ref (ρ:=at' ρ n ⟨w.heap.size,grownCap w (xs.length+ys.length) (ρ b).cap E',i.size,(xs++ys).length⟩) (L:=Live (puts [(b,Blk.gone),(n,.row E' (xs++ys))] h)) (ok:=okOf A (at' ρ n ⟨w.heap.size,grownCap w (xs.length+ys.length) (ρ b).cap E',i.size,(xs++ys).length⟩) (puts [(b,Blk.gone),(n,.row E' (xs++ys))] h) (({w with drawn:=w.drawn+1}:World).alloc (.cells ((c.toList.take (xs.length*i.size)).toArray++news.toArray++Builtin.zeroCells z.cells (grownCap w (xs.length+ys.length) (ρ b).cap E'-(xs.length+ys.length))) E' (0,0))))
   (w:=({w with drawn:=w.drawn+1}:World).alloc (.cells ((c.toList.take (xs.length*i.size)).toArray++news.toArray++Builtin.zeroCells z.cells (grownCap w (xs.length+ys.length) (ρ b).cap E'-(xs.length+ys.length))) E' (0,0))) n hL
  simp only[aT,ck] at this
  simp only[ck]
  exact this
theorem jw (w:World)(t tn ty e:TypeId)(i:TypeInfo)(z:Value)(k kn:IntKind)(ht:P.underlying t=some (.slice e))(htn:P.underlying tn=some (.int kn))(hi:P.info? e=some i)(hz:i.zero=some z)
  (g sLen sCap:Nat) (cur:Array Value) (hg:w.heap[g]?=some (.cells cur e (0,0))) (m:Nat) (hm:0<m) (hm1:m≤1000000) (hb:m*i.bytes≤281474976710656) (hs:0<i.size) (news:List Value) (hnz:(Builtin.zeroCells z.cells m).toList=news) (hl:news.length=m*i.size) (h1:∀u∈news,u.oneCell'=true)
  (hroom:sLen+m≤sCap) (hfit:sLen*i.size+news.length≤cur.size):
  (Builtin.append_ #[t,tn] ty #[.slice (some ⟨g,0,none⟩) sLen sCap,.int k m]).run P w=
   .ok (.slice (some ⟨g,0,none⟩) (sLen+m) sCap) (w.setRow g (cur.toList.take (sLen*i.size)++news++cur.toList.drop (sLen*i.size+news.length)).toArray):=by
 have hst:=run_storeCells_at P g (sLen*i.size) e news 0 cur w hg (by simpa using hfit) h1
 simp only[Nat.add_zero] at hst
 have hw:IntKind.i64.wrap (m:Int)=m:=by rw[IntKind.wrap_i64];omega
 have hz0:(Builtin.zeroCells z.cells m)=news.toArray:=by rw[←hnz]
 have hn:m≠0:=by omega
 have hneg:¬((m:Int)<0):=by omega
 have h48i:¬(281474976710656<(m:Int)*(i.bytes:Int)):=by rw[←Int.natCast_mul];omega
 have hns:¬(m*i.size=0):=Nat.mul_ne_zero hn (by omega)
 simp[Builtin.append_,run_underlying ht,run_underlying htn,sizeOf,typeInfo,zeroValue,hi,hz,asInt,asIntOf,hw,hneg,h48i,hroom,hz0,hns,Addr.add_lit,hst]
theorem kO (k:IntKind)(z:Int)(m:Nat):(Builtin.zeroCells (Value.int k z).cells m)=(List.replicate m (Value.int k z)).toArray:=by
 have h1:(Value.int k z).cells= #[Value.int k z]:=rfl
 apply Array.ext
 ·simp[Builtin.zeroCells,h1]
 ·intro i h2 h3
  simp[Builtin.zeroCells,h1,Nat.mod_one]
set_option maxHeartbeats 1000000
def fG (P:Program)(h:HL)(n:Id)(T T':TypeId)(d1 d2:D):Option (D×HL):=
 match d1,d2 with
 | .ref b,.int _ m=>(match P.underlying T,P.underlying T',look h b with
  |some (.slice E),some (.int _),some (.row E' xs)=>(match elemT P E,ofZero P E with
   |some (s,bytes),some (.int k2 z)=>if E'=E∧s=1∧0<m∧m≤1000000∧nG bytes (xs.length+m.toNat) then some (.ref n,[(b,.gone),(n,.row E (xs++List.replicate m.toNat (.int k2 z)))]) else none
   |_,_=>none)
  |_,_,_=>none)
 |_,_=>none
theorem Sim.appendZ (s:Sim P w0 S A N ρ t h a w){n:Id}{T T' ty:TypeId}{d1 d2 d:D}{u:HL}{v1 v2:Value}(hd:fG P h n T T' d1 d2=some (d,u))(hn:look h n=none)
  (hv1:C ρ (Live h) (okOf A ρ h w) w d1 v1) (hv2:C ρ (Live h) (okOf A ρ h w) w d2 v2):
  ∃v' w' ρ',Ext h ρ ρ'∧(Builtin.append_ #[T,T'] ty #[v1,v2]).run P w= .ok v' w'∧Sim P w0 S A N ρ' t (puts u h) a w'∧C ρ' (Live (puts u h)) (okOf A ρ' (puts u h) w') w' d v':=by
 unfold fG at hd
 split at hd
 ·rename_i b k m
  obtain⟨hlb,rfl⟩:=hv1.ref_inv
  obtain rfl:=hv2.int_inv
  split at hd
  ·rename_i E kn E' xs hu hun hb
   split at hd
   ·rename_i sz bytes k2 z he hz
    split at hd
    ·rename_i hc
     obtain⟨rfl,rfl,hm0,hm1,hf⟩:=hc
     simp only[aK,bi] at hd
     obtain⟨rfl,rfl⟩:=hd
     obtain⟨i,zv,hi,hzv,hzs,hisz,hby,hpos,hsT⟩:=lm he
     obtain⟨zv',_,hzr,hzw,hzz⟩:=gq hz (okOf A ρ h w) w
     have hzc:zv'=zv:=by
      rw[hi] at hzz
      simp only[bp,hzv,aK] at hzz
      exact hzz.symm
     subst hzc
     cases hzr
     obtain⟨M,hM⟩:∃M:Nat,(M:Int)=m:=⟨m.toNat,by omega⟩
     subst hM
     rw[Int.toNat_natCast] at *
     obtain⟨hf1,hf2⟩:=hf
     rw[←hby] at hf1
     have hmb:M*i.bytes≤281474976710656:=by
      have:M*i.bytes≤(xs.length+M)*i.bytes:=dL _ (by omega)
      omega
     have hg3:xs.length=(ρ b).len:=by
      obtain⟨c,g1,g2,g3,-⟩:=s.blk b _ hb
      exact g3
     refine s.appendRow (z:=.int k2 z) (i:=i) (ys:=List.replicate M (.int k2 z)) (news:=List.replicate M (.int k2 z)) hn hb (by rw[hisz];exact hzs) (by omega) (by rw[hisz];exact hsT) (by simpa using hf1) (by simp;omega) (by simp[hisz]) (fun q j hq hj=>?_) (fun e he=>?_) (fun c g1 hroom hfit=>?_) (fun olds ho hold hlt=>?_)
     ·rw[hisz] at hj⊢
      obtain rfl:j=0:=by omega
      have hq':q<M:=by simpa using hq
      simp only[aX,List.getElem?_replicate,hq',Nat.mul_one,Nat.add_zero,if_true,e9]
      exact .int _ _
     ·rw[List.eq_of_mem_replicate he,hisz]
      exact⟨rfl,rfl⟩
     ·simp only[ij] at hroom hfit⊢
      rw[←hg3]
      have hr:=jw w T T' ty E' i (.int k2 z) k kn hu hun hi hzv (ρ b).blk xs.length (ρ b).cap c g1 M (by omega) (by omega) hmb (by omega) (List.replicate M (.int k2 z)) (by rw[kO]) (by rw[ij,hisz,Nat.mul_one])
       (fun u hu=>by rw[List.eq_of_mem_replicate hu];rfl) (by omega) (by rw[ij];exact hfit)
      simp only[ij] at hr
      exact hr
     ·simp only[ij] at hlt⊢
      rw[←hg3]
      have hr:=Go.Lib.run_append_grow_zeros w T T' ty E' i _ k kn hu hun hi hzv (some ⟨(ρ b).blk,0,none⟩) xs.length (ρ b).cap olds (run_firstCells_some w.drew i.size xs.length ⟨(ρ b).blk,0,none⟩ xs.length (ρ b).cap olds ho (by simpa using hold)) M (by omega) (by omega) (by omega) (by omega) hmb (growslice_fits (by omega) hf1)
      rw[kO k2 z M] at hr
      exact hr
    ·cases hd
   ·cases hd
  ·cases hd
 ·cases hd

end Go.Proofs.Ytbmnihglaokhmaa.Am
