/- Graphs: what the program's functions give. Graphs: a vertex is linked. Graphs: all vertices are linked. Graphs: heights, authors, places. Runs: leaders, faulty members, pairs of proposals: what the functions give. Runs: tables of graphs, parents that are known. Runs: graphs of members, copies: what the program's functions give. Runs: clones of proposals, views that cover. Runs: parents that are known. Runs: clones of lists of numbers (the empty ones by the shelf). -/
import Derived.Shelf.Slices.Clone
import Derived.Test.YtjjddgpdoibcoaaGreatDoorPO5
set_option linter.unusedSimpArgs false
set_option linter.unusedVariables false
namespace Go.Proofs.YtjjddgpdoibcoaaGreatDoor.Am
open Go
attribute [local irreducible] Mk Need Ari Get Idx Cnd CallM CallA Opt Unch At ConV
set_option maxRecDepth 10000
def Θg:TT:=(148,⟨.ptr 166,1,8,some (.nilp),some (.hp 0),false⟩) :: Θ
theorem Θg_ok:TT.ok Tryz.prog Θg:=TT.okB_ok (by kernel_rfl)
theorem stg {P Q:Prop} (h:Q) (s:Hid Q → P:=by
  intro h
  (first | (with_reducible first | apply at_seq | apply at_block) | ((first | with_reducible apply at_regS Θg_ok | refine go ?_ | (with_reducible first | apply at_cond | apply at_ret | apply at_exit | apply at_skip | refine at_regD Θg_ok mixed (by kernel_rfl) ?_)) <;> conv=>whnf))
  repeat (first | (with_reducible first | apply at_seq | apply at_block) | ((first | with_reducible apply at_regS Θg_ok | refine go ?_ | (with_reducible first | apply at_cond | apply at_ret | apply at_exit | apply at_skip | refine at_regD Θg_ok mixed (by kernel_rfl) ?_)) <;> conv=>whnf))
  exact h.h):P:=s ⟨h⟩
abbrev gZ (c:List Int) (s:GS):VH:=[(0,.fvar 166 (.nod 1) s.nodes),(1,.frow 148 (.hp 0) s.rows),(4,.vari 152 [.lst (.int .i64) c,.nils] 217 (.hp 0) s.plc [])]
abbrev gZx (c:List Int) (s:GS) (x:VB):VH:=[(0,.fvar 166 (.nod 1) s.nodes),(1,.frow 148 (.hp 0) s.rows),(4,.vari 152 [.lst (.int .i64) c,.nils] 217 (.hp 0) s.plc []),(5,x)]
abbrev gR (c:List Int) (s:GS):VH:=[(0,.fvar 166 (.nod 1) s.nodes),(1,.frow 148 (.hp 0) s.rows),(4,.vari 152 [.lst (.int .i64) c,.ref 5] 217 (.hp 0) s.plc []),(5,.row 148 (.hp 0) ((List.range s.nodes.length).map some))]
abbrev gRx (c:List Int) (s:GS) (x:VB):VH:=[(0,.fvar 166 (.nod 1) s.nodes),(1,.frow 148 (.hp 0) s.rows),(4,.vari 152 [.lst (.int .i64) c,.ref 5] 217 (.hp 0) s.plc []),(5,.row 148 (.hp 0) ((List.range s.nodes.length).map some)),(6,x)]
theorem plc_get {s:GS} (hs:s.plc.length = 217) {r a:Int} (hr:vIn r 0 30 = true) (ha:0 ≤ a ∧ a ≤ 6):s.plc[r.toNat * 7 + a.toNat]? = some (s.at r a):=by
 have hr:=vIn_iff.1 hr
 have e:(r * 7 + a).toNat = r.toNat * 7 + a.toNat:=by omega
 rw [GS.at,e,List.getD_eq_getElem?_getD,List.getElem?_eq_getElem (by omega)]
 rfl
def authG (s:GS) (r:Int) (n:Nat):List Int:=((List.range n).filter fun a:Nat=>vIn r 0 30 && (s.at r (a:Int)).isSome).map fun a:Nat=>(a:Int)
theorem authG_snoc (s:GS) (r:Int) (n:Nat):authG s r (n + 1) = if vIn r 0 30 && (s.at r (n:Int)).isSome then authG s r n ++ [(n:Int)] else authG s r n:=by
 simp only [authG,List.range_succ,List.filter_append,List.map_append,List.filter_cons,List.filter_nil]
 split <;> simp
theorem authG_len (s:GS) (r:Int) (n:Nat):(authG s r n).length ≤ n:=by
 unfold authG
 rw [List.length_map]
 exact Nat.le_trans (List.length_filter_le _ _) (by simp)
theorem atn_cR (c:List Int) (s:GS) (r a:Int) (h:(vIn r 0 30 && hasM c a) = false):ConV Tryz.prog 182 [.ptr 4 0,.int .i64 r,.int .i64 a] (gR c s) .nilp (gR c s):=by
 refine con_eq Θg_ok Tryz.func182 rfl rfl false 2 6 rfl rfl rfl rfl fun K hK hb1 hb2=>?_;simp only [argsV,enc,Nat.reduceAdd]
 clear hb1 hb2
 cases h1:vIn r 0 30
 ·(repeat (any_goals (first | refine st ?_ | (refine go2 fun xe hxe=>?_;conv=>whnf) | ((with_reducible refine cnd_i (fun hq=>?_) fun hq=>?_) <;> (try simp only [hqs] at hq) <;> (first | omega | conv=>whnf)) | refine cr (irnd_c _) ?_ | refine cr (ihas_c _ _) ?_)))
  exact ⟨rfl,rfl⟩
 ·have h2:hasM c a = false:=by simp_all
  (repeat (any_goals (first | refine st ?_ | (refine go2 fun xe hxe=>?_;conv=>whnf) | ((with_reducible refine cnd_i (fun hq=>?_) fun hq=>?_) <;> (try simp only [hqs] at hq) <;> (first | omega | conv=>whnf)) | refine cr (irnd_c _) ?_ | refine cr (ihas_c _ _) ?_)))
  exact ⟨rfl,rfl⟩
theorem aty_cR (c:List Int) (s:GS) (r a:Int) (hs:s.plc.length = 217) (hc:c.length ≤ 7) (h1:vIn r 0 30 = true) (h2:hasM c a = true):ConV Tryz.prog 182 [.ptr 4 0,.int .i64 r,.int .i64 a] (gR c s) (.hpo 0 (s.at r a)) (gR c s):=by
 refine con_eq Θg_ok Tryz.func182 rfl rfl false 2 6 rfl rfl rfl rfl fun K hK hb1 hb2=>?_;simp only [argsV,enc,Nat.reduceAdd]
 clear hb1 hb2
 have hr:=vIn_iff.1 h1
 have ha:=vIn_iff.1 h2
 have hp:=plc_get hs h1 (a:=a) (by omega)
 (repeat (any_goals (first | refine st ?_ | (refine go2 fun xe hxe=>?_;conv=>whnf) | ((with_reducible refine cnd_i (fun hq=>?_) fun hq=>?_) <;> (try simp only [hqs] at hq) <;> (first | omega | conv=>whnf)) | refine cr (irnd_c _) ?_ | refine cr (ihas_c _ _) ?_)))
 exact ⟨rfl,rfl⟩
theorem iauth_cR (c:List Int) (s:GS) (r:Int) (hs:s.plc.length = 217) (hc:c.length ≤ 7):ConV Tryz.prog 127 [.ptr 4 0,.int .i64 r] (gR c s) (.ref 6) (gRx c s (.row 3 (.int .i64) (authG s r c.length))):=by
 refine con_eq Θg_ok Tryz.func127 rfl rfl false 2 6 rfl rfl rfl rfl fun K hK hb1 hb2=>?_;simp only [argsV,enc,Nat.reduceAdd]
 clear hb1 hb2
 (repeat (any_goals (first | refine st ?_ | (refine go2 fun xe hxe=>?_;conv=>whnf) | ((with_reducible refine cnd_i (fun hq=>?_) fun hq=>?_) <;> (try simp only [hqs] at hq) <;> (first | omega | conv=>whnf)))))
 refine at_loop hK [] [0,1,5,11,12,13] (fun i:Nat=>⟨[(0,.ptr 4 0),(1,.int .i64 r),(5,.ref 6),(11,.lst (.int .i64) c),(12,.int .i64 c.length),(13,.int .i64 i)],gRx c s (.row 3 (.int .i64) (authG s r i)),7⟩) (fun i=>i ≤ c.length) (fun i=>c.length - i) 0 (by simp) rfl ?_
 intro i hi
 have hsn:=authG_snoc s r i
 have hl:=authG_len s r i
 by_cases hlt:i < c.length
 ·have h2:hasM c i = true:=vIn_iff.2 (by omega)
  cases h1:vIn r 0 30
  ·rw [h1,if_neg (by simp)] at hsn
   (repeat (any_goals (first | refine st ?_ | (refine go2 fun xe hxe=>?_;conv=>whnf) | ((with_reducible refine cnd_i (fun hq=>?_) fun hq=>?_) <;> (try simp only [hqs] at hq) <;> (first | omega | conv=>whnf)) | ((with_reducible refine call_o ?_);(conv=>whnf);(first | with_reducible refine call_i (atn_cR c s r i (by simp [h1])) ?_);conv=>whnf))))
   exact ⟨i + 1,by omega,by omega,by rw [hsn];rfl⟩
  ·cases h3:s.at r i with
   | none=>
    rw [h1,h3,if_neg (by simp)] at hsn
    have h4:(s.at r i).isNone = true:=by rw [h3];rfl
    (repeat (any_goals (first | refine st ?_ | (refine go2 fun xe hxe=>?_;conv=>whnf) | ((with_reducible refine cnd_i (fun hq=>?_) fun hq=>?_) <;> (try simp only [hqs] at hq) <;> (first | omega | conv=>whnf)) | refine co (aty_cR c s r i hs hc h1 h2) ?_)))
    exact ⟨i + 1,by omega,by omega,by rw [hsn];rfl⟩
   | some k=>
    rw [h1,h3,if_pos (by simp)] at hsn
    have h4:(s.at r i).isNone = false:=by rw [h3];rfl
    (repeat (any_goals (first | refine st ?_ | (refine go2 fun xe hxe=>?_;conv=>whnf) | ((with_reducible refine cnd_i (fun hq=>?_) fun hq=>?_) <;> (try simp only [hqs] at hq) <;> (first | omega | conv=>whnf)) | refine co (aty_cR c s r i hs hc h1 h2) ?_)))
    exact ⟨i + 1,by omega,by omega,by rw [hsn];rfl⟩
 ·(repeat (any_goals (first | refine st ?_ | (refine go2 fun xe hxe=>?_;conv=>whnf) | ((with_reducible refine cnd_i (fun hq=>?_) fun hq=>?_) <;> (try simp only [hqs] at hq) <;> (first | omega | conv=>whnf)))))
  rw [show i = c.length by omega]
  exact ⟨rfl,rfl⟩
theorem atn_cZ (c:List Int) (s:GS) (r a:Int) (h:(vIn r 0 30 && hasM c a) = false):ConV Tryz.prog 182 [.ptr 4 0,.int .i64 r,.int .i64 a] (gZ c s) .nilp (gZ c s):=by
 refine con_eq Θg_ok Tryz.func182 rfl rfl false 1 5 rfl rfl rfl rfl fun K hK hb1 hb2=>?_;simp only [argsV,enc,Nat.reduceAdd]
 clear hb1 hb2
 cases h1:vIn r 0 30
 ·(repeat (any_goals (first | refine st ?_ | (refine go2 fun xe hxe=>?_;conv=>whnf) | ((with_reducible refine cnd_i (fun hq=>?_) fun hq=>?_) <;> (try simp only [hqs] at hq) <;> (first | omega | conv=>whnf)) | refine cr (irnd_c _) ?_ | refine cr (ihas_c _ _) ?_)))
  exact ⟨rfl,rfl⟩
 ·have h2:hasM c a = false:=by simp_all
  (repeat (any_goals (first | refine st ?_ | (refine go2 fun xe hxe=>?_;conv=>whnf) | ((with_reducible refine cnd_i (fun hq=>?_) fun hq=>?_) <;> (try simp only [hqs] at hq) <;> (first | omega | conv=>whnf)) | refine cr (irnd_c _) ?_ | refine cr (ihas_c _ _) ?_)))
  exact ⟨rfl,rfl⟩
theorem aty_cZ (c:List Int) (s:GS) (r a:Int) (hs:s.plc.length = 217) (hc:c.length ≤ 7) (h1:vIn r 0 30 = true) (h2:hasM c a = true):ConV Tryz.prog 182 [.ptr 4 0,.int .i64 r,.int .i64 a] (gZ c s) (.hpo 0 (s.at r a)) (gZ c s):=by
 refine con_eq Θg_ok Tryz.func182 rfl rfl false 1 5 rfl rfl rfl rfl fun K hK hb1 hb2=>?_;simp only [argsV,enc,Nat.reduceAdd]
 clear hb1 hb2
 have hr:=vIn_iff.1 h1
 have ha:=vIn_iff.1 h2
 have hp:=plc_get hs h1 (a:=a) (by omega)
 (repeat (any_goals (first | refine st ?_ | (refine go2 fun xe hxe=>?_;conv=>whnf) | ((with_reducible refine cnd_i (fun hq=>?_) fun hq=>?_) <;> (try simp only [hqs] at hq) <;> (first | omega | conv=>whnf)) | refine cr (irnd_c _) ?_ | refine cr (ihas_c _ _) ?_)))
 exact ⟨rfl,rfl⟩
theorem iauth_cZ (c:List Int) (s:GS) (r:Int) (hs:s.plc.length = 217) (hc:c.length ≤ 7):ConV Tryz.prog 127 [.ptr 4 0,.int .i64 r] (gZ c s) (.ref 5) (gZx c s (.row 3 (.int .i64) (authG s r c.length))):=by
 refine con_eq Θg_ok Tryz.func127 rfl rfl false 1 5 rfl rfl rfl rfl fun K hK hb1 hb2=>?_;simp only [argsV,enc,Nat.reduceAdd]
 clear hb1 hb2
 (repeat (any_goals (first | refine st ?_ | (refine go2 fun xe hxe=>?_;conv=>whnf) | ((with_reducible refine cnd_i (fun hq=>?_) fun hq=>?_) <;> (try simp only [hqs] at hq) <;> (first | omega | conv=>whnf)))))
 refine at_loop hK [] [0,1,5,11,12,13] (fun i:Nat=>⟨[(0,.ptr 4 0),(1,.int .i64 r),(5,.ref 5),(11,.lst (.int .i64) c),(12,.int .i64 c.length),(13,.int .i64 i)],gZx c s (.row 3 (.int .i64) (authG s r i)),6⟩) (fun i=>i ≤ c.length) (fun i=>c.length - i) 0 (by simp) rfl ?_
 intro i hi
 have hsn:=authG_snoc s r i
 have hl:=authG_len s r i
 by_cases hlt:i < c.length
 ·have h2:hasM c i = true:=vIn_iff.2 (by omega)
  cases h1:vIn r 0 30
  ·rw [h1,if_neg (by simp)] at hsn
   (repeat (any_goals (first | refine st ?_ | (refine go2 fun xe hxe=>?_;conv=>whnf) | ((with_reducible refine cnd_i (fun hq=>?_) fun hq=>?_) <;> (try simp only [hqs] at hq) <;> (first | omega | conv=>whnf)) | ((with_reducible refine call_o ?_);(conv=>whnf);(first | with_reducible refine call_i (atn_cZ c s r i (by simp [h1])) ?_);conv=>whnf))))
   exact ⟨i + 1,by omega,by omega,by rw [hsn];rfl⟩
  ·cases h3:s.at r i with
   | none=>
    rw [h1,h3,if_neg (by simp)] at hsn
    have h4:(s.at r i).isNone = true:=by rw [h3];rfl
    (repeat (any_goals (first | refine st ?_ | (refine go2 fun xe hxe=>?_;conv=>whnf) | ((with_reducible refine cnd_i (fun hq=>?_) fun hq=>?_) <;> (try simp only [hqs] at hq) <;> (first | omega | conv=>whnf)) | refine co (aty_cZ c s r i hs hc h1 h2) ?_)))
    exact ⟨i + 1,by omega,by omega,by rw [hsn];rfl⟩
   | some k=>
    rw [h1,h3,if_pos (by simp)] at hsn
    have h4:(s.at r i).isNone = false:=by rw [h3];rfl
    (repeat (any_goals (first | refine st ?_ | (refine go2 fun xe hxe=>?_;conv=>whnf) | ((with_reducible refine cnd_i (fun hq=>?_) fun hq=>?_) <;> (try simp only [hqs] at hq) <;> (first | omega | conv=>whnf)) | refine co (aty_cZ c s r i hs hc h1 h2) ?_)))
    exact ⟨i + 1,by omega,by omega,by rw [hsn];rfl⟩
 ·(repeat (any_goals (first | refine st ?_ | (refine go2 fun xe hxe=>?_;conv=>whnf) | ((with_reducible refine cnd_i (fun hq=>?_) fun hq=>?_) <;> (try simp only [hqs] at hq) <;> (first | omega | conv=>whnf)))))
  rw [show i = c.length by omega]
  exact ⟨rfl,rfl⟩
end Go.Proofs.YtjjddgpdoibcoaaGreatDoor.Am
namespace Go.Proofs.YtjjddgpdoibcoaaGreatDoor.Am
open Go
attribute [local irreducible] Mk Need Ari Get Idx Cnd CallM CallA Opt Unch At ConV
set_option maxRecDepth 10000
abbrev gO (c:List Int) (s:GS):VH:=[(0,.fvar 166 (.nod 1) s.nodes),(1,.frow 148 (.hp 0) s.rows),(4,.vari 152 [.lst (.int .i64) c,.ref 6] 217 (.hp 0) s.plc []),(5,.gone),(6,.row 148 (.hp 0) ((List.range s.nodes.length).map some))]
theorem nodes_row (s:GS) (v:Vtx):(List.range s.nodes.length).map some ++ [some s.nodes.length] = (List.range (gstep s v).nodes.length).map some:=by
 simp [gstep,List.range_succ]
theorem gstep_plc (s:GS) (v:Vtx) (h:0 ≤ v.round ∧ 0 ≤ v.author):s.plc.set (v.round.toNat * 7 + v.author.toNat) (some s.nodes.length) = (gstep s v).plc:=by
 have e:(v.round * 7 + v.author).toNat = v.round.toNat * 7 + v.author.toNat:=by omega
 simp only [gstep,e]
def parG (s:GS) (v:Vtx):Bool:=v.parents.all fun p=>(s.at (v.round - 1) p).isSome
abbrev nodV (v:Vtx) (n:Int) (p:V):VB:=.var 166 [.int .i64 v.round,.int .i64 v.author,.lst (.int .i64) v.parents,.int .i64 v.digest,.int .i64 n,p]
abbrev parB (s:GS) (v:Vtx) (i:Nat):VB:=.row 148 (.hp 0) ((v.parents.take i).map fun p=>s.at (v.round - 1) p)
def lnkS (c:List Int) (s:GS) (v:Vtx):Nat → VSt
 | 0=>⟨[(0,.ptr 4 0),(3,.ptr 6 0),(5,.ptr 7 0),(18,.lst (.int .i64) v.parents),(19,.int .i64 v.parents.length),(20,.int .i64 0)],gR c s ++ [(6,.var 39 (vtxA v).cells),(7,nodV v s.nodes.length .nils)],8⟩
 | i + 1=>⟨[(0,.ptr 4 0),(3,.ptr 6 0),(5,.ptr 7 0),(18,.lst (.int .i64) v.parents),(19,.int .i64 v.parents.length),(20,.int .i64 ((i + 1:Nat):Int))],gR c s ++ [(6,.var 39 (vtxA v).cells),(7,nodV v s.nodes.length (.ref 8)),(8,parB s v (i + 1))],9⟩
theorem linkR_c (c:List Int) (s:GS) (v:Vtx) (hs:s.plc.length = 217) (hc:comV c = true) (hv:vtxS c v = true) (hn:s.nodes.length ≤ 2000000):ConV Tryz.prog 126 [.ptr 4 0,vtxA v] (gR c s) (.bool (parG s v)) (if parG s v then gO c (gstep s v) else gR c s):=by
 have h7:=(comV_iff.1 hc).2
 obtain ⟨v1,v2,v3,v4,v5,v6⟩:=vtxS_ok hv
 have hml:=mems_len v3
 have hmi:=mems_in v3
 have hrl:((List.range s.nodes.length).map some).length = s.nodes.length:=by simp
 refine con_eq Θg_ok Tryz.func126 rfl rfl false 2 6 rfl rfl rfl rfl fun K hK hb1 hb2=>?_;simp only [argsV,enc,Nat.reduceAdd]
 clear hb1 hb2
 (repeat (any_goals (first | refine stg ?_ | (refine go2 fun xe hxe=>?_;conv=>whnf) | ((with_reducible refine cnd_i (fun hq=>?_) fun hq=>?_) <;> (try simp only [hqs] at hq) <;> (first | omega | conv=>whnf)))))
 refine at_loop hK [] [0,3,5,18,19,20] (lnkS c s v) (fun i=>i ≤ v.parents.length ∧ ∀ p ∈ v.parents.take i,(s.at (v.round - 1) p).isSome = true) (fun i=>v.parents.length - i) 0 ⟨by simp,by simp⟩ (by simp only [hrl];rfl) ?_
 rintro i ⟨hi,hall⟩
 have hno:∀ p ∈ v.parents,s.at (v.round - 1) p = none → parG s v = false:=fun p hp h=>by
  rw [Bool.eq_false_iff]
  intro h2
  have:=List.all_eq_true.1 h2 p hp
  rw [h] at this
  cases this
 by_cases hlt:i < v.parents.length
 ·have hxe:v.parents[i]? = some v.parents[i]:=List.getElem?_eq_getElem hlt
  have h3:v.parents.take (i + 1) = v.parents.take i ++ [v.parents[i]]:=List.take_succ_eq_append_getElem hlt
  have h4:v.parents[i] ∈ v.parents:=List.getElem_mem hlt
  have hr0:v.round ≠ 0:=fun h=>by rw [v5 h] at hlt;simp at hlt
  have h1:vIn (v.round - 1) 0 30 = true:=vIn_iff.2 (by omega)
  have hlk:lnkS c s v (i + 1) = ⟨[(0,.ptr 4 0),(3,.ptr 6 0),(5,.ptr 7 0),(18,.lst (.int .i64) v.parents),(19,.int .i64 v.parents.length),(20,.int .i64 ((i + 1:Nat):Int))],gR c s ++ [(6,.var 39 (vtxA v).cells),(7,nodV v s.nodes.length (.ref 8)),(8,.row 148 (.hp 0) (((v.parents.take i).map fun p=>s.at (v.round - 1) p) ++ [s.at (v.round - 1) v.parents[i]]))],9⟩:=by
   rw [lnkS,parB,h3,List.map_append];rfl
  generalize v.parents[i] = p at *
  have h2:hasM c p = true:=vIn_iff.2 (by have:=hmi p h4;omega)
  have hl2:((v.parents.take i).map fun p=>s.at (v.round - 1) p).length = i:=by rw [List.length_map,List.length_take];omega
  cases h5:s.at (v.round - 1) p with
  | none=>
   have hin:(s.at (v.round - 1) p).isNone = true:=by rw [h5];rfl
   have hnn:=hno p h4 h5
   cases i with
   | zero=>
    have hx0:v.parents[(0:Int).toNat]? = some p:=hxe
    unfold lnkS
    (repeat (any_goals (first | refine stg ?_ | (refine go2 fun xe hxe=>?_;conv=>whnf) | ((with_reducible refine cnd_i (fun hq=>?_) fun hq=>?_) <;> (try simp only [hqs] at hq) <;> (first | omega | conv=>whnf)) | refine co (aty_cR c s (v.round - 1) p hs h7.2 h1 h2) ?_)))
    exact ⟨by rw [hnn],by rw [hnn];rfl⟩
   | succ i=>
    unfold lnkS
    (repeat (any_goals (first | refine stg ?_ | (refine go2 fun xe hxe=>?_;conv=>whnf) | ((with_reducible refine cnd_i (fun hq=>?_) fun hq=>?_) <;> (try simp only [hqs] at hq) <;> (first | omega | conv=>whnf)) | refine co (aty_cR c s (v.round - 1) p hs h7.2 h1 h2) ?_)))
    exact ⟨by rw [hnn],by rw [hnn];rfl⟩
  | some k=>
   have hin:(s.at (v.round - 1) p).isNone = false:=by rw [h5];rfl
   cases i with
   | zero=>
    have hx0:v.parents[(0:Int).toNat]? = some p:=hxe
    unfold lnkS
    (repeat (any_goals (first | refine stg ?_ | (refine go2 fun xe hxe=>?_;conv=>whnf) | ((with_reducible refine cnd_i (fun hq=>?_) fun hq=>?_) <;> (try simp only [hqs] at hq) <;> (first | omega | conv=>whnf)) | refine co (aty_cR c s (v.round - 1) p hs h7.2 h1 h2) ?_)))
    refine ⟨0 + 1,⟨by omega,by rw [h3];exact tk_snoc hall (by rw [h5];rfl)⟩,by omega,?_⟩
    refine Eq.trans ?_ hlk.symm
    rfl
   | succ i=>
    unfold lnkS
    simp only [parB]
    generalize (List.map (fun p=>s.at (v.round - 1) p) (List.take (i + 1) v.parents)) = ps at *
    (repeat (any_goals (first | refine stg ?_ | (refine go2 fun xe hxe=>?_;conv=>whnf) | ((with_reducible refine cnd_i (fun hq=>?_) fun hq=>?_) <;> (try simp only [hqs] at hq) <;> (first | omega | conv=>whnf)) | refine co (aty_cR c s (v.round - 1) p hs h7.2 h1 h2) ?_)))
    refine ⟨i + 1 + 1,⟨by omega,by rw [h3];exact tk_snoc hall (by rw [h5];rfl)⟩,by omega,?_⟩
    refine Eq.trans ?_ hlk.symm
    rfl
 ·rw [List.take_of_length_le (by omega)] at hall
  have hy:parG s v = true:=List.all_eq_true.2 hall
  have hpl:=plc_get hs (vIn_iff.2 v1) (a:=v.author) (by omega)
  cases i with
  | zero=>
   unfold lnkS
   simp only [gR]
   generalize hnr:(List.map some (List.range s.nodes.length)) = nr at *
   (repeat (any_goals (first | refine stg ?_ | (refine go2 fun xe hxe=>?_;conv=>whnf) | ((with_reducible refine cnd_i (fun hq=>?_) fun hq=>?_) <;> (try simp only [hqs] at hq) <;> (first | omega | conv=>whnf)))))
   rw [hy]
   refine ⟨rfl,?_⟩
   have e1:=nodes_row s v
   have e2:=gstep_plc s v ⟨v1.1,v2.1⟩
   simp only [if_true,gO]
   rw [← e1,← e2,hnr]
   have e3:v.parents = []:=List.length_eq_zero_iff.1 (by omega)
   have e4:(gstep s v).nodes = s.nodes ++ [⟨v,s.nodes.length,none⟩]:=by simp [gstep,e3]
   have e5:(gstep s v).rows = s.rows:=by simp [gstep,e3]
   rw [e4,e5]
  | succ i=>
   unfold lnkS
   simp only [parB]
   generalize hps:(List.map (fun p=>s.at (v.round - 1) p) (List.take (i + 1) v.parents)) = ps at *
   simp only [gR]
   generalize hnr:(List.map some (List.range s.nodes.length)) = nr at *
   (repeat (any_goals (first | refine stg ?_ | (refine go2 fun xe hxe=>?_;conv=>whnf) | ((with_reducible refine cnd_i (fun hq=>?_) fun hq=>?_) <;> (try simp only [hqs] at hq) <;> (first | omega | conv=>whnf)))))
   rw [hy]
   refine ⟨rfl,?_⟩
   have e1:=nodes_row s v
   have e2:=gstep_plc s v ⟨v1.1,v2.1⟩
   simp only [if_true,gO]
   rw [← e1,← e2,hnr]
   have e3:v.parents ≠ []:=fun h=>by rw [h] at hi;simp at hi
   rw [List.take_of_length_le (by omega)] at hps
   simp only [gstep,e3,if_false,hps]
theorem gs0_at (r a:Int):gs0.at r a = none:=by
 simp only [gs0,GS.at,List.getD_eq_getElem?_getD,List.getElem?_replicate]
 split <;> rfl
theorem parG0 (v:Vtx):parG gs0 v = v.parents.isEmpty:=by
 unfold parG
 cases v.parents with
 | nil=>rfl
 | cons p l=>simp [gs0_at]
theorem linkZ_c (c:List Int) (v:Vtx) (hc:comV c = true) (hv:vtxS c v = true):ConV Tryz.prog 126 [.ptr 4 0,vtxA v] (gZ c gs0) (.bool (parG gs0 v)) (if parG gs0 v then gR c (gstep gs0 v) else gZ c gs0):=by
 have h7:=(comV_iff.1 hc).2
 have hs:gs0.plc.length = 217:=List.length_replicate
 obtain ⟨v1,v2,v3,v4,v5,v6⟩:=vtxS_ok hv
 have hmi:=mems_in v3
 refine con_eq Θg_ok Tryz.func126 rfl rfl false 1 5 rfl rfl rfl rfl fun K hK hb1 hb2=>?_;simp only [argsV,enc,Nat.reduceAdd]
 clear hb1 hb2
 (repeat (any_goals (first | refine stg ?_ | (refine go2 fun xe hxe=>?_;conv=>whnf) | ((with_reducible refine cnd_i (fun hq=>?_) fun hq=>?_) <;> (try simp only [hqs] at hq) <;> (first | omega | conv=>whnf)))))
 refine at_loop hK [] [0,3,5,18,19,20] (fun i:Nat=>⟨[(0,.ptr 4 0),(3,.ptr 5 0),(5,.ptr 6 0),(18,.lst (.int .i64) v.parents),(19,.int .i64 v.parents.length),(20,.int .i64 0)],gZ c gs0 ++ [(5,.var 39 (vtxA v).cells),(6,nodV v 0 .nils)],7⟩) (fun i=>i = 0) (fun i=>i) 0 rfl (by simp only [List.length_nil];rfl) ?_
 rintro i rfl
 have hy:=parG0 v
 by_cases hlt:0 < v.parents.length
 ·have hxe:v.parents[0]? = some v.parents[0]:=List.getElem?_eq_getElem hlt
  have h4:v.parents[0] ∈ v.parents:=List.getElem_mem hlt
  have hr0:v.round ≠ 0:=fun h=>by rw [v5 h] at hlt;simp at hlt
  have h1:vIn (v.round - 1) 0 30 = true:=vIn_iff.2 (by omega)
  have hne:v.parents.isEmpty = false:=by cases h:v.parents with | nil=>rw [h] at hlt;simp at hlt | cons _ _=>rfl
  rw [hne] at hy
  rw [hy]
  generalize v.parents[0] = p at *
  have h2:hasM c p = true:=vIn_iff.2 (by have:=hmi p h4;omega)
  have hx0:v.parents[(0:Int).toNat]? = some p:=hxe
  have hin:(gs0.at (v.round - 1) p).isNone = true:=by rw [gs0_at];rfl
  (repeat (any_goals (first | refine stg ?_ | (refine go2 fun xe hxe=>?_;conv=>whnf) | ((with_reducible refine cnd_i (fun hq=>?_) fun hq=>?_) <;> (try simp only [hqs] at hq) <;> (first | omega | conv=>whnf)) | refine co (aty_cZ c gs0 (v.round - 1) p hs h7.2 h1 h2) ?_)))
  exact ⟨rfl,rfl⟩
 ·have e3:v.parents = []:=List.length_eq_zero_iff.1 (by omega)
  have hem:v.parents.isEmpty = true:=by rw [e3];rfl
  rw [hem] at hy
  rw [hy]
  have hpl:=plc_get hs (vIn_iff.2 v1) (a:=v.author) (by omega)
  have e2:=gstep_plc gs0 v ⟨v1.1,v2.1⟩
  have e4:(gstep gs0 v).nodes = [⟨v,0,none⟩]:=by simp [gstep,e3,gs0]
  have e5:(gstep gs0 v).rows = []:=by simp [gstep,e3,gs0]
  simp only [if_true,gR]
  rw [← e2,e4,e5]
  (repeat (any_goals (first | refine stg ?_ | (refine go2 fun xe hxe=>?_;conv=>whnf) | ((with_reducible refine cnd_i (fun hq=>?_) fun hq=>?_) <;> (try simp only [hqs] at hq) <;> (first | omega | conv=>whnf)))))
  exact ⟨rfl,rfl⟩
end Go.Proofs.YtjjddgpdoibcoaaGreatDoor.Am
namespace Go.Proofs.YtjjddgpdoibcoaaGreatDoor.Am
open Go
attribute [local irreducible] Mk Need Ari Get Idx Cnd CallM CallA Opt Unch At ConV
set_option maxRecDepth 10000
theorem parG_eq {c:List Int} {g:List Vtx} {v:Vtx} (hc:comV c = true) (hg:∀ u ∈ g,vtxS c u = true) (hv:vtxS c v = true):parG (gst g) v = parOK g v:=by
 obtain ⟨v1,v2,v3,v4,v5,v6⟩:=vtxS_ok hv
 have h7:=(comV_iff.1 hc).2
 unfold parG parOK
 rw [Bool.eq_iff_iff,List.all_eq_true,List.all_eq_true]
 have key:∀ p ∈ v.parents,((gst g).at (v.round - 1) p).isSome = hasV g (v.round - 1) p:=by
  intro p hp
  have hr0:v.round ≠ 0:=fun h=>by rw [v5 h] at hp;cases hp
  have:=mems_in v3 p hp
  exact (gst_at (fun u hu=>vtxS_tab hc (hg u hu)) (by omega) (by omega)).1
 constructor
 ·intro h p hp;rw [← key p hp];exact h p hp
 ·intro h p hp;rw [key p hp];exact h p hp
def lgS (c:List Int) (g:List Vtx):Nat → VSt
 | 0=>⟨[(0,.lst (.int .i64) c),(1,.lst .vtx g),(6,.ptr 4 0),(15,.lst .vtx g),(16,.int .i64 g.length),(17,.int .i64 0)],gZ c gs0,5⟩
 | i + 1=>⟨[(0,.lst (.int .i64) c),(1,.lst .vtx g),(6,.ptr 4 0),(15,.lst .vtx g),(16,.int .i64 g.length),(17,.int .i64 ((i + 1:Nat):Int))],gR c (gst (g.take (i + 1))),6⟩
def gF (c:List Int) (g:List Vtx):VH:=match g with | []=>gZ c gs0 | v :: l=>gR c (gst (v :: l))
def lgR (c:List Int) (g:List Vtx):V:=if graS c g then .tup [.ptr 4 0,.bool true] else .tup [.nilp,.bool false]
def lgO (c:List Int) (g:List Vtx):VH:=if graS c g then gF c g else []
theorem graI_no {c:List Int} {g:List Vtx} {i:Nat} (hi:i < g.length) (h:graAtI c g i = false):graS c g = false:=by
 unfold graS
 rw [← graI_eq,allTo_f hi h,Bool.and_false]
theorem graI_vtx {c:List Int} {g:List Vtx} {i:Nat} (h:∀ j,j < i → graAtI c g j = true):∀ u ∈ g.take i,vtxS c u = true:=by
 intro u hu
 obtain ⟨j,hj,rfl⟩:=mem_getD (d:=v0) hu
 rw [List.length_take] at hj
 have:=h j (by omega)
 simp only [graAtI,Bool.and_eq_true] at this
 rw [show (g.take i).getD j v0 = g.getD j v0 by simp only [List.getD_eq_getElem?_getD,List.getElem?_take,if_pos (show j < i by omega)]]
 exact this.1
theorem link_c (c:List Int) (g:List Vtx) (hl:g.length ≤ 2000000):ConV Tryz.prog 60 [.lst (.int .i64) c,.lst .vtx g] [] (lgR c g) (lgO c g):=by
 have hbad:graS c g = false → V.tup [.nilp,.bool false] = lgR c g ∧ ([]:VH) = lgO c g:=fun h=>by simp [lgR,lgO,h]
 refine con_eq Θg_ok Tryz.func60 rfl rfl false 0 4 rfl rfl rfl rfl fun K hK hb1 hb2=>?_;simp only [argsV,enc,Nat.reduceAdd]
 clear hb1 hb2
 cases hc:comV c
 ·(repeat (any_goals (first | refine stg ?_ | (refine go2 fun xe hxe=>?_;conv=>whnf) | ((with_reducible refine cnd_i (fun hq=>?_) fun hq=>?_) <;> (try simp only [hqs] at hq) <;> (first | omega | conv=>whnf)) | refine cr (icomV_c _) ?_)))
  exact hbad (by simp [graS,hc])
 (repeat (any_goals (first | refine stg ?_ | (refine go2 fun xe hxe=>?_;conv=>whnf) | ((with_reducible refine cnd_i (fun hq=>?_) fun hq=>?_) <;> (try simp only [hqs] at hq) <;> (first | omega | conv=>whnf)) | refine cr (icomV_c _) ?_)))
 refine at_tab 4 2 217 (.hp 0) ?_
 ((conv=>whnf);refine mk_i (by kernel_rfl) ?_;(conv=>whnf))
 refine at_fam 0 (.fvar 166 (.nod 1) []) rfl ?_
 refine at_fam 1 (.frow 148 (.hp 0) []) rfl ?_
 refine at_loop hK [] [0,1,6,15,16,17] (lgS c g) (fun i=>i ≤ g.length ∧ ∀ j,j < i → graAtI c g j = true) (fun i=>g.length - i) 0 ⟨by simp,by simp⟩ rfl ?_
 rintro i ⟨hi,hall⟩
 by_cases hlt:i < g.length
 ·have hxe:g[i]? = some g[i]:=List.getElem?_eq_getElem hlt
  have hA:graAtI c g i = (vtxS c g[i] && ((i == 0 || bef (g.getD (i - 1) v0) g[i]) && parOK (g.take i) g[i])):=by simp only [graAtI,getD_of hxe]
  have hno:graAtI c g i = false → V.tup [.nilp,.bool false] = lgR c g ∧ ([]:VH) = lgO c g:=fun h=>hbad (graI_no hlt h)
  have hgs:gst (g.take (i + 1)) = gstep (gst (g.take i)) g[i]:=by rw [List.take_succ_eq_append_getElem hlt,gst_snoc]
  have hgv:=graI_vtx hall
  have hys:graAtI c g i = true → ∀ j,j < i + 1 → graAtI c g j = true:=fun h=>all_step hall h
  generalize g[i] = v at *
  cases h1:vtxS c v
  ·have h2:(comV c && vtxS c v) = false:=by simp [h1]
   cases i with
   | zero=>
    have hx0:g[(0:Int).toNat]? = some v:=hxe
    unfold lgS
    (repeat (any_goals (first | refine stg ?_ | (refine go2 fun xe hxe=>?_;conv=>whnf) | ((with_reducible refine cnd_i (fun hq=>?_) fun hq=>?_) <;> (try simp only [hqs] at hq) <;> (first | omega | conv=>whnf)) | refine cr (ivtx_c _ _) ?_)))
    exact hno (by simp [hA,h1])
   | succ i=>
    unfold lgS
    (repeat (any_goals (first | refine stg ?_ | (refine go2 fun xe hxe=>?_;conv=>whnf) | ((with_reducible refine cnd_i (fun hq=>?_) fun hq=>?_) <;> (try simp only [hqs] at hq) <;> (first | omega | conv=>whnf)) | refine cr (ivtx_c _ _) ?_)))
    exact hno (by simp [hA,h1])
  have h2:(comV c && vtxS c v) = true:=by simp [h1,hc]
  have hpe:=parG_eq hc hgv h1
  cases i with
  | zero=>
   have hx0:g[(0:Int).toNat]? = some v:=hxe
   have hL:=linkZ_c c v hc h1
   have hpe:parG gs0 v = parOK (g.take 0) v:=hpe
   have hf1:famLen (VB.fvar 166 (.nod 1) gs0.nodes) ≤ famLen (VB.fvar 166 (.nod 1) (gstep gs0 v).nodes):=Nat.zero_le _
   have hf2:famLen (VB.frow 148 (.hp 0) gs0.rows) ≤ famLen (VB.frow 148 (.hp 0) (gstep gs0 v).rows):=Nat.zero_le _
   cases h3:parG gs0 v
   ·rw [h3] at hL
    simp only [Bool.false_eq_true,if_false] at hL
    unfold lgS
    (repeat (any_goals (first | refine stg ?_ | (refine go2 fun xe hxe=>?_;conv=>whnf) | ((with_reducible refine cnd_i (fun hq=>?_) fun hq=>?_) <;> (try simp only [hqs] at hq) <;> (first | omega | conv=>whnf)) | refine cr (ivtx_c _ _) ?_ | refine co (hL) ?_)))
    exact hno (by rw [hA,← hpe,h3];simp)
   ·rw [h3] at hL
    simp only [if_true] at hL
    unfold lgS
    (repeat (any_goals (first | refine stg ?_ | (refine go2 fun xe hxe=>?_;conv=>whnf) | ((with_reducible refine cnd_i (fun hq=>?_) fun hq=>?_) <;> (try simp only [hqs] at hq) <;> (first | omega | conv=>whnf)) | refine cr (ivtx_c _ _) ?_ | refine co (hL) ?_)))
    refine ⟨0 + 1,⟨by omega,hys (by rw [hA,← hpe,h3,h1];simp)⟩,by omega,?_⟩
    show _ = VSt.mk _ (gR c (gst (g.take (0 + 1)))) _
    rw [hgs]
    rfl
  | succ i=>
   have hgl:(gst (g.take (i + 1))).nodes.length ≤ 2000000:=by rw [(gst_len _).1,List.length_take];omega
   have hL:=linkR_c c (gst (g.take (i + 1))) v (gst_len _).2 hc h1 hgl
   have hye:g[(((i + 1:Nat):Int) - 1).toNat]? = some (g.getD (i + 1 - 1) v0):=by rw [show (((i + 1:Nat):Int) - 1).toNat = i by omega,List.getD_eq_getElem?_getD,List.getElem?_eq_getElem (show i < g.length by omega)];simp only [Nat.add_sub_cancel,List.getElem?_eq_getElem (show i < g.length by omega)];rfl
   generalize g.getD (i + 1 - 1) v0 = u at *
   have hst:lgS c g (i + 1) = ⟨[(0,.lst (.int .i64) c),(1,.lst .vtx g),(6,.ptr 4 0),(15,.lst .vtx g),(16,.int .i64 g.length),(17,.int .i64 ((i + 1:Nat):Int))],gR c (gst (g.take (i + 1))),6⟩:=rfl
   rw [hst]
   clear hst
   generalize gst (g.take (i + 1)) = s at *
   have hf1:famLen (VB.fvar 166 (.nod 1) s.nodes) ≤ famLen (VB.fvar 166 (.nod 1) (gstep s v).nodes):=by simp [famLen,gstep]
   have hf2:famLen (VB.frow 148 (.hp 0) s.rows) ≤ famLen (VB.frow 148 (.hp 0) (gstep s v).rows):=by simp only [famLen,gstep];split <;> simp
   cases h4:bef u v
   ·(repeat (any_goals (first | refine stg ?_ | (refine go2 fun xe hxe=>?_;conv=>whnf) | ((with_reducible refine cnd_i (fun hq=>?_) fun hq=>?_) <;> (try simp only [hqs] at hq) <;> (first | omega | conv=>whnf)) | refine cr (ivtx_c _ _) ?_ | refine cr (ibef_c _ _) ?_)))
    exact hno (by simp [hA,h1,h4])
   cases h3:parG s v
   ·rw [h3] at hL
    simp only [Bool.false_eq_true,if_false] at hL
    (repeat (any_goals (first | refine stg ?_ | (refine go2 fun xe hxe=>?_;conv=>whnf) | ((with_reducible refine cnd_i (fun hq=>?_) fun hq=>?_) <;> (try simp only [hqs] at hq) <;> (first | omega | conv=>whnf)) | refine cr (ivtx_c _ _) ?_ | refine cr (ibef_c _ _) ?_ | refine co (hL) ?_)))
    exact hno (by rw [hA,← hpe,h3];simp)
   ·rw [h3] at hL
    simp only [if_true] at hL
    (repeat (any_goals (first | refine stg ?_ | (refine go2 fun xe hxe=>?_;conv=>whnf) | ((with_reducible refine cnd_i (fun hq=>?_) fun hq=>?_) <;> (try simp only [hqs] at hq) <;> (first | omega | conv=>whnf)) | refine cr (ivtx_c _ _) ?_ | refine cr (ibef_c _ _) ?_ | refine co (hL) ?_)))
    refine ⟨i + 1 + 1,⟨by omega,hys (by rw [hA,← hpe,h3,h1,h4];simp)⟩,by omega,?_⟩
    show _ = VSt.mk _ (gR c (gst (g.take (i + 1 + 1)))) _
    rw [hgs]
    rfl
 ·have hg:graS c g = true:=by
   unfold graS
   rw [hc,← graI_eq,allTo_t (fun j hj=>hall j (by omega))]
   rfl
  have e1:lgR c g = .tup [.ptr 4 0,.bool true]:=by simp [lgR,hg]
  have e2:lgO c g = gF c g:=by simp [lgO,hg]
  rw [e1,e2]
  cases i with
  | zero=>
   have e3:g = []:=List.length_eq_zero_iff.1 (by omega)
   subst e3
   unfold lgS
   (repeat (any_goals (first | refine stg ?_ | (refine go2 fun xe hxe=>?_;conv=>whnf) | ((with_reducible refine cnd_i (fun hq=>?_) fun hq=>?_) <;> (try simp only [hqs] at hq) <;> (first | omega | conv=>whnf)))))
   exact ⟨rfl,rfl⟩
  | succ i=>
   have hst:lgS c g (i + 1) = ⟨[(0,.lst (.int .i64) c),(1,.lst .vtx g),(6,.ptr 4 0),(15,.lst .vtx g),(16,.int .i64 g.length),(17,.int .i64 ((i + 1:Nat):Int))],gR c (gst g),6⟩:=by rw [lgS,List.take_of_length_le (by omega)]
   rw [hst]
   cases g with
   | nil=>simp at hi
   | cons w g=>
    (repeat (any_goals (first | refine stg ?_ | (refine go2 fun xe hxe=>?_;conv=>whnf) | ((with_reducible refine cnd_i (fun hq=>?_) fun hq=>?_) <;> (try simp only [hqs] at hq) <;> (first | omega | conv=>whnf)))))
    exact ⟨rfl,rfl⟩
end Go.Proofs.YtjjddgpdoibcoaaGreatDoor.Am
namespace Go.Proofs.YtjjddgpdoibcoaaGreatDoor.Am
open Go
attribute [local irreducible] Mk Need Ari Get Idx Cnd CallM CallA Opt Unch At ConV
set_option maxRecDepth 10000
theorem authG_eq {c:List Int} {g:List Vtx} (h:GraOK c g) (r:Int):authG (gst g) r c.length = auth g r:=by
 rw [← authI_eq h r]
 unfold authG authI
 congr 1
 refine List.filter_congr fun a ha=>?_
 have h7:=(comV_iff.1 h.com).2
 have ha:=List.mem_range.1 ha
 cases h1:vIn r 0 30
 ·rw [Bool.false_and]
  symm
  rw [Bool.eq_false_iff]
  intro h2
  obtain ⟨v,hv,hr,-⟩:=hasV_iff.1 h2
  have:=(vtxS_ok (h.vtx v hv)).1
  rw [hr] at this
  rw [vIn_iff.2 this] at h1
  cases h1
 ·rw [Bool.true_and]
  exact (gst_at (fun u hu=>vtxS_tab h.com (h.vtx u hu)) (vIn_iff.1 h1) (by omega)).1
theorem ihgt_cR (c:List Int) (g:List Vtx) (h:GraOK c g):ConV Tryz.prog 61 [.ptr 4 0] (gR c (gst g)) (.int .i64 (hgt c g)) (gR c (gst g)):=by
 have h7:=(comV_iff.1 h.com).2
 have hs:=(gst_len g).2
 refine con_eq Θg_ok Tryz.func61 rfl rfl false 2 6 rfl rfl rfl rfl fun K hK hb1 hb2=>?_;simp only [argsV,enc,Nat.reduceAdd]
 clear hb1 hb2
 (repeat (any_goals (first | refine stg ?_ | (refine go2 fun xe hxe=>?_;conv=>whnf) | ((with_reducible refine cnd_i (fun hq=>?_) fun hq=>?_) <;> (try simp only [hqs] at hq) <;> (first | omega | conv=>whnf)))))
 refine at_loop hK [] [0,3] (fun k:Int=>⟨[(0,.ptr 4 0),(3,.int .i64 k)],gR c (gst g),6⟩) (fun k=>(-1 ≤ k ∧ k ≤ 30) ∧ hgt c g = hgtTo c g (k + 1).toNat) (fun k=>(k + 1).toNat) 30 ⟨by simp,rfl⟩ rfl ?_
 rintro k ⟨hi,hh⟩
 by_cases hk:k < 0
 ·(repeat (any_goals (first | refine stg ?_ | (refine go2 fun xe hxe=>?_;conv=>whnf) | ((with_reducible refine cnd_i (fun hq=>?_) fun hq=>?_) <;> (try simp only [hqs] at hq) <;> (first | omega | conv=>whnf)))))
  rw [show (k + 1).toNat = 0 by omega] at hh
  exact ⟨by rw [hh];rfl,rfl⟩
 ·have h1:=auth_mems h k
  have h2:=mems_len h1
  have ha:=iauth_cR c (gst g) k hs h7.2
  rw [authG_eq h k] at ha
  have h4:hgtTo c g (k.toNat + 1) = if quo c ≤ wei c (auth g k.toNat) then (k.toNat:Int) else hgtTo c g k.toNat:=rfl
  rw [show ((k.toNat:Nat):Int) = k by omega] at h4
  rw [show (k + 1).toNat = k.toNat + 1 by omega,h4] at hh
  by_cases h5:quo c ≤ wei c (auth g k)
  ·rw [if_pos h5] at hh
   (repeat (any_goals (first | refine stg ?_ | (refine go2 fun xe hxe=>?_;conv=>whnf) | ((with_reducible refine cnd_i (fun hq=>?_) fun hq=>?_) <;> (try simp only [hqs] at hq) <;> (first | omega | conv=>whnf)) | refine cr (iquo_c _ h.com) ?_ | ((with_reducible refine call_r ?_);(conv=>whnf);(first | with_reducible refine call_i (iwei_c _ _ h.com (mems_in h1) (by omega)) ?_);conv=>whnf) | refine co (ha) ?_)))
   exact ⟨by rw [hh],rfl⟩
  ·rw [if_neg h5] at hh
   (repeat (any_goals (first | refine stg ?_ | (refine go2 fun xe hxe=>?_;conv=>whnf) | ((with_reducible refine cnd_i (fun hq=>?_) fun hq=>?_) <;> (try simp only [hqs] at hq) <;> (first | omega | conv=>whnf)) | refine cr (iquo_c _ h.com) ?_ | ((with_reducible refine call_r ?_);(conv=>whnf);(first | with_reducible refine call_i (iwei_c _ _ h.com (mems_in h1) (by omega)) ?_);conv=>whnf) | refine co (ha) ?_)))
   exact ⟨k - 1,⟨by omega,by rw [hh];congr 1;omega⟩,by omega,rfl⟩
theorem ihgt_cZ (c:List Int) (g:List Vtx) (h:GraOK c g):ConV Tryz.prog 61 [.ptr 4 0] (gZ c (gst g)) (.int .i64 (hgt c g)) (gZ c (gst g)):=by
 have h7:=(comV_iff.1 h.com).2
 have hs:=(gst_len g).2
 refine con_eq Θg_ok Tryz.func61 rfl rfl false 1 5 rfl rfl rfl rfl fun K hK hb1 hb2=>?_;simp only [argsV,enc,Nat.reduceAdd]
 clear hb1 hb2
 (repeat (any_goals (first | refine stg ?_ | (refine go2 fun xe hxe=>?_;conv=>whnf) | ((with_reducible refine cnd_i (fun hq=>?_) fun hq=>?_) <;> (try simp only [hqs] at hq) <;> (first | omega | conv=>whnf)))))
 refine at_loop hK [] [0,3] (fun k:Int=>⟨[(0,.ptr 4 0),(3,.int .i64 k)],gZ c (gst g),5⟩) (fun k=>(-1 ≤ k ∧ k ≤ 30) ∧ hgt c g = hgtTo c g (k + 1).toNat) (fun k=>(k + 1).toNat) 30 ⟨by simp,rfl⟩ rfl ?_
 rintro k ⟨hi,hh⟩
 by_cases hk:k < 0
 ·(repeat (any_goals (first | refine stg ?_ | (refine go2 fun xe hxe=>?_;conv=>whnf) | ((with_reducible refine cnd_i (fun hq=>?_) fun hq=>?_) <;> (try simp only [hqs] at hq) <;> (first | omega | conv=>whnf)))))
  rw [show (k + 1).toNat = 0 by omega] at hh
  exact ⟨by rw [hh];rfl,rfl⟩
 ·have h1:=auth_mems h k
  have h2:=mems_len h1
  have ha:=iauth_cZ c (gst g) k hs h7.2
  rw [authG_eq h k] at ha
  have h4:hgtTo c g (k.toNat + 1) = if quo c ≤ wei c (auth g k.toNat) then (k.toNat:Int) else hgtTo c g k.toNat:=rfl
  rw [show ((k.toNat:Nat):Int) = k by omega] at h4
  rw [show (k + 1).toNat = k.toNat + 1 by omega,h4] at hh
  by_cases h5:quo c ≤ wei c (auth g k)
  ·rw [if_pos h5] at hh
   (repeat (any_goals (first | refine stg ?_ | (refine go2 fun xe hxe=>?_;conv=>whnf) | ((with_reducible refine cnd_i (fun hq=>?_) fun hq=>?_) <;> (try simp only [hqs] at hq) <;> (first | omega | conv=>whnf)) | refine cr (iquo_c _ h.com) ?_ | ((with_reducible refine call_r ?_);(conv=>whnf);(first | with_reducible refine call_i (iwei_c _ _ h.com (mems_in h1) (by omega)) ?_);conv=>whnf) | refine co (ha) ?_)))
   exact ⟨by rw [hh],rfl⟩
  ·rw [if_neg h5] at hh
   (repeat (any_goals (first | refine stg ?_ | (refine go2 fun xe hxe=>?_;conv=>whnf) | ((with_reducible refine cnd_i (fun hq=>?_) fun hq=>?_) <;> (try simp only [hqs] at hq) <;> (first | omega | conv=>whnf)) | refine cr (iquo_c _ h.com) ?_ | ((with_reducible refine call_r ?_);(conv=>whnf);(first | with_reducible refine call_i (iwei_c _ _ h.com (mems_in h1) (by omega)) ?_);conv=>whnf) | refine co (ha) ?_)))
   exact ⟨k - 1,⟨by omega,by rw [hh];congr 1;omega⟩,by omega,rfl⟩
theorem gst_node {g:List Vtx}:∀ {i:Nat} {v:Vtx},g[i]? = some v → ∃ p,(gst g).nodes[i]? = some ⟨v,i,p⟩:=by
 induction g using snoc_ind with
 | h0=>intro i v h;simp at h
 | h l x ih=>
  intro i v h
  rw [gst_snoc]
  have hl:=(gst_len l).1
  rcases Nat.lt_or_ge i l.length with hlt | hge
  ·rw [List.getElem?_append_left hlt] at h
   obtain ⟨p,hp⟩:=ih h
   refine ⟨p,?_⟩
   simp only [gstep]
   rw [List.getElem?_append_left (by omega)]
   exact hp
  ·have he:i = l.length:=by have:=(List.getElem?_eq_some_iff.1 h).1;simp at this;omega
   subst he
   rw [List.getElem?_append_right (Nat.le_refl _)] at h
   simp at h
   subst h
   simp only [gstep]
   rw [← hl,List.getElem?_append_right (Nat.le_refl _)]
   simp
end Go.Proofs.YtjjddgpdoibcoaaGreatDoor.Am
namespace Go.Proofs.YtjjddgpdoibcoaaGreatDoor.Am
open Go
attribute [local irreducible] Mk Need Ari Get Idx Cnd CallM CallA Opt Unch At ConV
set_option maxRecDepth 10000
theorem lea_c (c l:List Int):ConV Tryz.prog 187 [.lst (.int .i64) c,.lst (.int .i64) l] [] (.bool (leaS c l)) []:=by
 refine con_eq Θ_ok Tryz.func187 rfl rfl false 0 4 rfl rfl rfl rfl fun K hK hb1 hb2=>?_;simp only [argsV,enc,Nat.reduceAdd]
 simp [toDL,V.toD,bnd,encD,D.cells] at hb1
 (repeat (any_goals (first | refine st ?_ | (refine go2 fun xe hxe=>?_;conv=>whnf) | ((with_reducible refine cnd_i (fun hq=>?_) fun hq=>?_) <;> (try simp only [hqs] at hq) <;> (first | omega | conv=>whnf)))))
 refine at_loop hK [] [0,1,5] (fun i:Nat=>⟨[(0,.lst (.int .i64) c),(1,.lst (.int .i64) l),(5,.int .i64 i)],[],4⟩) (fun i=>i ≤ l.length ∧ ∀ j,j < i → hasM c (l.getD j 0) = true) (fun i=>l.length - i) 0 ⟨by simp,by simp⟩ rfl ?_
 rintro i ⟨hi,hall⟩
 by_cases hlt:i < l.length
 ·have hxe:l[i]? = some l[i]:=List.getElem?_eq_getElem hlt
  have hno:hasM c l[i] = false → leaS c l = false:=fun h=>by
   unfold leaS
   rw [allTo_f hlt (by rw [getD_of hxe];exact h),Bool.false_and]
  have hys:=all_step hall (p:=fun j=>hasM c (l.getD j 0)) (i:=i)
  simp only [getD_of hxe] at hys
  generalize l[i] = m at *
  (repeat (any_goals (first | refine st ?_ | (refine go2 fun xe hxe=>?_;conv=>whnf) | ((with_reducible refine cnd_i (fun hq=>?_) fun hq=>?_) <;> (try simp only [hqs] at hq) <;> (first | omega | conv=>whnf)) | refine cr (in_c _ _ _) ?_)))
  ·rw [hno hq]
   exact ⟨rfl,rfl⟩
  ·exact ⟨i + 1,⟨by omega,hys hq⟩,by omega,rfl⟩
 ·(repeat (any_goals (first | refine st ?_ | (refine go2 fun xe hxe=>?_;conv=>whnf) | ((with_reducible refine cnd_i (fun hq=>?_) fun hq=>?_) <;> (try simp only [hqs] at hq) <;> (first | omega | conv=>whnf)))))
  unfold leaS
  rw [allTo_t (fun j hj=>hall j (by omega)),Bool.true_and]
  exact ⟨rfl,rfl⟩
theorem leaV_c (c l:List Int):ConV Tryz.prog 133 [.lst (.int .i64) c,.lst (.int .i64) l] [] (.bool (comV c && leaS c l)) []:=by
 refine con_eq Θ_ok Tryz.func133 rfl rfl false 0 4 rfl rfl rfl rfl fun K hK hb1 hb2=>?_;simp only [argsV,enc,Nat.reduceAdd]
 (repeat (any_goals (first | refine st ?_ | (refine go2 fun xe hxe=>?_;conv=>whnf) | ((with_reducible refine cnd_i (fun hq=>?_) fun hq=>?_) <;> (try simp only [hqs] at hq) <;> (first | omega | conv=>whnf)) | refine cr (comV_c _) ?_ | refine cr (lea_c _ _) ?_)))
 all_goals (refine ⟨?_,rfl⟩;simp_all)
theorem ileaV_c (c l:List Int):ConV Tryz.prog 96 [.lst (.int .i64) c,.lst (.int .i64) l] [] (.bool (comV c && leaS c l)) []:=by
 refine con_eq Θ_ok Tryz.func96 rfl rfl false 0 4 rfl rfl rfl rfl fun K hK hb1 hb2=>?_;simp only [argsV,enc,Nat.reduceAdd]
 simp [toDL,V.toD,bnd,encD,D.cells] at hb1
 cases hc:comV c
 ·(repeat (any_goals (first | refine st ?_ | (refine go2 fun xe hxe=>?_;conv=>whnf) | ((with_reducible refine cnd_i (fun hq=>?_) fun hq=>?_) <;> (try simp only [hqs] at hq) <;> (first | omega | conv=>whnf)) | refine cr (icomV_c _) ?_)))
  exact ⟨rfl,rfl⟩
 rw [Bool.true_and]
 by_cases h15:15 < (l.length:Int)
 ·(repeat (any_goals (first | refine st ?_ | (refine go2 fun xe hxe=>?_;conv=>whnf) | ((with_reducible refine cnd_i (fun hq=>?_) fun hq=>?_) <;> (try simp only [hqs] at hq) <;> (first | omega | conv=>whnf)) | refine cr (icomV_c _) ?_)))
  unfold leaS
  rw [decide_eq_false (by omega),Bool.and_false]
  exact ⟨rfl,rfl⟩
 (repeat (any_goals (first | refine st ?_ | (refine go2 fun xe hxe=>?_;conv=>whnf) | ((with_reducible refine cnd_i (fun hq=>?_) fun hq=>?_) <;> (try simp only [hqs] at hq) <;> (first | omega | conv=>whnf)) | refine cr (icomV_c _) ?_)))
 refine at_loop hK [] [0,15,16,17] (fun i:Nat=>⟨[(0,.lst (.int .i64) c),(15,.lst (.int .i64) l),(16,.int .i64 l.length),(17,.int .i64 i)],[],4⟩) (fun i=>i ≤ l.length ∧ ∀ j,j < i → hasM c (l.getD j 0) = true) (fun i=>l.length - i) 0 ⟨by simp,by simp⟩ rfl ?_
 rintro i ⟨hi,hall⟩
 by_cases hlt:i < l.length
 ·have hxe:l[i]? = some l[i]:=List.getElem?_eq_getElem hlt
  have hno:hasM c l[i] = false → leaS c l = false:=fun h=>by
   unfold leaS
   rw [allTo_f hlt (by rw [getD_of hxe];exact h),Bool.false_and]
  have hys:=all_step hall (p:=fun j=>hasM c (l.getD j 0)) (i:=i)
  simp only [getD_of hxe] at hys
  generalize l[i] = m at *
  (repeat (any_goals (first | refine st ?_ | (refine go2 fun xe hxe=>?_;conv=>whnf) | ((with_reducible refine cnd_i (fun hq=>?_) fun hq=>?_) <;> (try simp only [hqs] at hq) <;> (first | omega | conv=>whnf)) | refine cr (ihas_c _ _) ?_)))
  ·rw [hno hq]
   exact ⟨rfl,rfl⟩
  ·exact ⟨i + 1,⟨by omega,hys hq⟩,by omega,rfl⟩
 ·(repeat (any_goals (first | refine st ?_ | (refine go2 fun xe hxe=>?_;conv=>whnf) | ((with_reducible refine cnd_i (fun hq=>?_) fun hq=>?_) <;> (try simp only [hqs] at hq) <;> (first | omega | conv=>whnf)))))
  unfold leaS
  rw [allTo_t (fun j hj=>hall j (by omega)),Bool.true_and,decide_eq_true (by omega)]
  exact ⟨rfl,rfl⟩
theorem ifau_c (c:List Int) (hc:comV c = true):ConV Tryz.prog 158 [.lst (.int .i64) c] [] (.int .i64 (fau c)) []:=by
 have h1:=tot_bd hc
 have h2:=fau_bd hc
 have h3:(tot c - 1).tdiv 3 = fau c:=rfl
 refine con_eq Θ_ok Tryz.func158 rfl rfl false 0 4 rfl rfl rfl rfl fun K hK hb1 hb2=>?_;simp only [argsV,enc,Nat.reduceAdd]
 (repeat (any_goals (first | refine st ?_ | (refine go2 fun xe hxe=>?_;conv=>whnf) | ((with_reducible refine cnd_i (fun hq=>?_) fun hq=>?_) <;> (try simp only [hqs] at hq) <;> (first | omega | conv=>whnf)) | refine cr (itot_c _ hc) ?_)))
 exact ⟨rfl,rfl⟩
theorem isBad_c (c:List Int) (b:Int) (hc:comV c = true):ConV Tryz.prog 97 [.lst (.int .i64) c,.int .i64 b] [] (.bool (badS c b)) []:=by
 refine con_eq Θ_ok Tryz.func97 rfl rfl false 0 4 rfl rfl rfl rfl fun K hK hb1 hb2=>?_;simp only [argsV,enc,Nat.reduceAdd]
 clear hb1 hb2
 cases h0:b == -1
 ·have hne:b ≠ -1:=by simpa using h0
  cases h1:hasM c b
  ·have:badS c b = false:=by
    rw [Bool.eq_false_iff]
    intro h
    rcases badS_iff.1 h with h | h
    ·exact hne h
    ·rw [hasM,vIn_iff.2 (by omega)] at h1;cases h1
   rw [this]
   (repeat (any_goals (first | refine st ?_ | (refine go2 fun xe hxe=>?_;conv=>whnf) | ((with_reducible refine cnd_i (fun hq=>?_) fun hq=>?_) <;> (try simp only [hqs] at hq) <;> (first | omega | conv=>whnf)) | refine cr (ihas_c _ _) ?_)))
   exact ⟨rfl,rfl⟩
  ·have hm:=vIn_iff.1 h1
   have hx2:c[b.toNat]? = some (c.getD b.toNat 0):=by rw [List.getD_eq_getElem?_getD,List.getElem?_eq_getElem (show b.toNat < c.length by omega)];rfl
   have hb:badS c b = decide (c.getD b.toNat 0 ≤ fau c):=by
    rw [Bool.eq_iff_iff,badS_iff,decide_eq_true_eq]
    constructor
    ·rintro (h | ⟨-,h⟩)
     ·exact absurd h hne
     ·exact h
    ·intro h;exact .inr ⟨by omega,h⟩
   rw [hb]
   generalize c.getD b.toNat 0 = x at *
   (repeat (any_goals (first | refine st ?_ | (refine go2 fun xe hxe=>?_;conv=>whnf) | ((with_reducible refine cnd_i (fun hq=>?_) fun hq=>?_) <;> (try simp only [hqs] at hq) <;> (first | omega | conv=>whnf)) | refine cr (ihas_c _ _) ?_ | refine cr (ifau_c _ hc) ?_)))
   exact ⟨rfl,rfl⟩
 ·have hb:b = -1:=by simpa using h0
  have:badS c b = true:=badS_iff.2 (.inl hb)
  rw [this]
  (repeat (any_goals (first | refine st ?_ | (refine go2 fun xe hxe=>?_;conv=>whnf) | ((with_reducible refine cnd_i (fun hq=>?_) fun hq=>?_) <;> (try simp only [hqs] at hq) <;> (first | omega | conv=>whnf)) | refine cr (ihas_c _ _) ?_ | refine cr (ifau_c _ hc) ?_)))
  all_goals exact ⟨rfl,rfl⟩
abbrev pplA (p:Ppl):V:=.agg [.int .i64 p.v.round,.int .i64 p.v.author,.lst (.int .i64) p.v.parents,.int .i64 p.v.digest,.lst (.int .i64) p.members]
theorem icert_c (c:List Int) (p:Ppl) (hc:comV c = true) (hm:mems c p.members = true):ConV Tryz.prog 164 [pplA p,.lst (.int .i64) c] [] (.bool (don c p)) []:=by
 have hw:weiV c p.members = wei c p.members:=by simp [weiV,hc,hm]
 have hwc:=iweiV_c c p.members
 have hqc:=icquo_c c
 rw [hw] at hwc
 rw [hc] at hqc
 refine con_eq Θ_ok Tryz.func164 rfl rfl false 0 4 rfl rfl rfl rfl fun K hK hb1 hb2=>?_;simp only [argsV,enc,Nat.reduceAdd]
 (repeat (any_goals (first | refine st ?_ | (refine go2 fun xe hxe=>?_;conv=>whnf) | ((with_reducible refine cnd_i (fun hq=>?_) fun hq=>?_) <;> (try simp only [hqs] at hq) <;> (first | omega | conv=>whnf)) | refine cr (hwc) ?_ | refine cr (hqc) ?_)))
 exact ⟨rfl,rfl⟩
theorem islt_c (v u:Vtx):ConV Tryz.prog 174 [vtxA v,vtxA u] [] (.bool (slt v u)) []:=by
 refine con_eq Θ_ok Tryz.func174 rfl rfl false 0 4 rfl rfl rfl rfl fun K hK hb1 hb2=>?_;simp only [argsV,enc,Nat.reduceAdd]
 (repeat (any_goals (first | refine st ?_ | (refine go2 fun xe hxe=>?_;conv=>whnf) | ((with_reducible refine cnd_i (fun hq=>?_) fun hq=>?_) <;> (try simp only [hqs] at hq) <;> (first | omega | conv=>whnf)))))
 all_goals (refine ⟨?_,rfl⟩;simp_all [slt])
theorem slEq_c (a b:List Int):ConV Tryz.prog 200 [.lst (.int .i64) a,.lst (.int .i64) b] [] (.bool (a == b)) []:=by
 refine con_eq Θ_ok Tryz.func200 rfl rfl false 0 4 rfl rfl rfl rfl fun K hK hb1 hb2=>?_;simp only [argsV,enc,Nat.reduceAdd]
 simp [toDL,V.toD,bnd,encD,D.cells] at hb1
 by_cases hl:a.length = b.length
 ·(repeat (any_goals (first | refine st ?_ | (refine go2 fun xe hxe=>?_;conv=>whnf) | ((with_reducible refine cnd_i (fun hq=>?_) fun hq=>?_) <;> (try simp only [hqs] at hq) <;> (first | omega | conv=>whnf)))))
  refine at_loop hK [] [0,1,11,12,13] (fun i:Nat=>⟨[(0,.lst (.int .i64) a),(1,.lst (.int .i64) b),(11,.lst (.int .i64) a),(12,.int .i64 a.length),(13,.int .i64 i)],[],4⟩) (fun i=>i ≤ a.length ∧ a.take i = b.take i) (fun i=>a.length - i) 0 ⟨by simp,by simp⟩ rfl ?_
  rintro i ⟨hi,hall⟩
  by_cases hlt:i < a.length
  ·obtain ⟨x,hx⟩:∃ x,a[i]? = some x:=⟨_,List.getElem?_eq_getElem hlt⟩
   obtain ⟨y,hy⟩:∃ y,b[i]? = some y:=⟨_,List.getElem?_eq_getElem (by omega)⟩
   (repeat (any_goals (first | refine st ?_ | (refine go2 fun xe hxe=>?_;conv=>whnf) | ((with_reducible refine cnd_i (fun hq=>?_) fun hq=>?_) <;> (try simp only [hqs] at hq) <;> (first | omega | conv=>whnf)))))
   ·have hne:¬ x = y:=hq
    have:(a == b) = false:=by rw [beq_eq_false_iff_ne];rintro rfl;rw [hx] at hy;exact hne (Option.some.inj hy)
    rw [this]
    exact ⟨rfl,rfl⟩
   ·subst hq
    exact ⟨i + 1,⟨by omega,by rw [List.take_add_one,List.take_add_one,hall,hx,hy]⟩,by omega,rfl⟩
  ·(repeat (any_goals (first | refine st ?_ | (refine go2 fun xe hxe=>?_;conv=>whnf) | ((with_reducible refine cnd_i (fun hq=>?_) fun hq=>?_) <;> (try simp only [hqs] at hq) <;> (first | omega | conv=>whnf)))))
   have hab:a = b:=by rwa [List.take_of_length_le (by omega),List.take_of_length_le (by omega)] at hall
   rw [hab,beq_self_eq_true]
   exact ⟨rfl,rfl⟩
 ·(repeat (any_goals (first | refine st ?_ | (refine go2 fun xe hxe=>?_;conv=>whnf) | ((with_reducible refine cnd_i (fun hq=>?_) fun hq=>?_) <;> (try simp only [hqs] at hq) <;> (first | omega | conv=>whnf)))))
  have:(a == b) = false:=by rw [beq_eq_false_iff_ne];rintro rfl;exact hl rfl
  rw [this]
  exact ⟨rfl,rfl⟩
theorem ivEq_c (v u:Vtx):ConV Tryz.prog 163 [vtxA v,vtxA u] [] (.bool (vEq v u)) []:=by
 refine con_eq Θ_ok Tryz.func163 rfl rfl false 0 4 rfl rfl rfl rfl fun K hK hb1 hb2=>?_;simp only [argsV,enc,Nat.reduceAdd]
 (repeat (any_goals (first | refine st ?_ | (refine go2 fun xe hxe=>?_;conv=>whnf) | ((with_reducible refine cnd_i (fun hq=>?_) fun hq=>?_) <;> (try simp only [hqs] at hq) <;> (first | omega | conv=>whnf)) | refine cr (slEq_c _ _) ?_)))
 all_goals (refine ⟨?_,rfl⟩;simp_all [vEq])
theorem slIdx_c (l:List Int) (n:Int):ConV Tryz.prog 209 [.lst (.int .i64) l,.int .i64 n] [] (.int .i64 (match l.findIdx? (· == n) with | some i=>(i:Int) | none=>-1)) []:=by
 refine con_eq Θ_ok Tryz.func209 rfl rfl false 0 4 rfl rfl rfl rfl fun K hK hb1 hb2=>?_;simp only [argsV,enc,Nat.reduceAdd]
 simp [toDL,V.toD,bnd,encD,D.cells] at hb1
 (repeat (any_goals (first | refine st ?_ | (refine go2 fun xe hxe=>?_;conv=>whnf) | ((with_reducible refine cnd_i (fun hq=>?_) fun hq=>?_) <;> (try simp only [hqs] at hq) <;> (first | omega | conv=>whnf)))))
 refine at_loop hK [] [0,1,7,8] (fun i:Nat=>⟨[(0,.lst (.int .i64) l),(1,.int .i64 n),(7,.int .i64 l.length),(8,.int .i64 i)],[],4⟩) (fun i=>i ≤ l.length ∧ ∀ y ∈ l.take i,(y == n) = false) (fun i=>l.length - i) 0 ⟨by simp,by simp⟩ rfl ?_
 rintro i ⟨hi,hall⟩
 by_cases hlt:i < l.length
 ·have hxe:l[i]? = some l[i]:=List.getElem?_eq_getElem hlt
  have h3:l.take (i + 1) = l.take i ++ [l[i]]:=List.take_succ_eq_append_getElem hlt
  have h4:=find_at (l:=l) (p:=(· == n)) hxe hall
  generalize l[i] = y at *
  by_cases he:n = y
  ·have hb:(n == y) = true:=by simpa using he
   (repeat (any_goals (first | refine st ?_ | (refine go2 fun xe hxe=>?_;conv=>whnf) | ((with_reducible refine cnd_i (fun hq=>?_) fun hq=>?_) <;> (try simp only [hqs] at hq) <;> (first | omega | conv=>whnf)))))
   rw [h4 (by simpa using he.symm)]
   exact ⟨rfl,rfl⟩
  ·have hb:(n == y) = false:=by simpa using he
   (repeat (any_goals (first | refine st ?_ | (refine go2 fun xe hxe=>?_;conv=>whnf) | ((with_reducible refine cnd_i (fun hq=>?_) fun hq=>?_) <;> (try simp only [hqs] at hq) <;> (first | omega | conv=>whnf)))))
   exact ⟨i + 1,⟨by omega,by rw [h3];exact tk_snoc hall (by simpa using fun h=>he h.symm)⟩,by omega,rfl⟩
 ·(repeat (any_goals (first | refine st ?_ | (refine go2 fun xe hxe=>?_;conv=>whnf) | ((with_reducible refine cnd_i (fun hq=>?_) fun hq=>?_) <;> (try simp only [hqs] at hq) <;> (first | omega | conv=>whnf)))))
  rw [List.take_of_length_le (by omega)] at hall
  rw [List.findIdx?_eq_none_iff.2 hall]
  exact ⟨rfl,rfl⟩
theorem slCon_c (l:List Int) (n:Int):ConV Tryz.prog 175 [.lst (.int .i64) l,.int .i64 n] [] (.bool (l.contains n)) []:=by
 refine con_eq Θ_ok Tryz.func175 rfl rfl false 0 4 rfl rfl rfl rfl fun K hK hb1 hb2=>?_;simp only [argsV,enc,Nat.reduceAdd]
 (repeat (any_goals (first | refine st ?_ | (refine go2 fun xe hxe=>?_;conv=>whnf) | ((with_reducible refine cnd_i (fun hq=>?_) fun hq=>?_) <;> (try simp only [hqs] at hq) <;> (first | omega | conv=>whnf)) | refine cr (slIdx_c _ _) ?_)))
 refine ⟨?_,rfl⟩
 have:l.contains n = (l.findIdx? (· == n)).isSome:=by
  rw [List.findIdx?_isSome,Bool.eq_iff_iff,List.contains_iff_mem,List.any_eq_true]
  constructor
  ·intro h;exact ⟨n,h,by simp⟩
  ·rintro ⟨x,h1,h2⟩;rw [beq_iff_eq] at h2;exact h2 ▸ h1
 rw [this]
 cases l.findIdx? (· == n) with
 | none=>rfl
 | some i=>simp
theorem icomp_c (p q:Ppl) (bad:Int):ConV Tryz.prog 159 [pplA p,pplA q,.int .i64 bad] [] (.bool (fitP bad p q)) []:=by
 refine con_eq Θ_ok Tryz.func159 rfl rfl false 0 4 rfl rfl rfl rfl fun K hK hb1 hb2=>?_;simp only [argsV,enc,Nat.reduceAdd]
 simp [toDL,V.toD,bnd,encD,D.cells] at hb1
 cases h1:slt p.v q.v
 ·have:fitP bad p q = true:=by simp [fitP,h1]
  rw [this]
  (repeat (any_goals (first | refine st ?_ | (refine go2 fun xe hxe=>?_;conv=>whnf) | ((with_reducible refine cnd_i (fun hq=>?_) fun hq=>?_) <;> (try simp only [hqs] at hq) <;> (first | omega | conv=>whnf)) | refine cr (islt_c _ _) ?_ | refine cr (ivEq_c _ _) ?_ | refine cr (slCon_c _ _) ?_)))
  exact ⟨rfl,rfl⟩
 cases h2:vEq p.v q.v
 ·cases h3:p.v.author == bad
  ·have:fitP bad p q = false:=by simp [fitP,h1,h2,h3]
   rw [this]
   have hn:(p.v.author != bad) = true:=by rw [bne,h3];rfl
   (repeat (any_goals (first | refine st ?_ | (refine go2 fun xe hxe=>?_;conv=>whnf) | ((with_reducible refine cnd_i (fun hq=>?_) fun hq=>?_) <;> (try simp only [hqs] at hq) <;> (first | omega | conv=>whnf)) | refine cr (islt_c _ _) ?_ | refine cr (ivEq_c _ _) ?_ | refine cr (slCon_c _ _) ?_)))
   exact ⟨rfl,rfl⟩
  ·have hf:fitP bad p q = !both bad p.members q.members:=by simp [fitP,h1,h2,h3]
   rw [hf]
   have hn:(p.v.author != bad) = false:=by rw [bne,h3];rfl
   (repeat (any_goals (first | refine st ?_ | (refine go2 fun xe hxe=>?_;conv=>whnf) | ((with_reducible refine cnd_i (fun hq=>?_) fun hq=>?_) <;> (try simp only [hqs] at hq) <;> (first | omega | conv=>whnf)) | refine cr (islt_c _ _) ?_ | refine cr (ivEq_c _ _) ?_ | refine cr (slCon_c _ _) ?_)))
   refine at_loop hK [] [2,4,28,29,30] (fun i:Nat=>⟨[(2,.int .i64 bad),(4,.ptr 4 0),(28,.lst (.int .i64) p.members),(29,.int .i64 p.members.length),(30,.int .i64 i)],[(4,.var 41 (pplA q).cells)],5⟩) (fun i=>i ≤ p.members.length ∧ ∀ m ∈ p.members.take i,(m != bad && q.members.contains m) = false) (fun i=>p.members.length - i) 0 ⟨by simp,by simp⟩ rfl ?_
   rintro i ⟨hi,hall⟩
   by_cases hlt:i < p.members.length
   ·have hxe:p.members[i]? = some p.members[i]:=List.getElem?_eq_getElem hlt
    have hsn:p.members.take (i + 1) = p.members.take i ++ [p.members[i]]:=List.take_succ_eq_append_getElem hlt
    have hmm:p.members[i] ∈ p.members:=List.getElem_mem hlt
    generalize p.members[i] = m at *
    have hyes:(m != bad && q.members.contains m) = true → both bad p.members q.members = true:=fun h=>List.any_eq_true.2 ⟨m,hmm,h⟩
    cases h4:m != bad
    ·(repeat (any_goals (first | refine st ?_ | (refine go2 fun xe hxe=>?_;conv=>whnf) | ((with_reducible refine cnd_i (fun hq=>?_) fun hq=>?_) <;> (try simp only [hqs] at hq) <;> (first | omega | conv=>whnf)) | refine cr (slCon_c _ _) ?_)))
     exact ⟨i + 1,⟨by omega,by rw [hsn];exact tk_snoc hall (by rw [h4];rfl)⟩,by omega,rfl⟩
    ·cases h5:q.members.contains m
     ·have hc5:=slCon_c q.members m
      rw [h5] at hc5
      (repeat (any_goals (first | refine st ?_ | (refine go2 fun xe hxe=>?_;conv=>whnf) | ((with_reducible refine cnd_i (fun hq=>?_) fun hq=>?_) <;> (try simp only [hqs] at hq) <;> (first | omega | conv=>whnf)) | refine cr (hc5) ?_)))
      exact ⟨i + 1,⟨by omega,by rw [hsn];exact tk_snoc hall (by rw [h5,Bool.and_false])⟩,by omega,rfl⟩
     ·have hc5:=slCon_c q.members m
      rw [h5] at hc5
      (repeat (any_goals (first | refine st ?_ | (refine go2 fun xe hxe=>?_;conv=>whnf) | ((with_reducible refine cnd_i (fun hq=>?_) fun hq=>?_) <;> (try simp only [hqs] at hq) <;> (first | omega | conv=>whnf)) | refine cr (hc5) ?_)))
      rw [hyes (by rw [h4,h5];rfl)]
      exact ⟨rfl,rfl⟩
   ·(repeat (any_goals (first | refine st ?_ | (refine go2 fun xe hxe=>?_;conv=>whnf) | ((with_reducible refine cnd_i (fun hq=>?_) fun hq=>?_) <;> (try simp only [hqs] at hq) <;> (first | omega | conv=>whnf)))))
    rw [List.take_of_length_le (by omega)] at hall
    have:both bad p.members q.members = false:=by
     rw [Bool.eq_false_iff]
     intro h
     obtain ⟨m,hm,h⟩:=List.any_eq_true.1 h
     rw [hall m hm] at h
     cases h
    rw [this]
    exact ⟨rfl,rfl⟩
 ·have:fitP bad p q = false:=by simp [fitP,h1,h2]
  rw [this]
  (repeat (any_goals (first | refine st ?_ | (refine go2 fun xe hxe=>?_;conv=>whnf) | ((with_reducible refine cnd_i (fun hq=>?_) fun hq=>?_) <;> (try simp only [hqs] at hq) <;> (first | omega | conv=>whnf)) | refine cr (islt_c _ _) ?_ | refine cr (ivEq_c _ _) ?_ | refine cr (slCon_c _ _) ?_)))
  exact ⟨rfl,rfl⟩
abbrev wrlA (w:Wrl):V:=.agg [.lst (.int .i64) w.com,.lst (.int .i64) w.lead,.int .i64 w.bad,.lst (.lst .vtx) w.views,.lst .ppl w.props]
theorem oneP_i (c:List Int) (p:Ppl) (hc:comV c = true):(comV c && vtxS c p.v) = vtxS c p.v ∧ (comV c && mems c p.members) = mems c p.members:=by simp [hc]
theorem iproV_c (w:Wrl) (hc:comV w.com = true):ConV Tryz.prog 98 [wrlA w] [] (.bool (proS w.com w.bad w.props)) []:=by
 refine con_eq Θ_ok Tryz.func98 rfl rfl false 0 4 rfl rfl rfl rfl fun K hK hb1 hb2=>?_;simp only [argsV,enc,Nat.reduceAdd]
 simp [toDL,V.toD,bnd,encD,D.cells] at hb1
 by_cases h220:220 < (w.props.length:Int)
 ·(repeat (any_goals (first | refine st ?_ | (refine go2 fun xe hxe=>?_;conv=>whnf) | ((with_reducible refine cnd_i (fun hq=>?_) fun hq=>?_) <;> (try simp only [hqs] at hq) <;> (first | omega | conv=>whnf)))))
  unfold proS
  rw [decide_eq_false (by omega),Bool.and_false]
  exact ⟨rfl,rfl⟩
 have hps:proS w.com w.bad w.props = allTo w.props.length (proAt w.com w.bad w.props):=by
  unfold proS
  rw [decide_eq_true (by omega),Bool.and_true]
 rw [hps]
 (repeat (any_goals (first | refine st ?_ | (refine go2 fun xe hxe=>?_;conv=>whnf) | ((with_reducible refine cnd_i (fun hq=>?_) fun hq=>?_) <;> (try simp only [hqs] at hq) <;> (first | omega | conv=>whnf)))))
 refine at_loop hK [] [1,12,13,14] (fun i:Nat=>⟨[(1,.ptr 4 0),(12,.lst .ppl w.props),(13,.int .i64 w.props.length),(14,.int .i64 i)],[(4,.var 27 (wrlA w).cells)],5⟩) (fun i=>i ≤ w.props.length ∧ ∀ j,j < i → proAt w.com w.bad w.props j = true) (fun i=>w.props.length - i) 0 ⟨by simp,by simp⟩ rfl ?_
 rintro i ⟨hi,hall⟩
 by_cases hlt:i < w.props.length
 ·have hxe:w.props[i]? = some w.props[i]:=List.getElem?_eq_getElem hlt
  have hno:proAt w.com w.bad w.props i = false → V.bool false = V.bool (allTo w.props.length (proAt w.com w.bad w.props)) ∧ ([]:VH) = []:=fun h=>⟨by rw [allTo_f hlt h],rfl⟩
  have hA:proAt w.com w.bad w.props i = (oneP w.com w.props[i] && allTo i (fun k=>fitP w.bad w.props[i] (w.props.getD k p0))):=by simp only [proAt,getD_of hxe]
  generalize w.props[i] = p at *
  have hvc:=ivtx_c w.com p.v
  have hmc:=imemV_c w.com p.members
  rw [(oneP_i _ p hc).1] at hvc
  rw [(oneP_i _ p hc).2] at hmc
  cases h1:vtxS w.com p.v
  ·(repeat (any_goals (first | refine st ?_ | (refine go2 fun xe hxe=>?_;conv=>whnf) | ((with_reducible refine cnd_i (fun hq=>?_) fun hq=>?_) <;> (try simp only [hqs] at hq) <;> (first | omega | conv=>whnf)) | refine cr (hvc) ?_ | refine cr (hmc) ?_)))
   exact hno (by simp [hA,oneP,h1])
  cases h2:mems w.com p.members
  ·(repeat (any_goals (first | refine st ?_ | (refine go2 fun xe hxe=>?_;conv=>whnf) | ((with_reducible refine cnd_i (fun hq=>?_) fun hq=>?_) <;> (try simp only [hqs] at hq) <;> (first | omega | conv=>whnf)) | refine cr (hvc) ?_ | refine cr (hmc) ?_)))
   exact hno (by simp [hA,oneP,h2])
  have e1:cutL w.props none (some (.int .i64 i)) 0 (i:Int).toNat = w.props.take i:=by simp [cutL]
  have hl1:(w.props.take i).length = i:=by rw [List.length_take];omega
  (repeat (any_goals (first | refine st ?_ | (refine go2 fun xe hxe=>?_;conv=>whnf) | ((with_reducible refine cnd_i (fun hq=>?_) fun hq=>?_) <;> (try simp only [hqs] at hq) <;> (first | omega | conv=>whnf)) | refine cr (hvc) ?_ | refine cr (hmc) ?_)))
  refine at_loop hK [] [1,4,12,13,14,36,37,38] (fun k:Nat=>⟨[(1,.ptr 4 0),(4,.ptr 5 0),(12,.lst .ppl w.props),(13,.int .i64 w.props.length),(14,.int .i64 i),(36,.lst .ppl (w.props.take i)),(37,.int .i64 i),(38,.int .i64 k)],[(4,.var 27 (wrlA w).cells),(5,.var 41 (pplA p).cells)],6⟩) (fun k=>k ≤ i ∧ ∀ j,j < k → fitP w.bad p (w.props.getD j p0) = true) (fun k=>i - k) 0 ⟨by simp,by simp⟩ (by simp only [e1,hl1];rfl) ?_
  rintro k ⟨hk,hkall⟩
  by_cases hkl:k < i
  ·have hxk:(w.props.take i)[k]? = some (w.props.getD k p0):=by rw [List.getElem?_take,if_pos hkl,List.getD_eq_getElem?_getD,List.getElem?_eq_getElem (show k < w.props.length by omega)];rfl
   have hyes:=all_step hkall (p:=fun j=>fitP w.bad p (w.props.getD j p0)) (i:=k)
   have hnk:fitP w.bad p (w.props.getD k p0) = false → V.bool false = V.bool (allTo w.props.length (proAt w.com w.bad w.props)) ∧ ([]:VH) = []:=fun h=>hno (by rw [hA,allTo_f hkl h,Bool.and_false])
   generalize w.props.getD k p0 = q at *
   have hcq:=icomp_c q p w.bad
   rw [fitP_comm] at hcq
   generalize w.props.take i = pt at *
   cases h3:fitP w.bad p q
   ·rw [h3] at hcq
    (repeat (any_goals (first | refine st ?_ | (refine go2 fun xe hxe=>?_;conv=>whnf) | ((with_reducible refine cnd_i (fun hq=>?_) fun hq=>?_) <;> (try simp only [hqs] at hq) <;> (first | omega | conv=>whnf)) | refine cr (hcq) ?_)))
    exact hnk h3
   ·rw [h3] at hcq
    (repeat (any_goals (first | refine st ?_ | (refine go2 fun xe hxe=>?_;conv=>whnf) | ((with_reducible refine cnd_i (fun hq=>?_) fun hq=>?_) <;> (try simp only [hqs] at hq) <;> (first | omega | conv=>whnf)) | refine cr (hcq) ?_)))
    exact ⟨k + 1,⟨by omega,hyes h3⟩,by omega,rfl⟩
  ·have hAt:proAt w.com w.bad w.props i = true:=by
    rw [hA,allTo_t (fun j hj=>hkall j (by omega)),oneP,h1,h2]
    rfl
   (repeat (any_goals (first | refine st ?_ | (refine go2 fun xe hxe=>?_;conv=>whnf) | ((with_reducible refine cnd_i (fun hq=>?_) fun hq=>?_) <;> (try simp only [hqs] at hq) <;> (first | omega | conv=>whnf)))))
   exact ⟨i + 1,⟨by omega,all_step hall hAt⟩,by omega,rfl⟩
 ·(repeat (any_goals (first | refine st ?_ | (refine go2 fun xe hxe=>?_;conv=>whnf) | ((with_reducible refine cnd_i (fun hq=>?_) fun hq=>?_) <;> (try simp only [hqs] at hq) <;> (first | omega | conv=>whnf)))))
  rw [allTo_t (fun j hj=>hall j (by omega))]
  exact ⟨rfl,rfl⟩
end Go.Proofs.YtjjddgpdoibcoaaGreatDoor.Am
namespace Go.Proofs.YtjjddgpdoibcoaaGreatDoor.Am
open Go
def tabV (g:List Vtx):List (Option Vtx):=g.foldl (fun t v=>t.set (v.round * 7 + v.author).toNat (some v)) (List.replicate 217 none)
theorem tabV_snoc (g:List Vtx) (v:Vtx):tabV (g ++ [v]) = (tabV g).set (v.round * 7 + v.author).toNat (some v):=by simp [tabV]
theorem tabV_len (g:List Vtx):(tabV g).length = 217:=by
 induction g using snoc_ind with
 | h0=>exact List.length_replicate
 | h l x ih=>rw [tabV_snoc,List.length_set,ih]
theorem tabV_at {g:List Vtx} (hg:∀ v ∈ g,inTab v) {r a:Int} (hr:0 ≤ r ∧ r ≤ 30) (ha:0 ≤ a ∧ a ≤ 6):((tabV g).getD (r * 7 + a).toNat none).isSome = hasV g r a:=by
 induction g using snoc_ind with
 | h0=>
  have:(tabV []).getD (r * 7 + a).toNat none = none:=by
   simp only [tabV,List.foldl_nil,List.getD_eq_getElem?_getD,List.getElem?_replicate]
   split <;> rfl
  rw [this]
  rfl
 | h l x ih=>
  have ih:=ih fun v hv=>hg v (List.mem_append.2 (.inl hv))
  obtain ⟨⟨x1,x2⟩,x3,x4⟩:=hg x (by simp)
  have hl:=tabV_len l
  have hh:hasV (l ++ [x]) r a = (hasV l r a || isAt r a x):=by simp [hasV]
  rw [tabV_snoc,hh,List.getD_eq_getElem?_getD,List.getElem?_set]
  by_cases he:x.round = r ∧ x.author = a
  ·have:isAt r a x = true:=by simp [isAt,he.1,he.2]
   rw [this,Bool.or_true,if_pos (by rw [he.1,he.2]),if_pos (by omega)]
   rfl
  ·have:isAt r a x = false:=by
    rw [Bool.eq_false_iff]
    intro h
    simp only [isAt,Bool.and_eq_true,beq_iff_eq,decide_eq_true_eq] at h
    exact he (by omega)
   rw [this,Bool.or_false,if_neg (by omega),← List.getD_eq_getElem?_getD,ih]
def vcov (tab:List (Option Vtx)) (v:Vtx):Bool:=v.parents.all fun p=>(tab.getD ((v.round - 1) * 7 + p).toNat none).isSome
theorem all_congr' {α:Type} {l:List α} {p q:α → Bool} (h:∀ x ∈ l,p x = q x):l.all p = l.all q:=by
 rw [Bool.eq_iff_iff,List.all_eq_true,List.all_eq_true]
 exact ⟨fun h2 x hx=>by rw [← h x hx];exact h2 x hx,fun h2 x hx=>by rw [h x hx];exact h2 x hx⟩
theorem vcov_eq {g:List Vtx} (hg:∀ v ∈ g,inTab v) {v:Vtx} (hr:v.parents ≠ [] → 1 ≤ v.round ∧ v.round ≤ 31) (hp:∀ p ∈ v.parents,0 ≤ p ∧ p ≤ 6):vcov (tabV g) v = parOK g v:=
 all_congr' fun p h=>by
  have:=hr (List.ne_nil_of_mem h)
  exact tabV_at hg (by omega) (hp p h)
def kpI (b:Int) (tabs:List (List (Option Vtx))) (v:Vtx) (ms:List Int):Bool:=ms.all fun m=>m == b || vcov (tabs.getD m.toNat []) v
def kpIs (b:Int) (tabs:List (List (Option Vtx))) (ps:List Ppl):Bool:=ps.all fun p=>kpI b tabs p.v (p.v.author :: p.members)
def pOK (n:Nat) (p:Ppl):Prop:=(∀ m ∈ p.v.author :: p.members,0 ≤ m ∧ m < n) ∧ (p.v.parents ≠ [] → 1 ≤ p.v.round ∧ p.v.round ≤ 31) ∧ (∀ q ∈ p.v.parents,0 ≤ q ∧ q ≤ 6) ∧ p.members.length ≤ 1000000 ∧ p.v.parents.length ≤ 1000000
theorem kpI_eq {b:Int} {gs:List (List Vtx)} {ps:List Ppl} (hg:∀ g ∈ gs,∀ v ∈ g,inTab v) (hp:∀ p ∈ ps,pOK gs.length p):kpIs b (gs.map tabV) ps = kpar b ps gs:=
 all_congr' fun p h=>by
  obtain ⟨p1,p2,p3,-⟩:=hp p h
  have key:∀ m:Nat,m < gs.length → vcov ((gs.map tabV).getD m []) p.v = parOK (gs.getD m []) p.v:=fun m hm=>by
   have e:(gs.map tabV).getD m [] = tabV (gs.getD m []):=by simp only [List.getD_eq_getElem?_getD,List.getElem?_map,List.getElem?_eq_getElem hm,Option.map_some,Option.getD_some]
   rw [e]
   refine vcov_eq (hg _ ?_) p2 p3
   rw [List.getD_eq_getElem?_getD,List.getElem?_eq_getElem hm]
   exact List.getElem_mem hm
  rw [Bool.eq_iff_iff,allTo_iff]
  simp only [kpI,List.all_eq_true,Bool.or_eq_true,beq_iff_eq]
  constructor
  ·intro h1 m hm
   simp only [kparAt,Bool.or_eq_true,Bool.not_eq_true',Bool.and_eq_false_iff]
   by_cases hb:(m:Int) = b
   ·exact .inl (.inl (by simp [hb]))
   by_cases hv:(m:Int) = p.v.author ∨ (m:Int) ∈ p.members
   ·rcases h1 (m:Int) (List.mem_cons.2 hv) with h2 | h2
    ·exact absurd h2 hb
    ·rw [Int.toNat_natCast,key m hm] at h2
     exact .inr h2
   ·refine .inl (.inr ?_)
    rw [Bool.eq_false_iff]
    intro h2
    simp only [Bool.or_eq_true,beq_iff_eq,List.contains_iff_mem] at h2
    exact hv h2
  ·intro h1 m hm
   have hr:=p1 m hm
   have h2:=h1 m.toNat (by omega)
   simp only [kparAt,Bool.or_eq_true,Bool.not_eq_true',Bool.and_eq_false_iff,Int.toNat_of_nonneg hr.1] at h2
   rcases h2 with (h2 | h2) | h2
   ·exact .inl (by simpa using h2)
   ·exfalso
    rw [Bool.eq_false_iff] at h2
    apply h2
    simp only [Bool.or_eq_true,beq_iff_eq,List.contains_iff_mem]
    exact List.mem_cons.1 hm
   ·rw [key m.toNat (by omega)]
    exact .inr h2
def preS (w:Wrl):Bool:=newS w.com w.lead w.bad && (proS w.com w.bad w.props && ((w.views.length == w.com.length) && viwsS w.com w.bad w.props w.views))
theorem wrlS_eq (w:Wrl):wrlS w = (preS w && kpar w.bad w.props w.views):=by
 simp only [wrlS,preS]
 cases newS w.com w.lead w.bad <;> cases (w.views.length == w.com.length) <;> cases proS w.com w.bad w.props <;> cases viwsS w.com w.bad w.props w.views <;> simp
theorem pre_ok {w:Wrl} (h:preS w = true):comV w.com = true ∧ leaS w.com w.lead = true ∧ badS w.com w.bad = true ∧ proS w.com w.bad w.props = true ∧ w.views.length = w.com.length ∧ viwsS w.com w.bad w.props w.views = true:=by
 simp only [preS,newS,Bool.and_eq_true,beq_iff_eq] at h
 obtain ⟨⟨h1,h2,h3⟩,h4,h5,h6⟩:=h
 exact ⟨h1,h2,h3,h4,h5,h6⟩
theorem gra_vtx {c:List Int} {g:List Vtx} (h:graS c g = true):∀ v ∈ g,vtxS c v = true:=by
 intro v hv
 obtain ⟨j,hj,rfl⟩:=mem_getD (d:=v0) hv
 simp only [graS,Bool.and_eq_true,allTo_iff] at h
 have:=h.2 j hj
 simp only [graAt,Bool.and_eq_true] at this
 exact this.1
theorem pre_gra {w:Wrl} (h:preS w = true):∀ g ∈ w.views,graS w.com g = true:=by
 obtain ⟨-,-,-,-,-,h6⟩:=pre_ok h
 intro g hg
 obtain ⟨j,hj,rfl⟩:=mem_getD (d:=[]) hg
 simp only [viwsS,allTo_iff,Bool.and_eq_true] at h6
 have:=(h6 j hj).1
 simp only [viwS,Bool.and_eq_true] at this
 exact this.2
theorem nodup_len7 {α:Type} [BEq α] [LawfulBEq α]:∀ {a b:List α},a.Nodup → a ⊆ b → a.length ≤ b.length
 | [],_,_,_=>Nat.zero_le _
 | x :: a,b,h,hs=>by
  rw [List.nodup_cons] at h
  have hx:x ∈ b:=hs (List.mem_cons_self ..)
  have:=nodup_len7 (b:=b.erase x) h.2 fun y hy=>by
   have hne:y ≠ x:=fun e=>h.1 (e ▸ hy)
   exact (List.mem_erase_of_ne hne).2 (hs (List.mem_cons_of_mem _ hy))
  rw [List.length_erase_of_mem hx] at this
  have:=List.length_pos_of_mem hx
  simp only [List.length_cons]
  omega
theorem mems_len7 {c ms:List Int} (h:mems c ms = true):ms.length ≤ c.length:=by
 have h1:=mems_in h
 have h2:ms ⊆ (List.range c.length).map fun n:Nat=>(n:Int):=fun m hm=>by
  have:=h1 m hm
  rw [List.mem_map]
  exact ⟨m.toNat,by rw [List.mem_range];omega,by omega⟩
 have h3:ms.Nodup:=(mems_asc h).imp fun hab=>by omega
 have:=nodup_len7 h3 h2
 simpa using this
theorem vtx_par {c:List Int} {v:Vtx} (hc:comV c = true) (h:vtxS c v = true):v.parents.length ≤ 7:=by
 obtain ⟨-,-,h3,-⟩:=vtxS_ok h
 have:=mems_len7 h3
 have:=(comV_iff.1 hc).2
 omega
theorem pre_tab {w:Wrl} (h:preS w = true):∀ g ∈ w.views,∀ v ∈ g,inTab v ∧ v.parents.length ≤ 1000:=fun g hg v hv=>by
 have hc:=(pre_ok h).1
 have h1:=gra_vtx (pre_gra h g hg) v hv
 exact ⟨vtxS_tab hc h1,by have:=vtx_par hc h1;omega⟩
theorem pro_one {c:List Int} {b:Int} {ps:List Ppl} (h:proS c b ps = true):∀ p ∈ ps,oneP c p = true:=by
 intro p hp
 obtain ⟨j,hj,rfl⟩:=mem_getD (d:=p0) hp
 simp only [proS,Bool.and_eq_true,allTo_iff] at h
 have:=h.1 j hj
 simp only [proAt,Bool.and_eq_true] at this
 exact this.1
theorem pro_len {c:List Int} {b:Int} {ps:List Ppl} (h:proS c b ps = true):ps.length ≤ 220:=by
 simp only [proS,Bool.and_eq_true,decide_eq_true_eq] at h
 omega
theorem one_pOK {c:List Int} {p:Ppl} (hc:comV c = true) (h:oneP c p = true):pOK c.length p:=by
 simp only [oneP,Bool.and_eq_true] at h
 obtain ⟨h1,h2⟩:=h
 have h7:=(comV_iff.1 hc).2
 have hl:=vtx_par hc h1
 obtain ⟨v1,v2,v3,v4,v5,v6⟩:=vtxS_ok h1
 have hml:=mems_len7 h2
 refine ⟨fun m hm=>?_,fun hne=>?_,fun q hq=>?_,by omega,by omega⟩
 ·rcases List.mem_cons.1 hm with rfl | hm
  ·omega
  ·exact mems_in h2 m hm
 ·by_cases h0:p.v.round = 0
  ·exact absurd (v5 h0) hne
  ·omega
 ·have:=mems_in v3 q hq
  omega
theorem pre_pOK {w:Wrl} (h:preS w = true):∀ p ∈ w.props,pOK w.views.length p:=by
 obtain ⟨hc,-,-,h4,h5,-⟩:=pre_ok h
 rw [h5]
 exact fun p hp=>one_pOK hc (pro_one h4 p hp)
theorem pre_kp {w:Wrl} (h:preS w = true):kpIs w.bad (w.views.map tabV) w.props = kpar w.bad w.props w.views:=
 kpI_eq (fun g hg v hv=>(pre_tab h g hg v hv).1) (pre_pOK h)
end Go.Proofs.YtjjddgpdoibcoaaGreatDoor.Am
namespace Go.Proofs.YtjjddgpdoibcoaaGreatDoor.Am
open Go
attribute [local irreducible] Mk Need Ari Get Idx Cnd CallM CallA Opt Unch At ConV
set_option maxRecDepth 10000
theorem igv_c (c:List Int) (g:List Vtx) (hl:g.length ≤ 2000000):ConV Tryz.prog 160 [.lst (.int .i64) c,.lst .vtx g] [] (.bool (graS c g)) []:=by
 have hL:=link_c c g hl
 refine con_eq Θg_ok Tryz.func160 rfl rfl false 0 4 rfl rfl rfl rfl fun K hK hb1 hb2=>?_;simp only [argsV,enc,Nat.reduceAdd]
 clear hb1 hb2
 cases hg:graS c g
 ·simp only [lgR,lgO,hg,Bool.false_eq_true,if_false] at hL
  (repeat (any_goals (first | refine stg ?_ | (refine go2 fun xe hxe=>?_;conv=>whnf) | ((with_reducible refine cnd_i (fun hq=>?_) fun hq=>?_) <;> (try simp only [hqs] at hq) <;> (first | omega | conv=>whnf)) | refine cr (hL) ?_)))
  exact ⟨rfl,rfl⟩
 ·simp only [lgR,lgO,hg,if_true] at hL
  cases g with
  | nil=>
   (repeat (any_goals (first | refine stg ?_ | (refine go2 fun xe hxe=>?_;conv=>whnf) | ((with_reducible refine cnd_i (fun hq=>?_) fun hq=>?_) <;> (try simp only [hqs] at hq) <;> (first | omega | conv=>whnf)) | refine cr (hL) ?_)))
   exact ⟨rfl,rfl⟩
  | cons v g=>
   (repeat (any_goals (first | refine stg ?_ | (refine go2 fun xe hxe=>?_;conv=>whnf) | ((with_reducible refine cnd_i (fun hq=>?_) fun hq=>?_) <;> (try simp only [hqs] at hq) <;> (first | omega | conv=>whnf)) | refine cr (hL) ?_)))
   exact ⟨rfl,rfl⟩
abbrev cloB (w:Wrl) (v:Vtx):VH:=[(4,.var 39 [.int .i64 v.round,.int .i64 v.author,.lst (.int .i64) v.parents,.int .i64 v.digest]),(5,.var 27 [.lst (.int .i64) w.com,.lst (.int .i64) w.lead,.int .i64 w.bad,.lst (.lst .vtx) w.views,.lst .ppl w.props])]
theorem vv1_c (w:Wrl) (v:Vtx) (p:Ppl) (hc:comV w.com = true) (hm:mems w.com p.members = true):ConV Tryz.prog 162 [pplA p,.ptr 4 0,.ptr 5 0] (cloB w v) (.bool (vEq p.v v && don w.com p)) (cloB w v):=by
 refine con_eq Θ_ok Tryz.func162 rfl rfl false 2 6 rfl rfl rfl rfl fun K hK hb1 hb2=>?_;simp only [argsV,enc,Nat.reduceAdd]
 clear hb1 hb2
 cases h1:vEq p.v v
 ·(repeat (any_goals (first | refine st ?_ | (refine go2 fun xe hxe=>?_;conv=>whnf) | ((with_reducible refine cnd_i (fun hq=>?_) fun hq=>?_) <;> (try simp only [hqs] at hq) <;> (first | omega | conv=>whnf)) | refine cr (ivEq_c _ _) ?_ | refine cr (icert_c _ _ hc hm) ?_)))
  exact ⟨rfl,rfl⟩
 ·(repeat (any_goals (first | refine st ?_ | (refine go2 fun xe hxe=>?_;conv=>whnf) | ((with_reducible refine cnd_i (fun hq=>?_) fun hq=>?_) <;> (try simp only [hqs] at hq) <;> (first | omega | conv=>whnf)) | refine cr (ivEq_c _ _) ?_ | refine cr (icert_c _ _ hc hm) ?_)))
  exact ⟨rfl,rfl⟩
theorem idxF_c (w:Wrl) (v:Vtx) (ps:List Ppl) (hc:comV w.com = true) (hm:∀ p ∈ ps,mems w.com p.members = true):ConV Tryz.prog 199 [.lst .ppl ps,.clo 162 [.ptr 4 0,.ptr 5 0]] (cloB w v)
  (.int .i64 (match ps.findIdx? (fun p=>vEq p.v v && don w.com p) with | some i=>(i:Int) | none=>-1)) (cloB w v):=by
 refine con_eq Θ_ok Tryz.func199 rfl rfl false 2 6 rfl rfl rfl rfl fun K hK hb1 hb2=>?_;simp only [argsV,enc,Nat.reduceAdd]
 clear hb2
 simp [toDL,V.toD,bnd,encD,D.cells] at hb1
 (repeat (any_goals (first | refine st ?_ | (refine go2 fun xe hxe=>?_;conv=>whnf) | ((with_reducible refine cnd_i (fun hq=>?_) fun hq=>?_) <;> (try simp only [hqs] at hq) <;> (first | omega | conv=>whnf)))))
 refine at_loop hK [] [0,1,7,8] (fun i:Nat=>⟨[(0,.lst .ppl ps),(1,.clo 162 [.ptr 4 0,.ptr 5 0]),(7,.int .i64 ps.length),(8,.int .i64 i)],cloB w v,6⟩) (fun i=>i ≤ ps.length ∧ ∀ y ∈ ps.take i,(vEq y.v v && don w.com y) = false) (fun i=>ps.length - i) 0 ⟨by simp,by simp⟩ rfl ?_
 rintro i ⟨hi,hall⟩
 by_cases hlt:i < ps.length
 ·have hxe:ps[i]? = some ps[i]:=List.getElem?_eq_getElem hlt
  have h3:ps.take (i + 1) = ps.take i ++ [ps[i]]:=List.take_succ_eq_append_getElem hlt
  have h4:=find_at (l:=ps) (p:=fun p=>vEq p.v v && don w.com p) hxe hall
  have h5:=hm _ (List.getElem_mem hlt)
  generalize ps[i] = p at *
  have hv:=vv1_c w v p hc h5
  cases h6:vEq p.v v && don w.com p
  ·rw [h6] at hv
   (repeat (any_goals (first | refine st ?_ | (refine go2 fun xe hxe=>?_;conv=>whnf) | ((with_reducible refine cnd_i (fun hq=>?_) fun hq=>?_) <;> (try simp only [hqs] at hq) <;> (first | omega | conv=>whnf)) | refine cr (hv) ?_)))
   exact ⟨i + 1,⟨by omega,by rw [h3];exact tk_snoc hall h6⟩,by omega,rfl⟩
  ·rw [h6] at hv
   (repeat (any_goals (first | refine st ?_ | (refine go2 fun xe hxe=>?_;conv=>whnf) | ((with_reducible refine cnd_i (fun hq=>?_) fun hq=>?_) <;> (try simp only [hqs] at hq) <;> (first | omega | conv=>whnf)) | refine cr (hv) ?_)))
   rw [h4 h6]
   exact ⟨rfl,rfl⟩
 ·(repeat (any_goals (first | refine st ?_ | (refine go2 fun xe hxe=>?_;conv=>whnf) | ((with_reducible refine cnd_i (fun hq=>?_) fun hq=>?_) <;> (try simp only [hqs] at hq) <;> (first | omega | conv=>whnf)))))
  rw [List.take_of_length_le (by omega)] at hall
  rw [List.findIdx?_eq_none_iff.2 hall]
  exact ⟨rfl,rfl⟩
theorem knw_c (w:Wrl) (v:Vtx) (ps:List Ppl) (hc:comV w.com = true) (hm:∀ p ∈ ps,mems w.com p.members = true):ConV Tryz.prog 161 [.lst .ppl ps,.clo 162 [.ptr 4 0,.ptr 5 0]] (cloB w v)
  (.bool (knw w.com ps v)) (cloB w v):=by
 have hk:knw w.com ps v = (ps.findIdx? (fun p=>vEq p.v v && don w.com p)).isSome:=by
  rw [List.findIdx?_isSome,knw]
  congr 1
  funext p
  rw [Bool.and_comm]
 refine con_eq Θ_ok Tryz.func161 rfl rfl false 2 6 rfl rfl rfl rfl fun K hK hb1 hb2=>?_;simp only [argsV,enc,Nat.reduceAdd]
 (repeat (any_goals (first | refine st ?_ | (refine go2 fun xe hxe=>?_;conv=>whnf) | ((with_reducible refine cnd_i (fun hq=>?_) fun hq=>?_) <;> (try simp only [hqs] at hq) <;> (first | omega | conv=>whnf)) | refine cr (idxF_c _ _ _ hc hm) ?_)))
 refine ⟨?_,rfl⟩
 rw [hk]
 cases ps.findIdx? (fun p=>vEq p.v v && don w.com p) with
 | none=>rfl
 | some i=>simp
theorem iviwV_c (w:Wrl) (hc:comV w.com = true) (hp:proS w.com w.bad w.props = true) (hl:∀ g ∈ w.views,g.length ≤ 2000000):ConV Tryz.prog 99 [wrlA w] [] (.bool ((w.views.length == w.com.length) && viwsS w.com w.bad w.props w.views)) []:=by
 have hm:∀ p ∈ w.props,mems w.com p.members = true:=fun p hpp=>by
  obtain ⟨i,hi,rfl⟩:=mem_getD (d:=p0) hpp
  simp only [proS,Bool.and_eq_true,allTo_iff] at hp
  have:=hp.1 i hi
  simp only [proAt,oneP,Bool.and_eq_true] at this
  exact this.1.2
 have h7:=(comV_iff.1 hc).2
 refine con_eq Θ_ok Tryz.func99 rfl rfl false 0 4 rfl rfl rfl rfl fun K hK hb1 hb2=>?_;simp only [argsV,enc,Nat.reduceAdd]
 simp [toDL,V.toD,bnd,encD,D.cells] at hb1
 by_cases hlen:w.views.length = w.com.length
 ·have hb:(w.views.length == w.com.length) = true:=by simpa using hlen
  rw [hb,Bool.true_and]
  (repeat (any_goals (first | refine st ?_ | (refine go2 fun xe hxe=>?_;conv=>whnf) | ((with_reducible refine cnd_i (fun hq=>?_) fun hq=>?_) <;> (try simp only [hqs] at hq) <;> (first | omega | conv=>whnf)))))
  refine at_loop hK [] [1,16,17,18] (fun i:Nat=>⟨[(1,.ptr 4 0),(16,.lst (.lst .vtx) w.views),(17,.int .i64 w.views.length),(18,.int .i64 i)],[(4,.var 27 (wrlA w).cells)],5⟩)
   (fun i=>i ≤ w.views.length ∧ ∀ j,j < i → (viwS w.com w.props (w.views.getD j []) && (!((j:Int) == w.bad) || (w.views.getD j []).isEmpty)) = true) (fun i=>w.views.length - i) 0 ⟨by simp,by simp⟩ rfl ?_
  rintro i ⟨hi,hall⟩
  by_cases hlt:i < w.views.length
  ·have hxe:w.views[i]? = some (w.views.getD i []):=by rw [List.getD_eq_getElem?_getD,List.getElem?_eq_getElem hlt];rfl
   have hgl:=hl _ (List.mem_of_getElem? hxe)
   have hno:(viwS w.com w.props (w.views.getD i []) && (!((i:Int) == w.bad) || (w.views.getD i []).isEmpty)) = false → V.bool false = V.bool (viwsS w.com w.bad w.props w.views) ∧ ([]:VH) = []:=fun h=>⟨by unfold viwsS;rw [allTo_f hlt h],rfl⟩
   have hyes:=all_step hall (p:=fun j=>viwS w.com w.props (w.views.getD j []) && (!((j:Int) == w.bad) || (w.views.getD j []).isEmpty)) (i:=i)
   generalize w.views.getD i [] = g at *
   have hvv:viwS w.com w.props g = (g.all (knw w.com w.props) && graS w.com g):=rfl
   cases h1:graS w.com g
   ·(repeat (any_goals (first | refine st ?_ | (refine go2 fun xe hxe=>?_;conv=>whnf) | ((with_reducible refine cnd_i (fun hq=>?_) fun hq=>?_) <;> (try simp only [hqs] at hq) <;> (first | omega | conv=>whnf)) | refine cr (igv_c _ _ hgl) ?_)))
    exact hno (by rw [hvv,h1,Bool.and_false,Bool.false_and])
   have hem:g.isEmpty = decide ((g.length:Int) = 0):=by cases g <;> simp;omega
   by_cases h2:(i:Int) = w.bad ∧ ¬ (g.length:Int) = 0
   ·have hb1:((i:Int) == w.bad) = true:=by simpa using h2.1
    (repeat (any_goals (first | refine st ?_ | (refine go2 fun xe hxe=>?_;conv=>whnf) | ((with_reducible refine cnd_i (fun hq=>?_) fun hq=>?_) <;> (try simp only [hqs] at hq) <;> (first | omega | conv=>whnf)) | refine cr (igv_c _ _ hgl) ?_)))
    exact hno (by rw [hb1,hem,decide_eq_false h2.2];simp)
   have hok2:(!((i:Int) == w.bad) || g.isEmpty) = true:=by
    rw [hem]
    by_cases hb:(i:Int) = w.bad
    ·have:(g.length:Int) = 0:=Classical.byContradiction fun h=>h2 ⟨hb,h⟩
     simp [this]
    ·simp [hb]
   have hkn:∀ v,ConV Tryz.prog 161 [.lst .ppl w.props,.clo 162 [.ptr 4 0,.ptr 5 0]] (cloB w v) (.bool (knw w.com w.props v)) (cloB w v):=fun v=>knw_c w v _ hc hm
   (repeat (any_goals (first | refine st ?_ | (refine go2 fun xe hxe=>?_;conv=>whnf) | ((with_reducible refine cnd_i (fun hq=>?_) fun hq=>?_) <;> (try simp only [hqs] at hq) <;> (first | omega | conv=>whnf)) | refine cr (igv_c _ _ hgl) ?_)))
   all_goals
    refine at_loop hK [] [1,16,17,18,39,40,41] (fun k:Nat=>⟨[(1,.ptr 4 0),(16,.lst (.lst .vtx) w.views),(17,.int .i64 w.views.length),(18,.int .i64 i),(39,.lst .vtx g),(40,.int .i64 g.length),(41,.int .i64 k)],[(4,.var 27 (wrlA w).cells)],5⟩)
     (fun k=>k ≤ g.length ∧ ∀ v ∈ g.take k,knw w.com w.props v = true) (fun k=>g.length - k) 0 ⟨by simp,by simp⟩ rfl ?_
    rintro k ⟨hk,hkall⟩
    by_cases hkl:k < g.length
    ·have hxk:g[k]? = some g[k]:=List.getElem?_eq_getElem hkl
     have hsn:g.take (k + 1) = g.take k ++ [g[k]]:=List.take_succ_eq_append_getElem hkl
     have hvm:g[k] ∈ g:=List.getElem_mem hkl
     generalize g[k] = v at *
     have hkv:=hkn v
     cases h3:knw w.com w.props v
     ·rw [h3] at hkv
      (repeat (any_goals (first | refine st ?_ | (refine go2 fun xe hxe=>?_;conv=>whnf) | ((with_reducible refine cnd_i (fun hq=>?_) fun hq=>?_) <;> (try simp only [hqs] at hq) <;> (first | omega | conv=>whnf)) | refine cr (hkv) ?_)))
      have:g.all (knw w.com w.props) = false:=by
       rw [Bool.eq_false_iff]
       intro h
       rw [List.all_eq_true.1 h v hvm] at h3
       cases h3
      exact hno (by rw [hvv,this,Bool.false_and,Bool.false_and])
     ·rw [h3] at hkv
      (repeat (any_goals (first | refine st ?_ | (refine go2 fun xe hxe=>?_;conv=>whnf) | ((with_reducible refine cnd_i (fun hq=>?_) fun hq=>?_) <;> (try simp only [hqs] at hq) <;> (first | omega | conv=>whnf)) | refine cr (hkv) ?_)))
      exact ⟨k + 1,⟨by omega,by rw [hsn];exact tk_snoc hkall h3⟩,by omega,rfl⟩
    ·rw [List.take_of_length_le (by omega)] at hkall
     (repeat (any_goals (first | refine st ?_ | (refine go2 fun xe hxe=>?_;conv=>whnf) | ((with_reducible refine cnd_i (fun hq=>?_) fun hq=>?_) <;> (try simp only [hqs] at hq) <;> (first | omega | conv=>whnf)))))
     exact ⟨i + 1,⟨by omega,hyes (by rw [hvv,List.all_eq_true.2 hkall,h1,hok2];rfl)⟩,by omega,rfl⟩
  ·(repeat (any_goals (first | refine st ?_ | (refine go2 fun xe hxe=>?_;conv=>whnf) | ((with_reducible refine cnd_i (fun hq=>?_) fun hq=>?_) <;> (try simp only [hqs] at hq) <;> (first | omega | conv=>whnf)))))
   unfold viwsS
   rw [allTo_t (fun j hj=>hall j (by omega))]
   exact ⟨rfl,rfl⟩
 ·have hb:(w.views.length == w.com.length) = false:=by simpa using hlen
  rw [hb,Bool.false_and]
  (repeat (any_goals (first | refine st ?_ | (refine go2 fun xe hxe=>?_;conv=>whnf) | ((with_reducible refine cnd_i (fun hq=>?_) fun hq=>?_) <;> (try simp only [hqs] at hq) <;> (first | omega | conv=>whnf)))))
  exact ⟨rfl,rfl⟩
theorem icl_c (v:Vtx) (hl:v.parents.length ≤ 1000000):ConV Tryz.prog 165 [vtxA v] [] (.agg [.int .i64 v.round,.int .i64 v.author,.ref 4,.int .i64 v.digest]) [(4,.row 3 (.int .i64) v.parents)]:=by
 refine con_eq Θ_ok Tryz.func165 rfl rfl false 0 4 rfl rfl rfl rfl fun K hK hb1 hb2=>?_;simp only [argsV,enc,Nat.reduceAdd]
 (repeat (any_goals (first | refine st ?_ | (refine go2 fun xe hxe=>?_;conv=>whnf) | ((with_reducible refine cnd_i (fun hq=>?_) fun hq=>?_) <;> (try simp only [hqs] at hq) <;> (first | omega | conv=>whnf)))))
 exact ⟨rfl,rfl⟩
theorem vof_c (g:List Vtx) (hg:∀ v ∈ g,inTab v ∧ v.parents.length ≤ 1000):ConV Tryz.prog 101 [.lst .vtx g] [] (.ptr 4 0) [(4,.vari 187 [] 217 (.ob .vtx) (tabV g) [])]:=by
 refine con_eq Θ_ok Tryz.func101 rfl rfl false 0 4 rfl rfl rfl rfl fun K hK hb1 hb2=>?_;simp only [argsV,enc,Nat.reduceAdd]
 simp [toDL,V.toD,bnd,encD,D.cells] at hb1
 (repeat (any_goals (first | refine st ?_ | (refine go2 fun xe hxe=>?_;conv=>whnf) | ((with_reducible refine cnd_i (fun hq=>?_) fun hq=>?_) <;> (try simp only [hqs] at hq) <;> (first | omega | conv=>whnf)))))
 refine at_tab 4 0 217 (.ob .vtx) ?_
 ((conv=>whnf);refine mk_i (by kernel_rfl) ?_;(conv=>whnf))
 refine at_loop hK [] [3,9,10,11] (fun i:Nat=>⟨[(3,.ptr 4 0),(9,.lst .vtx g),(10,.int .i64 g.length),(11,.int .i64 (i:Int))],[(4,.vari 187 [] 217 (.ob .vtx) (tabV (g.take i)) [])],5⟩) (fun i=>i ≤ g.length) (fun i=>g.length - i) 0 (by simp) rfl ?_
 intro i hi
 by_cases hlt:i < g.length
 ·have hxe:g[i]? = some g[i]:=List.getElem?_eq_getElem hlt
  have hsn:g.take (i + 1) = g.take i ++ [g[i]]:=List.take_succ_eq_append_getElem hlt
  obtain ⟨⟨⟨v1,v2⟩,v3,v4⟩,v5⟩:=hg _ (List.getElem_mem hlt)
  have hl2:=tabV_len (g.take i)
  have hst:tabV (g.take (i + 1)) = (tabV (g.take i)).set (g[i].round * 7 + g[i].author).toNat (some g[i]):=by rw [hsn,tabV_snoc]
  generalize g[i] = v at *
  generalize tabV (g.take i) = s at *
  (repeat (any_goals (first | refine st ?_ | (refine go2 fun xe hxe=>?_;conv=>whnf) | ((with_reducible refine cnd_i (fun hq=>?_) fun hq=>?_) <;> (try simp only [hqs] at hq) <;> (first | omega | conv=>whnf)) | ((with_reducible refine call_r ?_);(conv=>whnf);(first | with_reducible refine call_i (icl_c _ (by omega)) ?_);conv=>whnf))))
  refine ⟨i + 1,by omega,by omega,?_⟩
  have hix:(v.round * 7 + v.author).toNat = v.round.toNat * 7 + v.author.toNat:=by omega
  rw [hst,hix]
  rfl
 ·rw [List.take_of_length_le (by omega)]
  (repeat (any_goals (first | refine st ?_ | (refine go2 fun xe hxe=>?_;conv=>whnf) | ((with_reducible refine cnd_i (fun hq=>?_) fun hq=>?_) <;> (try simp only [hqs] at hq) <;> (first | omega | conv=>whnf)))))
  exact ⟨rfl,rfl⟩
end Go.Proofs.YtjjddgpdoibcoaaGreatDoor.Am
namespace Go.Proofs.YtjjddgpdoibcoaaGreatDoor.Am
open Go
attribute [local irreducible] Mk Need Ari Get Idx Cnd CallM CallA Opt Unch At ConV
set_option maxRecDepth 10000
def Θw:TT:=(135,⟨.ptr 187,1,8,some (.nilp),some (.hp 0),false⟩) :: (41,⟨.struct [(39,0,4),(23,4,1)],5,72,some (.agg [.int .i64 0,.int .i64 0,.nils,.int .i64 0,.nils]),some (.pplm 1),false⟩) :: Θ
theorem Θw_ok:TT.ok Tryz.prog Θw:=TT.okB_ok (by kernel_rfl)
theorem stw {P Q:Prop} (h:Q) (s:Hid Q → P:=by
  intro h
  (first | (with_reducible first | apply at_seq | apply at_block) | ((first | with_reducible apply at_regS Θw_ok | refine go ?_ | (with_reducible first | apply at_cond | apply at_ret | apply at_exit | apply at_skip | refine at_regD Θw_ok mixed (by kernel_rfl) ?_)) <;> conv=>whnf))
  repeat (first | (with_reducible first | apply at_seq | apply at_block) | ((first | with_reducible apply at_regS Θw_ok | refine go ?_ | (with_reducible first | apply at_cond | apply at_ret | apply at_exit | apply at_skip | refine at_regD Θw_ok mixed (by kernel_rfl) ?_)) <;> conv=>whnf))
  exact h.h):P:=s ⟨h⟩
def pms (ps:List Ppl):List PplM:=ps.zipIdx.map fun x=>⟨x.1.v,some x.2⟩
theorem pms_len (ps:List Ppl):(pms ps).length = ps.length:=by simp [pms]
def pm0:PplM:=⟨⟨0,0,[],0⟩,none⟩
def pmI (ps:List Ppl) (i:Nat):List PplM:=pms (ps.take i) ++ List.replicate (ps.length - i) pm0
theorem pmI_len (ps:List Ppl) (i:Nat) (hi:i ≤ ps.length):(pmI ps i).length = ps.length:=by
 simp only [pmI,List.length_append,pms_len,List.length_take,List.length_replicate];omega
theorem pmI_set {ps:List Ppl} {i:Nat} (h:i < ps.length):(pmI ps i).set i ⟨ps[i].v,some i⟩ = pmI ps (i + 1):=by
 have h1:(pms (ps.take i)).length = i:=by rw [pms_len,List.length_take];omega
 have h2:ps.length - i = (ps.length - (i + 1)) + 1:=by omega
 unfold pmI
 rw [List.set_append_right _ _ (by omega),h1,Nat.sub_self,h2,List.replicate_succ,List.set_cons_zero]
 have h4:pms (ps.take (i + 1)) = pms (ps.take i) ++ [⟨ps[i].v,some i⟩]:=by
  rw [List.take_succ_eq_append_getElem h]
  simp only [pms,List.zipIdx_append,List.map_append,List.length_take,Nat.min_eq_left (Nat.le_of_lt h),List.zipIdx_cons,List.zipIdx_nil,List.map_cons,List.map_nil,Nat.zero_add]
 rw [h4,List.append_assoc]
 rfl
theorem icps_c (ps:List Ppl) (hv:∀ p ∈ ps,p.v.parents.length ≤ 1000000 ∧ p.members.length ≤ 1000000) (hl:ps.length ≤ 1000000):ConV Tryz.prog 102 [.lst .ppl ps] [] (.ref 4) [(1,.frow 3 (.int .i64) (ps.map (·.members))),(4,.row 41 (.pplm 1) (pms ps))]:=by
 refine con_eq Θw_ok Tryz.func102 rfl rfl false 0 4 rfl rfl rfl rfl fun K hK hb1 hb2=>?_;simp only [argsV,enc,Nat.reduceAdd]
 clear hb1 hb2
 (repeat (any_goals (first | refine stw ?_ | (refine go2 fun xe hxe=>?_;conv=>whnf) | ((with_reducible refine cnd_i (fun hq=>?_) fun hq=>?_) <;> (try simp only [hqs] at hq) <;> (first | omega | conv=>whnf)))))
 refine at_fam 1 (.frow 3 (.int .i64) []) rfl ?_
 refine at_loop hK [] [3,9,10,11] (fun i:Nat=>⟨[(3,.ref 4),(9,.lst .ppl ps),(10,.int .i64 ps.length),(11,.int .i64 (i:Int))],[(1,.frow 3 (.int .i64) ((ps.take i).map (·.members))),(4,.row 41 (.pplm 1) (pmI ps i))],5⟩) (fun i=>i ≤ ps.length) (fun i=>ps.length - i) 0 (by simp) (by rw [show pmI ps 0 = List.replicate (ps.length:Int).toNat pm0 by simp [pmI,pms]];rfl) ?_
 intro i hi
 by_cases hlt:i < ps.length
 ·have hxe:ps[i]? = some ps[i]:=List.getElem?_eq_getElem hlt
  have hsn:ps.take (i + 1) = ps.take i ++ [ps[i]]:=List.take_succ_eq_append_getElem hlt
  obtain ⟨v1,v2⟩:=hv _ (List.getElem_mem hlt)
  have hpl:=pmI_len ps i hi
  have hst:=pmI_set hlt
  have hfl:((ps.take i).map (·.members)).length = i:=by rw [List.length_map,List.length_take];omega
  generalize ps[i] = p at *
  generalize pmI ps i = s at *
  (repeat (any_goals (first | refine stw ?_ | (refine go2 fun xe hxe=>?_;conv=>whnf) | ((with_reducible refine cnd_i (fun hq=>?_) fun hq=>?_) <;> (try simp only [hqs] at hq) <;> (first | omega | conv=>whnf)) | refine cr (icl_c _ v1) ?_)))
  refine ⟨i + 1,by omega,by omega,?_⟩
  rw [← hst,hsn,List.map_append,hfl]
  rfl
 ·(repeat (any_goals (first | refine stw ?_ | (refine go2 fun xe hxe=>?_;conv=>whnf) | ((with_reducible refine cnd_i (fun hq=>?_) fun hq=>?_) <;> (try simp only [hqs] at hq) <;> (first | omega | conv=>whnf)))))
  rw [List.take_of_length_le (by omega),show pmI ps i = pms ps by rw [pmI,List.take_of_length_le (by omega),show ps.length - i = 0 by omega];simp]
  exact ⟨rfl,rfl⟩
theorem cov_c (tabs:List (List (Option Vtx))) (k:Nat) (tab:List (Option Vtx)) (v:Vtx) (hk:tabs[k]? = some tab) (ht:tab.length = 217) (hr:v.parents ≠ [] → 1 ≤ v.round ∧ v.round ≤ 31) (hp:∀ p ∈ v.parents,0 ≤ p ∧ p ≤ 6):ConV Tryz.prog 166 [.fptr 0 k 0,vtxA v] [(0,.fvari 187 217 (.ob .vtx) tabs)] (.bool (vcov tab v)) [(0,.fvari 187 217 (.ob .vtx) tabs)]:=by
 refine con_eq Θ_ok Tryz.func166 rfl rfl false 0 4 rfl rfl rfl rfl fun K hK hb1 hb2=>?_;simp only [argsV,enc,Nat.reduceAdd]
 simp [toDL,V.toD,bnd,encD,D.cells] at hb1
 (repeat (any_goals (first | refine st ?_ | (refine go2 fun xe hxe=>?_;conv=>whnf) | ((with_reducible refine cnd_i (fun hq=>?_) fun hq=>?_) <;> (try simp only [hqs] at hq) <;> (first | omega | conv=>whnf)))))
 refine at_loop hK [] [0,3,8,9,10] (fun i:Nat=>⟨[(0,.fptr 0 k 0),(3,.ptr 4 0),(8,.lst (.int .i64) v.parents),(9,.int .i64 v.parents.length),(10,.int .i64 (i:Int))],[(0,.fvari 187 217 (.ob .vtx) tabs),(4,.var 39 (vtxA v).cells)],5⟩) (fun i=>i ≤ v.parents.length ∧ ∀ p ∈ v.parents.take i,(tab.getD ((v.round - 1) * 7 + p).toNat none).isSome = true) (fun i=>v.parents.length - i) 0 (by simp) rfl ?_
 rintro i ⟨hi,hall⟩
 by_cases hlt:i < v.parents.length
 ·have hxe:v.parents[i]? = some v.parents[i]:=List.getElem?_eq_getElem hlt
  have h3:v.parents.take (i + 1) = v.parents.take i ++ [v.parents[i]]:=List.take_succ_eq_append_getElem hlt
  have h4:v.parents[i] ∈ v.parents:=List.getElem_mem hlt
  have h5:=hr (List.ne_nil_of_mem h4)
  have h6:=hp _ h4
  generalize v.parents[i] = p at *
  have hix:((v.round - 1) * 7 + p).toNat = (v.round - 1).toNat * 7 + p.toNat:=by omega
  (repeat (any_goals (first | refine st ?_ | (refine go2 fun xe hxe=>?_;conv=>whnf) | ((with_reducible refine cnd_i (fun hq=>?_) fun hq=>?_) <;> (try simp only [hqs] at hq) <;> (first | omega | conv=>whnf)))))
  ·have hxe:tab[(v.round - 1).toNat * 7 + p.toNat]? = some xe:=hxe
   have:vcov tab v = false:=by
    rw [Bool.eq_false_iff]
    intro h
    have h:=List.all_eq_true.1 h p h4
    rw [hix,List.getD_eq_getElem?_getD,hxe,Option.getD_some] at h
    have hq:xe = none:=by simpa using hq
    rw [hq] at h
    cases h
   rw [this]
   exact ⟨rfl,rfl⟩
  ·have hxe:tab[(v.round - 1).toNat * 7 + p.toNat]? = some xe:=hxe
   refine ⟨i + 1,⟨by omega,?_⟩,by omega,rfl⟩
   rw [h3]
   refine tk_snoc hall ?_
   rw [hix,List.getD_eq_getElem?_getD,hxe,Option.getD_some]
   have hq:Option.isNone xe = false:=hq
   simpa [Option.isNone_iff_eq_none,Option.isSome_iff_ne_none] using hq
 ·(repeat (any_goals (first | refine st ?_ | (refine go2 fun xe hxe=>?_;conv=>whnf) | ((with_reducible refine cnd_i (fun hq=>?_) fun hq=>?_) <;> (try simp only [hqs] at hq) <;> (first | omega | conv=>whnf)))))
  rw [List.take_of_length_le (by omega)] at hall
  have:vcov tab v = true:=List.all_eq_true.2 hall
  rw [this]
  exact ⟨rfl,rfl⟩
end Go.Proofs.YtjjddgpdoibcoaaGreatDoor.Am
namespace Go.Proofs.YtjjddgpdoibcoaaGreatDoor.Am
open Go
attribute [local irreducible] Mk Need Ari Get Idx Cnd CallM CallA Opt Unch At ConV
set_option maxRecDepth 10000
abbrev rB (c l:List Int) (b:Int) (tabs:List (List (Option Vtx))) (ps:List Ppl):VH:=[(0,.fvari 187 217 (.ob .vtx) tabs),(1,.frow 3 (.int .i64) (ps.map (·.members))),(4,.var 91 [.int .i32 0,.int .u32 0,.lst (.int .i64) c,.lst (.int .i64) l,.int .i64 b,.ref 5,.ref 6]),(5,.row 135 (.hp 0) ((List.range tabs.length).map some)),(6,.row 41 (.pplm 1) (pms ps))]
theorem pms_at {ps:List Ppl} {i:Nat} {p:Ppl} (h:ps[i]? = some p):(pms ps)[i]? = some ⟨p.v,some i⟩:=by
 simp [pms,List.getElem?_map,List.getElem?_zipIdx,h]
theorem cov_h (tabs:List (List (Option Vtx))) (k:Nat) (tab:List (Option Vtx)) (v:Vtx) (hk:tabs[k]? = some tab) (ht:tab.length = 217) (hr:v.parents ≠ [] → 1 ≤ v.round ∧ v.round ≤ 31) (hp:∀ p ∈ v.parents,0 ≤ p ∧ p ≤ 6):ConV Tryz.prog 166 [.hpo 0 (some k),vtxA v] [(0,.fvari 187 217 (.ob .vtx) tabs)] (.bool (vcov tab v)) [(0,.fvari 187 217 (.ob .vtx) tabs)]:=by
 have h:=cov_c tabs k tab v hk ht hr hp
 unfold ConV at h ⊢
 exact h
set_option maxHeartbeats 1000000 in
theorem ikp_c (c l:List Int) (b:Int) (tabs:List (List (Option Vtx))) (ps:List Ppl) (ht:∀ t ∈ tabs,t.length = 217) (htl:tabs.length ≤ 7) (hpn:ps.length ≤ 1000000) (hp:∀ p ∈ ps,pOK tabs.length p):ConV Tryz.prog 103 [.ptr 4 0] (rB c l b tabs ps) (.bool (kpIs b tabs ps)) (rB c l b tabs ps):=by
 refine con_eq Θw_ok Tryz.func103 rfl rfl false 3 7 rfl rfl rfl rfl fun K hK hb1 hb2=>?_;simp only [argsV,enc,Nat.reduceAdd]
 clear hb1 hb2
 have hpl:=pms_len ps
 (repeat (any_goals (first | refine stw ?_ | (refine go2 fun xe hxe=>?_;conv=>whnf) | ((with_reducible refine cnd_i (fun hq=>?_) fun hq=>?_) <;> (try simp only [hqs] at hq) <;> (first | omega | conv=>whnf)))))
 refine at_loop hK [] [0,10,11,12] (fun i:Nat=>⟨[(0,.ptr 4 0),(10,.ref 6),(11,.int .i64 ps.length),(12,.int .i64 (i:Int))],rB c l b tabs ps,7⟩) (fun i=>i ≤ ps.length ∧ ∀ p ∈ ps.take i,kpI b tabs p.v (p.v.author :: p.members) = true) (fun i=>ps.length - i) 0 (by simp) (by simp only [hpl];rfl) ?_
 rintro i ⟨hi,hall⟩
 by_cases hlt:i < ps.length
 ·have hxe:ps[i]? = some ps[i]:=List.getElem?_eq_getElem hlt
  have hsn:ps.take (i + 1) = ps.take i ++ [ps[i]]:=List.take_succ_eq_append_getElem hlt
  have hpm:ps[i] ∈ ps:=List.getElem_mem hlt
  have hno:kpI b tabs ps[i].v (ps[i].v.author :: ps[i].members) = false → kpIs b tabs ps = false:=fun h=>by
   rw [Bool.eq_false_iff]
   intro h2
   rw [List.all_eq_true.1 h2 _ hpm] at h
   cases h
  obtain ⟨p1,p2,p3,p4,p5⟩:=hp _ hpm
  have hx1:=pms_at hxe
  have hx2:(ps.map (·.members))[i]? = some ps[i].members:=by rw [List.getElem?_map,hxe];rfl
  have hfl:(ps.map (·.members)).length = ps.length:=List.length_map ..
  generalize ps[i] = p at *
  (repeat (any_goals (first | refine stw ?_ | (refine go2 fun xe hxe=>?_;conv=>whnf) | ((with_reducible refine cnd_i (fun hq=>?_) fun hq=>?_) <;> (try simp only [hqs] at hq) <;> (first | omega | conv=>whnf)))))
  refine at_loop hK [] [0,4,10,11,12,22,23,24] (fun j:Nat=>⟨[(0,.ptr 4 0),(4,.ptr 7 0),(10,.ref 6),(11,.int .i64 ps.length),(12,.int .i64 (i:Int)),(22,.ref 8),(23,.int .i64 ((p.v.author :: p.members).length:Nat)),(24,.int .i64 (j:Int))],rB c l b tabs ps ++ [(7,VB.var 41 [.int .i64 p.v.round,.int .i64 p.v.author,.lst (.int .i64) p.v.parents,.int .i64 p.v.digest,.hro 1 (some i)]),(8,VB.row 3 (.int .i64) (p.v.author :: p.members))],9⟩) (fun j=>j ≤ (p.v.author :: p.members).length ∧ ∀ m ∈ (p.v.author :: p.members).take j,(m == b || vcov (tabs.getD m.toNat []) p.v) = true) (fun j=>(p.v.author :: p.members).length - j) 0 (by simp) (by (conv=>whnf);rfl) ?_
  rintro j ⟨hj,hjall⟩
  have hnl:(p.v.author :: p.members).length ≤ 1000001:=by simp only [List.length_cons];omega
  have hkk:(∀ m ∈ p.v.author :: p.members,(m == b || vcov (tabs.getD m.toNat []) p.v) = true) → kpI b tabs p.v (p.v.author :: p.members) = true:=fun h=>List.all_eq_true.2 h
  have hkn:∀ m ∈ p.v.author :: p.members,(m == b || vcov (tabs.getD m.toNat []) p.v) = false → kpI b tabs p.v (p.v.author :: p.members) = false:=fun m hm h=>by
   rw [Bool.eq_false_iff]
   intro h2
   rw [List.all_eq_true.1 h2 _ hm] at h
   cases h
  generalize hms:p.v.author :: p.members = ms at *
  by_cases hjl:j < ms.length
  ·have hye:ms[j]? = some ms[j]:=List.getElem?_eq_getElem hjl
   have hjs:ms.take (j + 1) = ms.take j ++ [ms[j]]:=List.take_succ_eq_append_getElem hjl
   have hjm:ms[j] ∈ ms:=List.getElem_mem hjl
   have hxr:=p1 _ hjm
   have hkn:=hkn _ hjm
   generalize ms[j] = m at *
   have hxt:tabs[m.toNat]? = some (tabs.getD m.toNat []):=by
    rw [List.getD_eq_getElem?_getD,List.getElem?_eq_getElem (show m.toNat < tabs.length by omega)];rfl
   have hxv:((List.range tabs.length).map some)[m.toNat]? = some (some m.toNat):=by
    rw [List.getElem?_map,List.getElem?_range (show m.toNat < tabs.length by omega)];rfl
   have hvl:((List.range tabs.length).map some).length = tabs.length:=by simp
   have hC:=cov_h tabs m.toNat _ p.v hxt (ht _ (List.mem_of_getElem? hxt)) p2 p3
   by_cases hmb:m = b
   ·subst hmb
    (repeat (any_goals (first | refine stw ?_ | (refine go2 fun xe hxe=>?_;conv=>whnf) | ((with_reducible refine cnd_i (fun hq=>?_) fun hq=>?_) <;> (try simp only [hqs] at hq) <;> (first | omega | conv=>whnf)))))
    ·exact absurd trivial hq
    ·refine ⟨j + 1,⟨by omega,by rw [hjs];exact tk_snoc hjall (by simp)⟩,by omega,rfl⟩
   ·cases h1:vcov (tabs.getD m.toNat []) p.v
    ·rw [h1] at hC
     (repeat (any_goals (first | refine stw ?_ | (refine go2 fun xe hxe=>?_;conv=>whnf) | ((with_reducible refine cnd_i (fun hq=>?_) fun hq=>?_) <;> (try simp only [hqs] at hq) <;> (first | omega | conv=>whnf)) | refine co (hC) ?_)))
     exact ⟨by rw [hno (hkn (by rw [h1,Bool.or_false];simpa using hmb))],rfl⟩
    ·rw [h1] at hC
     (repeat (any_goals (first | refine stw ?_ | (refine go2 fun xe hxe=>?_;conv=>whnf) | ((with_reducible refine cnd_i (fun hq=>?_) fun hq=>?_) <;> (try simp only [hqs] at hq) <;> (first | omega | conv=>whnf)) | refine co (hC) ?_)))
     exact ⟨j + 1,⟨by omega,by rw [hjs];exact tk_snoc hjall (by rw [h1,Bool.or_true])⟩,by omega,rfl⟩
  ·(repeat (any_goals (first | refine stw ?_ | (refine go2 fun xe hxe=>?_;conv=>whnf) | ((with_reducible refine cnd_i (fun hq=>?_) fun hq=>?_) <;> (try simp only [hqs] at hq) <;> (first | omega | conv=>whnf)))))
   rw [List.take_of_length_le (by omega)] at hjall
   exact ⟨i + 1,⟨by omega,by rw [hsn];exact tk_snoc hall (by rw [hms];exact hkk hjall)⟩,by omega,rfl⟩
 ·(repeat (any_goals (first | refine stw ?_ | (refine go2 fun xe hxe=>?_;conv=>whnf) | ((with_reducible refine cnd_i (fun hq=>?_) fun hq=>?_) <;> (try simp only [hqs] at hq) <;> (first | omega | conv=>whnf)))))
  rw [List.take_of_length_le (by omega)] at hall
  have:kpIs b tabs ps = true:=List.all_eq_true.2 hall
  rw [this]
  exact ⟨rfl,rfl⟩
end Go.Proofs.YtjjddgpdoibcoaaGreatDoor.Am
namespace Go.Proofs.YtjjddgpdoibcoaaGreatDoor.Am
open Go Go.Shelf Go.RowKit
attribute [local irreducible] Mk Need Ari Get Idx Cnd CallM CallA Opt Unch At ConV
set_option maxRecDepth 10000
theorem con_below {P : Program} {f : FuncId} {ds : List D} {r : D} (hf : ∃ fn, P.funcs[f]? = some fn ∧ fn.body.isNone = false ∧ (fn.name == "runtime.NumGoroutine") = false)
  (h:∀ (w:World) (ok:Nat → Prop) (ρ:Id → Pl) (vs:Array Value),ds.length = vs.size → (∀ i,i < ds.length → C ρ (fun _=>False) ok w (ds.getD i .undef) (vs.getD i undef)) →
   Calls P f vs w fun e w'=>∃ u,e = .returned u ∧ Below w.heap.size w w' ∧ ∀ ok',Rep ok' w' r u):Con P f ds [] r []:=by
 refine ⟨hf,fun w A ρ vs hs hl hc=>?_⟩
 have hno:∀ b,¬ Live [] b:=fun b h=>by cases h
 have hc':∀ i,i < ds.length → C ρ (fun _=>False) (okOf A ρ [] w) w (ds.getD i .undef) (vs.getD i undef):=fun i hi=>(hc i hi).mono (fun b hb=>absurd hb (hno b)) (fun b hb=>⟨hb,rfl⟩)
 refine Calls.mono (h w (okOf A ρ [] w) ρ vs hl hc') ?_
 rintro e w' ⟨u,rfl,hb,hr⟩
 refine ⟨u,ρ,rfl,fun b hb=>absurd hb (hno b),⟨hs.base,hs.inS,⟨hb.os,hb.tape,hb.output,hb.size,fun i hi _=>hb.block i hi⟩,rfl,rfl,?_,?_,?_,?_,hs.gl⟩,.pure (hr _)⟩
 ·intro k d h;cases h
 ·intro k d h;cases h
 ·intro k d h;cases h
 ·intro b b' x x' h;cases h
theorem fits_ap {nb:Nat} {α β:Type} {xs:List α} {ys:List β} (h1:xs.length ≤ 1000000) (h2:ys.length ≤ 1000000) (hb:nb ≤ 100):fits nb (xs.length + ys.length):=by
 have:(xs.length + ys.length) * nb ≤ 2000000 * 100:=Nat.mul_le_mul (by omega) hb
 unfold fits
 omega
def lays15_ren:Go.Shelf.Ren:=⟨fun | 15=>100 | n=>n,fun | 22=>23 | 3=>3 | 4=>4 | n=>n,fun | n=>n⟩
theorem lays15:Go.Proofs.Lays2.n15 Tryz.prog lays15_ren where
  mixed:=by kernel_rfl
  f15:=Tryz.func100.trans (congrArg some (by kernel_rfl))
  t3:=Tryz.underlying3
  a3:=Tryz.isAgg3
  z3:=Tryz.sizeOf3
  v3:=Tryz.zeroValue3
  t4:=Tryz.underlying4
  a4:=Tryz.isAgg4
  z4:=Tryz.sizeOf4
  v4:=Tryz.zeroValue4
  t22:=Tryz.underlying23
  a22:=Tryz.isAgg23
  z22:=Tryz.sizeOf23
  v22:=Tryz.zeroValue23
  i3:=by kernel_rfl
theorem icln0_c (t:Ty):ConV Tryz.prog 100 [.lst t []] [] (.lst t []) []:=by
 unfold ConV
 refine con_below ⟨_,Tryz.func100,rfl,rfl⟩ fun w ok ρ vs hl hc=>?_
 obtain ⟨v,rfl⟩:∃ v,vs = #[v]:=by
  have:vs.size = 1:=hl.symm
  exact ⟨vs[0],Array.ext (by simp [this]) fun i h1 h2=>by
   have:i = 0:=by simpa using h2
   subst this;rfl⟩
 have h0:C ρ (fun _=>False) ok w (.lst []) v:=hc 0 (Nat.one_pos)
 have h1:=h0.lst_inv
 have fin:∀ (w':World) (a:Option Addr) (cap:Nat),(a = none → cap = 0) → cap ≤ maxLen → ∀ ok',Rep ok' w' ((V.lst t []).toD) (.slice a 0 cap):=fun w' a cap h1 h2 ok'=>.none a cap h1 h2
 obtain ⟨a,cap,rfl,ha⟩:∃ a cap,v = .slice a 0 cap ∧ (a = none → cap = 0):=by
  cases h1 with
  | none a cap ha hcap=>exact ⟨a,cap,rfl,ha⟩
  | lst l n b off cap f hn=>exact ⟨_,cap,by rw [← hn];rfl,fun h=>by cases h⟩
 cases a with
 | none=>
  refine Calls.mono (Any.slices_Clone_int_nil lays15 0 cap w) ?_
  rintro e w' ⟨rfl,rfl⟩
  exact ⟨_,rfl,Below.refl _ _,fin _ _ _ (fun _=>rfl) (Nat.zero_le _)⟩
 | some a=>
  refine Calls.mono (Any.slices_Clone_int_zero lays15 a cap w) ?_
  rintro e w' ⟨v',rfl,ho,_,hb⟩
  refine ⟨v',rfl,hb,?_⟩
  rcases ho.2 with ⟨rfl,_⟩ | ⟨g,cap',cur,rfl,_,_,_,h3,_⟩
  ·exact fin _ _ _ (fun _=>rfl) (Nat.zero_le _)
  ·exact fin _ _ _ (fun h=>by cases h) h3
theorem icln_c (l:List Int) (hb:l.length ≤ 1000000):ConV Tryz.prog 100 [.lst (.int .i64) l] [] (.lst (.int .i64) l) []:=by
 cases l with
 | nil=>exact icln0_c _
 | cons x l=>
  refine con_eq Θ_ok Tryz.func100 rfl rfl true 0 4 rfl rfl rfl rfl fun K hK hb1 hb2=>?_;simp only [argsV,enc,Nat.reduceAdd]
  (repeat (any_goals (first | refine st ?_ | (refine go2 fun xe hxe=>?_;conv=>whnf) | ((with_reducible refine cnd_i (fun hq=>?_) fun hq=>?_) <;> (try simp only [hqs] at hq) <;> (first | omega | conv=>whnf)))))
  refine need_i (fits_ap (Nat.zero_le _) hb (by decide)) ?_
  (repeat (any_goals (first | refine st ?_ | (refine go2 fun xe hxe=>?_;conv=>whnf) | ((with_reducible refine cnd_i (fun hq=>?_) fun hq=>?_) <;> (try simp only [hqs] at hq) <;> (first | omega | conv=>whnf)))))
  refine at_ret ?_
  (conv=>whnf)
  exact ⟨rfl,rfl⟩
end Go.Proofs.YtjjddgpdoibcoaaGreatDoor.Am
