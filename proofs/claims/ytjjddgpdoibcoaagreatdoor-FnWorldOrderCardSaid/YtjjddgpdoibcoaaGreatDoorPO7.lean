/- Runs: a run is opened. The exact laws' own functions on lists of numbers and vertices. Runs: the vertices of a graph's table; copies of proposals; a run as it is handed back. Runs: what is handed back; new runs, valid runs. Runs: what the specification's functions give. Runs: new runs, and the specification's checks. What is drawn: the reader of bytes. What is drawn for graphs. New runs: what the program gives; equal runs; the law FnWorldNew. Runs: what events do, and what they keep: plain laws. Runs: more plain laws: bounds, what is put into lists in order, quiet rounds. The plain machine wit -/
import Derived.Shelf.Spec.SlicesInsertGrow
import Derived.Shelf.Slices.SearchI
import Derived.Shelf.Slices.Empties
import Derived.Conc.MuLone
import Derived.Defers
import Derived.Test.YtjjddgpdoibcoaaGreatDoorPO6
set_option linter.unusedSimpArgs false
set_option linter.unusedVariables false
namespace Go.Proofs.YtjjddgpdoibcoaaGreatDoor.Am
open Go
attribute [local irreducible] Mk Need Ari Get Idx Cnd CallM CallA Opt Unch At ConV
set_option maxRecDepth 10000
def opR (w:Wrl):V:=if preS w then .tup [.ptr 4 0,.bool (kpIs w.bad (w.views.map tabV) w.props)] else .tup [.nilp,.bool false]
def opO (w:Wrl):VH:=if preS w then rB w.com w.lead w.bad (w.views.map tabV) w.props else []
def opS (w:Wrl):Nat → VSt
 | 0=>⟨[(1,.ptr 4 0),(4,.ptr 5 0),(42,.lst (.lst .vtx) w.views),(43,.int .i64 w.views.length),(44,.int .i64 0)],[(0,.fvari 187 217 (.ob .vtx) []),(4,.var 27 (wrlA w).cells),(5,.var 91 [.int .i32 0,.int .u32 0,.lst (.int .i64) w.com,.lst (.int .i64) w.lead,.int .i64 w.bad,.nils,.nils])],6⟩
 | i + 1=>⟨[(1,.ptr 4 0),(4,.ptr 5 0),(42,.lst (.lst .vtx) w.views),(43,.int .i64 w.views.length),(44,.int .i64 ((i + 1:Nat):Int))],[(0,.fvari 187 217 (.ob .vtx) ((w.views.take (i + 1)).map tabV)),(4,.var 27 (wrlA w).cells),(5,.var 91 [.int .i32 0,.int .u32 0,.lst (.int .i64) w.com,.lst (.int .i64) w.lead,.int .i64 w.bad,.ref 6,.nils]),(6,.row 135 (.hp 0) ((List.range (i + 1)).map some))],7⟩
set_option maxHeartbeats 1000000 in
theorem iop_c (w:Wrl) (hl:∀ g ∈ w.views,g.length ≤ 2000000):ConV Tryz.prog 48 [wrlA w] [] (opR w) (opO w):=by
 have hno:preS w = false → V.tup [.nilp,.bool false] = opR w ∧ ([]:VH) = opO w:=fun h=>by simp [opR,opO,h]
 refine con_eq Θw_ok Tryz.func48 rfl rfl false 0 4 rfl rfl rfl rfl fun K hK hb1 hb2=>?_;simp only [argsV,enc,Nat.reduceAdd]
 clear hb1 hb2
 have hL:=ileaV_c w.com w.lead
 cases h1:comV w.com && leaS w.com w.lead
 ·rw [h1] at hL
  (repeat (any_goals (first | refine stw ?_ | (refine go2 fun xe hxe=>?_;conv=>whnf) | ((with_reducible refine cnd_i (fun hq=>?_) fun hq=>?_) <;> (try simp only [hqs] at hq) <;> (first | omega | conv=>whnf)) | refine cr (hL) ?_)))
  exact hno (by
   rw [Bool.and_eq_false_iff] at h1
   rcases h1 with h1 | h1 <;> simp [preS,newS,h1])
 rw [h1] at hL
 have hc:comV w.com = true:=(Bool.and_eq_true_iff.1 h1).1
 have hle:leaS w.com w.lead = true:=(Bool.and_eq_true_iff.1 h1).2
 have hB:=isBad_c w.com w.bad hc
 cases h2:badS w.com w.bad
 ·rw [h2] at hB
  (repeat (any_goals (first | refine stw ?_ | (refine go2 fun xe hxe=>?_;conv=>whnf) | ((with_reducible refine cnd_i (fun hq=>?_) fun hq=>?_) <;> (try simp only [hqs] at hq) <;> (first | omega | conv=>whnf)) | refine cr (hL) ?_ | refine cr (hB) ?_)))
  exact hno (by simp [preS,newS,h2])
 rw [h2] at hB
 have hP:=iproV_c w hc
 cases h3:proS w.com w.bad w.props
 ·rw [h3] at hP
  (repeat (any_goals (first | refine stw ?_ | (refine go2 fun xe hxe=>?_;conv=>whnf) | ((with_reducible refine cnd_i (fun hq=>?_) fun hq=>?_) <;> (try simp only [hqs] at hq) <;> (first | omega | conv=>whnf)) | refine cr (hL) ?_ | refine cr (hB) ?_ | refine cr (hP) ?_)))
  exact hno (by simp [preS,newS,h3])
 rw [h3] at hP
 have hV:=iviwV_c w hc h3 hl
 cases h4:(w.views.length == w.com.length) && viwsS w.com w.bad w.props w.views
 ·rw [h4] at hV
  (repeat (any_goals (first | refine stw ?_ | (refine go2 fun xe hxe=>?_;conv=>whnf) | ((with_reducible refine cnd_i (fun hq=>?_) fun hq=>?_) <;> (try simp only [hqs] at hq) <;> (first | omega | conv=>whnf)) | refine cr (hL) ?_ | refine cr (hB) ?_ | refine cr (hP) ?_ | refine cr (hV) ?_)))
  exact hno (by simp only [preS,h4];simp)
 rw [h4] at hV
 have hpre:preS w = true:=by simp [preS,newS,hc,hle,h2,h3];simpa using h4
 have hR:opR w = .tup [.ptr 4 0,.bool (kpIs w.bad (w.views.map tabV) w.props)]:=by simp [opR,hpre]
 have hO:opO w = rB w.com w.lead w.bad (w.views.map tabV) w.props:=by simp [opO,hpre]
 rw [hR,hO]
 have h7:=(comV_iff.1 hc).2
 have hll:=(leaS_iff.1 hle).2
 have hvl:w.views.length = w.com.length:=(pre_ok hpre).2.2.2.2.1
 have hne:w.com ≠ []:=fun h=>by rw [h] at h7;simp at h7
 have hCm:=icln_c w.com (by omega)
 have hCl:=icln_c w.lead (by omega)
 (repeat (any_goals (first | refine stw ?_ | (refine go2 fun xe hxe=>?_;conv=>whnf) | ((with_reducible refine cnd_i (fun hq=>?_) fun hq=>?_) <;> (try simp only [hqs] at hq) <;> (first | omega | conv=>whnf)) | refine cr (hL) ?_ | refine cr (hB) ?_ | refine cr (hP) ?_ | refine cr (hV) ?_ | refine cr (hCm) ?_ | refine cr (hCl) ?_)))
 refine at_fam 0 (.fvari 187 217 (.ob .vtx) []) rfl ?_
 refine at_loop hK [] [1,4,42,43,44] (opS w) (fun i=>i ≤ w.views.length) (fun i=>w.views.length - i) 0 (by simp) (by (conv=>whnf);rfl) ?_
 intro i hi
 have hps:=pre_pOK hpre
 have hpl:=pro_len h3
 have ht7:∀ t ∈ w.views.map tabV,t.length = 217:=fun t h=>by
  obtain ⟨g,_,rfl⟩:=List.mem_map.1 h
  exact tabV_len g
 have hml:(w.views.map tabV).length = w.views.length:=List.length_map ..
 by_cases hlt:i < w.views.length
 ·have hgm:w.views[i] ∈ w.views:=List.getElem_mem hlt
  have hxe:w.views[i]? = some w.views[i]:=List.getElem?_eq_getElem hlt
  have hsn:w.views.take (i + 1) = w.views.take i ++ [w.views[i]]:=List.take_succ_eq_append_getElem hlt
  have hg:=pre_tab hpre _ hgm
  generalize w.views[i] = g at *
  cases i with
  | zero=>
   have hx0:w.views[(0:Int).toNat]? = some g:=hxe
   have hst:opS w (0 + 1) = ⟨[(1,.ptr 4 0),(4,.ptr 5 0),(42,.lst (.lst .vtx) w.views),(43,.int .i64 w.views.length),(44,.int .i64 ((0 + 1:Nat):Int))],[(0,.fvari 187 217 (.ob .vtx) [tabV g]),(4,.var 27 (wrlA w).cells),(5,.var 91 [.int .i32 0,.int .u32 0,.lst (.int .i64) w.com,.lst (.int .i64) w.lead,.int .i64 w.bad,.ref 6,.nils]),(6,.row 135 (.hp 0) [some 0])],7⟩:=by
    rw [opS,hsn]
    rfl
   have hs0:opS w 0 = ⟨[(1,.ptr 4 0),(4,.ptr 5 0),(42,.lst (.lst .vtx) w.views),(43,.int .i64 w.views.length),(44,.int .i64 0)],[(0,.fvari 187 217 (.ob .vtx) []),(4,.var 27 (wrlA w).cells),(5,.var 91 [.int .i32 0,.int .u32 0,.lst (.int .i64) w.com,.lst (.int .i64) w.lead,.int .i64 w.bad,.nils,.nils])],6⟩:=rfl
   rw [hs0]
   (repeat (any_goals (first | refine stw ?_ | (refine go2 fun xe hxe=>?_;conv=>whnf) | ((with_reducible refine cnd_i (fun hq=>?_) fun hq=>?_) <;> (try simp only [hqs] at hq) <;> (first | omega | conv=>whnf)) | refine cr (vof_c g hg) ?_)))
   refine ⟨0 + 1,by omega,by omega,?_⟩
   rw [hst]
   rfl
  | succ i=>
   have hfl:((w.views.take (i + 1)).map tabV).length = i + 1:=by rw [List.length_map,List.length_take];omega
   have hrl:((List.range (i + 1)).map some).length = i + 1:=by simp
   have hst:opS w (i + 1 + 1) = ⟨[(1,.ptr 4 0),(4,.ptr 5 0),(42,.lst (.lst .vtx) w.views),(43,.int .i64 w.views.length),(44,.int .i64 ((i + 1 + 1:Nat):Int))],[(0,.fvari 187 217 (.ob .vtx) ((w.views.take (i + 1)).map tabV ++ [tabV g])),(4,.var 27 (wrlA w).cells),(5,.var 91 [.int .i32 0,.int .u32 0,.lst (.int .i64) w.com,.lst (.int .i64) w.lead,.int .i64 w.bad,.ref 6,.nils]),(6,.row 135 (.hp 0) ((List.range (i + 1)).map some ++ [some (i + 1)]))],7⟩:=by
    rw [opS,hsn,List.map_append,List.range_succ,List.map_append]
    rfl
   have hs0:opS w (i + 1) = ⟨[(1,.ptr 4 0),(4,.ptr 5 0),(42,.lst (.lst .vtx) w.views),(43,.int .i64 w.views.length),(44,.int .i64 ((i + 1:Nat):Int))],[(0,.fvari 187 217 (.ob .vtx) ((w.views.take (i + 1)).map tabV)),(4,.var 27 (wrlA w).cells),(5,.var 91 [.int .i32 0,.int .u32 0,.lst (.int .i64) w.com,.lst (.int .i64) w.lead,.int .i64 w.bad,.ref 6,.nils]),(6,.row 135 (.hp 0) ((List.range (i + 1)).map some))],7⟩:=rfl
   rw [hs0]
   clear hs0
   generalize (w.views.take (i + 1)).map tabV = ts at *
   generalize (List.range (i + 1)).map some = rs at *
   (repeat (any_goals (first | refine stw ?_ | (refine go2 fun xe hxe=>?_;conv=>whnf) | ((with_reducible refine cnd_i (fun hq=>?_) fun hq=>?_) <;> (try simp only [hqs] at hq) <;> (first | omega | conv=>whnf)) | refine cr (vof_c g hg) ?_)))
   refine ⟨i + 1 + 1,by omega,by omega,?_⟩
   rw [hst,hfl]
   rfl
 ·have hi':i = w.views.length:=by omega
  have hK:=ikp_c w.com w.lead w.bad (w.views.map tabV) w.props ht7 (by omega) (by omega) (by rw [hml];exact hps)
  have hCp:=icps_c w.props (fun p hp=>⟨by have:=(hps p hp).2.2.2.2;omega,by have:=(hps p hp).2.2.2.1;omega⟩) (by omega)
  cases i with
  | zero=>omega
  | succ i=>
   have hs0:opS w (i + 1) = ⟨[(1,.ptr 4 0),(4,.ptr 5 0),(42,.lst (.lst .vtx) w.views),(43,.int .i64 w.views.length),(44,.int .i64 ((i + 1:Nat):Int))],[(0,.fvari 187 217 (.ob .vtx) (w.views.map tabV)),(4,.var 27 (wrlA w).cells),(5,.var 91 [.int .i32 0,.int .u32 0,.lst (.int .i64) w.com,.lst (.int .i64) w.lead,.int .i64 w.bad,.ref 6,.nils]),(6,.row 135 (.hp 0) ((List.range (w.views.map tabV).length).map some))],7⟩:=by
    rw [opS,List.take_of_length_le (by omega),hml,← hi']
   rw [hs0]
   clear hs0
   generalize hts:w.views.map tabV = ts at *
   (repeat (any_goals (first | refine stw ?_ | (refine go2 fun xe hxe=>?_;conv=>whnf) | ((with_reducible refine cnd_i (fun hq=>?_) fun hq=>?_) <;> (try simp only [hqs] at hq) <;> (first | omega | conv=>whnf)) | refine cr (hCp) ?_ | refine co (hK) ?_)))
   exact ⟨rfl,rfl⟩
end Go.Proofs.YtjjddgpdoibcoaaGreatDoor.Am
namespace Go.Proofs.YtjjddgpdoibcoaaGreatDoor.Am
open Go
attribute [local irreducible] Mk Need Ari Get Idx Cnd CallM CallA Opt Unch At ConV
set_option maxRecDepth 10000
end Go.Proofs.YtjjddgpdoibcoaaGreatDoor.Am
namespace Go.Proofs.YtjjddgpdoibcoaaGreatDoor.Am
open Go
attribute [local irreducible] Mk Need Ari Get Idx Cnd CallM CallA Opt Unch At ConV
set_option maxRecDepth 10000
end Go.Proofs.YtjjddgpdoibcoaaGreatDoor.Am
namespace Go.Proofs.YtjjddgpdoibcoaaGreatDoor.Am
open Go
attribute [local irreducible] Mk Need Ari Get Idx Cnd CallM CallA Opt Unch At ConV
set_option maxRecDepth 10000
theorem iwV_c (w:Wrl) (hl:∀ g ∈ w.views,g.length ≤ 2000000):ConV Tryz.prog 21 [wrlA w] [] (.bool (wrlS w)) []:=by
 have h:=iop_c w hl
 have he:=wrlS_eq w
 refine con_eq Θ_ok Tryz.func21 rfl rfl false 0 4 rfl rfl rfl rfl fun K hK hb1 hb2=>?_;simp only [argsV,enc,Nat.reduceAdd]
 clear hb1 hb2
 cases hp:preS w
 ·simp only [opR,opO,hp,Bool.false_eq_true,if_false] at h
  (repeat (any_goals (first | refine st ?_ | (refine go2 fun xe hxe=>?_;conv=>whnf) | ((with_reducible refine cnd_i (fun hq=>?_) fun hq=>?_) <;> (try simp only [hqs] at hq) <;> (first | omega | conv=>whnf)) | refine cr (h) ?_)))
  exact ⟨by rw [he,hp,Bool.false_and],rfl⟩
 ·simp only [opR,opO,hp,if_true] at h
  have hk:=pre_kp hp
  rw [hk] at h
  (repeat (any_goals (first | refine st ?_ | (refine go2 fun xe hxe=>?_;conv=>whnf) | ((with_reducible refine cnd_i (fun hq=>?_) fun hq=>?_) <;> (try simp only [hqs] at hq) <;> (first | omega | conv=>whnf)) | refine cr (h) ?_)))
  exact ⟨by rw [he,hp,Bool.true_and],rfl⟩
end Go.Proofs.YtjjddgpdoibcoaaGreatDoor.Am
namespace Go.Proofs.YtjjddgpdoibcoaaGreatDoor.Am
open Go
attribute [local irreducible] Mk Need Ari Get Idx Cnd CallM CallA Opt Unch At ConV
set_option maxRecDepth 10000
theorem has_c (l:List Int) (n:Int):ConV Tryz.prog 69 [.lst (.int .i64) l,.int .i64 n] [] (.bool (l.contains n)) []:=by
 refine con_eq Θ_ok Tryz.func69 rfl rfl false 0 4 rfl rfl rfl rfl fun K hK hb1 hb2=>?_;simp only [argsV,enc,Nat.reduceAdd]
 simp [toDL,V.toD,bnd,encD,D.cells] at hb1
 (repeat (any_goals (first | refine st ?_ | (refine go2 fun xe hxe=>?_;conv=>whnf) | ((with_reducible refine cnd_i (fun hq=>?_) fun hq=>?_) <;> (try simp only [hqs] at hq) <;> (first | omega | conv=>whnf)))))
 refine at_loop hK [] [0,1,5] (fun i:Nat=>⟨[(0,.lst (.int .i64) l),(1,.int .i64 n),(5,.int .i64 i)],[],4⟩) (fun i=>i ≤ l.length ∧ ∀ y ∈ l.take i,(y == n) = false) (fun i=>l.length - i) 0 ⟨by simp,by simp⟩ rfl ?_
 rintro i ⟨hi,hall⟩
 by_cases hlt:i < l.length
 ·have hxe:l[i]? = some l[i]:=List.getElem?_eq_getElem hlt
  have hsn:l.take (i + 1) = l.take i ++ [l[i]]:=List.take_succ_eq_append_getElem hlt
  have hm:l[i] ∈ l:=List.getElem_mem hlt
  generalize l[i] = x at *
  by_cases h:x = n
  ·subst h
   (repeat (any_goals (first | refine st ?_ | (refine go2 fun xe hxe=>?_;conv=>whnf) | ((with_reducible refine cnd_i (fun hq=>?_) fun hq=>?_) <;> (try simp only [hqs] at hq) <;> (first | omega | conv=>whnf)))))
   ·rw [List.contains_iff_mem.2 hm]
    exact ⟨rfl,rfl⟩
   ·exact absurd trivial hq
  ·(repeat (any_goals (first | refine st ?_ | (refine go2 fun xe hxe=>?_;conv=>whnf) | ((with_reducible refine cnd_i (fun hq=>?_) fun hq=>?_) <;> (try simp only [hqs] at hq) <;> (first | omega | conv=>whnf)))))
   exact ⟨i + 1,⟨by omega,by rw [hsn];exact tk_snoc hall (by simpa using h)⟩,by omega,rfl⟩
 ·(repeat (any_goals (first | refine st ?_ | (refine go2 fun xe hxe=>?_;conv=>whnf) | ((with_reducible refine cnd_i (fun hq=>?_) fun hq=>?_) <;> (try simp only [hqs] at hq) <;> (first | omega | conv=>whnf)))))
  rw [List.take_of_length_le (by omega)] at hall
  have:l.contains n = false:=by
   rw [Bool.eq_false_iff]
   intro h
   have:=hall _ (List.contains_iff_mem.1 h)
   simp at this
  rw [this]
  exact ⟨rfl,rfl⟩
theorem lEq_ne {a b:List Int} {i:Nat} {x y:Int} (hx:a[i]? = some x) (hy:b[i]? = some y) (h:x ≠ y):(a == b) = false:=by
 rw [beq_eq_false_iff_ne]
 rintro rfl
 rw [hx] at hy
 exact h (Option.some.inj hy)
theorem same_c (v u:Vtx):ConV Tryz.prog 137 [vtxA v,vtxA u] [] (.bool (vEq v u)) []:=by
 have hno:∀ b,vEq v u = b → V.bool b = V.bool (vEq v u) ∧ ([]:VH) = []:=fun b h=>⟨by rw [h],rfl⟩
 refine con_eq Θ_ok Tryz.func137 rfl rfl false 0 4 rfl rfl rfl rfl fun K hK hb1 hb2=>?_;simp only [argsV,enc,Nat.reduceAdd]
 simp [toDL,V.toD,bnd,encD,D.cells,intsD] at hb1
 by_cases h1:v.round = u.round
 rotate_left
 ·(repeat (any_goals (first | refine st ?_ | (refine go2 fun xe hxe=>?_;conv=>whnf) | ((with_reducible refine cnd_i (fun hq=>?_) fun hq=>?_) <;> (try simp only [hqs] at hq) <;> (first | omega | conv=>whnf)))))
  exact hno _ (by simp [vEq,h1])
 by_cases h2:v.author = u.author
 rotate_left
 ·(repeat (any_goals (first | refine st ?_ | (refine go2 fun xe hxe=>?_;conv=>whnf) | ((with_reducible refine cnd_i (fun hq=>?_) fun hq=>?_) <;> (try simp only [hqs] at hq) <;> (first | omega | conv=>whnf)))))
  exact hno _ (by simp [vEq,h2])
 by_cases h3:v.digest = u.digest
 rotate_left
 ·(repeat (any_goals (first | refine st ?_ | (refine go2 fun xe hxe=>?_;conv=>whnf) | ((with_reducible refine cnd_i (fun hq=>?_) fun hq=>?_) <;> (try simp only [hqs] at hq) <;> (first | omega | conv=>whnf)))))
  exact hno _ (by simp [vEq,h3])
 have he:vEq v u = (v.parents == u.parents):=by simp [vEq,h1,h2,h3]
 by_cases h4:v.parents.length = u.parents.length
 rotate_left
 ·(repeat (any_goals (first | refine st ?_ | (refine go2 fun xe hxe=>?_;conv=>whnf) | ((with_reducible refine cnd_i (fun hq=>?_) fun hq=>?_) <;> (try simp only [hqs] at hq) <;> (first | omega | conv=>whnf)))))
  exact hno _ (by rw [he,beq_eq_false_iff_ne];intro h;exact h4 (by rw [h]))
 (repeat (any_goals (first | refine st ?_ | (refine go2 fun xe hxe=>?_;conv=>whnf) | ((with_reducible refine cnd_i (fun hq=>?_) fun hq=>?_) <;> (try simp only [hqs] at hq) <;> (first | omega | conv=>whnf)))))
 refine at_loop hK [] [2,3,5] (fun i:Nat=>⟨[(2,.ptr 4 0),(3,.ptr 5 0),(5,.int .i64 i)],[(4,.var 39 (vtxA v).cells),(5,.var 39 (vtxA u).cells)],6⟩) (fun i=>i ≤ v.parents.length ∧ v.parents.take i = u.parents.take i) (fun i=>v.parents.length - i) 0 ⟨by simp,by simp⟩ rfl ?_
 rintro i ⟨hi,hall⟩
 by_cases hlt:i < v.parents.length
 ·have hxe:v.parents[i]? = some v.parents[i]:=List.getElem?_eq_getElem hlt
  have hye:u.parents[i]? = some (u.parents[i]'(by omega)):=List.getElem?_eq_getElem (by omega)
  have hsn:v.parents.take (i + 1) = v.parents.take i ++ [v.parents[i]]:=List.take_succ_eq_append_getElem hlt
  have hsu:u.parents.take (i + 1) = u.parents.take i ++ [u.parents[i]'(by omega)]:=List.take_succ_eq_append_getElem (by omega)
  generalize v.parents[i] = x at *
  generalize u.parents[i]'(by omega) = y at *
  by_cases h:x = y
  ·subst h
   (repeat (any_goals (first | refine st ?_ | (refine go2 fun xe hxe=>?_;conv=>whnf) | ((with_reducible refine cnd_i (fun hq=>?_) fun hq=>?_) <;> (try simp only [hqs] at hq) <;> (first | omega | conv=>whnf)))))
   ·exact absurd trivial hq
   ·exact ⟨i + 1,⟨by omega,by rw [hsn,hsu,hall]⟩,by omega,rfl⟩
  ·(repeat (any_goals (first | refine st ?_ | (refine go2 fun xe hxe=>?_;conv=>whnf) | ((with_reducible refine cnd_i (fun hq=>?_) fun hq=>?_) <;> (try simp only [hqs] at hq) <;> (first | omega | conv=>whnf)))))
   exact hno _ (by rw [he];exact lEq_ne hxe hye h)
 ·(repeat (any_goals (first | refine st ?_ | (refine go2 fun xe hxe=>?_;conv=>whnf) | ((with_reducible refine cnd_i (fun hq=>?_) fun hq=>?_) <;> (try simp only [hqs] at hq) <;> (first | omega | conv=>whnf)))))
  rw [List.take_of_length_le (by omega),List.take_of_length_le (by omega)] at hall
  exact hno _ (by rw [he,hall];simp)
theorem sslt_c (v u:Vtx):ConV Tryz.prog 136 [vtxA v,vtxA u] [] (.bool (slt v u)) []:=by
 refine con_eq Θ_ok Tryz.func136 rfl rfl false 0 4 rfl rfl rfl rfl fun K hK hb1 hb2=>?_;simp only [argsV,enc,Nat.reduceAdd]
 (repeat (any_goals (first | refine st ?_ | (refine go2 fun xe hxe=>?_;conv=>whnf) | ((with_reducible refine cnd_i (fun hq=>?_) fun hq=>?_) <;> (try simp only [hqs] at hq) <;> (first | omega | conv=>whnf)))))
 all_goals (refine ⟨?_,rfl⟩;simp_all [slt])
theorem sdone_c (w:Wrl) (p:Ppl) (hc:comV w.com = true) (hm:mems w.com p.members = true):ConV Tryz.prog 138 [wrlA w,pplA p] [] (.bool (don w.com p)) []:=by
 have h1:=mems_in hm
 have h2:=mems_len7 hm
 have h3:=(comV_iff.1 hc).2
 refine con_eq Θ_ok Tryz.func138 rfl rfl false 0 4 rfl rfl rfl rfl fun K hK hb1 hb2=>?_;simp only [argsV,enc,Nat.reduceAdd]
 (repeat (any_goals (first | refine st ?_ | (refine go2 fun xe hxe=>?_;conv=>whnf) | ((with_reducible refine cnd_i (fun hq=>?_) fun hq=>?_) <;> (try simp only [hqs] at hq) <;> (first | omega | conv=>whnf)) | refine cr (quo_c _ hc) ?_ | ((with_reducible refine call_r ?_);(conv=>whnf);(first | with_reducible refine call_i (wei_c _ _ hc h1 (by omega)) ?_);conv=>whnf))))
 exact ⟨rfl,rfl⟩
theorem spro_c (w:Wrl) (hc:comV w.com = true):ConV Tryz.prog 67 [wrlA w] [] (.bool (proS w.com w.bad w.props)) []:=by
 refine con_eq Θ_ok Tryz.func67 rfl rfl false 0 4 rfl rfl rfl rfl fun K hK hb1 hb2=>?_;simp only [argsV,enc,Nat.reduceAdd]
 simp [toDL,V.toD,bnd,encD,D.cells] at hb1
 (repeat (any_goals (first | refine st ?_ | (refine go2 fun xe hxe=>?_;conv=>whnf) | ((with_reducible refine cnd_i (fun hq=>?_) fun hq=>?_) <;> (try simp only [hqs] at hq) <;> (first | omega | conv=>whnf)))))
 refine at_loop hK [] [1,3] (fun i:Nat=>⟨[(1,.ptr 4 0),(3,.int .i64 i)],[(4,.var 27 (wrlA w).cells)],5⟩) (fun i=>i ≤ w.props.length ∧ ∀ j,j < i → proAt w.com w.bad w.props j = true) (fun i=>w.props.length - i) 0 ⟨by simp,by simp⟩ rfl ?_
 rintro i ⟨hi,hall⟩
 by_cases hlt:i < w.props.length
 ·have hxe:w.props[i]? = some w.props[i]:=List.getElem?_eq_getElem hlt
  have hno:proAt w.com w.bad w.props i = false → V.bool false = V.bool (proS w.com w.bad w.props) ∧ ([]:VH) = []:=fun h=>⟨by rw [proS,allTo_f hlt h,Bool.false_and],rfl⟩
  have hA:proAt w.com w.bad w.props i = (oneP w.com w.props[i] && allTo i (fun k=>fitP w.bad w.props[i] (w.props.getD k p0))):=by simp only [proAt,getD_of hxe]
  generalize w.props[i] = p at *
  have hvc:=vtx_c w.com p.v hc
  have hmc:=mems_c w.com p.members
  cases h1:vtxS w.com p.v
  ·rw [h1] at hvc
   (repeat (any_goals (first | refine st ?_ | (refine go2 fun xe hxe=>?_;conv=>whnf) | ((with_reducible refine cnd_i (fun hq=>?_) fun hq=>?_) <;> (try simp only [hqs] at hq) <;> (first | omega | conv=>whnf)) | refine cr (hvc) ?_ | refine cr (hmc) ?_)))
   exact hno (by simp [hA,oneP,h1])
  rw [h1] at hvc
  cases h2:mems w.com p.members
  ·rw [h2] at hmc
   (repeat (any_goals (first | refine st ?_ | (refine go2 fun xe hxe=>?_;conv=>whnf) | ((with_reducible refine cnd_i (fun hq=>?_) fun hq=>?_) <;> (try simp only [hqs] at hq) <;> (first | omega | conv=>whnf)) | refine cr (hvc) ?_ | refine cr (hmc) ?_)))
   exact hno (by simp [hA,oneP,h2])
  rw [h2] at hmc
  (repeat (any_goals (first | refine st ?_ | (refine go2 fun xe hxe=>?_;conv=>whnf) | ((with_reducible refine cnd_i (fun hq=>?_) fun hq=>?_) <;> (try simp only [hqs] at hq) <;> (first | omega | conv=>whnf)) | refine cr (hvc) ?_ | refine cr (hmc) ?_)))
  refine at_loop hK [] [1,3,4,5] (fun k:Nat=>⟨[(1,.ptr 4 0),(3,.int .i64 i),(4,.ptr 5 0),(5,.int .i64 k)],[(4,.var 27 (wrlA w).cells),(5,.var 41 (pplA p).cells)],6⟩) (fun k=>k ≤ i ∧ ∀ j,j < k → fitP w.bad p (w.props.getD j p0) = true) (fun k=>i - k) 0 ⟨by simp,by simp⟩ rfl ?_
  rintro k ⟨hk,hkall⟩
  by_cases hkl:k < i
  ·have hxk:w.props[k]? = some (w.props.getD k p0):=by rw [List.getD_eq_getElem?_getD,List.getElem?_eq_getElem (show k < w.props.length by omega)];rfl
   have hyes:=all_step hkall (p:=fun j=>fitP w.bad p (w.props.getD j p0)) (i:=k)
   have hnk:fitP w.bad p (w.props.getD k p0) = false → V.bool false = V.bool (proS w.com w.bad w.props) ∧ ([]:VH) = []:=fun h=>hno (by rw [hA,allTo_f hkl h,Bool.and_false])
   generalize w.props.getD k p0 = q at *
   have hsc:=sslt_c p.v q.v
   have hqc:=same_c p.v q.v
   cases h3:slt p.v q.v
   ·rw [h3] at hsc
    (repeat (any_goals (first | refine st ?_ | (refine go2 fun xe hxe=>?_;conv=>whnf) | ((with_reducible refine cnd_i (fun hq=>?_) fun hq=>?_) <;> (try simp only [hqs] at hq) <;> (first | omega | conv=>whnf)) | refine cr (hsc) ?_ | refine cr (hqc) ?_)))
    exact ⟨k + 1,⟨by omega,hyes (by simp [fitP,h3])⟩,by omega,rfl⟩
   rw [h3] at hsc
   cases h4:vEq p.v q.v
   rotate_left
   ·rw [h4] at hqc
    (repeat (any_goals (first | refine st ?_ | (refine go2 fun xe hxe=>?_;conv=>whnf) | ((with_reducible refine cnd_i (fun hq=>?_) fun hq=>?_) <;> (try simp only [hqs] at hq) <;> (first | omega | conv=>whnf)) | refine cr (hsc) ?_ | refine cr (hqc) ?_)))
    exact hnk (by simp [fitP,h3,h4])
   rw [h4] at hqc
   by_cases h5:p.v.author = w.bad
   rotate_left
   ·(repeat (any_goals (first | refine st ?_ | (refine go2 fun xe hxe=>?_;conv=>whnf) | ((with_reducible refine cnd_i (fun hq=>?_) fun hq=>?_) <;> (try simp only [hqs] at hq) <;> (first | omega | conv=>whnf)) | refine cr (hsc) ?_ | refine cr (hqc) ?_)))
    exact hnk (by simp [fitP,h3,h5])
   have hfe:fitP w.bad p q = !both w.bad p.members q.members:=by simp [fitP,h3,h4,h5]
   (repeat (any_goals (first | refine st ?_ | (refine go2 fun xe hxe=>?_;conv=>whnf) | ((with_reducible refine cnd_i (fun hq=>?_) fun hq=>?_) <;> (try simp only [hqs] at hq) <;> (first | omega | conv=>whnf)) | refine cr (hsc) ?_ | refine cr (hqc) ?_)))
   refine at_loop hK [] [1,3,4,5,6,7] (fun n:Nat=>⟨[(1,.ptr 4 0),(3,.int .i64 i),(4,.ptr 5 0),(5,.int .i64 k),(6,.ptr 6 0),(7,.int .i64 n)],[(4,.var 27 (wrlA w).cells),(5,.var 41 (pplA p).cells),(6,.var 41 (pplA q).cells)],7⟩) (fun n=>n ≤ p.members.length ∧ ∀ m ∈ p.members.take n,(m != w.bad && q.members.contains m) = false) (fun n=>p.members.length - n) 0 ⟨by simp,by simp⟩ rfl ?_
   rintro n ⟨hn,hnall⟩
   by_cases hnl:n < p.members.length
   ·have hxm:p.members[n]? = some p.members[n]:=List.getElem?_eq_getElem hnl
    have hsn:p.members.take (n + 1) = p.members.take n ++ [p.members[n]]:=List.take_succ_eq_append_getElem hnl
    have hmm:p.members[n] ∈ p.members:=List.getElem_mem hnl
    have hml:p.members.length ≤ 7:=by have:=mems_len7 h2;have:=(comV_iff.1 hc).2;omega
    generalize p.members[n] = m at *
    have hhc:=has_c q.members m
    by_cases h6:m = w.bad
    ·(repeat (any_goals (first | refine st ?_ | (refine go2 fun xe hxe=>?_;conv=>whnf) | ((with_reducible refine cnd_i (fun hq=>?_) fun hq=>?_) <;> (try simp only [hqs] at hq) <;> (first | omega | conv=>whnf)) | refine cr (hhc) ?_)))
     exact ⟨n + 1,⟨by omega,by rw [hsn];exact tk_snoc hnall (by simp [h6])⟩,by omega,rfl⟩
    ·cases h7:q.members.contains m
     ·rw [h7] at hhc
      (repeat (any_goals (first | refine st ?_ | (refine go2 fun xe hxe=>?_;conv=>whnf) | ((with_reducible refine cnd_i (fun hq=>?_) fun hq=>?_) <;> (try simp only [hqs] at hq) <;> (first | omega | conv=>whnf)) | refine cr (hhc) ?_)))
      exact ⟨n + 1,⟨by omega,by rw [hsn];exact tk_snoc hnall (by rw [h7,Bool.and_false])⟩,by omega,rfl⟩
     ·rw [h7] at hhc
      (repeat (any_goals (first | refine st ?_ | (refine go2 fun xe hxe=>?_;conv=>whnf) | ((with_reducible refine cnd_i (fun hq=>?_) fun hq=>?_) <;> (try simp only [hqs] at hq) <;> (first | omega | conv=>whnf)) | refine cr (hhc) ?_)))
      refine hnk ?_
      have:both w.bad p.members q.members = true:=List.any_eq_true.2 ⟨m,hmm,by rw [h7];simpa using h6⟩
      rw [hfe,this]
      rfl
   ·(repeat (any_goals (first | refine st ?_ | (refine go2 fun xe hxe=>?_;conv=>whnf) | ((with_reducible refine cnd_i (fun hq=>?_) fun hq=>?_) <;> (try simp only [hqs] at hq) <;> (first | omega | conv=>whnf)))))
    rw [List.take_of_length_le (by omega)] at hnall
    have:both w.bad p.members q.members = false:=by
     rw [Bool.eq_false_iff]
     intro h
     obtain ⟨m,hm,h⟩:=List.any_eq_true.1 h
     rw [hnall m hm] at h
     cases h
    exact ⟨k + 1,⟨by omega,hyes (by rw [hfe,this];rfl)⟩,by omega,rfl⟩
  ·have hAt:proAt w.com w.bad w.props i = true:=by
    rw [hA,allTo_t (fun j hj=>hkall j (by omega)),oneP,h1,h2]
    rfl
   (repeat (any_goals (first | refine st ?_ | (refine go2 fun xe hxe=>?_;conv=>whnf) | ((with_reducible refine cnd_i (fun hq=>?_) fun hq=>?_) <;> (try simp only [hqs] at hq) <;> (first | omega | conv=>whnf)))))
   exact ⟨i + 1,⟨by omega,all_step hall hAt⟩,by omega,rfl⟩
 ·(repeat (any_goals (first | refine st ?_ | (refine go2 fun xe hxe=>?_;conv=>whnf) | ((with_reducible refine cnd_i (fun hq=>?_) fun hq=>?_) <;> (try simp only [hqs] at hq) <;> (first | omega | conv=>whnf)))))
  rw [proS,allTo_t (fun j hj=>hall j (by omega)),Bool.true_and]
  exact ⟨rfl,rfl⟩
theorem sview_c (w:Wrl) (g:List Vtx) (hc:comV w.com = true) (hp:proS w.com w.bad w.props = true):ConV Tryz.prog 68 [wrlA w,.lst .vtx g] [] (.bool (viwS w.com w.props g)) []:=by
 have hpl:=pro_len hp
 have hv:viwS w.com w.props g = (g.all (knw w.com w.props) && graS w.com g):=rfl
 refine con_eq Θ_ok Tryz.func68 rfl rfl false 0 4 rfl rfl rfl rfl fun K hK hb1 hb2=>?_;simp only [argsV,enc,Nat.reduceAdd]
 simp [toDL,V.toD,bnd,encD,D.cells] at hb1
 (repeat (any_goals (first | refine st ?_ | (refine go2 fun xe hxe=>?_;conv=>whnf) | ((with_reducible refine cnd_i (fun hq=>?_) fun hq=>?_) <;> (try simp only [hqs] at hq) <;> (first | omega | conv=>whnf)))))
 refine at_loop hK [] [1,2,5] (fun i:Nat=>⟨[(1,.lst .vtx g),(2,.ptr 4 0),(5,.int .i64 i)],[(4,.var 27 (wrlA w).cells)],5⟩) (fun i=>i ≤ g.length ∧ ∀ v ∈ g.take i,knw w.com w.props v = true) (fun i=>g.length - i) 0 ⟨by simp,by simp⟩ rfl ?_
 rintro i ⟨hi,hall⟩
 by_cases hlt:i < g.length
 ·have hxe:g[i]? = some g[i]:=List.getElem?_eq_getElem hlt
  have hsn:g.take (i + 1) = g.take i ++ [g[i]]:=List.take_succ_eq_append_getElem hlt
  have hvm:g[i] ∈ g:=List.getElem_mem hlt
  generalize g[i] = v at *
  (repeat (any_goals (first | refine st ?_ | (refine go2 fun xe hxe=>?_;conv=>whnf) | ((with_reducible refine cnd_i (fun hq=>?_) fun hq=>?_) <;> (try simp only [hqs] at hq) <;> (first | omega | conv=>whnf)))))
  refine at_loop hK [] [1,2,5,6,7] (fun k:Nat=>⟨[(1,.lst .vtx g),(2,.ptr 4 0),(5,.int .i64 i),(6,.bool (knw w.com (w.props.take k) v)),(7,.int .i64 k)],[(4,.var 27 (wrlA w).cells)],5⟩) (fun k=>k ≤ w.props.length) (fun k=>w.props.length - k) 0 (by simp) rfl ?_
  intro k hk
  by_cases hkl:k < w.props.length
  ·have hxk:w.props[k]? = some w.props[k]:=List.getElem?_eq_getElem hkl
   have hks:w.props.take (k + 1) = w.props.take k ++ [w.props[k]]:=List.take_succ_eq_append_getElem hkl
   have hom:=pro_one hp _ (List.getElem_mem hkl)
   generalize w.props[k] = p at *
   simp only [oneP,Bool.and_eq_true] at hom
   have hks2:knw w.com (w.props.take (k + 1)) v = (knw w.com (w.props.take k) v || (don w.com p && vEq p.v v)):=by rw [hks];simp [knw]
   have hdc:=sdone_c w p hc hom.2
   have hqc:=same_c p.v v
   cases h1:knw w.com (w.props.take k) v
   ·cases h2:don w.com p
    ·rw [h2] at hdc
     (repeat (any_goals (first | refine st ?_ | (refine go2 fun xe hxe=>?_;conv=>whnf) | ((with_reducible refine cnd_i (fun hq=>?_) fun hq=>?_) <;> (try simp only [hqs] at hq) <;> (first | omega | conv=>whnf)) | refine cr (hdc) ?_ | refine cr (hqc) ?_)))
     exact ⟨k + 1,by omega,by omega,by rw [hks2,h1,h2];rfl⟩
    ·rw [h2] at hdc
     (repeat (any_goals (first | refine st ?_ | (refine go2 fun xe hxe=>?_;conv=>whnf) | ((with_reducible refine cnd_i (fun hq=>?_) fun hq=>?_) <;> (try simp only [hqs] at hq) <;> (first | omega | conv=>whnf)) | refine cr (hdc) ?_ | refine cr (hqc) ?_)))
     exact ⟨k + 1,by omega,by omega,by rw [hks2,h1,h2];rfl⟩
   ·(repeat (any_goals (first | refine st ?_ | (refine go2 fun xe hxe=>?_;conv=>whnf) | ((with_reducible refine cnd_i (fun hq=>?_) fun hq=>?_) <;> (try simp only [hqs] at hq) <;> (first | omega | conv=>whnf)) | refine cr (hdc) ?_ | refine cr (hqc) ?_)))
    exact ⟨k + 1,by omega,by omega,by rw [hks2,h1];rfl⟩
  ·rw [List.take_of_length_le (by omega)]
   cases h1:knw w.com w.props v
   ·(repeat (any_goals (first | refine st ?_ | (refine go2 fun xe hxe=>?_;conv=>whnf) | ((with_reducible refine cnd_i (fun hq=>?_) fun hq=>?_) <;> (try simp only [hqs] at hq) <;> (first | omega | conv=>whnf)))))
    have:g.all (knw w.com w.props) = false:=by
     rw [Bool.eq_false_iff]
     intro h
     rw [List.all_eq_true.1 h v hvm] at h1
     cases h1
    exact ⟨by rw [hv,this,Bool.false_and],rfl⟩
   ·(repeat (any_goals (first | refine st ?_ | (refine go2 fun xe hxe=>?_;conv=>whnf) | ((with_reducible refine cnd_i (fun hq=>?_) fun hq=>?_) <;> (try simp only [hqs] at hq) <;> (first | omega | conv=>whnf)))))
    exact ⟨i + 1,⟨by omega,by rw [hsn];exact tk_snoc hall h1⟩,by omega,rfl⟩
 ·rw [List.take_of_length_le (by omega)] at hall
  (repeat (any_goals (first | refine st ?_ | (refine go2 fun xe hxe=>?_;conv=>whnf) | ((with_reducible refine cnd_i (fun hq=>?_) fun hq=>?_) <;> (try simp only [hqs] at hq) <;> (first | omega | conv=>whnf)) | refine cr (graS_c _ _) ?_)))
  exact ⟨by rw [hv,List.all_eq_true.2 hall,Bool.true_and],rfl⟩
end Go.Proofs.YtjjddgpdoibcoaaGreatDoor.Am
namespace Go.Proofs.YtjjddgpdoibcoaaGreatDoor.Am
open Go
attribute [local irreducible] Mk Need Ari Get Idx Cnd CallM CallA Opt Unch At ConV
set_option maxRecDepth 10000
abbrev wrlZ:V:=.agg [.nils,.nils,.int .i64 0,.nils,.nils]
theorem snew_c (c l:List Int) (b:Int) (hl:c.length ≤ 2000000):ConV Tryz.prog 66 [.lst (.int .i64) c,.lst (.int .i64) l,.int .i64 b] [] (if newS c l b then .tup [wrlA (newW c l b),.bool true] else .tup [wrlZ,.bool false]) []:=by
 have hL:=leaV_c c l
 refine con_eq Θ_ok Tryz.func66 rfl rfl true 0 4 rfl rfl rfl rfl fun K hK hb1 hb2=>?_;simp only [argsV,enc,Nat.reduceAdd]
 simp [toDL,V.toD,bnd,encD,D.cells] at hb1
 cases h1:comV c && leaS c l
 ·rw [h1] at hL
  have hn:newS c l b = false:=by
   rw [Bool.and_eq_false_iff] at h1
   rcases h1 with h1 | h1 <;> simp [newS,h1]
  rw [hn]
  (repeat (any_goals (first | refine st ?_ | (refine go2 fun xe hxe=>?_;conv=>whnf) | ((with_reducible refine cnd_i (fun hq=>?_) fun hq=>?_) <;> (try simp only [hqs] at hq) <;> (first | omega | conv=>whnf)) | refine cr (hL) ?_)))
  exact ⟨rfl,rfl⟩
 rw [h1] at hL
 have hc:comV c = true:=(Bool.and_eq_true_iff.1 h1).1
 have hle:leaS c l = true:=(Bool.and_eq_true_iff.1 h1).2
 have hns:newS c l b = badS c b:=by simp [newS,hc,hle]
 rw [hns]
 have h7:=(comV_iff.1 hc).2
 have hll:=(leaS_iff.1 hle).2
 have hI:=in_c b (-1) ((c.length:Int) - 1)
 cases h2:vIn b (-1) ((c.length:Int) - 1)
 ·rw [h2] at hI
  have hb:badS c b = false:=by simp [badS,h2]
  rw [hb]
  (repeat (any_goals (first | refine st ?_ | (refine go2 fun xe hxe=>?_;conv=>whnf) | ((with_reducible refine cnd_i (fun hq=>?_) fun hq=>?_) <;> (try simp only [hqs] at hq) <;> (first | omega | conv=>whnf)) | refine cr (hL) ?_ | refine cr (hI) ?_)))
  exact ⟨rfl,rfl⟩
 rw [h2] at hI
 have hbr:=vIn_iff.1 h2
 have hT:=tot_c c hc
 have hfd:=fau_bd hc
 have htb:=tot_bd hc
 have hfau:(tot c - 1).tdiv 3 = fau c:=rfl
 have hst:∀ i:Nat,(⟨[(0,.lst (.int .i64) c),(6,.ptr 4 0),(8,.ptr 5 0),(9,.int .i64 ((i:Int) + 1))],[(4,.var 27 [.nils,.nils,.int .i64 0,.nils,.nils]),(5,.var 27 [.ref 6,.ref 7,.int .i64 b,.ref 8,.ref 9]),(6,.row 3 (.int .i64) c),(7,.row 3 (.int .i64) l),(8,.row 33 (.lst .vtx) (List.replicate i [] ++ [[]])),(9,.row 41 .ppl [])],10⟩:VSt) =
   ⟨[(0,.lst (.int .i64) c),(6,.ptr 4 0),(8,.ptr 5 0),(9,.int .i64 ((i + 1:Nat):Int))],[(4,.var 27 [.nils,.nils,.int .i64 0,.nils,.nils]),(5,.var 27 [.ref 6,.ref 7,.int .i64 b,.ref 8,.ref 9]),(6,.row 3 (.int .i64) c),(7,.row 3 (.int .i64) l),(8,.row 33 (.lst .vtx) (List.replicate (i + 1) [])),(9,.row 41 .ppl [])],10⟩:=fun i=>by
  rw [List.replicate_succ']
  rfl
 have hfin:∀ x:Int,fau c < x → (tot c - 1).tdiv 3 < x:=fun x h=>h
 have hfin2:∀ x:Int,x ≤ fau c → ¬ (tot c - 1).tdiv 3 < x:=fun x h=>by rw [hfau];omega
 by_cases h3:b < 0
 ·have hb:badS c b = true:=by simp [badS,h2,h3]
  rw [hb]
  (repeat (any_goals (first | refine st ?_ | (refine go2 fun xe hxe=>?_;conv=>whnf) | ((with_reducible refine cnd_i (fun hq=>?_) fun hq=>?_) <;> (try simp only [hqs] at hq) <;> (first | omega | conv=>whnf)) | refine cr (hL) ?_ | refine cr (hI) ?_ | refine cr (hT) ?_)))
  refine at_loop hK [] [0,6,8,9] (fun i:Nat=>⟨[(0,.lst (.int .i64) c),(6,.ptr 4 0),(8,.ptr 5 0),(9,.int .i64 (i:Int))],[(4,.var 27 [.nils,.nils,.int .i64 0,.nils,.nils]),(5,.var 27 [.ref 6,.ref 7,.int .i64 b,.ref 8,.ref 9]),(6,.row 3 (.int .i64) c),(7,.row 3 (.int .i64) l),(8,.row 33 (.lst .vtx) (List.replicate i [])),(9,.row 41 .ppl [])],10⟩) (fun i=>i ≤ c.length) (fun i=>c.length - i) 0 (by simp) rfl ?_
  intro i hi
  have hrl:(List.replicate i ([]:List Vtx)).length = i:=by simp
  have hst:=hst i
  generalize hrs:List.replicate i ([]:List Vtx) = rs at *
  by_cases hlt:i < c.length
  ·(repeat (any_goals (first | refine st ?_ | (refine go2 fun xe hxe=>?_;conv=>whnf) | ((with_reducible refine cnd_i (fun hq=>?_) fun hq=>?_) <;> (try simp only [hqs] at hq) <;> (first | omega | conv=>whnf)))))
   refine ⟨i + 1,by omega,by omega,?_⟩
   rw [← hst]
   try rfl
  ·obtain rfl:i = c.length:=by omega
   (repeat (any_goals (first | refine st ?_ | (refine go2 fun xe hxe=>?_;conv=>whnf) | ((with_reducible refine cnd_i (fun hq=>?_) fun hq=>?_) <;> (try simp only [hqs] at hq) <;> (first | omega | conv=>whnf)))))
   rw [← hrs]
   exact ⟨rfl,rfl⟩
 ·have hxe:c[b.toNat]? = some (c.getD b.toNat 0):=by rw [List.getD_eq_getElem?_getD,List.getElem?_eq_getElem (show b.toNat < c.length by omega)];rfl
  have hb:badS c b = decide (c.getD b.toNat 0 ≤ fau c):=by simp [badS,h2,h3]
  rw [hb]
  generalize c.getD b.toNat 0 = x at *
  by_cases hxf:x ≤ fau c
  ·rw [decide_eq_true hxf]
   have hxf:=hfin2 x hxf
   (repeat (any_goals (first | refine st ?_ | (refine go2 fun xe hxe=>?_;conv=>whnf) | ((with_reducible refine cnd_i (fun hq=>?_) fun hq=>?_) <;> (try simp only [hqs] at hq) <;> (first | omega | conv=>whnf)) | refine cr (hL) ?_ | refine cr (hI) ?_ | refine cr (hT) ?_)))
   refine at_loop hK [] [0,6,8,9] (fun i:Nat=>⟨[(0,.lst (.int .i64) c),(6,.ptr 4 0),(8,.ptr 5 0),(9,.int .i64 (i:Int))],[(4,.var 27 [.nils,.nils,.int .i64 0,.nils,.nils]),(5,.var 27 [.ref 6,.ref 7,.int .i64 b,.ref 8,.ref 9]),(6,.row 3 (.int .i64) c),(7,.row 3 (.int .i64) l),(8,.row 33 (.lst .vtx) (List.replicate i [])),(9,.row 41 .ppl [])],10⟩) (fun i=>i ≤ c.length) (fun i=>c.length - i) 0 (by simp) rfl ?_
   intro i hi
   have hrl:(List.replicate i ([]:List Vtx)).length = i:=by simp
   have hst:=hst i
   generalize hrs:List.replicate i ([]:List Vtx) = rs at *
   by_cases hlt:i < c.length
   ·(repeat (any_goals (first | refine st ?_ | (refine go2 fun xe hxe=>?_;conv=>whnf) | ((with_reducible refine cnd_i (fun hq=>?_) fun hq=>?_) <;> (try simp only [hqs] at hq) <;> (first | omega | conv=>whnf)))))
    refine ⟨i + 1,by omega,by omega,?_⟩
    rw [← hst]
    try rfl
   ·obtain rfl:i = c.length:=by omega
    (repeat (any_goals (first | refine st ?_ | (refine go2 fun xe hxe=>?_;conv=>whnf) | ((with_reducible refine cnd_i (fun hq=>?_) fun hq=>?_) <;> (try simp only [hqs] at hq) <;> (first | omega | conv=>whnf)))))
    rw [← hrs]
    exact ⟨rfl,rfl⟩
  ·rw [decide_eq_false hxf]
   have hxf:=hfin x (by omega)
   (repeat (any_goals (first | refine st ?_ | (refine go2 fun xe hxe=>?_;conv=>whnf) | ((with_reducible refine cnd_i (fun hq=>?_) fun hq=>?_) <;> (try simp only [hqs] at hq) <;> (first | omega | conv=>whnf)) | refine cr (hL) ?_ | refine cr (hI) ?_ | refine cr (hT) ?_)))
   exact ⟨rfl,rfl⟩
set_option maxHeartbeats 1000000 in
theorem swV_c (w:Wrl) (hcl:w.com.length ≤ 2000000):ConV Tryz.prog 25 [wrlA w] [] (.bool (wrlS w)) []:=by
 have hN:=snew_c w.com w.lead w.bad hcl
 refine con_eq Θ_ok Tryz.func25 rfl rfl false 0 4 rfl rfl rfl rfl fun K hK hb1 hb2=>?_;simp only [argsV,enc,Nat.reduceAdd]
 simp [toDL,V.toD,bnd,encD,D.cells] at hb1
 cases h1:newS w.com w.lead w.bad
 ·rw [h1] at hN
  simp only [Bool.false_eq_true,if_false] at hN
  (repeat (any_goals (first | refine st ?_ | (refine go2 fun xe hxe=>?_;conv=>whnf) | ((with_reducible refine cnd_i (fun hq=>?_) fun hq=>?_) <;> (try simp only [hqs] at hq) <;> (first | omega | conv=>whnf)) | refine cr (hN) ?_)))
  exact ⟨by simp [wrlS,h1],rfl⟩
 rw [h1] at hN
 simp only [if_true] at hN
 have hc:comV w.com = true:=by
  simp only [newS,Bool.and_eq_true] at h1
  exact h1.1
 have h7:=(comV_iff.1 hc).2
 by_cases h2:w.views.length = w.com.length
 rotate_left
 ·have hf:wrlS w = false:=by
   have:(w.views.length == w.com.length) = false:=by simpa using h2
   simp [wrlS,this]
  rw [hf]
  (repeat (any_goals (first | refine st ?_ | (refine go2 fun xe hxe=>?_;conv=>whnf) | ((with_reducible refine cnd_i (fun hq=>?_) fun hq=>?_) <;> (try simp only [hqs] at hq) <;> (first | omega | conv=>whnf)) | refine cr (hN) ?_)))
  exact ⟨rfl,rfl⟩
 have hP:=spro_c w hc
 cases h3:proS w.com w.bad w.props
 ·rw [h3] at hP
  have hf:wrlS w = false:=by simp [wrlS,h3]
  rw [hf]
  (repeat (any_goals (first | refine st ?_ | (refine go2 fun xe hxe=>?_;conv=>whnf) | ((with_reducible refine cnd_i (fun hq=>?_) fun hq=>?_) <;> (try simp only [hqs] at hq) <;> (first | omega | conv=>whnf)) | refine cr (hN) ?_ | refine cr (hP) ?_)))
  exact ⟨rfl,rfl⟩
 rw [h3] at hP
 have hpl:=pro_len h3
 have he:wrlS w = (viwsS w.com w.bad w.props w.views && kpar w.bad w.props w.views):=by simp [wrlS,h1,h2,h3]
 rw [he]
 (repeat (any_goals (first | refine st ?_ | (refine go2 fun xe hxe=>?_;conv=>whnf) | ((with_reducible refine cnd_i (fun hq=>?_) fun hq=>?_) <;> (try simp only [hqs] at hq) <;> (first | omega | conv=>whnf)) | refine cr (hN) ?_ | refine cr (hP) ?_)))
 refine at_loop hK [] [1,5] (fun i:Nat=>⟨[(1,.ptr 4 0),(5,.int .i64 i)],[(4,.var 27 (wrlA w).cells)],5⟩)
  (fun i=>i ≤ w.views.length ∧ ∀ j,j < i → (viwS w.com w.props (w.views.getD j []) && (!((j:Int) == w.bad) || (w.views.getD j []).isEmpty)) = true) (fun i=>w.views.length - i) 0 ⟨by simp,by simp⟩ rfl ?_
 rintro i ⟨hi,hall⟩
 by_cases hlt:i < w.views.length
 ·have hxe:w.views[i]? = some (w.views.getD i []):=by rw [List.getD_eq_getElem?_getD,List.getElem?_eq_getElem hlt];rfl
  have hno:(viwS w.com w.props (w.views.getD i []) && (!((i:Int) == w.bad) || (w.views.getD i []).isEmpty)) = false → V.bool false = V.bool (viwsS w.com w.bad w.props w.views && kpar w.bad w.props w.views) ∧ ([]:VH) = []:=fun h=>⟨by unfold viwsS;rw [allTo_f hlt h,Bool.false_and],rfl⟩
  have hyes:=all_step hall (p:=fun j=>viwS w.com w.props (w.views.getD j []) && (!((j:Int) == w.bad) || (w.views.getD j []).isEmpty)) (i:=i)
  generalize w.views.getD i [] = g at *
  have hV:=sview_c w g hc h3
  cases h4:viwS w.com w.props g
  ·rw [h4] at hV
   (repeat (any_goals (first | refine st ?_ | (refine go2 fun xe hxe=>?_;conv=>whnf) | ((with_reducible refine cnd_i (fun hq=>?_) fun hq=>?_) <;> (try simp only [hqs] at hq) <;> (first | omega | conv=>whnf)) | refine cr (hV) ?_)))
   exact hno (by rw [h4,Bool.false_and])
  rw [h4] at hV
  have hem:g.isEmpty = decide ((g.length:Int) = 0):=by cases g <;> simp;omega
  by_cases h5:(i:Int) = w.bad
  ·have hb1:((i:Int) == w.bad) = true:=by simpa using h5
   by_cases h6:0 < (g.length:Int)
   ·(repeat (any_goals (first | refine st ?_ | (refine go2 fun xe hxe=>?_;conv=>whnf) | ((with_reducible refine cnd_i (fun hq=>?_) fun hq=>?_) <;> (try simp only [hqs] at hq) <;> (first | omega | conv=>whnf)) | refine cr (hV) ?_)))
    exact hno (by rw [hb1,hem,decide_eq_false (by omega)];simp)
   ·(repeat (any_goals (first | refine st ?_ | (refine go2 fun xe hxe=>?_;conv=>whnf) | ((with_reducible refine cnd_i (fun hq=>?_) fun hq=>?_) <;> (try simp only [hqs] at hq) <;> (first | omega | conv=>whnf)) | refine cr (hV) ?_)))
    exact ⟨i + 1,⟨by omega,hyes (by rw [h4,hb1,hem,decide_eq_true (by omega)];simp)⟩,by omega,rfl⟩
  ·have hb1:((i:Int) == w.bad) = false:=by simpa using h5
   (repeat (any_goals (first | refine st ?_ | (refine go2 fun xe hxe=>?_;conv=>whnf) | ((with_reducible refine cnd_i (fun hq=>?_) fun hq=>?_) <;> (try simp only [hqs] at hq) <;> (first | omega | conv=>whnf)) | refine cr (hV) ?_)))
   exact ⟨i + 1,⟨by omega,hyes (by rw [h4,hb1];rfl)⟩,by omega,rfl⟩
 have hvs:viwsS w.com w.bad w.props w.views = true:=by
  unfold viwsS
  exact allTo_t (fun j hj=>hall j (by omega))
 rw [hvs,Bool.true_and]
 (repeat (any_goals (first | refine st ?_ | (refine go2 fun xe hxe=>?_;conv=>whnf) | ((with_reducible refine cnd_i (fun hq=>?_) fun hq=>?_) <;> (try simp only [hqs] at hq) <;> (first | omega | conv=>whnf)))))
 refine at_loop hK [] [1,6] (fun i:Nat=>⟨[(1,.ptr 4 0),(6,.int .i64 i)],[(4,.var 27 (wrlA w).cells)],5⟩)
  (fun i=>i ≤ w.props.length ∧ ∀ p ∈ w.props.take i,allTo w.views.length (kparAt w.bad w.views p) = true) (fun i=>w.props.length - i) 0 ⟨by simp,by simp⟩ rfl ?_
 rintro k ⟨hk,hkall⟩
 by_cases hkl:k < w.props.length
 ·have hxp:w.props[k]? = some w.props[k]:=List.getElem?_eq_getElem hkl
  have hsn:w.props.take (k + 1) = w.props.take k ++ [w.props[k]]:=List.take_succ_eq_append_getElem hkl
  have hpm:w.props[k] ∈ w.props:=List.getElem_mem hkl
  have hone:=pro_one h3 _ hpm
  have hno:allTo w.views.length (kparAt w.bad w.views w.props[k]) = false → V.bool false = V.bool (kpar w.bad w.props w.views) ∧ ([]:VH) = []:=fun h=>⟨by
   have:kpar w.bad w.props w.views = false:=by
    rw [Bool.eq_false_iff]
    intro h2
    rw [List.all_eq_true.1 h2 _ hpm] at h
    cases h
   rw [this],rfl⟩
  generalize w.props[k] = p at *
  simp only [oneP,Bool.and_eq_true] at hone
  have hrd:=vtxS_rd hone.1
  (repeat (any_goals (first | refine st ?_ | (refine go2 fun xe hxe=>?_;conv=>whnf) | ((with_reducible refine cnd_i (fun hq=>?_) fun hq=>?_) <;> (try simp only [hqs] at hq) <;> (first | omega | conv=>whnf)))))
  refine at_loop hK [] [1,6,7,8] (fun m:Nat=>⟨[(1,.ptr 4 0),(6,.int .i64 k),(7,.ptr 5 0),(8,.int .i64 m)],[(4,.var 27 (wrlA w).cells),(5,.var 39 (vtxA p.v).cells)],6⟩)
   (fun m=>m ≤ w.views.length ∧ ∀ j,j < m → kparAt w.bad w.views p j = true) (fun m=>w.views.length - m) 0 ⟨by simp,by simp⟩ rfl ?_
  rintro m ⟨hm,hmall⟩
  by_cases hml:m < w.views.length
  ·have hxv:w.views[m]? = some (w.views.getD m []):=by rw [List.getD_eq_getElem?_getD,List.getElem?_eq_getElem hml];rfl
   have hyes:=all_step hmall (p:=kparAt w.bad w.views p) (i:=m)
   have hno2:kparAt w.bad w.views p m = false → V.bool false = V.bool (kpar w.bad w.props w.views) ∧ ([]:VH) = []:=fun h=>hno (allTo_f hml h)
   have hA:kparAt w.bad w.views p m = (!((m:Int) != w.bad && ((m:Int) == p.v.author || p.members.contains (m:Int))) || parOK (w.views.getD m []) p.v):=rfl
   generalize w.views.getD m [] = g at *
   have hH:=has_c p.members m
   have hG:=parents_c g p.v hrd
   by_cases c1:(m:Int) = w.bad
   ·(repeat (any_goals (first | refine st ?_ | (refine go2 fun xe hxe=>?_;conv=>whnf) | ((with_reducible refine cnd_i (fun hq=>?_) fun hq=>?_) <;> (try simp only [hqs] at hq) <;> (first | omega | conv=>whnf)) | refine cr (hH) ?_ | refine cr (hG) ?_)))
    exact ⟨m + 1,⟨by omega,hyes (by simp [hA,c1])⟩,by omega,rfl⟩
   cases c2:(m:Int) == p.v.author || p.members.contains (m:Int)
   ·rw [Bool.or_eq_false_iff] at c2
    have c3:¬ (m:Int) = p.v.author:=by simpa using c2.1
    rw [c2.2] at hH
    (repeat (any_goals (first | refine st ?_ | (refine go2 fun xe hxe=>?_;conv=>whnf) | ((with_reducible refine cnd_i (fun hq=>?_) fun hq=>?_) <;> (try simp only [hqs] at hq) <;> (first | omega | conv=>whnf)) | refine cr (hH) ?_ | refine cr (hG) ?_)))
    exact ⟨m + 1,⟨by omega,hyes (by rw [hA,c2.1,c2.2];simp)⟩,by omega,rfl⟩
   ·cases c4:parOK g p.v
    ·rw [c4] at hG
     have hn:=hno2 (by rw [hA,c2,c4];simpa using c1)
     by_cases c3:(m:Int) = p.v.author
     ·(repeat (any_goals (first | refine st ?_ | (refine go2 fun xe hxe=>?_;conv=>whnf) | ((with_reducible refine cnd_i (fun hq=>?_) fun hq=>?_) <;> (try simp only [hqs] at hq) <;> (first | omega | conv=>whnf)) | refine cr (hH) ?_ | refine cr (hG) ?_)))
      exact hn
     ·have c5:p.members.contains (m:Int) = true:=by simpa [c3] using c2
      rw [c5] at hH
      (repeat (any_goals (first | refine st ?_ | (refine go2 fun xe hxe=>?_;conv=>whnf) | ((with_reducible refine cnd_i (fun hq=>?_) fun hq=>?_) <;> (try simp only [hqs] at hq) <;> (first | omega | conv=>whnf)) | refine cr (hH) ?_ | refine cr (hG) ?_)))
      exact hn
    ·rw [c4] at hG
     have hn:=hyes (by rw [hA,c4,Bool.or_true])
     by_cases c3:(m:Int) = p.v.author
     ·(repeat (any_goals (first | refine st ?_ | (refine go2 fun xe hxe=>?_;conv=>whnf) | ((with_reducible refine cnd_i (fun hq=>?_) fun hq=>?_) <;> (try simp only [hqs] at hq) <;> (first | omega | conv=>whnf)) | refine cr (hH) ?_ | refine cr (hG) ?_)))
      exact ⟨m + 1,⟨by omega,hn⟩,by omega,rfl⟩
     ·have c5:p.members.contains (m:Int) = true:=by simpa [c3] using c2
      rw [c5] at hH
      (repeat (any_goals (first | refine st ?_ | (refine go2 fun xe hxe=>?_;conv=>whnf) | ((with_reducible refine cnd_i (fun hq=>?_) fun hq=>?_) <;> (try simp only [hqs] at hq) <;> (first | omega | conv=>whnf)) | refine cr (hH) ?_ | refine cr (hG) ?_)))
      exact ⟨m + 1,⟨by omega,hn⟩,by omega,rfl⟩
  ·(repeat (any_goals (first | refine st ?_ | (refine go2 fun xe hxe=>?_;conv=>whnf) | ((with_reducible refine cnd_i (fun hq=>?_) fun hq=>?_) <;> (try simp only [hqs] at hq) <;> (first | omega | conv=>whnf)))))
   exact ⟨k + 1,⟨by omega,by rw [hsn];exact tk_snoc hkall (allTo_t fun j hj=>hmall j (by omega))⟩,by omega,rfl⟩
 ·(repeat (any_goals (first | refine st ?_ | (refine go2 fun xe hxe=>?_;conv=>whnf) | ((with_reducible refine cnd_i (fun hq=>?_) fun hq=>?_) <;> (try simp only [hqs] at hq) <;> (first | omega | conv=>whnf)))))
  rw [List.take_of_length_le (by omega)] at hkall
  have:kpar w.bad w.props w.views = true:=List.all_eq_true.2 hkall
  rw [this]
  exact ⟨rfl,rfl⟩
end Go.Proofs.YtjjddgpdoibcoaaGreatDoor.Am
namespace Go.Proofs.YtjjddgpdoibcoaaGreatDoor.Am
open Go
attribute [local irreducible] Mk Need Ari Get Idx Cnd CallM CallA Opt Unch At ConV
set_option maxRecDepth 10000
def rdOK (c:List Int) (p:Int):Prop:=c.length ≤ 2000 ∧ (∀ x ∈ c,0 ≤ x ∧ x ≤ 255) ∧ 0 ≤ p ∧ p ≤ 1000000000
theorem open_c (c:List Int):ConV Tryz.prog 44 [.lst (.int .u8) c] [] (.ptr 4 0) [(4,.var 132 [.lst (.int .u8) (c.take 2000),.int .i64 0])]:=by
 refine con_eq Θ_ok Tryz.func44 rfl rfl false 0 4 rfl rfl rfl rfl fun K hK hb1 hb2=>?_;simp only [argsV,enc,Nat.reduceAdd]
 (repeat (any_goals (first | refine st ?_ | (refine go2 fun xe hxe=>?_;conv=>whnf) | ((with_reducible refine cnd_i (fun hq=>?_) fun hq=>?_) <;> (try simp only [hqs] at hq) <;> (first | omega | conv=>whnf)))))
 ·exact ⟨rfl,rfl⟩
 ·exact ⟨rfl,by rw [List.take_of_length_le (by omega)]⟩
theorem pick_c (c:List Int) (p n:Int) (T:TypeId) (h:rdOK c p) (hn:1 ≤ n ∧ n ≤ 1000000):∃ v,(0 ≤ v ∧ v < n) ∧ ConV Tryz.prog 46 [.ptr 4 0,.int .i64 n] [(4,.var T [.lst (.int .u8) c,.int .i64 p])] (.int .i64 v) [(4,.var T [.lst (.int .u8) c,.int .i64 (p + 1)])]:=by
 obtain ⟨h1,h2,h3,h4⟩:=h
 suffices hs:∃ r hout,(∃ v,(0 ≤ v ∧ v < n) ∧ r = .int .i64 v ∧ hout = [(4,VB.var T [.lst (.int .u8) c,.int .i64 (p + 1)])]) ∧ ConV Tryz.prog 46 [.ptr 4 0,.int .i64 n] [(4,.var T [.lst (.int .u8) c,.int .i64 p])] r hout by
  obtain ⟨r,hout,⟨v,hv,rfl,rfl⟩,h⟩:=hs
  exact ⟨v,hv,h⟩
 refine con_ex Θ_ok Tryz.func46 rfl rfl false 1 5 rfl rfl rfl rfl (R:=fun r hout=>∃ v,(0 ≤ v ∧ v < n) ∧ r = .int .i64 v ∧ hout = [(4,VB.var T [.lst (.int .u8) c,.int .i64 (p + 1)])]) (r0:=.int .i64 0) (hout0:=[(4,VB.var T [.lst (.int .u8) c,.int .i64 (p + 1)])]) (⟨0,by omega,rfl,rfl⟩) fun K hK hb1 hb2=>?_;simp only [argsV,enc,Nat.reduceAdd]
 clear hb1 hb2
 have hat:∀ k:Int,0 ≤ k → k < c.length → ∃ v,c[k.toNat]? = some v ∧ 0 ≤ v ∧ v ≤ 255:=fun k ha hb=>by
  have hl:k.toNat < c.length:=by omega
  exact ⟨c[k.toNat],List.getElem?_eq_getElem hl,h2 _ (List.getElem_mem hl)⟩
 by_cases h0:c.length = 0
 ·(repeat (any_goals (first | refine st ?_ | (refine go2 fun xe hxe=>?_;conv=>whnf) | ((with_reducible refine cnd_i (fun hq=>?_) fun hq=>?_) <;> (try simp only [hqs] at hq) <;> (first | omega | conv=>whnf)))))
  exact ⟨0,by omega,rfl,rfl⟩
 have hcl:0 ≤ p.tmod c.length ∧ p.tmod c.length < c.length:=⟨Int.tmod_nonneg _ h3,Int.tmod_lt_of_pos _ (by omega)⟩
 have hcl2:0 ≤ (p * 7 + 3).tmod c.length ∧ (p * 7 + 3).tmod c.length < c.length:=⟨Int.tmod_nonneg _ (by omega),Int.tmod_lt_of_pos _ (by omega)⟩
 have hdv:0 ≤ p.tdiv c.length ∧ p.tdiv c.length ≤ p:=⟨Int.tdiv_nonneg h3 (by omega),by rw [Int.tdiv_eq_ediv_of_nonneg h3];exact Int.ediv_le_self _ h3⟩
 have hp:p + 1 - 1 = p:=by omega
 by_cases h6:p < c.length
 ·obtain ⟨v,hv,hv1,hv2⟩:=hat p h3 h6
  rw [← hp] at hv
  have hm:0 ≤ v.tmod n ∧ v.tmod n < n:=⟨Int.tmod_nonneg _ hv1,Int.tmod_lt_of_pos _ (by omega)⟩
  (repeat (any_goals (first | refine st ?_ | (refine go2 fun xe hxe=>?_;conv=>whnf) | ((with_reducible refine cnd_i (fun hq=>?_) fun hq=>?_) <;> (try simp only [hqs] at hq) <;> (first | omega | conv=>whnf)))))
  exact ⟨_,hm,rfl,rfl⟩
 ·obtain ⟨v,hv,hv1,hv2⟩:=hat _ hcl.1 hcl.2
  obtain ⟨w,hw,hw1,hw2⟩:=hat _ hcl2.1 hcl2.2
  rw [← hp] at hv hw hdv hcl hcl2
  have hS:0 ≤ v * 131 + w * 1117 + (p + 1 - 1) * 29 + (p + 1 - 1).tdiv ↑c.length * 53 ∧ v * 131 + w * 1117 + (p + 1 - 1) * 29 + (p + 1 - 1).tdiv ↑c.length * 53 < 4611686018427387904:=by omega
  have hD:0 ≤ (v * 131 + w * 1117 + (p + 1 - 1) * 29 + (p + 1 - 1).tdiv ↑c.length * 53).tdiv 64 ∧ (v * 131 + w * 1117 + (p + 1 - 1) * 29 + (p + 1 - 1).tdiv ↑c.length * 53).tdiv 64 < 4611686018427387904:=
   ⟨Int.tdiv_nonneg hS.1 (by omega),by rw [Int.tdiv_eq_ediv_of_nonneg hS.1];omega⟩
  have hX:=xor_bd hS hD
  (repeat (any_goals (first | refine st ?_ | (refine go2 fun xe hxe=>?_;conv=>whnf) | ((with_reducible refine cnd_i (fun hq=>?_) fun hq=>?_) <;> (try simp only [hqs] at hq) <;> (first | omega | conv=>whnf)))))
  refine ⟨_,⟨Int.tmod_nonneg _ hX,Int.tmod_lt_of_pos _ (by omega)⟩,rfl,rfl⟩
end Go.Proofs.YtjjddgpdoibcoaaGreatDoor.Am
namespace Go.Proofs.YtjjddgpdoibcoaaGreatDoor.Am
open Go
attribute [local irreducible] Mk Need Ari Get Idx Cnd CallM CallA Opt Unch At ConV
set_option maxRecDepth 10000
abbrev rdB (b:List Int) (p:Int):VB:=.var 132 [.lst (.int .u8) b,.int .i64 p]
theorem pk_c (b:List Int) (p n:Int) (h:rdOK b 0) (hp:0 ≤ p ∧ p ≤ 100000000) (hn:1 ≤ n ∧ n ≤ 1000000):∃ v,(0 ≤ v ∧ v < n) ∧ ConV Tryz.prog 46 [.ptr 4 0,.int .i64 n] [(4,rdB b p)] (.int .i64 v) [(4,rdB b (p + 1))]:=
 pick_c b p n _ ⟨h.1,h.2.1,by omega,by omega⟩ hn
theorem all_get {l:List Int} {P:Int → Prop} {i:Nat} {x:Int} (hx:l[i]? = some x) (h:∀ y ∈ l,P y):P x:=h x (List.mem_of_getElem? hx)
theorem dcom_c (b:List Int) (p:Int) (h:rdOK b 0) (hp:0 ≤ p ∧ p ≤ 1000000):∃ x:List Int × Int,(p ≤ x.2 ∧ x.2 ≤ p + 20 ∧ x.1.length ≤ 11) ∧ ConV Tryz.prog 194 [.ptr 4 0] [(4,rdB b p)] (.lst (.int .i64) x.1) [(4,rdB b x.2)]:=by
 suffices hs:∃ r hout,(∃ x:List Int × Int,(p ≤ x.2 ∧ x.2 ≤ p + 20 ∧ x.1.length ≤ 11) ∧ r = .lst (.int .i64) x.1 ∧ hout = [(4,rdB b x.2)]) ∧ ConV Tryz.prog 194 [.ptr 4 0] [(4,rdB b p)] r hout by
  obtain ⟨r,hout,⟨v,hv,rfl,rfl⟩,h⟩:=hs
  exact ⟨v,hv,h⟩
 refine con_ex Θ_ok Tryz.func194 rfl rfl true 1 5 rfl rfl rfl rfl (R:=fun r hout=>∃ x:List Int × Int,(p ≤ x.2 ∧ x.2 ≤ p + 20 ∧ x.1.length ≤ 11) ∧ r = .lst (.int .i64) x.1 ∧ hout = [(4,rdB b x.2)]) (r0:=.lst (.int .i64) []) (hout0:=[(4,rdB b p)]) (⟨([],p),by simp;omega,rfl,rfl⟩) fun K hK hb1 hb2=>?_;simp only [argsV,enc,Nat.reduceAdd]
 clear hb1 hb2
 (repeat (any_goals (first | refine st ?_ | (refine go2 fun xe hxe=>?_;conv=>whnf) | ((with_reducible refine cnd_i (fun hq=>?_) fun hq=>?_) <;> (try simp only [hqs] at hq) <;> (first | omega | conv=>whnf)) | ((with_reducible refine call_r ?_);(conv=>whnf);(first | refine call_ex (pk_c b _ _ h (by omega) (by omega)) fun xv hxv=>?_);conv=>whnf))))
 obtain ⟨n,hn,hnx⟩:∃ n:Int,(1 ≤ n ∧ n ≤ 7) ∧ n = xe:=⟨xe,all_get (P:=fun y=>1 ≤ y ∧ y ≤ 7) hxe (by decide),rfl⟩
 clear hxe
 subst hnx
 refine at_loop hK [] [0,3,4,5] (fun i:Nat × List Int × Int=>⟨[(0,.ptr 4 0),(3,.ref 5),(4,.int .i64 n),(5,.int .i64 i.1)],[(4,rdB b i.2.2),(5,.row 3 (.int .i64) i.2.1)],6⟩)
  (fun i=>(i.1:Int) ≤ n ∧ i.2.1.length = i.1 ∧ p + 1 ≤ i.2.2 ∧ i.2.2 ≤ p + 1 + 2 * i.1) (fun i=>8 - i.1) (0,[],p + 1) (by simp;omega) rfl ?_
 rintro ⟨i,l,q⟩ ⟨hi1,hi2,hi3,hi4⟩
 dsimp only at hi1 hi2 hi3 hi4 ⊢
 by_cases hlt:(i:Int) < n
 ·(repeat (any_goals (first | refine st ?_ | (refine go2 fun xe hxe=>?_;conv=>whnf) | ((with_reducible refine cnd_i (fun hq=>?_) fun hq=>?_) <;> (try simp only [hqs] at hq) <;> (first | omega | conv=>whnf)) | ((with_reducible refine call_r ?_);(conv=>whnf);(first | refine call_ex (pk_c b _ _ h (by omega) (by omega)) fun xv hxv=>?_);conv=>whnf))))
  rename_i y hy
  have hm:0 ≤ y * xv ∧ y * xv ≤ 3 * 2:=⟨Int.mul_nonneg (by omega) (by omega),Int.mul_le_mul (by omega) (by omega) (by omega) (by omega)⟩
  generalize y * xv = z at *
  have hd:0 ≤ z.tdiv 2 ∧ z.tdiv 2 ≤ 3:=by rw [Int.tdiv_eq_ediv_of_nonneg (by omega)];omega
  (repeat (any_goals (first | refine st ?_ | (refine go2 fun xe hxe=>?_;conv=>whnf) | ((with_reducible refine cnd_i (fun hq=>?_) fun hq=>?_) <;> (try simp only [hqs] at hq) <;> (first | omega | conv=>whnf)))))
  refine ⟨(i + 1,l ++ [1 + z.tdiv 2],q + 1 + 1),⟨by omega,by simp;omega,by dsimp only;omega,by dsimp only;omega⟩,by dsimp only;omega,rfl⟩
 ·(repeat (any_goals (first | refine st ?_ | (refine go2 fun xe hxe=>?_;conv=>whnf) | ((with_reducible refine cnd_i (fun hq=>?_) fun hq=>?_) <;> (try simp only [hqs] at hq) <;> (first | omega | conv=>whnf)) | ((with_reducible refine call_r ?_);(conv=>whnf);(first | refine call_ex (pk_c b _ _ h (by omega) (by omega)) fun xv hxv=>?_);conv=>whnf))))
  ·exact ⟨(l ++ [1,1,1,1],q + 1),⟨by dsimp only;omega,by dsimp only;omega,by simp;omega⟩,rfl,rfl⟩
  ·exact ⟨(l.set _ _,q + 1 + 1 + 1),⟨by dsimp only;omega,by dsimp only;omega,by simp;omega⟩,rfl,rfl⟩
  ·exact ⟨([],q + 1),⟨by dsimp only;omega,by dsimp only;omega,by simp⟩,rfl,rfl⟩
  ·exact ⟨(l,q + 1),⟨by dsimp only;omega,by dsimp only;omega,by dsimp only;omega⟩,rfl,rfl⟩
theorem dgood_c (b:List Int) (p:Int) (h:rdOK b 0) (hp:0 ≤ p ∧ p ≤ 1000000):∃ x:List Int × Int,(p ≤ x.2 ∧ x.2 ≤ p + 20 ∧ comV x.1 = true) ∧ ConV Tryz.prog 145 [.ptr 4 0] [(4,rdB b p)] (.lst (.int .i64) x.1) [(4,rdB b x.2)]:=by
 suffices hs:∃ r hout,(∃ x:List Int × Int,(p ≤ x.2 ∧ x.2 ≤ p + 20 ∧ comV x.1 = true) ∧ r = .lst (.int .i64) x.1 ∧ hout = [(4,rdB b x.2)]) ∧ ConV Tryz.prog 145 [.ptr 4 0] [(4,rdB b p)] r hout by
  obtain ⟨r,hout,⟨v,hv,rfl,rfl⟩,h⟩:=hs
  exact ⟨v,hv,h⟩
 refine con_ex Θ_ok Tryz.func145 rfl rfl true 1 5 rfl rfl rfl rfl (R:=fun r hout=>∃ x:List Int × Int,(p ≤ x.2 ∧ x.2 ≤ p + 20 ∧ comV x.1 = true) ∧ r = .lst (.int .i64) x.1 ∧ hout = [(4,rdB b x.2)]) (r0:=.lst (.int .i64) [1,1,1,1]) (hout0:=[(4,rdB b p)]) (⟨([1,1,1,1],p),⟨by dsimp only;omega,by dsimp only;omega,rfl⟩,rfl,rfl⟩) fun K hK hb1 hb2=>?_;simp only [argsV,enc,Nat.reduceAdd]
 clear hb1 hb2
 obtain ⟨⟨c,q⟩,⟨h1,h2,h3⟩,hc⟩:=dcom_c b p h hp
 dsimp only at h1 h2 h3 hc
 cases hv:comV c
 ·(repeat (any_goals (first | refine st ?_ | (refine go2 fun xe hxe=>?_;conv=>whnf) | ((with_reducible refine cnd_i (fun hq=>?_) fun hq=>?_) <;> (try simp only [hqs] at hq) <;> (first | omega | conv=>whnf)) | refine cr (comV_c _) ?_ | refine co (hc) ?_)))
  exact ⟨([1,1,1,1],q),⟨h1,h2,rfl⟩,rfl,rfl⟩
 ·(repeat (any_goals (first | refine st ?_ | (refine go2 fun xe hxe=>?_;conv=>whnf) | ((with_reducible refine cnd_i (fun hq=>?_) fun hq=>?_) <;> (try simp only [hqs] at hq) <;> (first | omega | conv=>whnf)) | refine cr (comV_c _) ?_ | refine co (hc) ?_)))
  exact ⟨(c,q),⟨h1,h2,hv⟩,rfl,rfl⟩
theorem ddig_c (b:List Int) (p:Int) (h:rdOK b 0) (hp:0 ≤ p ∧ p ≤ 1000000):∃ x:Int × Int,(p ≤ x.2 ∧ x.2 ≤ p + 3) ∧ ConV Tryz.prog 95 [.ptr 4 0] [(4,rdB b p)] (.int .i64 x.1) [(4,rdB b x.2)]:=by
 suffices hs:∃ r hout,(∃ x:Int × Int,(p ≤ x.2 ∧ x.2 ≤ p + 3) ∧ r = .int .i64 x.1 ∧ hout = [(4,rdB b x.2)]) ∧ ConV Tryz.prog 95 [.ptr 4 0] [(4,rdB b p)] r hout by
  obtain ⟨r,hout,⟨v,hv,rfl,rfl⟩,h⟩:=hs
  exact ⟨v,hv,h⟩
 refine con_ex Θ_ok Tryz.func95 rfl rfl true 1 5 rfl rfl rfl rfl (R:=fun r hout=>∃ x:Int × Int,(p ≤ x.2 ∧ x.2 ≤ p + 3) ∧ r = .int .i64 x.1 ∧ hout = [(4,rdB b x.2)]) (r0:=.int .i64 0) (hout0:=[(4,rdB b p)]) (⟨(0,p),by simp;omega,rfl,rfl⟩) fun K hK hb1 hb2=>?_;simp only [argsV,enc,Nat.reduceAdd]
 clear hb1 hb2
 (repeat (any_goals (first | refine st ?_ | (refine go2 fun xe hxe=>?_;conv=>whnf) | ((with_reducible refine cnd_i (fun hq=>?_) fun hq=>?_) <;> (try simp only [hqs] at hq) <;> (first | omega | conv=>whnf)) | ((with_reducible refine call_r ?_);(conv=>whnf);(first | refine call_ex (pk_c b _ _ h (by omega) (by omega)) fun xv hxv=>?_);conv=>whnf))))
 all_goals exact ⟨(_,_),by dsimp only;omega,rfl,rfl⟩
theorem dmem_c (b:List Int) (p:Int) (n:Int) (h:rdOK b 0) (hp:0 ≤ p ∧ p ≤ 1000000) (hn:n ≤ 20):∃ x:List Int × Int,(p ≤ x.2 ∧ x.2 ≤ p + 30 ∧ x.1.length ≤ 30) ∧ ConV Tryz.prog 94 [.ptr 4 0,.int .i64 n] [(4,rdB b p)] (.lst (.int .i64) x.1) [(4,rdB b x.2)]:=by
 suffices hs:∃ r hout,(∃ x:List Int × Int,(p ≤ x.2 ∧ x.2 ≤ p + 30 ∧ x.1.length ≤ 30) ∧ r = .lst (.int .i64) x.1 ∧ hout = [(4,rdB b x.2)]) ∧ ConV Tryz.prog 94 [.ptr 4 0,.int .i64 n] [(4,rdB b p)] r hout by
  obtain ⟨r,hout,⟨v,hv,rfl,rfl⟩,h⟩:=hs
  exact ⟨v,hv,h⟩
 refine con_ex Θ_ok Tryz.func94 rfl rfl true 1 5 rfl rfl rfl rfl (R:=fun r hout=>∃ x:List Int × Int,(p ≤ x.2 ∧ x.2 ≤ p + 30 ∧ x.1.length ≤ 30) ∧ r = .lst (.int .i64) x.1 ∧ hout = [(4,rdB b x.2)]) (r0:=.lst (.int .i64) []) (hout0:=[(4,rdB b p)]) (⟨([],p),by simp;omega,rfl,rfl⟩) fun K hK hb1 hb2=>?_;simp only [argsV,enc,Nat.reduceAdd]
 clear hb1 hb2
 (repeat (any_goals (first | refine st ?_ | (refine go2 fun xe hxe=>?_;conv=>whnf) | ((with_reducible refine cnd_i (fun hq=>?_) fun hq=>?_) <;> (try simp only [hqs] at hq) <;> (first | omega | conv=>whnf)))))
 refine at_loop hK [] [0,1,5,6] (fun i:Nat × List Int × Int=>⟨[(0,.ptr 4 0),(1,.int .i64 n),(5,.ref 5),(6,.int .i64 i.1)],[(4,rdB b i.2.2),(5,.row 3 (.int .i64) i.2.1)],6⟩)
  (fun i=>(i.1:Int) ≤ max n 0 ∧ i.2.1.length ≤ i.1 ∧ i.2.2 = p + i.1) (fun i=>20 - i.1) (0,[],p) (by simp;omega) rfl ?_
 rintro ⟨i,l,q⟩ ⟨hi1,hi2,hi3⟩
 dsimp only at hi1 hi2 hi3 ⊢
 by_cases hlt:(i:Int) < n
 ·(repeat (any_goals (first | refine st ?_ | (refine go2 fun xe hxe=>?_;conv=>whnf) | ((with_reducible refine cnd_i (fun hq=>?_) fun hq=>?_) <;> (try simp only [hqs] at hq) <;> (first | omega | conv=>whnf)) | ((with_reducible refine call_r ?_);(conv=>whnf);(first | refine call_ex (pk_c b _ _ h (by omega) (by omega)) fun xv hxv=>?_);conv=>whnf))))
  ·exact ⟨(i + 1,l ++ [(i:Int)],q + 1),⟨by dsimp only;omega,by simp;omega,by dsimp only;omega⟩,by dsimp only;omega,rfl⟩
  ·exact ⟨(i + 1,l,q + 1),⟨by dsimp only;omega,by simp;omega,by dsimp only;omega⟩,by dsimp only;omega,rfl⟩
 ·(repeat (any_goals (first | refine st ?_ | (refine go2 fun xe hxe=>?_;conv=>whnf) | ((with_reducible refine cnd_i (fun hq=>?_) fun hq=>?_) <;> (try simp only [hqs] at hq) <;> (first | omega | conv=>whnf)) | ((with_reducible refine call_r ?_);(conv=>whnf);(first | refine call_ex (pk_c b _ _ h (by omega) (by omega)) fun xv hxv=>?_);conv=>whnf))))
  ·exact ⟨(l ++ [n],q + 1),⟨by dsimp only;omega,by dsimp only;omega,by simp;omega⟩,rfl,rfl⟩
  ·exact ⟨(l ++ [_],q + 1 + 1),⟨by dsimp only;omega,by dsimp only;omega,by simp;omega⟩,rfl,rfl⟩
  ·exact ⟨(l,q + 1),⟨by dsimp only;omega,by dsimp only;omega,by dsimp only;omega⟩,rfl,rfl⟩
end Go.Proofs.YtjjddgpdoibcoaaGreatDoor.Am
namespace Go.Proofs.YtjjddgpdoibcoaaGreatDoor.Am
open Go
attribute [local irreducible] Mk Need Ari Get Idx Cnd CallM CallA Opt Unch At ConV
set_option maxRecDepth 10000
theorem pre_new (c l:List Int) (b:Int):preS ⟨c,l,b,List.replicate (min c.length 7) [],[]⟩ = newS c l b:=by
 cases h:newS c l b
 ·simp [preS,h]
 ·have hc:comV c = true:=by
   simp only [newS,Bool.and_eq_true] at h
   exact h.1
  have h7:=(comV_iff.1 hc).2
  have hn:min c.length 7 = c.length:=by omega
  rw [hn]
  have h1:proS c b [] = true:=proS_nil c b
  have h2:viwsS c b [] (List.replicate c.length []) = true:=by
   refine viws_nil hc
  simp [preS,h,h1,h2]
where
 proS_nil (c:List Int) (b:Int):proS c b [] = true:=rfl
 viws_nil {c:List Int} {b:Int} (hc:comV c = true):viwsS c b [] (List.replicate c.length []) = true:=by
  refine allTo_t fun j hj=>?_
  rw [List.length_replicate] at hj
  have:(List.replicate c.length ([]:List Vtx)).getD j [] = []:=by simp [List.getD_eq_getElem?_getD,List.getElem?_replicate,hj]
  rw [this]
  simp [viwS,graS,hc,allTo]
theorem wrl_new {c l:List Int} {b:Int} (h:newS c l b = true):wrlS (newW c l b) = true:=by
 have hc:comV c = true:=by
  simp only [newS,Bool.and_eq_true] at h
  exact h.1
 have h7:=(comV_iff.1 hc).2
 have hp:=pre_new c l b
 rw [show min c.length 7 = c.length by omega,h] at hp
 rw [wrlS_eq]
 have:preS (newW c l b) = true:=hp
 rw [this]
 rfl
end Go.Proofs.YtjjddgpdoibcoaaGreatDoor.Am
namespace Go.Proofs.YtjjddgpdoibcoaaGreatDoor.Am
open Go
structure WOK (w:Wrl):Prop where
 com:comV w.com = true
 lead:leaS w.com w.lead = true
 bad:badS w.com w.bad = true
 one:∀ p ∈ w.props,oneP w.com p = true
 fit:w.props.Pairwise fun q p=>fitP w.bad p q = true
 plen:w.props.length ≤ 220
 vlen:w.views.length = w.com.length
 gra:∀ g ∈ w.views,graS w.com g = true
 knw:∀ g ∈ w.views,∀ v ∈ g,∃ p ∈ w.props,don w.com p = true ∧ p.v = v
 bv:∀ i:Nat,i < w.views.length → (i:Int) = w.bad → w.views.getD i [] = []
 kp:∀ p ∈ w.props,∀ m:Nat,m < w.views.length → (m:Int) ≠ w.bad → ((m:Int) = p.v.author ∨ (m:Int) ∈ p.members) → parOK (w.views.getD m []) p.v = true
theorem knw_iff {c:List Int} {ps:List Ppl} {v:Vtx}:knw c ps v = true ↔ ∃ p ∈ ps,don c p = true ∧ p.v = v:=by
 simp only [knw,List.any_eq_true,Bool.and_eq_true,vEq_iff]
theorem kpar_iff {b:Int} {ps:List Ppl} {gs:List (List Vtx)}:kpar b ps gs = true ↔ ∀ p ∈ ps,∀ m:Nat,m < gs.length → (m:Int) ≠ b → ((m:Int) = p.v.author ∨ (m:Int) ∈ p.members) → parOK (gs.getD m []) p.v = true:=by
 simp only [kpar,List.all_eq_true,allTo_iff,kparAt,Bool.or_eq_true,Bool.not_eq_true',Bool.and_eq_false_iff,bne_eq_false_iff_eq,Bool.or_eq_false_iff,beq_eq_false_iff_ne]
 constructor
 ·intro h p hp m hm hb hv
  rcases h p hp m hm with (h1 | h1) | h1
  ·exact absurd h1 hb
  ·rcases hv with hv | hv
   ·exact absurd hv h1.1
   ·have:=h1.2
    rw [List.contains_iff_mem.2 hv] at this
    cases this
  ·exact h1
 ·intro h p hp m hm
  by_cases hb:(m:Int) = b
  ·exact .inl (.inl hb)
  by_cases hv:(m:Int) = p.v.author ∨ (m:Int) ∈ p.members
  ·exact .inr (h p hp m hm hb hv)
  ·refine .inl (.inr ⟨fun h=>hv (.inl h),?_⟩)
   rw [Bool.eq_false_iff]
   exact fun h=>hv (.inr (List.contains_iff_mem.1 h))
theorem proS_iff {c:List Int} {b:Int} {ps:List Ppl}:proS c b ps = true ↔ (∀ p ∈ ps,oneP c p = true) ∧ (ps.Pairwise fun q p=>fitP b p q = true) ∧ ps.length ≤ 220:=by
 constructor
 ·intro h
  refine ⟨pro_one h,?_,pro_len h⟩
  simp only [proS,Bool.and_eq_true,allTo_iff] at h
  rw [List.pairwise_iff_getElem]
  intro i j hi hj hij
  have:=h.1 j hj
  simp only [proAt,Bool.and_eq_true,allTo_iff] at this
  have:=this.2 i hij
  simpa [List.getD_eq_getElem?_getD,List.getElem?_eq_getElem hi,List.getElem?_eq_getElem hj] using this
 ·rintro ⟨h1,h2,h3⟩
  simp only [proS,Bool.and_eq_true,allTo_iff,decide_eq_true_eq]
  refine ⟨fun j hj=>?_,by omega⟩
  simp only [proAt,Bool.and_eq_true,allTo_iff]
  refine ⟨h1 _ (gd_mem hj),fun i hi=>?_⟩
  have:=List.pairwise_iff_getElem.1 h2 i j (by omega) hj hi
  simpa [List.getD_eq_getElem?_getD,List.getElem?_eq_getElem hj,List.getElem?_eq_getElem (show i < ps.length by omega)] using this
theorem viws_iff {c:List Int} {b:Int} {ps:List Ppl} {gs:List (List Vtx)}:viwsS c b ps gs = true ↔ (∀ g ∈ gs,graS c g = true) ∧ (∀ g ∈ gs,∀ v ∈ g,knw c ps v = true) ∧ ∀ i:Nat,i < gs.length → (i:Int) = b → gs.getD i [] = []:=by
 simp only [viwsS,allTo_iff,viwS,Bool.and_eq_true,List.all_eq_true,Bool.or_eq_true,Bool.not_eq_true',beq_eq_false_iff_ne,List.isEmpty_iff]
 constructor
 ·intro h
  refine ⟨fun g hg=>?_,fun g hg=>?_,fun i hi hb=>?_⟩
  ·obtain ⟨j,hj,rfl⟩:=mem_getD (d:=[]) hg
   exact (h j hj).1.2
  ·obtain ⟨j,hj,rfl⟩:=mem_getD (d:=[]) hg
   exact (h j hj).1.1
  ·rcases (h i hi).2 with h1 | h1
   ·exact absurd hb h1
   ·exact h1
 ·rintro ⟨h1,h2,h3⟩ i hi
  have hm:gs.getD i [] ∈ gs:=gd_mem hi
  refine ⟨⟨h2 _ hm,h1 _ hm⟩,?_⟩
  by_cases hb:(i:Int) = b
  ·exact .inr (h3 i hi hb)
  ·exact .inl hb
theorem wok_iff {w:Wrl}:wrlS w = true ↔ WOK w:=by
 rw [wrlS_eq,Bool.and_eq_true]
 constructor
 ·rintro ⟨h1,h2⟩
  obtain ⟨p1,p2,p3,p4,p5,p6⟩:=pre_ok h1
  obtain ⟨q1,q2,q3⟩:=proS_iff.1 p4
  obtain ⟨r1,r2,r3⟩:=viws_iff.1 p6
  exact ⟨p1,p2,p3,q1,q2,q3,p5,r1,fun g hg v hv=>knw_iff.1 (r2 g hg v hv),r3,kpar_iff.1 h2⟩
 ·intro h
  refine ⟨?_,kpar_iff.2 h.kp⟩
  have h1:=proS_iff.2 ⟨h.one,h.fit,h.plen⟩
  have h2:=viws_iff.2 ⟨h.gra,fun g hg v hv=>knw_iff.2 (h.knw g hg v hv),h.bv⟩
  simp [preS,newS,h.com,h.lead,h.bad,h1,h2,h.vlen]
def good (w:Wrl) (m:Int):Bool:=hasM w.com m && m != w.bad
def view (w:Wrl) (m:Int):List Vtx:=w.views.getD m.toNat []
def nxt (ps:List Ppl) (m:Int):Int:=ps.foldl (fun n p=>if p.v.author = m then max n (p.v.round + 1) else n) 0
def addP (w:Wrl) (v:Vtx):Wrl:={ w with props:=w.props ++ [⟨v,[]⟩] }
def prpV (w:Wrl) (m d:Int):Vtx:=⟨hgt w.com (view w m) + 1,m,if 0 < hgt w.com (view w m) + 1 then auth (view w m) (hgt w.com (view w m)) else [],d⟩
def prpB (w:Wrl) (m d:Int):Bool:=good w m && (vIn d 0 990 && (decide (w.props.length < 220) && (decide (nxt w.props m ≤ (prpV w m d).round) && vtxS w.com (prpV w m d))))
def sPrp (w:Wrl) (m d:Int):Wrl:=if prpB w m d then addP w (prpV w m d) else w
def insM:List Int → Int → List Int
 | [],n=>[n]
 | x :: l,n=>if x < n then x :: insM l n else if x = n then x :: l else n :: x :: l
def prop (w:Wrl) (i:Int):Ppl:=w.props.getD i.toNat p0
def sCnt (w:Wrl) (i m:Int):Wrl:={ w with props:=w.props.set i.toNat ⟨(prop w i).v,insM (prop w i).members m⟩ }
def inP (w:Wrl) (i:Int):Bool:=vIn i 0 (w.props.length - 1)
def dbl (w:Wrl) (m i:Int):Bool:=(List.range w.props.length).any fun j=>(j:Int) != i && (slt (w.props.getD j p0).v (prop w i).v && (w.props.getD j p0).members.contains m)
def votB (w:Wrl) (m i:Int):Bool:=good w m && (inP w i && (!dbl w m i && parOK (view w m) (prop w i).v))
def sVot (w:Wrl) (m i:Int):Wrl:=if votB w m i then sCnt w i m else w
def insV:List Vtx → Vtx → List Vtx
 | [],v=>[v]
 | x :: g,v=>if bef x v then x :: insV g v else v :: x :: g
def delB (w:Wrl) (m i:Int):Bool:=good w m && (inP w i && (don w.com (prop w i) && (!hasV (view w m) (prop w i).v.round (prop w i).v.author && parOK (view w m) (prop w i).v)))
def sDel (w:Wrl) (m i:Int):Wrl:=if delB w m i then { w with views:=w.views.set m.toNat (insV (view w m) (prop w i).v) } else w
def frgB (w:Wrl) (v:Vtx):Bool:=decide (0 ≤ w.bad) && (v.author == w.bad && (vtxS w.com v && (decide (w.props.length < 220) && !w.props.any fun p=>vEq p.v v)))
def sFrg (w:Wrl) (v:Vtx):Wrl:=if frgB w v then addP w v else w
def badB (w:Wrl) (i:Int):Bool:=decide (0 ≤ w.bad) && inP w i
def sBad (w:Wrl) (i:Int):Wrl:=if badB w i then sCnt w i w.bad else w
def sDo (w:Wrl) (e:Evt):Wrl:=
 if e.kind = 1 then sPrp w e.a e.b else if e.kind = 2 then sVot w e.a e.b else if e.kind = 3 then sDel w e.a e.b else if e.kind = 4 then sFrg w e.v else if e.kind = 5 then sBad w e.b else w
theorem nxt_app (ps:List Ppl) (p:Ppl) (m:Int):nxt (ps ++ [p]) m = if p.v.author = m then max (nxt ps m) (p.v.round + 1) else nxt ps m:=by simp only [nxt,List.foldl_append,List.foldl_cons,List.foldl_nil]
theorem nxt_ge {ps:List Ppl} {m:Int}:∀ p ∈ ps,p.v.author = m → p.v.round + 1 ≤ nxt ps m:=by
 induction ps using snoc_ind with
 | h0=>intro p hp;cases hp
 | h l x ih=>
  intro p hp ha
  rw [nxt_app]
  rcases List.mem_append.1 hp with h | h
  ·have:=ih p h ha
   split <;> omega
  ·obtain rfl:=List.mem_singleton.1 h
   rw [if_pos ha]
   omega
theorem mems_nil (c:List Int):mems c [] = true:=rfl
theorem add_fit {ps:List Ppl} {b:Int} {p:Ppl} (h:ps.Pairwise fun q p=>fitP b p q = true) (hn:∀ q ∈ ps,fitP b p q = true):(ps ++ [p]).Pairwise fun q p=>fitP b p q = true:=
 List.pairwise_append.2 ⟨h,by simp,fun q hq p' hp'=>by obtain rfl:=List.mem_singleton.1 hp';exact hn q hq⟩
theorem fit_slot {b:Int} {p q:Ppl} (h:¬ (p.v.round = q.v.round ∧ p.v.author = q.v.author)):fitP b p q = true:=by
 have:slt p.v q.v = false:=by rw [Bool.eq_false_iff];exact fun h2=>h (slt_iff.1 h2)
 simp [fitP,this]
theorem addP_ok {w:Wrl} (h:WOK w) {v:Vtx} (h1:vtxS w.com v = true) (h2:w.props.length < 220) (h3:∀ q ∈ w.props,fitP w.bad ⟨v,[]⟩ q = true)
  (h4:∀ m:Nat,m < w.views.length → (m:Int) ≠ w.bad → (m:Int) = v.author → parOK (w.views.getD m []) v = true):WOK (addP w v) where
 com:=h.com
 lead:=h.lead
 bad:=h.bad
 one p hp:=by
  rcases List.mem_append.1 hp with hp | hp
  ·exact h.one p hp
  ·obtain rfl:=List.mem_singleton.1 hp
   simp only [addP,oneP,h1,mems_nil,Bool.and_self]
 fit:=add_fit h.fit h3
 plen:=by simp only [addP,List.length_append,List.length_singleton];omega
 vlen:=h.vlen
 gra:=h.gra
 knw g hg u hu:=by
  obtain ⟨p,hp,h5⟩:=h.knw g hg u hu
  exact ⟨p,List.mem_append.2 (.inl hp),h5⟩
 bv:=h.bv
 kp p hp m hm hb hv:=by
  rcases List.mem_append.1 hp with hp | hp
  ·exact h.kp p hp m hm hb hv
  ·obtain rfl:=List.mem_singleton.1 hp
   rcases hv with hv | hv
   ·exact h4 m hm hb hv
   ·cases hv
theorem sPrp_ok {w:Wrl} (h:WOK w) (m d:Int):WOK (sPrp w m d):=by
 unfold sPrp
 split
 rotate_left
 ·exact h
 rename_i hb
 simp only [prpB,Bool.and_eq_true,decide_eq_true_eq] at hb
 obtain ⟨-,-,h1,h2,h3⟩:=hb
 refine addP_ok h h3 h1 (fun q hq=>fit_slot fun hs=>?_) fun k hk _ hka=>?_
 ·have:=nxt_ge q hq (m:=m) hs.2.symm
  have:=hs.1
  dsimp only at this
  omega
 ·have hka:(k:Int) = m:=hka
  have hv:w.views.getD k [] = view w m:=by unfold view;rw [← hka];rfl
  rw [hv,parOK_iff]
  intro p hp
  have hp:p ∈ if 0 < hgt w.com (view w m) + 1 then auth (view w m) (hgt w.com (view w m)) else []:=hp
  split at hp
  ·have hr:(prpV w m d).round - 1 = hgt w.com (view w m):=by simp only [prpV];omega
   rw [hr]
   exact auth_mem.1 hp
  ·cases hp
theorem sFrg_ok {w:Wrl} (h:WOK w) (v:Vtx):WOK (sFrg w v):=by
 unfold sFrg
 split
 rotate_left
 ·exact h
 rename_i hb
 simp only [frgB,Bool.and_eq_true,decide_eq_true_eq,beq_iff_eq,Bool.not_eq_true'] at hb
 obtain ⟨h0,h1,h2,h3,h4⟩:=hb
 refine addP_ok h h2 h3 (fun q hq=>?_) fun k _ hk hka=>absurd (hka.trans h1) hk
 have hne:vEq v q.v = false:=by
  rw [Bool.eq_false_iff]
  intro he
  rw [vEq_iff] at he
  have:(w.props.any fun p=>vEq p.v v) = true:=List.any_eq_true.2 ⟨q,hq,by rw [he];exact vEq_refl _⟩
  rw [h4] at this
  cases this
 have ha:(v.author == w.bad) = true:=by simpa using h1
 simp [fitP,hne,ha,both]
theorem insM_mem {l:List Int} {n x:Int}:x ∈ insM l n ↔ x = n ∨ x ∈ l:=by
 induction l with
 | nil=>simp [insM]
 | cons y l ih=>
  unfold insM
  split
  ·simp only [List.mem_cons,ih]
   constructor
   ·rintro (h | h | h)
    ·exact .inr (.inl h)
    ·exact .inl h
    ·exact .inr (.inr h)
   ·rintro (h | h | h)
    ·exact .inr (.inl h)
    ·exact .inl h
    ·exact .inr (.inr h)
  ·split
   ·rename_i h1 h2
    simp only [List.mem_cons,h2]
    constructor
    ·intro h;exact .inr h
    ·rintro (h | h)
     ·exact .inl h
     ·exact h
   ·simp only [List.mem_cons]
theorem insM_asc {l:List Int} {n:Int} (h:l.Pairwise (· < ·)):(insM l n).Pairwise (· < ·):=by
 induction l with
 | nil=>simp [insM]
 | cons y l ih=>
  rw [List.pairwise_cons] at h
  unfold insM
  split
  ·rw [List.pairwise_cons]
   refine ⟨fun x hx=>?_,ih h.2⟩
   rcases insM_mem.1 hx with rfl | hx
   ·assumption
   ·exact h.1 x hx
  ·split
   ·exact List.pairwise_cons.2 h
   ·rw [List.pairwise_cons,List.pairwise_cons]
    refine ⟨fun x hx=>?_,h⟩
    rcases List.mem_cons.1 hx with rfl | hx
    ·omega
    ·have:=h.1 x hx
     omega
theorem insM_mems {c ms:List Int} {m:Int} (h:mems c ms = true) (hm:0 ≤ m ∧ m < c.length):mems c (insM ms m) = true:=by
 refine mems_mk (fun x hx=>?_) (insM_asc (mems_asc h))
 rcases insM_mem.1 hx with rfl | hx
 ·exact hm
 ·exact mems_in h x hx
theorem insM_wei {c:List Int} (hc:comV c = true) (m:Int):∀ ms:List Int,wei c ms ≤ wei c (insM ms m)
 | []=>by
  have:0 ≤ c.getD m.toNat 0:=by
   by_cases h:m.toNat < c.length
   ·have:=(comV_iff.1 hc).1 _ (gd_mem (d:=0) h);omega
   ·rw [List.getD_eq_getElem?_getD,List.getElem?_eq_none (by omega)];simp
  simpa [wei,insM] using this
 | y :: ms=>by
  have ih:=insM_wei hc m ms
  have:0 ≤ c.getD m.toNat 0:=by
   by_cases h:m.toNat < c.length
   ·have:=(comV_iff.1 hc).1 _ (gd_mem (d:=0) h);omega
   ·rw [List.getD_eq_getElem?_getD,List.getElem?_eq_none (by omega)];simp
  unfold insM
  simp only [wei] at ih ⊢
  split
  ·simp only [List.map_cons,List.sum_cons];omega
  ·split
   ·simp
   ·simp only [List.map_cons,List.sum_cons];omega
theorem both_ins {b m:Int} {a c:List Int} (h:m = b ∨ m ∉ c):both b (insM a m) c = both b a c:=by
 rw [Bool.eq_iff_iff,both_iff,both_iff]
 constructor
 ·rintro ⟨x,h1,h2,h3⟩
  rcases insM_mem.1 h2 with rfl | h2
  ·rcases h with h | h
   ·exact absurd h h1
   ·exact absurd h3 h
  ·exact ⟨x,h1,h2,h3⟩
 ·rintro ⟨x,h1,h2,h3⟩
  exact ⟨x,h1,insM_mem.2 (.inr h2),h3⟩
theorem pw_set {α:Type} {R:α → α → Prop} {l:List α} {i:Nat} {x:α} (h:l.Pairwise R) (h1:∀ j y,j < i → l[j]? = some y → R y x) (h2:∀ j y,i < j → l[j]? = some y → R x y):(l.set i x).Pairwise R:=by
 rw [List.pairwise_iff_getElem] at h ⊢
 intro a b ha hb hab
 rw [List.length_set] at ha hb
 rw [List.getElem_set,List.getElem_set]
 split
 ·rename_i e
  rw [if_neg (by omega)]
  exact h2 b _ (by omega) (List.getElem?_eq_getElem hb)
 ·split
  ·exact h1 a _ (by omega) (List.getElem?_eq_getElem ha)
  ·exact h a b ha hb hab
theorem mem_set {α:Type} {l:List α} {i:Nat} {x y:α} (h:y ∈ l.set i x):y = x ∨ y ∈ l:=by
 rcases List.mem_or_eq_of_mem_set h with h | h
 ·exact .inr h
 ·exact .inl h
theorem prop_at {w:Wrl} {i:Int} (hi:inP w i = true):i.toNat < w.props.length ∧ w.props[i.toNat]? = some (prop w i) ∧ prop w i ∈ w.props:=by
 have:=vIn_iff.1 hi
 have hl:i.toNat < w.props.length:=by omega
 refine ⟨hl,?_,gd_mem hl⟩
 unfold prop
 rw [List.getD_eq_getElem?_getD,List.getElem?_eq_getElem hl]
 rfl
theorem sCnt_ok {w:Wrl} (h:WOK w) {i m:Int} (hi:inP w i = true) (hm:0 ≤ m ∧ m < w.com.length)
  (h1:m = w.bad ∨ (∀ j:Nat,j < w.props.length → (j:Int) ≠ i → slt (w.props.getD j p0).v (prop w i).v = true → m ∉ (w.props.getD j p0).members))
  (h2:m = w.bad ∨ parOK (view w m) (prop w i).v = true):WOK (sCnt w i m):=by
 obtain ⟨hl,hx,hp⟩:=prop_at hi
 have hir:=vIn_iff.1 hi
 have hone:=h.one _ hp
 have key:∀ j:Nat,∀ q,j ≠ i.toNat → w.props[j]? = some q → fitP w.bad (prop w i) q = true → fitP w.bad ⟨(prop w i).v,insM (prop w i).members m⟩ q = true:=fun j q hj hq hf=>by
  unfold fitP at hf ⊢
  dsimp only
  cases hs:slt (prop w i).v q.v
  ·simp
  ·rw [hs] at hf
   rw [both_ins]
   ·exact hf
   ·rcases h1 with h1 | h1
    ·exact .inl h1
    ·right
     have:=h1 j (List.getElem?_eq_some_iff.1 hq).1 (by omega) (by rw [getD_of hq,slt_comm];exact hs)
     rwa [getD_of hq] at this
 have hset:∀ y ∈ w.props,∃ z ∈ (sCnt w i m).props,z.v = y.v ∧ (don w.com y = true → don w.com z = true):=fun y hy=>by
  obtain ⟨j,hj⟩:=List.getElem?_of_mem hy
  by_cases hji:j = i.toNat
  ·subst hji
   rw [hx] at hj
   obtain rfl:=Option.some.inj hj
   refine ⟨_,List.mem_set hl ..,rfl,fun hd=>?_⟩
   simp only [don,decide_eq_true_eq] at hd ⊢
   have:=insM_wei h.com m (prop w i).members
   omega
  ·refine ⟨y,List.mem_of_getElem? (i:=j) ?_,rfl,id⟩
   simp only [sCnt]
   rw [List.getElem?_set_ne (by omega)]
   exact hj
 refine ⟨h.com,h.lead,h.bad,fun p hp'=>?_,pw_set h.fit (fun j y hj hy=>?_) (fun j y hj hy=>?_),by simp only [sCnt,List.length_set];exact h.plen,h.vlen,h.gra,fun g hg v hv=>?_,h.bv,fun p hp' k hk hb hv=>?_⟩
 ·rcases mem_set hp' with rfl | hp'
  ·simp only [oneP,Bool.and_eq_true] at hone ⊢
   exact ⟨hone.1,insM_mems hone.2 hm⟩
  ·exact h.one p hp'
 ·refine key j y (by omega) hy ?_
  exact pw_get h.fit hj hy hx
 ·rw [fitP_comm]
  refine key j y (by omega) hy ?_
  rw [fitP_comm]
  exact pw_get h.fit hj hx hy
 ·obtain ⟨p,hp,hd,rfl⟩:=h.knw g hg v hv
  obtain ⟨z,hz,hzv,hzd⟩:=hset p hp
  exact ⟨z,hz,hzd hd,hzv⟩
 ·rcases mem_set hp' with rfl | hp'
  ·dsimp only at hv ⊢
   by_cases hkm:(k:Int) = m
   ·rcases h2 with h2 | h2
    ·exact absurd (hkm.trans h2) hb
    ·unfold view at h2
     rw [← hkm] at h2
     exact h2
   ·refine h.kp _ hp k hk hb ?_
    rcases hv with hv | hv
    ·exact .inl hv
    ·rcases insM_mem.1 hv with hv | hv
     ·exact absurd hv hkm
     ·exact .inr hv
  ·exact h.kp p hp' k hk hb hv
theorem good_iff {w:Wrl} {m:Int}:good w m = true ↔ (0 ≤ m ∧ m < w.com.length) ∧ m ≠ w.bad:=by
 simp only [good,hasM,Bool.and_eq_true,vIn_iff,bne_iff_ne]
 omega
theorem sVot_ok {w:Wrl} (h:WOK w) (m i:Int):WOK (sVot w m i):=by
 unfold sVot
 split
 rotate_left
 ·exact h
 rename_i hb
 simp only [votB,Bool.and_eq_true,Bool.not_eq_true'] at hb
 obtain ⟨h1,h2,h3,h4⟩:=hb
 refine sCnt_ok h h2 (good_iff.1 h1).1 (.inr fun j hj hji hs hm=>?_) (.inr h4)
 have:dbl w m i = true:=by
  refine List.any_eq_true.2 ⟨j,List.mem_range.2 hj,?_⟩
  rw [hs,List.contains_iff_mem.2 hm]
  simpa using hji
 rw [h3] at this
 cases this
theorem sBad_ok {w:Wrl} (h:WOK w) (i:Int):WOK (sBad w i):=by
 unfold sBad
 split
 rotate_left
 ·exact h
 rename_i hb
 simp only [badB,Bool.and_eq_true,decide_eq_true_eq] at hb
 have:=badS_iff.1 h.bad
 exact sCnt_ok h hb.2 (by omega) (.inl rfl) (.inl rfl)
theorem insV_mem {g:List Vtx} {v x:Vtx}:x ∈ insV g v ↔ x = v ∨ x ∈ g:=by
 induction g with
 | nil=>simp [insV]
 | cons y g ih=>
  unfold insV
  split
  ·simp only [List.mem_cons,ih]
   constructor
   ·rintro (h | h | h)
    ·exact .inr (.inl h)
    ·exact .inl h
    ·exact .inr (.inr h)
   ·rintro (h | h | h)
    ·exact .inr (.inl h)
    ·exact .inl h
    ·exact .inr (.inr h)
  ·simp only [List.mem_cons]
theorem bef_tri {a b:Vtx} (h:¬ (a.round = b.round ∧ a.author = b.author)) (h2:bef a b = false):bef b a = true:=by
 simp only [bef,Bool.or_eq_true,Bool.and_eq_true,decide_eq_true_eq,Bool.or_eq_false_iff,Bool.and_eq_false_iff,decide_eq_false_iff_not] at *
 omega
theorem insV_pw {g:List Vtx} {v:Vtx} (h:g.Pairwise fun a b=>bef a b = true) (hn:hasV g v.round v.author = false):(insV g v).Pairwise fun a b=>bef a b = true:=by
 induction g with
 | nil=>simp [insV]
 | cons y g ih=>
  rw [List.pairwise_cons] at h
  have hn2:isAt v.round v.author y = false ∧ hasV g v.round v.author = false:=by simpa [hasV] using hn
  unfold insV
  split
  ·rw [List.pairwise_cons]
   refine ⟨fun x hx=>?_,ih h.2 hn2.2⟩
   rcases insV_mem.1 hx with rfl | hx
   ·assumption
   ·exact h.1 x hx
  ·rename_i hb
   have hvy:bef v y = true:=bef_tri (fun he=>by
    rw [isAt_iff.2 he] at hn2
    cases hn2.1) (by simpa using hb)
   rw [List.pairwise_cons,List.pairwise_cons]
   refine ⟨fun x hx=>?_,h⟩
   rcases List.mem_cons.1 hx with rfl | hx
   ·exact hvy
   ·exact bef_trans hvy (h.1 x hx)
theorem hasV_mono {g g':List Vtx} {r a:Int} (h:∀ x ∈ g,x ∈ g') (hh:hasV g r a = true):hasV g' r a = true:=by
 obtain ⟨v,hv,e⟩:=hasV_iff.1 hh
 exact hasV_iff.2 ⟨v,h v hv,e⟩
theorem parOK_mono {g g':List Vtx} {v:Vtx} (h:∀ x ∈ g,x ∈ g') (hh:parOK g v = true):parOK g' v = true:=
 parOK_iff.2 fun p hp=>hasV_mono h (parOK_iff.1 hh p hp)
theorem graS_of {c:List Int} {g:List Vtx} (h:GraOK c g):graS c g = true:=by
 simp only [graS,Bool.and_eq_true,allTo_iff,graAt,Bool.or_eq_true,beq_iff_eq]
 refine ⟨h.com,fun i hi=>⟨h.vtx _ (gd_mem hi),?_,h.par _ (gd_mem hi)⟩⟩
 cases i with
 | zero=>exact .inl rfl
 | succ i=>
  right
  exact pw_get h.pw (show i < i + 1 by omega) (by rw [Nat.add_sub_cancel,List.getD_eq_getElem?_getD,List.getElem?_eq_getElem (show i < g.length by omega)];rfl) (by rw [List.getD_eq_getElem?_getD,List.getElem?_eq_getElem hi];rfl)
theorem insV_gra {c:List Int} {g:List Vtx} {v:Vtx} (h:graS c g = true) (h1:vtxS c v = true) (h2:hasV g v.round v.author = false) (h3:parOK g v = true):graS c (insV g v) = true:=by
 have hg:=graS_ok h
 have hs:∀ x ∈ g,x ∈ insV g v:=fun x hx=>insV_mem.2 (.inr hx)
 refine graS_of ⟨hg.com,fun x hx=>?_,insV_pw hg.pw h2,fun x hx=>?_⟩
 ·rcases insV_mem.1 hx with rfl | hx
  ·exact h1
  ·exact hg.vtx x hx
 ·rcases insV_mem.1 hx with rfl | hx
  ·exact parOK_mono hs h3
  ·exact parOK_mono hs (hg.par x hx)
theorem getD_set {α:Type} {l:List α} {i j:Nat} {x d:α} (hi:i < l.length):(l.set i x).getD j d = if i = j then x else l.getD j d:=by
 simp only [List.getD_eq_getElem?_getD,List.getElem?_set]
 split
 ·subst_vars;simp [hi]
 ·rfl
theorem sDel_ok {w:Wrl} (h:WOK w) (m i:Int):WOK (sDel w m i):=by
 unfold sDel
 split
 rotate_left
 ·exact h
 rename_i hb
 simp only [delB,Bool.and_eq_true,Bool.not_eq_true'] at hb
 obtain ⟨h1,h2,h3,h4,h5⟩:=hb
 have hg:=good_iff.1 h1
 obtain ⟨hl,hx,hp⟩:=prop_at h2
 have hone:=h.one _ hp
 simp only [oneP,Bool.and_eq_true] at hone
 have hml:m.toNat < w.views.length:=by rw [h.vlen];omega
 have hvm:view w m ∈ w.views:=gd_mem hml
 refine ⟨h.com,h.lead,h.bad,h.one,h.fit,h.plen,by simp only [List.length_set];exact h.vlen,fun g hg'=>?_,fun g hg' v hv=>?_,fun k hk hkb=>?_,fun p hp' k hk hb hv=>?_⟩
 ·rcases mem_set hg' with rfl | hg'
  ·exact insV_gra (h.gra _ hvm) hone.1 h4 h5
  ·exact h.gra g hg'
 ·rcases mem_set hg' with rfl | hg'
  ·rcases insV_mem.1 hv with rfl | hv
   ·exact ⟨prop w i,hp,h3,rfl⟩
   ·exact h.knw _ hvm v hv
  ·exact h.knw g hg' v hv
 ·simp only [List.length_set] at hk
  have hkb:(k:Int) = w.bad:=hkb
  dsimp only
  rw [getD_set hml,if_neg (by intro e;apply hg.2;omega)]
  exact h.bv k hk hkb
 ·simp only [List.length_set] at hk
  have:=h.kp p hp' k hk hb hv
  dsimp only
  rw [getD_set hml]
  split
  ·rename_i e
   subst e
   exact parOK_mono (fun x hx=>insV_mem.2 (.inr hx)) this
  ·exact this
theorem sDo_ok {w:Wrl} (h:WOK w) (e:Evt):WOK (sDo w e):=by
 unfold sDo
 split
 ·exact sPrp_ok h _ _
 split
 ·exact sVot_ok h _ _
 split
 ·exact sDel_ok h _ _
 split
 ·exact sFrg_ok h _
 split
 ·exact sBad_ok h _
 ·exact h
end Go.Proofs.YtjjddgpdoibcoaaGreatDoor.Am
namespace Go.Proofs.YtjjddgpdoibcoaaGreatDoor.Am
open Go
theorem gra_len {c:List Int} {g:List Vtx} (h:graS c g = true):g.length ≤ 217:=by
 have hg:=graS_ok h
 have ht:∀ v ∈ g,inTab v:=fun v hv=>vtxS_tab hg.com (hg.vtx v hv)
 have h1:((g.map fun v=>(v.round * 7 + v.author).toNat)).Nodup:=by
  rw [List.Nodup,List.pairwise_map]
  refine hg.pw.imp_of_mem fun {a b} ha hb hab=>?_
  obtain ⟨⟨a1,a2⟩,a3,a4⟩:=ht a ha
  obtain ⟨⟨b1,b2⟩,b3,b4⟩:=ht b hb
  simp only [bef,Bool.or_eq_true,Bool.and_eq_true,decide_eq_true_eq] at hab
  omega
 have h2:=nodup_len7 h1 (b:=List.range 217) fun k hk=>by
  obtain ⟨v,hv,rfl⟩:=List.mem_map.1 hk
  obtain ⟨⟨a1,a2⟩,a3,a4⟩:=ht v hv
  rw [List.mem_range]
  omega
 simpa using h2
theorem insM_at:∀ {l:List Int} {n:Int} {k:Nat},(∀ y ∈ l.take k,y < n) → k ≤ l.length → (∀ y,l[k]? = some y → ¬ y < n) → insM l n = if l[k]? = some n then l else l.take k ++ [n] ++ l.drop k
 | [],n,k,_,hk,_=>by
  obtain rfl:k = 0:=by simpa using hk
  simp [insM]
 | x :: l,n,0,_,_,h=>by
  have hx:=h x rfl
  unfold insM
  rw [if_neg hx]
  simp
 | x :: l,n,k + 1,h1,hk,h=>by
  have hx:x < n:=h1 x (by simp)
  unfold insM
  rw [if_pos hx,insM_at (l:=l) (k:=k) (fun y hy=>h1 y (by simp [hy])) (by simpa using hk) (fun y hy=>h y (by simpa using hy))]
  simp only [List.getElem?_cons_succ]
  split <;> simp
theorem insV_at:∀ {g:List Vtx} {v:Vtx} {k:Nat},(∀ y ∈ g.take k,bef y v = true) → k ≤ g.length → (∀ y,g[k]? = some y → bef y v = false) → insV g v = g.take k ++ [v] ++ g.drop k
 | [],v,k,_,hk,_=>by
  obtain rfl:k = 0:=by simpa using hk
  simp [insV]
 | x :: g,v,0,_,_,h=>by
  have hx:=h x rfl
  unfold insV
  rw [if_neg (by rw [hx];simp)]
  simp
 | x :: g,v,k + 1,h1,hk,h=>by
  have hx:bef x v = true:=h1 x (by simp)
  unfold insV
  rw [if_pos hx,insV_at (g:=g) (k:=k) (fun y hy=>h1 y (by simp [hy])) (by simpa using hk) (fun y hy=>h y (by simpa using hy))]
  simp
theorem insV_len (g:List Vtx) (v:Vtx):(insV g v).length = g.length + 1:=by
 induction g with
 | nil=>rfl
 | cons x g ih=>unfold insV;split <;> simp [ih]
theorem nxt_bd {ps:List Ppl} {m:Int} (h:∀ p ∈ ps,0 ≤ p.v.round ∧ p.v.round ≤ 30):0 ≤ nxt ps m ∧ nxt ps m ≤ 31:=by
 induction ps using snoc_ind with
 | h0=>simp [nxt]
 | h l x ih=>
  have ih:=ih fun p hp=>h p (List.mem_append.2 (.inl hp))
  have hx:=h x (by simp)
  rw [nxt_app]
  split <;> omega
theorem WOK.len {w:Wrl} (h:WOK w):1 ≤ w.com.length ∧ w.com.length ≤ 7:=(comV_iff.1 h.com).2
theorem WOK.vl {w:Wrl} (h:WOK w):∀ g ∈ w.views,g.length ≤ 217:=fun g hg=>gra_len (h.gra g hg)
theorem WOK.vv {w:Wrl} (h:WOK w):∀ g ∈ w.views,∀ v ∈ g,vtxS w.com v = true:=fun g hg=>gra_vtx (h.gra g hg)
theorem WOK.pv {w:Wrl} (h:WOK w):∀ p ∈ w.props,vtxS w.com p.v = true ∧ mems w.com p.members = true:=fun p hp=>by
 have:=h.one p hp
 simpa only [oneP,Bool.and_eq_true] using this
theorem WOK.par {w:Wrl} (h:WOK w) {v:Vtx} (hv:vtxS w.com v = true):v.parents.length ≤ 7:=vtx_par h.com hv
theorem WOK.mem {w:Wrl} (h:WOK w):∀ p ∈ w.props,p.members.length ≤ 7:=fun p hp=>by
 have:=mems_len7 (h.pv p hp).2
 have:=h.len
 omega
theorem WOK.view {w:Wrl} (h:WOK w) {m:Int} (hm:good w m = true):w.views[m.toNat]? = some (view w m) ∧ view w m ∈ w.views ∧ m.toNat < w.views.length:=by
 have hg:=good_iff.1 hm
 have hl:m.toNat < w.views.length:=by rw [h.vlen];omega
 refine ⟨?_,gd_mem hl,hl⟩
 unfold Am.view
 rw [List.getD_eq_getElem?_getD,List.getElem?_eq_getElem hl]
 rfl
def tsz (w:Wrl):Nat:=(w.views.map List.length).sum
theorem sum_set {l:List (List Vtx)} {i:Nat} {g x:List Vtx} (h:l[i]? = some g) (hx:x.length = g.length + 1):((l.set i x).map List.length).sum = (l.map List.length).sum + 1:=by
 induction l generalizing i with
 | nil=>simp at h
 | cons y l ih=>
  cases i with
  | zero=>
   simp only [List.getElem?_cons_zero,Option.some.injEq] at h
   subst h
   simp only [List.set_cons_zero,List.map_cons,List.sum_cons,hx]
   omega
  | succ i=>
   simp only [List.set_cons_succ,List.map_cons,List.sum_cons]
   rw [ih (by simpa using h)]
   omega
theorem sDel_cases {w:Wrl} (h:WOK w) (m i:Int):(delB w m i = false ∧ sDel w m i = w) ∨ (delB w m i = true ∧ tsz (sDel w m i) = tsz w + 1):=by
 cases hb:delB w m i
 ·exact .inl ⟨rfl,by simp [sDel,hb]⟩
 ·refine .inr ⟨rfl,?_⟩
  have hg:good w m = true:=by
   simp only [delB,Bool.and_eq_true] at hb
   exact hb.1
  have:=sum_set (h.view hg).1 (insV_len (view w m) (prop w i).v)
  simpa [sDel,hb,tsz] using this
theorem sDel_com (w:Wrl) (m i:Int):(sDel w m i).com = w.com ∧ (sDel w m i).props = w.props ∧ (sDel w m i).bad = w.bad ∧ (sDel w m i).lead = w.lead:=by
 unfold sDel
 split <;> exact ⟨rfl,rfl,rfl,rfl⟩
theorem tsz_le {w:Wrl} (h:WOK w):tsz w ≤ 1519:=by
 have h1:∀ l:List (List Vtx),(∀ g ∈ l,g.length ≤ 217) → (l.map List.length).sum ≤ 217 * l.length:=by
  intro l
  induction l with
  | nil=>intro _;simp
  | cons x l ih=>
   intro hl
   have:=ih fun g hg=>hl g (List.mem_cons_of_mem _ hg)
   have:=hl x (List.mem_cons_self ..)
   simp only [List.map_cons,List.sum_cons,List.length_cons]
   omega
 have:=h1 w.views h.vl
 have:=h.vlen
 have:=h.len
 unfold tsz
 omega
def delTo (w:Wrl) (i:Int):Nat → Wrl
 | 0=>w
 | n + 1=>sDel (delTo w i n) n i
theorem delTo_ok {w:Wrl} (h:WOK w) (i:Int):∀ n,WOK (delTo w i n)
 | 0=>h
 | n + 1=>sDel_ok (delTo_ok h i n) _ _
theorem delTo_com (w:Wrl) (i:Int):∀ n,(delTo w i n).com = w.com ∧ (delTo w i n).props = w.props
 | 0=>⟨rfl,rfl⟩
 | n + 1=>by
  have h1:=sDel_com (delTo w i n) n i
  have h2:=delTo_com w i n
  exact ⟨h1.1.trans h2.1,h1.2.1.trans h2.2⟩
def passTo (w:Wrl):Nat → Wrl
 | 0=>w
 | k + 1=>delTo (passTo w k) k (passTo w k).com.length
theorem passTo_ok {w:Wrl} (h:WOK w):∀ k,WOK (passTo w k)
 | 0=>h
 | k + 1=>delTo_ok (passTo_ok h k) _ _
theorem passTo_com (w:Wrl):∀ k,(passTo w k).com = w.com ∧ (passTo w k).props = w.props
 | 0=>⟨rfl,rfl⟩
 | k + 1=>by
  have h1:=delTo_com (passTo w k) k (passTo w k).com.length
  have h2:=passTo_com w k
  exact ⟨h1.1.trans h2.1,h1.2.trans h2.2⟩
def pass (w:Wrl):Wrl:=passTo w w.props.length
theorem pass_ok {w:Wrl} (h:WOK w):WOK (pass w):=passTo_ok h _
def sSpr (w:Wrl):Wrl:=if h:tsz w < tsz (pass w) ∧ tsz (pass w) ≤ 1519 then sSpr (pass w) else pass w
termination_by 1519 - tsz w
decreasing_by omega
theorem sSpr_ok:∀ (n:Nat) {w:Wrl},1519 - tsz w ≤ n → WOK w → WOK (sSpr w):=by
 intro n
 induction n with
 | zero=>
  intro w hn h
  rw [sSpr]
  split
  ·omega
  ·exact pass_ok h
 | succ n ih=>
  intro w hn h
  rw [sSpr]
  split
  ·exact ih (by omega) (pass_ok h)
  ·exact pass_ok h
def votTo (w:Wrl) (i:Int):Nat → Wrl
 | 0=>w
 | n + 1=>sVot (votTo w i n) n i
theorem votTo_ok {w:Wrl} (h:WOK w) (i:Int):∀ n,WOK (votTo w i n)
 | 0=>h
 | n + 1=>sVot_ok (votTo_ok h i n) _ _
theorem sVot_com (w:Wrl) (m i:Int):(sVot w m i).com = w.com ∧ (sVot w m i).props.length = w.props.length:=by
 unfold sVot
 split
 ·exact ⟨rfl,by simp [sCnt]⟩
 ·exact ⟨rfl,rfl⟩
theorem votTo_com (w:Wrl) (i:Int):∀ n,(votTo w i n).com = w.com ∧ (votTo w i n).props.length = w.props.length
 | 0=>⟨rfl,rfl⟩
 | n + 1=>by
  have h1:=sVot_com (votTo w i n) n i
  have h2:=votTo_com w i n
  exact ⟨h1.1.trans h2.1,h1.2.trans h2.2⟩
def votsTo (w:Wrl):Nat → Wrl
 | 0=>w
 | k + 1=>votTo (votsTo w k) k (votsTo w k).com.length
theorem votsTo_ok {w:Wrl} (h:WOK w):∀ k,WOK (votsTo w k)
 | 0=>h
 | k + 1=>votTo_ok (votsTo_ok h k) _ _
theorem votsTo_com (w:Wrl):∀ k,(votsTo w k).com = w.com ∧ (votsTo w k).props.length = w.props.length
 | 0=>⟨rfl,rfl⟩
 | k + 1=>by
  have h1:=votTo_com (votsTo w k) k (votsTo w k).com.length
  have h2:=votsTo_com w k
  exact ⟨h1.1.trans h2.1,h1.2.trans h2.2⟩
def sVts (w:Wrl):Wrl:=votsTo w w.props.length
def prpTo (w:Wrl) (r:Nat):Nat → Wrl
 | 0=>w
 | n + 1=>sPrp (prpTo w r n) n (7 * r + n)
theorem prpTo_ok {w:Wrl} (h:WOK w) (r:Nat):∀ n,WOK (prpTo w r n)
 | 0=>h
 | n + 1=>sPrp_ok (prpTo_ok h r n) _ _
theorem sPrp_com (w:Wrl) (m d:Int):(sPrp w m d).com = w.com:=by
 unfold sPrp
 split <;> rfl
theorem prpTo_com (w:Wrl) (r:Nat):∀ n,(prpTo w r n).com = w.com
 | 0=>rfl
 | n + 1=>(sPrp_com _ _ _).trans (prpTo_com w r n)
def rnd1 (w:Wrl):Wrl:=sSpr (sVts w)
def rnd (w:Wrl) (r:Nat):Wrl:=rnd1 (prpTo (rnd1 w) r (rnd1 w).com.length)
def calmTo (w:Wrl):Nat → Wrl
 | 0=>sSpr w
 | r + 1=>rnd (calmTo w r) r
theorem rnd1_ok {w:Wrl} (h:WOK w):WOK (rnd1 w):=sSpr_ok _ (Nat.le_refl _) (votsTo_ok h _)
theorem rnd_ok {w:Wrl} (h:WOK w) (r:Nat):WOK (rnd w r):=rnd1_ok (prpTo_ok (rnd1_ok h) _ _)
theorem calmTo_ok {w:Wrl} (h:WOK w):∀ r,WOK (calmTo w r)
 | 0=>sSpr_ok _ (Nat.le_refl _) h
 | r + 1=>rnd_ok (calmTo_ok h r) r
end Go.Proofs.YtjjddgpdoibcoaaGreatDoor.Am
namespace Go.Proofs.YtjjddgpdoibcoaaGreatDoor.Am
open Go Go.RowKit
variable {P:Program} {N:Nat} {K:Id → Prop} {σ:VSt} {Q:Exit → VSt → Prop}
def cutQ {α:Type} (m:Nat) (fs ts:List Nat) (st:α → VSt) (p:α → Prop) (e:Exit) (σ:VSt):Prop:=
 match e with
 | .normal=>zgcK m fs ts σ fun σ2=>∃ a,p a ∧ σ2 = st a
 | _=>False
theorem at_then {α:Type} {x y:Code} {m:Nat} (hK:KB m K) (fs ts:List Nat) (st:α → VSt) (p:α → Prop) (h:At P N K x (cutQ m fs ts st p) σ) (k:∀ a,p a → At P N K y Q (st a)):At P N K x (thenQ (At P N K y Q) Q) σ:=by
 obtain ⟨e,σ1,h1,h2⟩:=h
 refine ⟨e,σ1,h1,fun hr=>?_⟩
 have h3:=h2 hr
 cases e with
 | normal=>
  obtain ⟨σ2,hw,a,ha,rfl⟩:=zgcK_ok hK h3
  exact at_weak hw (k a ha)
 | _=>exact h3.elim
end Go.Proofs.YtjjddgpdoibcoaaGreatDoor.Am
namespace Go.Proofs.YtjjddgpdoibcoaaGreatDoor.Am
open Go Go.Shelf Go.RowKit
variable {P:Program} {w0:World} {S:SD} {A:Nat → Prop} {N:Nat} {ρ:Id → Pl} {t:List (Nat × D)} {h:HL} {a:Act} {w:World}
end Go.Proofs.YtjjddgpdoibcoaaGreatDoor.Am
namespace Go.Proofs.YtjjddgpdoibcoaaGreatDoor.Am
open Go Go.Shelf Go.RowKit
attribute [local irreducible] Mk Need Ari Get Idx Cnd CallM CallA Opt Unch At
set_option maxRecDepth 10000
theorem Con.out {P:Program} {f:FuncId} {ds:List D} {hin hout hout':HL} {r:D} (h:Con P f ds hin r hout) (he:∀ b,look hout' b = look hout b):Con P f ds hin r hout':=by
 refine ⟨h.1,fun w A ρ vs s hl hc=>(h.2 w A ρ vs s hl hc).mono ?_⟩
 rintro e w' ⟨u,ρ',h1,h2,h3,h4⟩
 have hl:∀ b,Live hout b → Live hout' b:=fun b hb=>by
  unfold Live at hb ⊢
  rw [he]
  exact hb
 exact ⟨u,ρ',h1,fun b hb=>⟨(h2 b hb).1,hl b (h2 b hb).2⟩,h3.congr (fun _=>rfl) he,h4.mono (fun b hb=>⟨hl b hb,rfl⟩) fun k hk=>⟨⟨hk.1,fun b y hy hmu=>hk.2 b y (by rw [← he];exact hy) hmu⟩,rfl⟩⟩
def lays25_ren:Go.Shelf.Ren:=⟨fun | 25=>185 | 31=>214 | 32=>215 | 37=>230 | n=>n,fun | 22=>23 | 3=>3 | 4=>4 | 40=>224 | 0=>0 | n=>n,fun | n=>n⟩
theorem lays25:Go.Proofs.Lays2.n25 Tryz.prog lays25_ren where
  mixed:=by kernel_rfl
  f25:=Tryz.func185.trans (congrArg some (by kernel_rfl))
  f31:=Tryz.func214.trans (congrArg some (by kernel_rfl))
  f32:=Tryz.func215.trans (congrArg some (by kernel_rfl))
  f37:=Tryz.func230.trans (congrArg some (by kernel_rfl))
  t0:=Tryz.underlying0
  a0:=Tryz.isAgg0
  z0:=Tryz.sizeOf0
  v0:=Tryz.zeroValue0
  t3:=Tryz.underlying3
  a3:=Tryz.isAgg3
  z3:=Tryz.sizeOf3
  v3:=Tryz.zeroValue3
  t4:=Tryz.underlying4
  a4:=Tryz.isAgg4
  z4:=Tryz.sizeOf4
  v4:=Tryz.zeroValue4
  t22:=Tryz.underlying23
  a22:=Tryz.isAgg23
  z22:=Tryz.sizeOf23
  v22:=Tryz.zeroValue23
  t40:=Tryz.underlying224
  a40:=Tryz.isAgg224
  z40:=Tryz.sizeOf224
  v40:=Tryz.zeroValue224
theorem below_drewN (w:World) (q:Nat):Below w.heap.size w (w.drewN q):=⟨rfl,rfl,rfl,Nat.le_refl _,fun _ _=>rfl⟩
theorem ibs_c (xs:List Int) (x:Int) (hs:xs.Pairwise (· ≤ ·)) (hl:xs.length ≤ 1000000):ConV Tryz.prog 185 [.lst (.int .i64) xs,.int .i64 x] [] (.tup [.int .i64 (xs.countP (· < x):Nat),.bool (xs.contains x)]) []:=by
 unfold ConV
 refine con_below ⟨_,Tryz.func185,rfl,rfl⟩ fun w ok ρ vs hl2 hc=>?_
 obtain ⟨v0,v1,rfl⟩:∃ v0 v1,vs = #[v0,v1]:=by
  have h2:vs.size = 2:=hl2.symm
  refine ⟨vs[0],vs[1],Array.ext (by simp [h2]) fun i h1 h3=>?_⟩
  match i,h3 with
  | 0,_=>rfl
  | 1,_=>rfl
 have h0:C ρ (fun _=>False) ok w (.lst (xs.map (D.int .i64))) v0:=hc 0 (by simp [toDL])
 have h1:C ρ (fun _=>False) ok w (.int .i64 x) v1:=hc 1 (by simp [toDL])
 obtain rfl:=h1.int_inv
 have h0:=h0.lst_inv
 have fin:∀ w':World,Below w.heap.size w w' → ∀ ok',Rep ok' w' ((V.tup [.int .i64 (xs.countP (· < x):Nat),.bool (xs.contains x)]).toD) (.tuple #[.int .i64 (xs.countP (· < x):Nat),.bool (xs.contains x)]):=fun w' _ ok'=>by
  refine .tup _ _ rfl fun i hi=>?_
  match i,hi with
  | 0,_=>exact .int _ _
  | 1,_=>exact .bool _
 cases xs with
 | nil=>
  obtain ⟨a,cap,rfl⟩:∃ a cap,v0 = .slice a 0 cap:=by
   generalize hd:(([]:List Int).map (D.int .i64)) = dl at h0
   cases h0 with
   | none a cap ha hcap=>exact ⟨a,cap,rfl⟩
   | lst l n b off cap f hn=>subst hd;exact ⟨_,cap,by rw [← hn];rfl⟩
  refine Calls.mono (Any.slices_BinarySearch_int_empty lays25 a cap x w) ?_
  rintro e w' ⟨rfl,rfl⟩
  exact ⟨_,rfl,Below.refl _ _,fin _ (Below.refl _ _)⟩
 | cons y ys=>
  obtain ⟨b,off,cap,rfl,hcell⟩:∃ b off cap,v0 = .slice (some ⟨b,off,none⟩) (y :: ys).length cap ∧ ∀ j,j < (y :: ys).length → w.cell? ⟨b,off + j,none⟩ = some (.int .i64 ((y :: ys).getD j 0)):=by
   generalize hd:((y :: ys).map (D.int .i64)) = dl at h0
   cases h0 with
   | none a cap ha hcap=>cases hd
   | lst l n b off cap f hn hcap hmax hok hsz hpos hcc hr=>
    have hlen:(y :: ys).length = n:=by rw [← hn,← hd];simp
    have hz:szl dl = 1:=by rw [← hd];rfl
    refine ⟨b,off,cap,by rw [hlen],fun j hj=>?_⟩
    have q1:=hcc j 0 (by omega) (by omega)
    have q2:=hr j 0 (by omega) (by omega)
    rw [hz,Nat.mul_one,Nat.add_zero] at q1
    have q3:(dl.getD j .undef).cells.getD 0 .undef = .int .i64 ((y :: ys).getD j 0):=by
     rw [← hd]
     simp only [List.getD_eq_getElem?_getD,List.getElem?_map,List.getElem?_eq_getElem hj,Option.map_some,Option.getD_some]
     rfl
    rw [q3] at q2
    generalize f j 0 = z at q1 q2
    cases q2
    exact q1
  refine Calls.mono (Any.slices_BinarySearch_int lays25 b off (y :: ys).length cap (y :: ys) x w (Nat.le_refl _) (by omega) hcell (by rw [List.take_length];exact hs)) ?_
  rintro e w' ⟨rfl,q,rfl⟩
  rw [List.take_length]
  exact ⟨_,rfl,below_drewN _ _,fin _ (below_drewN _ _)⟩
end Go.Proofs.YtjjddgpdoibcoaaGreatDoor.Am
namespace Go.Proofs.YtjjddgpdoibcoaaGreatDoor.Am
open Go
attribute [local irreducible] Mk Need Ari Get Idx Cnd CallM CallA Opt Unch At ConV
set_option maxRecDepth 10000
end Go.Proofs.YtjjddgpdoibcoaaGreatDoor.Am
namespace Go.Proofs.YtjjddgpdoibcoaaGreatDoor.Am
open Go
structure Rel (ps:List Ppl) (xss:List (Option (List Int))) (ms:List PplM):Prop where
 len:ms.length = ps.length
 get:∀ (i:Nat) (p:Ppl),ps[i]? = some p → ∃ j:Nat,ms[i]? = some ⟨p.v,some j⟩ ∧ xss[j]? = some (some p.members)
 inj:∀ (i i':Nat) (v v':Vtx) (j:Nat),ms[i]? = some ⟨v,some j⟩ → ms[i']? = some ⟨v',some j⟩ → i = i'
theorem Rel.old {ps:List Ppl} {xss:List (Option (List Int))} {ms:List PplM} (h:Rel ps xss ms) {i:Nat} {v:Vtx} {j:Nat} (hi:ms[i]? = some ⟨v,some j⟩):j < xss.length ∧ ∃ p,ps[i]? = some p ∧ p.v = v ∧ xss[j]? = some (some p.members):=by
 have hl:=(List.getElem?_eq_some_iff.1 hi).1
 rw [h.len] at hl
 obtain ⟨j',h1,h2⟩:=h.get i _ (List.getElem?_eq_getElem hl)
 rw [h1] at hi
 injection hi with hi
 injection hi with e1 e2
 obtain rfl:=Option.some.inj e2
 exact ⟨(List.getElem?_eq_some_iff.1 h2).1,_,List.getElem?_eq_getElem hl,e1,h2⟩
theorem Rel.add {ps:List Ppl} {xss:List (Option (List Int))} {ms:List PplM} (h:Rel ps xss ms) (v:Vtx):Rel (ps ++ [⟨v,[]⟩]) (xss ++ [some []]) (ms ++ [⟨v,some xss.length⟩]):=by
 refine ⟨by simp [h.len],fun i p hi=>?_,fun i i' v1 v2 j h1 h2=>?_⟩
 ·rcases Nat.lt_or_ge i ps.length with hlt | hge
  ·rw [List.getElem?_append_left hlt] at hi
   obtain ⟨j,h1,h2⟩:=h.get i p hi
   exact ⟨j,by rw [List.getElem?_append_left (by rw [h.len];exact hlt)];exact h1,by rw [List.getElem?_append_left (List.getElem?_eq_some_iff.1 h2).1];exact h2⟩
  ·rw [List.getElem?_append_right hge] at hi
   have e:i = ps.length:=by
    have:=(List.getElem?_eq_some_iff.1 hi).1
    simp at this
    omega
   subst e
   simp at hi
   subst hi
   exact ⟨xss.length,by rw [← h.len];simp,by simp⟩
 ·have key:∀ {i:Nat} {v1:Vtx},(ms ++ [(⟨v,some xss.length⟩:PplM)])[i]? = some ⟨v1,some j⟩ → (i < ms.length ∧ ms[i]? = some ⟨v1,some j⟩ ∧ j < xss.length) ∨ (i = ms.length ∧ j = xss.length):=fun {i v1} hi=>by
   rcases Nat.lt_or_ge i ms.length with hlt | hge
   ·rw [List.getElem?_append_left hlt] at hi
    exact .inl ⟨hlt,hi,(h.old hi).1⟩
   ·rw [List.getElem?_append_right hge] at hi
    have e:i = ms.length:=by
     have:=(List.getElem?_eq_some_iff.1 hi).1
     simp at this
     omega
    subst e
    simp at hi
    exact .inr ⟨rfl,hi.2.symm⟩
  rcases key h1 with ⟨a1,a2,a3⟩ | ⟨a1,a2⟩ <;> rcases key h2 with ⟨b1,b2,b3⟩ | ⟨b1,b2⟩
  ·exact h.inj _ _ _ _ _ a2 b2
  ·omega
  ·omega
  ·omega
end Go.Proofs.YtjjddgpdoibcoaaGreatDoor.Am
namespace Go.Proofs.YtjjddgpdoibcoaaGreatDoor.Am
open Go
attribute [local irreducible] Mk Need Ari Get Idx Cnd CallM CallA Opt Unch At ConV
set_option maxRecDepth 10000
end Go.Proofs.YtjjddgpdoibcoaaGreatDoor.Am
namespace Go.Proofs.YtjjddgpdoibcoaaGreatDoor.Am
open Go
attribute [local irreducible] Mk Need Ari Get Idx Cnd CallM CallA Opt Unch At ConV
set_option maxRecDepth 10000
end Go.Proofs.YtjjddgpdoibcoaaGreatDoor.Am
namespace Go.Proofs.YtjjddgpdoibcoaaGreatDoor.Am
open Go
attribute [local irreducible] Mk Need Ari Get Idx Cnd CallM CallA Opt Unch At ConV
set_option maxRecDepth 10000
end Go.Proofs.YtjjddgpdoibcoaaGreatDoor.Am
namespace Go.Proofs.YtjjddgpdoibcoaaGreatDoor.Am
open Go
end Go.Proofs.YtjjddgpdoibcoaaGreatDoor.Am
namespace Go.Proofs.YtjjddgpdoibcoaaGreatDoor.Am
open Go Go.RowKit
variable {P:Program} {w0:World} {S:SD} {A:Nat → Prop} {N:Nat} {ρ:Id → Pl} {t:List (Nat × D)} {h:HL} {a:Act} {w:World}
variable {K:Id → Prop} {fu:FuncId} {b:Id} {Q:Exit → VSt → Prop} {σ:VSt}
end Go.Proofs.YtjjddgpdoibcoaaGreatDoor.Am
