/- Runs: what the specification's functions of events give. Runs: what the specification's functions of events give, put together. Runs: an event is applied, under the lock. Runs: what has been applied is handed back. Runs: what an event does to a run. Runs: impl's WorldDo and WorldPlay. Runs: quiet rounds, copies, whole events: what the specification gives. What is drawn for new runs; the law FnWorldNew. What is drawn for runs. -/
import Derived.Test.YtncmbiacjeicpaaGreatDoorPM8
set_option linter.unusedSimpArgs false
set_option linter.unusedVariables false
namespace Go.Proofs.YtncmbiacjeicpaaGreatDoor.Am
open Go
attribute [local irreducible] Mk Need Ari Get Idx Cnd CallM CallA Opt Unch At ConV
set_option maxRecDepth 10000
theorem sgood_c (w:Wrl) (m:Int):ConV Tryz.prog 62 [wrlA w,.int .i64 m] [] (.bool (good w m)) []:=by
 have hI:=in_c m 0 ((w.com.length:Int) - 1)
 refine con_eq Θ_ok Tryz.func62 rfl rfl false 0 4 rfl rfl rfl rfl fun K hK hb1 hb2=>?_;simp only [argsV,enc,Nat.reduceAdd]
 simp [toDL,V.toD,bnd,encD,D.cells] at hb1
 cases h:vIn m 0 ((w.com.length:Int) - 1)
 ·rw [h] at hI
  (repeat (any_goals (first | refine st ?_ | (refine go2 fun xe hxe=>?_;conv=>whnf) | ((with_reducible refine cnd_i (fun hq=>?_) fun hq=>?_) <;> (try simp only [hqs] at hq) <;> (first | omega | conv=>whnf)) | refine cr (hI) ?_)))
  exact ⟨by simp [good,hasM,h],rfl⟩
 ·rw [h] at hI
  (repeat (any_goals (first | refine st ?_ | (refine go2 fun xe hxe=>?_;conv=>whnf) | ((with_reducible refine cnd_i (fun hq=>?_) fun hq=>?_) <;> (try simp only [hqs] at hq) <;> (first | omega | conv=>whnf)) | refine cr (hI) ?_)))
  exact ⟨by simp [good,hasM,h],rfl⟩
theorem nxt_snoc {ps:List Ppl} {i:Nat} {p:Ppl} (h:ps[i]? = some p) (m:Int):nxt (ps.take (i + 1)) m = if p.v.author = m then (if nxt (ps.take i) m < p.v.round + 1 then p.v.round + 1 else nxt (ps.take i) m) else nxt (ps.take i) m:=by
 obtain ⟨hl,rfl⟩:=List.getElem?_eq_some_iff.1 h
 rw [List.take_succ_eq_append_getElem hl,nxt_app]
 split
 ·split <;> omega
 ·rfl
theorem snext_c (w:Wrl) (m:Int) (hp:∀ p ∈ w.props,0 ≤ p.v.round ∧ p.v.round ≤ 30) (hl:w.props.length ≤ 1000):ConV Tryz.prog 66 [wrlA w,.int .i64 m] [] (.int .i64 (nxt w.props m)) []:=by
 refine con_eq Θ_ok Tryz.func66 rfl rfl false 0 4 rfl rfl rfl rfl fun K hK hb1 hb2=>?_;simp only [argsV,enc,Nat.reduceAdd]
 clear hb1 hb2
 (repeat (any_goals (first | refine st ?_ | (refine go2 fun xe hxe=>?_;conv=>whnf) | ((with_reducible refine cnd_i (fun hq=>?_) fun hq=>?_) <;> (try simp only [hqs] at hq) <;> (first | omega | conv=>whnf)))))
 refine at_loop hK [] [1,2,5,6] (fun i:Nat=>⟨[(1,.int .i64 m),(2,.ptr 4 0),(5,.int .i64 (nxt (w.props.take i) m)),(6,.int .i64 (i:Int))],[(4,.var 27 (wrlA w).cells)],5⟩) (fun i=>i ≤ w.props.length) (fun i=>w.props.length - i) 0 (by simp) rfl ?_
 intro i hi
 by_cases hlt:i < w.props.length
 ·have hxe:w.props[i]? = some w.props[i]:=List.getElem?_eq_getElem hlt
  have hs:=nxt_snoc hxe m
  have hpb:=hp _ (List.getElem_mem hlt)
  have hnb:=nxt_bd (m:=m) fun p hpp=>hp p (List.mem_of_mem_take (i:=i) hpp)
  generalize w.props[i] = p at *
  by_cases ha:p.v.author = m
  ·rw [if_pos ha] at hs
   (repeat (any_goals (first | refine st ?_ | (refine go2 fun xe hxe=>?_;conv=>whnf) | ((with_reducible refine cnd_i (fun hq=>?_) fun hq=>?_) <;> (try simp only [hqs] at hq) <;> (first | omega | conv=>whnf)))))
   exact ⟨i + 1,by omega,by omega,by rw [hs];rfl⟩
  ·rw [if_neg ha] at hs
   (repeat (any_goals (first | refine st ?_ | (refine go2 fun xe hxe=>?_;conv=>whnf) | ((with_reducible refine cnd_i (fun hq=>?_) fun hq=>?_) <;> (try simp only [hqs] at hq) <;> (first | omega | conv=>whnf)))))
   exact ⟨i + 1,by omega,by omega,by rw [hs];rfl⟩
 ·(repeat (any_goals (first | refine st ?_ | (refine go2 fun xe hxe=>?_;conv=>whnf) | ((with_reducible refine cnd_i (fun hq=>?_) fun hq=>?_) <;> (try simp only [hqs] at hq) <;> (first | omega | conv=>whnf)))))
  rw [List.take_of_length_le (by omega)]
  exact ⟨rfl,rfl⟩
theorem sins_c (l:List Int) (n:Int) (hl:l.length ≤ 1000):ConV Tryz.prog 130 [.lst (.int .i64) l,.int .i64 n] [] (.lst (.int .i64) (insM l n)) []:=by
 refine con_eq Θ_ok Tryz.func130 rfl rfl true 0 4 rfl rfl rfl rfl fun K hK hb1 hb2=>?_;simp only [argsV,enc,Nat.reduceAdd]
 clear hb1 hb2
 (repeat (any_goals (first | refine st ?_ | (refine go2 fun xe hxe=>?_;conv=>whnf) | ((with_reducible refine cnd_i (fun hq=>?_) fun hq=>?_) <;> (try simp only [hqs] at hq) <;> (first | omega | conv=>whnf)))))
 refine at_loop hK [] [0,1,5] (fun k:Nat=>⟨[(0,.lst (.int .i64) l),(1,.int .i64 n),(5,.int .i64 (k:Int))],[],4⟩) (fun k=>k ≤ l.length ∧ ∀ y ∈ l.take k,y < n) (fun k=>l.length - k) 0 ⟨by simp,by simp⟩ rfl ?_
 rintro k ⟨hk,hall⟩
 have hat:=insM_at (l:=l) (n:=n) (k:=k) hall hk
 have e1:cutL l none (some (.int .i64 k)) 0 (k:Int).toNat = l.take k:=by simp [cutL]
 have e2:cutL l (some (.int .i64 k)) none (k:Int).toNat l.length = l.drop k:=by simp [cutL]
 have hl1:(l.take k).length = k:=by rw [List.length_take];omega
 have hl2:(l.drop k).length = l.length - k:=List.length_drop ..
 by_cases hlt:k < l.length
 ·have hxe:l[k]? = some l[k]:=List.getElem?_eq_getElem hlt
  have hsn:l.take (k + 1) = l.take k ++ [l[k]]:=List.take_succ_eq_append_getElem hlt
  generalize l[k] = x at *
  by_cases hx:x < n
  ·(repeat (any_goals (first | refine st ?_ | (refine go2 fun xe hxe=>?_;conv=>whnf) | ((with_reducible refine cnd_i (fun hq=>?_) fun hq=>?_) <;> (try simp only [hqs] at hq) <;> (first | omega | conv=>whnf)))))
   exact ⟨k + 1,⟨by omega,by rw [hsn];intro y hy;rcases List.mem_append.1 hy with h | h;exact hall y h;rw [List.mem_singleton.1 h];exact hx⟩,by omega,rfl⟩
  ·have hat:=hat fun y hy=>by rw [hxe] at hy;obtain rfl:=Option.some.inj hy;exact hx
   rw [hxe] at hat
   by_cases hxn:x = n
   ·rw [if_pos (by rw [hxn])] at hat
    rw [hat]
    (repeat (any_goals (first | refine st ?_ | (refine go2 fun xe hxe=>?_;conv=>whnf) | ((with_reducible refine cnd_i (fun hq=>?_) fun hq=>?_) <;> (try simp only [hqs] at hq) <;> (first | omega | conv=>whnf)))))
    exact ⟨rfl,rfl⟩
   ·rw [if_neg (by simpa using hxn)] at hat
    rw [hat]
    (repeat (any_goals (first | refine st ?_ | (refine go2 fun xe hxe=>?_;conv=>whnf) | ((with_reducible refine cnd_i (fun hq=>?_) fun hq=>?_) <;> (try simp only [hqs] at hq) <;> (first | omega | conv=>whnf)))))
    rw [e1]
    refine need_i ?_ ?_
    ·refine fits_ap (xs:=([]:List Int)) (ys:=l.take k) (by simp) (by omega) ?_;decide
    (conv=>whnf)
    (repeat (any_goals (first | refine st ?_ | (refine go2 fun xe hxe=>?_;conv=>whnf) | ((with_reducible refine cnd_i (fun hq=>?_) fun hq=>?_) <;> (try simp only [hqs] at hq) <;> (first | omega | conv=>whnf)))))
    rw [e2]
    refine need_i ?_ ?_
    ·refine fits_ap (xs:=[] ++ l.take k ++ [n]) (ys:=l.drop k) (by rw [List.nil_append,List.length_append,List.length_singleton];omega) (by omega) ?_;decide
    (conv=>whnf)
    (repeat (any_goals (first | refine st ?_ | (refine go2 fun xe hxe=>?_;conv=>whnf) | ((with_reducible refine cnd_i (fun hq=>?_) fun hq=>?_) <;> (try simp only [hqs] at hq) <;> (first | omega | conv=>whnf)))))
    exact ⟨rfl,rfl⟩
 ·obtain rfl:k = l.length:=by omega
  have hat:=hat fun y hy=>by rw [List.getElem?_eq_none (Nat.le_refl _)] at hy;cases hy
  rw [List.getElem?_eq_none (Nat.le_refl _),if_neg (by simp)] at hat
  rw [hat]
  (repeat (any_goals (first | refine st ?_ | (refine go2 fun xe hxe=>?_;conv=>whnf) | ((with_reducible refine cnd_i (fun hq=>?_) fun hq=>?_) <;> (try simp only [hqs] at hq) <;> (first | omega | conv=>whnf)))))
  rw [e1]
  refine need_i ?_ ?_
  ·refine fits_ap (xs:=([]:List Int)) (ys:=l.take l.length) (by simp) (by omega) ?_;decide
  (conv=>whnf)
  (repeat (any_goals (first | refine st ?_ | (refine go2 fun xe hxe=>?_;conv=>whnf) | ((with_reducible refine cnd_i (fun hq=>?_) fun hq=>?_) <;> (try simp only [hqs] at hq) <;> (first | omega | conv=>whnf)))))
  rw [e2]
  refine need_i ?_ ?_
  ·refine fits_ap (xs:=[] ++ l.take l.length ++ [n]) (ys:=l.drop l.length) (by rw [List.nil_append,List.length_append,List.length_singleton];omega) (by omega) ?_;decide
  (conv=>whnf)
  (repeat (any_goals (first | refine st ?_ | (refine go2 fun xe hxe=>?_;conv=>whnf) | ((with_reducible refine cnd_i (fun hq=>?_) fun hq=>?_) <;> (try simp only [hqs] at hq) <;> (first | omega | conv=>whnf)))))
  exact ⟨rfl,rfl⟩
theorem sone_c (v:Vtx) (hl:v.parents.length ≤ 1000000):ConV Tryz.prog 69 [vtxA v] [] (vtxA v) []:=by
 refine con_eq Θ_ok Tryz.func69 rfl rfl true 0 4 rfl rfl rfl rfl fun K hK hb1 hb2=>?_;simp only [argsV,enc,Nat.reduceAdd]
 clear hb1 hb2
 (repeat (any_goals (first | refine st ?_ | (refine go2 fun xe hxe=>?_;conv=>whnf) | ((with_reducible refine cnd_i (fun hq=>?_) fun hq=>?_) <;> (try simp only [hqs] at hq) <;> (first | omega | conv=>whnf)))))
 exact ⟨rfl,rfl⟩
theorem scopy_c (g:List Vtx) (hl:g.length ≤ 1000) (hv:∀ v ∈ g,v.parents.length ≤ 1000000):ConV Tryz.prog 68 [.lst .vtx g] [] (.lst .vtx g) []:=by
 refine con_eq Θ_ok Tryz.func68 rfl rfl true 0 4 rfl rfl rfl rfl fun K hK hb1 hb2=>?_;simp only [argsV,enc,Nat.reduceAdd]
 clear hb1 hb2
 (repeat (any_goals (first | refine st ?_ | (refine go2 fun xe hxe=>?_;conv=>whnf) | ((with_reducible refine cnd_i (fun hq=>?_) fun hq=>?_) <;> (try simp only [hqs] at hq) <;> (first | omega | conv=>whnf)))))
 refine at_loop hK [] [0,3,4] (fun i:Nat=>⟨[(0,.lst .vtx g),(3,.ref 4),(4,.int .i64 (i:Int))],[(4,.row 58 .vtx (g.take i))],5⟩) (fun i=>i ≤ g.length) (fun i=>g.length - i) 0 (by simp) rfl ?_
 intro i hi
 by_cases hlt:i < g.length
 ·have hxe:g[i]? = some g[i]:=List.getElem?_eq_getElem hlt
  have hsn:g.take (i + 1) = g.take i ++ [g[i]]:=List.take_succ_eq_append_getElem hlt
  have hvl:=hv _ (List.getElem_mem hlt)
  have hll:(g.take i).length = i:=by rw [List.length_take];omega
  generalize g[i] = v at *
  generalize g.take i = l at *
  (repeat (any_goals (first | refine st ?_ | (refine go2 fun xe hxe=>?_;conv=>whnf) | ((with_reducible refine cnd_i (fun hq=>?_) fun hq=>?_) <;> (try simp only [hqs] at hq) <;> (first | omega | conv=>whnf)) | refine cr (sone_c _ hvl) ?_)))
  exact ⟨i + 1,by omega,by omega,by rw [hsn];rfl⟩
 ·(repeat (any_goals (first | refine st ?_ | (refine go2 fun xe hxe=>?_;conv=>whnf) | ((with_reducible refine cnd_i (fun hq=>?_) fun hq=>?_) <;> (try simp only [hqs] at hq) <;> (first | omega | conv=>whnf)))))
  rw [List.take_of_length_le (by omega)]
  exact ⟨rfl,rfl⟩
theorem fnd_no {g:List Vtx} {r a:Int} (h:hasV g r a = false):fndI g r a < 0:=by
 have:=fnd_lt g r a
 simpa [h] using this
theorem sadd_c (g:List Vtx) (v:Vtx) (hl:g.length ≤ 400) (hv:∀ u ∈ g,u.parents.length ≤ 1000000) (hvp:v.parents.length ≤ 1000000) (hr:-1000000 < v.round ∧ v.round < 1000000) (h1:hasV g v.round v.author = false) (h2:parOK g v = true):ConV Tryz.prog 111 [.lst .vtx g,vtxA v] [] (.tup [.lst .vtx (insV g v),.int .i64 0]) []:=by
 have hF:=find_c g v.round v.author
 have hF2:=fnd_no h1
 have hP:=parents_c g v hr
 rw [h2] at hP
 refine con_eq Θ_ok Tryz.func111 rfl rfl true 0 4 rfl rfl rfl rfl fun K hK hb1 hb2=>?_;simp only [argsV,enc,Nat.reduceAdd]
 clear hb1 hb2
 generalize fndI g v.round v.author = fi at *
 (repeat (any_goals (first | refine st ?_ | (refine go2 fun xe hxe=>?_;conv=>whnf) | ((with_reducible refine cnd_i (fun hq=>?_) fun hq=>?_) <;> (try simp only [hqs] at hq) <;> (first | omega | conv=>whnf)) | refine cr (hF) ?_ | refine cr (hP) ?_)))
 refine at_loop hK [] [0,3,7,8] (fun k:Nat=>⟨[(0,.lst .vtx g),(3,.ptr 4 0),(7,.ref 5),(8,.int .i64 (k:Int))],[(4,.var 58 (vtxA v).cells),(5,.row 58 .vtx (g.take k))],6⟩) (fun k=>k ≤ g.length ∧ ∀ y ∈ g.take k,bef y v = true) (fun k=>g.length - k) 0 ⟨by simp,by simp⟩ rfl ?_
 rintro k ⟨hk,hall⟩
 have hat:=insV_at (g:=g) (v:=v) (k:=k) hall hk
 have hll:(g.take k).length = k:=by rw [List.length_take];omega
 have e2:cutL g (some (.int .i64 k)) none (k:Int).toNat g.length = g.drop k:=by simp [cutL]
 have hdl:(g.drop k).length = g.length - k:=List.length_drop ..
 have hC:=scopy_c (g.drop k) (by omega) fun u hu=>hv u (List.mem_of_mem_drop hu)
 by_cases hlt:k < g.length
 ·have hxe:g[k]? = some g[k]:=List.getElem?_eq_getElem hlt
  have hsn:g.take (k + 1) = g.take k ++ [g[k]]:=List.take_succ_eq_append_getElem hlt
  have hxl:=hv _ (List.getElem_mem hlt)
  generalize g[k] = x at *
  have hB:=before_c x v
  cases hb:bef x v
  ·rw [hb] at hB
   have hat:=hat fun y hy=>by rw [hxe] at hy;obtain rfl:=Option.some.inj hy;exact hb
   rw [hat]
   generalize g.take k = lt at *
   (repeat (any_goals (first | refine st ?_ | (refine go2 fun xe hxe=>?_;conv=>whnf) | ((with_reducible refine cnd_i (fun hq=>?_) fun hq=>?_) <;> (try simp only [hqs] at hq) <;> (first | omega | conv=>whnf)) | refine cr (hB) ?_ | refine cr (sone_c _ hvp) ?_)))
   have e3:cutL g (some (.int .i64 (lt.length:Int))) none (lt.length:Int).toNat g.length = g.drop k:=by rw [hll];exact e2
   rw [e3]
   (repeat (any_goals (first | refine st ?_ | (refine go2 fun xe hxe=>?_;conv=>whnf) | ((with_reducible refine cnd_i (fun hq=>?_) fun hq=>?_) <;> (try simp only [hqs] at hq) <;> (first | omega | conv=>whnf)) | refine cr (hC) ?_)))
   exact ⟨rfl,rfl⟩
  ·rw [hb] at hB
   generalize hlt2:g.take k = lt at *
   (repeat (any_goals (first | refine st ?_ | (refine go2 fun xe hxe=>?_;conv=>whnf) | ((with_reducible refine cnd_i (fun hq=>?_) fun hq=>?_) <;> (try simp only [hqs] at hq) <;> (first | omega | conv=>whnf)) | refine cr (hB) ?_ | refine cr (sone_c _ hxl) ?_)))
   exact ⟨k + 1,⟨by omega,by rw [hsn];exact tk_snoc hall hb⟩,by omega,by rw [hsn];rfl⟩
 ·have hat:=hat fun y hy=>by rw [List.getElem?_eq_none (by omega)] at hy;cases hy
  rw [hat]
  generalize g.take k = lt at *
  (repeat (any_goals (first | refine st ?_ | (refine go2 fun xe hxe=>?_;conv=>whnf) | ((with_reducible refine cnd_i (fun hq=>?_) fun hq=>?_) <;> (try simp only [hqs] at hq) <;> (first | omega | conv=>whnf)) | refine cr (sone_c _ hvp) ?_)))
  have e3:cutL g (some (.int .i64 (lt.length:Int))) none (lt.length:Int).toNat g.length = g.drop k:=by rw [hll];exact e2
  rw [e3]
  (repeat (any_goals (first | refine st ?_ | (refine go2 fun xe hxe=>?_;conv=>whnf) | ((with_reducible refine cnd_i (fun hq=>?_) fun hq=>?_) <;> (try simp only [hqs] at hq) <;> (first | omega | conv=>whnf)) | refine cr (hC) ?_)))
  exact ⟨rfl,rfl⟩
end Go.Proofs.YtncmbiacjeicpaaGreatDoor.Am
namespace Go.Proofs.YtncmbiacjeicpaaGreatDoor.Am
open Go
attribute [local irreducible] Mk Need Ari Get Idx Cnd CallM CallA Opt Unch At ConV
set_option maxRecDepth 10000
theorem sprp_c (w:Wrl) (m d:Int) (h:WOK w):ConV Tryz.prog 24 [wrlA w,.int .i64 m,.int .i64 d] [] (wrlA (sPrp w m d)) []:=by
 have hG:=sgood_c w m
 have hD:=digest_c d
 have hN:=snext_c w m (fun p hp=>(vtxS_ok (h.pv p hp).1).1) (by have:=h.plen;omega)
 have hpl:=h.plen
 have hno:prpB w m d = false → sPrp w m d = w:=fun h=>by simp [sPrp,h]
 refine con_eq Θ_ok Tryz.func24 rfl rfl true 0 4 rfl rfl rfl rfl fun K hK hb1 hb2=>?_;simp only [argsV,enc,Nat.reduceAdd]
 clear hb1 hb2
 cases h1:good w m
 ·rw [h1] at hG
  rw [hno (by simp [prpB,h1])]
  (repeat (any_goals (first | refine st ?_ | (refine go2 fun xe hxe=>?_;conv=>whnf) | ((with_reducible refine cnd_i (fun hq=>?_) fun hq=>?_) <;> (try simp only [hqs] at hq) <;> (first | omega | conv=>whnf)) | refine cr (hG) ?_)))
  exact ⟨rfl,rfl⟩
 rw [h1] at hG
 cases h2:vIn d 0 990
 ·rw [h2] at hD
  rw [hno (by simp [prpB,h2])]
  (repeat (any_goals (first | refine st ?_ | (refine go2 fun xe hxe=>?_;conv=>whnf) | ((with_reducible refine cnd_i (fun hq=>?_) fun hq=>?_) <;> (try simp only [hqs] at hq) <;> (first | omega | conv=>whnf)) | refine cr (hG) ?_ | refine cr (hD) ?_)))
  exact ⟨rfl,rfl⟩
 rw [h2] at hD
 by_cases h3:w.props.length < 220
 rotate_left
 ·rw [hno (by simp [prpB,h3])]
  (repeat (any_goals (first | refine st ?_ | (refine go2 fun xe hxe=>?_;conv=>whnf) | ((with_reducible refine cnd_i (fun hq=>?_) fun hq=>?_) <;> (try simp only [hqs] at hq) <;> (first | omega | conv=>whnf)) | refine cr (hG) ?_ | refine cr (hD) ?_)))
  exact ⟨rfl,rfl⟩
 obtain ⟨hx,hvm,hml⟩:=h.view h1
 have hgo:=graS_ok (h.gra _ hvm)
 have hvl:=h.vl _ hvm
 have hgr:=good_iff.1 h1
 have hvlen:=h.vlen
 have hH:=hgt_c w.com (view w m) hgo (by omega)
 have hhb:=hgtTo_lt w.com (view w m) 31
 have hhb:-1 ≤ hgt w.com (view w m) ∧ hgt w.com (view w m) < 31:=hhb
 have hnb:=nxt_bd (ps:=w.props) (m:=m) fun p hp=>(vtxS_ok (h.pv p hp).1).1
 have hB:prpB w m d = (decide (nxt w.props m ≤ (prpV w m d).round) && vtxS w.com (prpV w m d)):=by simp [prpB,h1,h2,h3]
 by_cases h4:0 < hgt w.com (view w m) + 1
 ·have hA:=auth_c (view w m) (hgt w.com (view w m) + 1 - 1) (by omega)
  have hv:prpV w m d = ⟨hgt w.com (view w m) + 1,m,auth (view w m) (hgt w.com (view w m) + 1 - 1),d⟩:=by
   rw [prpV,if_pos h4,show hgt w.com (view w m) + 1 - 1 = hgt w.com (view w m) by omega]
  have hV:=vtx_c w.com (prpV w m d) h.com
  rw [hv] at hV hB
  have hadd:prpB w m d = true → sPrp w m d = addP w ⟨hgt w.com (view w m) + 1,m,auth (view w m) (hgt w.com (view w m) + 1 - 1),d⟩:=fun hb=>by simp only [sPrp,hb,if_true,hv]
  generalize auth (view w m) (hgt w.com (view w m) + 1 - 1) = au at *
  generalize hgt w.com (view w m) = hh at *
  generalize view w m = g at *
  by_cases h5:nxt w.props m ≤ hh + 1
  rotate_left
  ·rw [hno (by rw [hB];simp [h5])]
   generalize nxt w.props m = nn at *
   (repeat (any_goals (first | refine st ?_ | (refine go2 fun xe hxe=>?_;conv=>whnf) | ((with_reducible refine cnd_i (fun hq=>?_) fun hq=>?_) <;> (try simp only [hqs] at hq) <;> (first | omega | conv=>whnf)) | refine cr (hG) ?_ | refine cr (hD) ?_ | refine cr (hH) ?_ | refine cr (hA) ?_ | refine cr (hN) ?_ | refine cr (hV) ?_)))
   exact ⟨rfl,rfl⟩
  cases h6:vtxS w.com ⟨hh + 1,m,au,d⟩
  ·rw [h6] at hV
   rw [hno (by rw [hB,h6,Bool.and_false])]
   generalize nxt w.props m = nn at *
   (repeat (any_goals (first | refine st ?_ | (refine go2 fun xe hxe=>?_;conv=>whnf) | ((with_reducible refine cnd_i (fun hq=>?_) fun hq=>?_) <;> (try simp only [hqs] at hq) <;> (first | omega | conv=>whnf)) | refine cr (hG) ?_ | refine cr (hD) ?_ | refine cr (hH) ?_ | refine cr (hA) ?_ | refine cr (hN) ?_ | refine cr (hV) ?_)))
   exact ⟨rfl,rfl⟩
  ·rw [h6] at hV
   rw [hadd (by rw [hB,h6];simpa using h5)]
   generalize nxt w.props m = nn at *
   (repeat (any_goals (first | refine st ?_ | (refine go2 fun xe hxe=>?_;conv=>whnf) | ((with_reducible refine cnd_i (fun hq=>?_) fun hq=>?_) <;> (try simp only [hqs] at hq) <;> (first | omega | conv=>whnf)) | refine cr (hG) ?_ | refine cr (hD) ?_ | refine cr (hH) ?_ | refine cr (hA) ?_ | refine cr (hN) ?_ | refine cr (hV) ?_)))
   exact ⟨rfl,rfl⟩
 ·have hv:prpV w m d = ⟨hgt w.com (view w m) + 1,m,[],d⟩:=by rw [prpV,if_neg h4]
  have hV:=vtx_c w.com (prpV w m d) h.com
  rw [hv] at hV hB
  have hadd:prpB w m d = true → sPrp w m d = addP w ⟨hgt w.com (view w m) + 1,m,[],d⟩:=fun hb=>by simp only [sPrp,hb,if_true,hv]
  generalize hgt w.com (view w m) = hh at *
  generalize view w m = g at *
  by_cases h5:nxt w.props m ≤ hh + 1
  rotate_left
  ·rw [hno (by rw [hB];simp [h5])]
   generalize nxt w.props m = nn at *
   (repeat (any_goals (first | refine st ?_ | (refine go2 fun xe hxe=>?_;conv=>whnf) | ((with_reducible refine cnd_i (fun hq=>?_) fun hq=>?_) <;> (try simp only [hqs] at hq) <;> (first | omega | conv=>whnf)) | refine cr (hG) ?_ | refine cr (hD) ?_ | refine cr (hH) ?_ | refine cr (hN) ?_ | refine cr (hV) ?_)))
   exact ⟨rfl,rfl⟩
  cases h6:vtxS w.com ⟨hh + 1,m,[],d⟩
  ·rw [h6] at hV
   rw [hno (by rw [hB,h6,Bool.and_false])]
   generalize nxt w.props m = nn at *
   (repeat (any_goals (first | refine st ?_ | (refine go2 fun xe hxe=>?_;conv=>whnf) | ((with_reducible refine cnd_i (fun hq=>?_) fun hq=>?_) <;> (try simp only [hqs] at hq) <;> (first | omega | conv=>whnf)) | refine cr (hG) ?_ | refine cr (hD) ?_ | refine cr (hH) ?_ | refine cr (hN) ?_ | refine cr (hV) ?_)))
   exact ⟨rfl,rfl⟩
  ·rw [h6] at hV
   rw [hadd (by rw [hB,h6];simpa using h5)]
   generalize nxt w.props m = nn at *
   (repeat (any_goals (first | refine st ?_ | (refine go2 fun xe hxe=>?_;conv=>whnf) | ((with_reducible refine cnd_i (fun hq=>?_) fun hq=>?_) <;> (try simp only [hqs] at hq) <;> (first | omega | conv=>whnf)) | refine cr (hG) ?_ | refine cr (hD) ?_ | refine cr (hH) ?_ | refine cr (hN) ?_ | refine cr (hV) ?_)))
   exact ⟨rfl,rfl⟩
theorem scnt_c (w:Wrl) (i m:Int) (h:WOK w) (hi:inP w i = true):ConV Tryz.prog 81 [wrlA w,.int .i64 i,.int .i64 m] [] (wrlA (sCnt w i m)) []:=by
 obtain ⟨hl,hx,hp⟩:=prop_at hi
 have hpl:=h.plen
 have hir:=vIn_iff.1 hi
 have hI:=sins_c (prop w i).members m (by have:=h.mem _ hp;omega)
 have hs:sCnt w i m = { w with props:=w.props.set i.toNat ⟨(prop w i).v,insM (prop w i).members m⟩ }:=rfl
 rw [hs]
 refine con_eq Θ_ok Tryz.func81 rfl rfl true 0 4 rfl rfl rfl rfl fun K hK hb1 hb2=>?_;simp only [argsV,enc,Nat.reduceAdd]
 clear hb1 hb2
 generalize prop w i = p at *
 generalize insM p.members m = ms at *
 (repeat (any_goals (first | refine st ?_ | (refine go2 fun xe hxe=>?_;conv=>whnf) | ((with_reducible refine cnd_i (fun hq=>?_) fun hq=>?_) <;> (try simp only [hqs] at hq) <;> (first | omega | conv=>whnf)))))
 obtain rfl:xe = p:=Option.some.inj (hxe.symm.trans hx)
 (repeat (any_goals (first | refine st ?_ | (refine go2 fun xe hxe=>?_;conv=>whnf) | ((with_reducible refine cnd_i (fun hq=>?_) fun hq=>?_) <;> (try simp only [hqs] at hq) <;> (first | omega | conv=>whnf)) | refine cr (hI) ?_)))
 exact ⟨rfl,rfl⟩
theorem svot_c (w:Wrl) (m i:Int) (h:WOK w):ConV Tryz.prog 61 [wrlA w,.int .i64 m,.int .i64 i] [] (wrlA (sVot w m i)) []:=by
 have hG:=sgood_c w m
 have hI:=in_c i 0 ((w.props.length:Int) - 1)
 have hpl:=h.plen
 have hno:votB w m i = false → sVot w m i = w:=fun h=>by simp [sVot,h]
 refine con_eq Θ_ok Tryz.func61 rfl rfl true 0 4 rfl rfl rfl rfl fun K hK hb1 hb2=>?_;simp only [argsV,enc,Nat.reduceAdd]
 clear hb1 hb2
 cases h1:good w m
 ·rw [h1] at hG
  rw [hno (by simp [votB,h1])]
  (repeat (any_goals (first | refine st ?_ | (refine go2 fun xe hxe=>?_;conv=>whnf) | ((with_reducible refine cnd_i (fun hq=>?_) fun hq=>?_) <;> (try simp only [hqs] at hq) <;> (first | omega | conv=>whnf)) | refine cr (hG) ?_)))
  exact ⟨rfl,rfl⟩
 rw [h1] at hG
 cases h2:vIn i 0 ((w.props.length:Int) - 1)
 ·rw [h2] at hI
  rw [hno (by simp [votB,inP,h2])]
  (repeat (any_goals (first | refine st ?_ | (refine go2 fun xe hxe=>?_;conv=>whnf) | ((with_reducible refine cnd_i (fun hq=>?_) fun hq=>?_) <;> (try simp only [hqs] at hq) <;> (first | omega | conv=>whnf)) | refine cr (hG) ?_ | refine cr (hI) ?_)))
  exact ⟨rfl,rfl⟩
 rw [h2] at hI
 have h2':inP w i = true:=h2
 obtain ⟨hl,hx,hp⟩:=prop_at h2'
 have hir:=vIn_iff.1 h2
 have hvx:=h.pv _ hp
 have hrd:=vtxS_rd hvx.1
 obtain ⟨hgx,hvm,hml⟩:=h.view h1
 have hgr:=good_iff.1 h1
 have hvlen:=h.vlen
 have hB:votB w m i = (!dbl w m i && parOK (view w m) (prop w i).v):=by simp [votB,h1,h2']
 have hP:=parents_c (view w m) (prop w i).v hrd
 have hC:=scnt_c w i m h h2'
 have hyes:votB w m i = true → sVot w m i = sCnt w i m:=fun h=>by simp [sVot,h]
 have hdbl:dbl w m i = (List.range w.props.length).any fun j=>(j:Int) != i && (slt (w.props.getD j p0).v (prop w i).v && (w.props.getD j p0).members.contains m):=rfl
 generalize prop w i = p at *
 (repeat (any_goals (first | refine st ?_ | (refine go2 fun xe hxe=>?_;conv=>whnf) | ((with_reducible refine cnd_i (fun hq=>?_) fun hq=>?_) <;> (try simp only [hqs] at hq) <;> (first | omega | conv=>whnf)) | refine cr (hG) ?_ | refine cr (hI) ?_)))
 refine at_loop hK [] [1,2,3,6,7,8] (fun j:Nat=>⟨[(1,.int .i64 m),(2,.int .i64 i),(3,.ptr 4 0),(6,.ptr 5 0),(7,.ptr 6 0),(8,.int .i64 (j:Int))],[(4,.var 27 (wrlA w).cells),(5,.var 27 [.nils,.nils,.int .i64 0,.nils,.nils]),(6,.var 58 (vtxA p.v).cells)],7⟩)
  (fun j=>j ≤ w.props.length ∧ ∀ k,k < j → ((k:Int) != i && (slt (w.props.getD k p0).v p.v && (w.props.getD k p0).members.contains m)) = false) (fun j=>w.props.length - j) 0 ⟨by simp,by simp⟩ rfl ?_
 rintro j ⟨hj,hall⟩
 by_cases hlt:j < w.props.length
 ·have hxq:w.props[j]? = some (w.props.getD j p0):=by rw [List.getD_eq_getElem?_getD,List.getElem?_eq_getElem hlt];rfl
  have hqm:w.props.getD j p0 ∈ w.props:=gd_mem hlt
  have hyes2:((j:Int) != i && (slt (w.props.getD j p0).v p.v && (w.props.getD j p0).members.contains m)) = true → dbl w m i = true:=fun hh=>by rw [hdbl];exact List.any_eq_true.2 ⟨j,List.mem_range.2 hlt,hh⟩
  have hno2:((j:Int) != i && (slt (w.props.getD j p0).v p.v && (w.props.getD j p0).members.contains m)) = false → ∀ k,k < j + 1 → ((k:Int) != i && (slt (w.props.getD k p0).v p.v && (w.props.getD k p0).members.contains m)) = false:=fun hh k hk=>by
   rcases Nat.lt_or_ge k j with h5 | h5
   ·exact hall k h5
   ·obtain rfl:k = j:=by omega
    exact hh
  generalize w.props.getD j p0 = q at *
  have hS:=sslt_c q.v p.v
  have hH:=has_c q.members m
  by_cases h3:(j:Int) = i
  ·(repeat (any_goals (first | refine st ?_ | (refine go2 fun xe hxe=>?_;conv=>whnf) | ((with_reducible refine cnd_i (fun hq=>?_) fun hq=>?_) <;> (try simp only [hqs] at hq) <;> (first | omega | conv=>whnf)) | refine cr (hS) ?_ | refine cr (hH) ?_)))
   exact ⟨j + 1,⟨by omega,hno2 (by simp [h3])⟩,by omega,rfl⟩
  cases h4:slt q.v p.v
  ·rw [h4] at hS
   (repeat (any_goals (first | refine st ?_ | (refine go2 fun xe hxe=>?_;conv=>whnf) | ((with_reducible refine cnd_i (fun hq=>?_) fun hq=>?_) <;> (try simp only [hqs] at hq) <;> (first | omega | conv=>whnf)) | refine cr (hS) ?_ | refine cr (hH) ?_)))
   exact ⟨j + 1,⟨by omega,hno2 (by simp [h4])⟩,by omega,rfl⟩
  rw [h4] at hS
  cases h5:q.members.contains m
  ·rw [h5] at hH
   (repeat (any_goals (first | refine st ?_ | (refine go2 fun xe hxe=>?_;conv=>whnf) | ((with_reducible refine cnd_i (fun hq=>?_) fun hq=>?_) <;> (try simp only [hqs] at hq) <;> (first | omega | conv=>whnf)) | refine cr (hS) ?_ | refine cr (hH) ?_)))
   exact ⟨j + 1,⟨by omega,hno2 (by rw [h5,Bool.and_false,Bool.and_false])⟩,by omega,rfl⟩
  ·rw [h5] at hH
   rw [hno (by rw [hB,hyes2 (by rw [h4,h5];simpa using h3)];rfl)]
   (repeat (any_goals (first | refine st ?_ | (refine go2 fun xe hxe=>?_;conv=>whnf) | ((with_reducible refine cnd_i (fun hq=>?_) fun hq=>?_) <;> (try simp only [hqs] at hq) <;> (first | omega | conv=>whnf)) | refine cr (hS) ?_ | refine cr (hH) ?_)))
   exact ⟨rfl,rfl⟩
 ·have hnd:dbl w m i = false:=by
   rw [hdbl,Bool.eq_false_iff]
   intro hh
   obtain ⟨k,hk,hh⟩:=List.any_eq_true.1 hh
   rw [hall k (by have:=List.mem_range.1 hk;omega)] at hh
   cases hh
  rw [hnd] at hB
  generalize view w m = g at *
  cases h6:parOK g p.v
  ·rw [h6] at hP hB
   rw [hno hB]
   (repeat (any_goals (first | refine st ?_ | (refine go2 fun xe hxe=>?_;conv=>whnf) | ((with_reducible refine cnd_i (fun hq=>?_) fun hq=>?_) <;> (try simp only [hqs] at hq) <;> (first | omega | conv=>whnf)) | refine cr (hP) ?_)))
   exact ⟨rfl,rfl⟩
  ·rw [h6] at hP hB
   rw [hyes hB]
   (repeat (any_goals (first | refine st ?_ | (refine go2 fun xe hxe=>?_;conv=>whnf) | ((with_reducible refine cnd_i (fun hq=>?_) fun hq=>?_) <;> (try simp only [hqs] at hq) <;> (first | omega | conv=>whnf)) | refine cr (hP) ?_ | refine cr (hC) ?_)))
   exact ⟨rfl,rfl⟩
theorem sdel_c (w:Wrl) (m i:Int) (h:WOK w):ConV Tryz.prog 60 [wrlA w,.int .i64 m,.int .i64 i] [] (wrlA (sDel w m i)) []:=by
 have hG:=sgood_c w m
 have hI:=in_c i 0 ((w.props.length:Int) - 1)
 have hpl:=h.plen
 have hno:delB w m i = false → sDel w m i = w:=fun h=>by simp [sDel,h]
 refine con_eq Θ_ok Tryz.func60 rfl rfl true 0 4 rfl rfl rfl rfl fun K hK hb1 hb2=>?_;simp only [argsV,enc,Nat.reduceAdd]
 clear hb1 hb2
 cases h1:good w m
 ·rw [h1] at hG
  rw [hno (by simp [delB,h1])]
  (repeat (any_goals (first | refine st ?_ | (refine go2 fun xe hxe=>?_;conv=>whnf) | ((with_reducible refine cnd_i (fun hq=>?_) fun hq=>?_) <;> (try simp only [hqs] at hq) <;> (first | omega | conv=>whnf)) | refine cr (hG) ?_)))
  exact ⟨rfl,rfl⟩
 rw [h1] at hG
 cases h2:vIn i 0 ((w.props.length:Int) - 1)
 ·rw [h2] at hI
  rw [hno (by simp [delB,inP,h2])]
  (repeat (any_goals (first | refine st ?_ | (refine go2 fun xe hxe=>?_;conv=>whnf) | ((with_reducible refine cnd_i (fun hq=>?_) fun hq=>?_) <;> (try simp only [hqs] at hq) <;> (first | omega | conv=>whnf)) | refine cr (hG) ?_ | refine cr (hI) ?_)))
  exact ⟨rfl,rfl⟩
 rw [h2] at hI
 have h2':inP w i = true:=h2
 obtain ⟨hl,hx,hp⟩:=prop_at h2'
 have hir:=vIn_iff.1 h2
 have hvx:=h.pv _ hp
 have hrd:=vtxS_rd hvx.1
 obtain ⟨hgx,hvm,hml⟩:=h.view h1
 have hgr:=good_iff.1 h1
 have hvlen:=h.vlen
 have h7:=h.len
 have hDn:=sdone_c w (prop w i) h.com hvx.2
 have hB:delB w m i = (don w.com (prop w i) && (!hasV (view w m) (prop w i).v.round (prop w i).v.author && parOK (view w m) (prop w i).v)):=by simp [delB,h1,h2']
 have hyes:delB w m i = true → sDel w m i = { w with views:=w.views.set m.toNat (insV (view w m) (prop w i).v) }:=fun h=>by simp [sDel,h]
 have hF:=find_c (view w m) (prop w i).v.round (prop w i).v.author
 have hFl:=fnd_lt (view w m) (prop w i).v.round (prop w i).v.author
 have hP:=parents_c (view w m) (prop w i).v hrd
 have hAd:=sadd_c (view w m) (prop w i).v (by have:=h.vl _ hvm;omega) (fun u hu=>by have:=h.par (h.vv _ hvm u hu);omega) (by have:=h.par hvx.1;omega) hrd
 cases h3:don w.com (prop w i)
 ·rw [h3] at hDn
  rw [hno (by rw [hB,h3];rfl)]
  generalize prop w i = p at *
  (repeat (any_goals (first | refine st ?_ | (refine go2 fun xe hxe=>?_;conv=>whnf) | ((with_reducible refine cnd_i (fun hq=>?_) fun hq=>?_) <;> (try simp only [hqs] at hq) <;> (first | omega | conv=>whnf)) | refine cr (hG) ?_ | refine cr (hI) ?_ | refine cr (hDn) ?_)))
  exact ⟨rfl,rfl⟩
 rw [h3] at hDn
 generalize prop w i = p at *
 generalize view w m = g at *
 cases h4:hasV g p.v.round p.v.author
 rotate_left
 ·have hFl:¬ fndI g p.v.round p.v.author < 0:=by simpa [h4] using hFl
  rw [hno (by rw [hB,h3,h4];rfl)]
  generalize fndI g p.v.round p.v.author = fi at *
  (repeat (any_goals (first | refine st ?_ | (refine go2 fun xe hxe=>?_;conv=>whnf) | ((with_reducible refine cnd_i (fun hq=>?_) fun hq=>?_) <;> (try simp only [hqs] at hq) <;> (first | omega | conv=>whnf)) | refine cr (hG) ?_ | refine cr (hI) ?_ | refine cr (hDn) ?_ | refine cr (hF) ?_)))
  exact ⟨rfl,rfl⟩
 have hFl:fndI g p.v.round p.v.author < 0:=by simpa [h4] using hFl
 generalize fndI g p.v.round p.v.author = fi at *
 cases h5:parOK g p.v
 ·rw [h5] at hP
  rw [hno (by rw [hB,h3,h4,h5];rfl)]
  (repeat (any_goals (first | refine st ?_ | (refine go2 fun xe hxe=>?_;conv=>whnf) | ((with_reducible refine cnd_i (fun hq=>?_) fun hq=>?_) <;> (try simp only [hqs] at hq) <;> (first | omega | conv=>whnf)) | refine cr (hG) ?_ | refine cr (hI) ?_ | refine cr (hDn) ?_ | refine cr (hF) ?_ | refine cr (hP) ?_)))
  exact ⟨rfl,rfl⟩
 rw [h5] at hP
 rw [hyes (by rw [hB,h3,h4,h5];rfl)]
 have hAd:=hAd h4 h5
 generalize insV g p.v = g2 at *
 (repeat (any_goals (first | refine st ?_ | (refine go2 fun xe hxe=>?_;conv=>whnf) | ((with_reducible refine cnd_i (fun hq=>?_) fun hq=>?_) <;> (try simp only [hqs] at hq) <;> (first | omega | conv=>whnf)) | refine cr (hG) ?_ | refine cr (hI) ?_ | refine cr (hDn) ?_ | refine cr (hF) ?_ | refine cr (hP) ?_ | refine cr (hAd) ?_)))
 exact ⟨rfl,rfl⟩
theorem sfrg_c (w:Wrl) (v:Vtx) (h:WOK w) (hvl:v.parents.length ≤ 1000000):ConV Tryz.prog 80 [wrlA w,vtxA v] [] (wrlA (sFrg w v)) []:=by
 have hpl:=h.plen
 have hno:frgB w v = false → sFrg w v = w:=fun h=>by simp [sFrg,h]
 have hyes:frgB w v = true → sFrg w v = addP w v:=fun h=>by simp [sFrg,h]
 have hV:=vtx_c w.com v h.com
 refine con_eq Θ_ok Tryz.func80 rfl rfl true 0 4 rfl rfl rfl rfl fun K hK hb1 hb2=>?_;simp only [argsV,enc,Nat.reduceAdd]
 clear hb1 hb2
 by_cases h1:w.bad < 0
 ·rw [hno (by simp [frgB];intro h9;omega)]
  (repeat (any_goals (first | refine st ?_ | (refine go2 fun xe hxe=>?_;conv=>whnf) | ((with_reducible refine cnd_i (fun hq=>?_) fun hq=>?_) <;> (try simp only [hqs] at hq) <;> (first | omega | conv=>whnf)) | refine cr (hV) ?_)))
  exact ⟨rfl,rfl⟩
 by_cases h2:v.author = w.bad
 rotate_left
 ·rw [hno (by simp [frgB,h2])]
  (repeat (any_goals (first | refine st ?_ | (refine go2 fun xe hxe=>?_;conv=>whnf) | ((with_reducible refine cnd_i (fun hq=>?_) fun hq=>?_) <;> (try simp only [hqs] at hq) <;> (first | omega | conv=>whnf)) | refine cr (hV) ?_)))
  exact ⟨rfl,rfl⟩
 cases h3:vtxS w.com v
 ·rw [h3] at hV
  rw [hno (by simp [frgB,h3])]
  (repeat (any_goals (first | refine st ?_ | (refine go2 fun xe hxe=>?_;conv=>whnf) | ((with_reducible refine cnd_i (fun hq=>?_) fun hq=>?_) <;> (try simp only [hqs] at hq) <;> (first | omega | conv=>whnf)) | refine cr (hV) ?_)))
  exact ⟨rfl,rfl⟩
 rw [h3] at hV
 by_cases h4:w.props.length < 220
 rotate_left
 ·rw [hno (by simp [frgB,h4])]
  (repeat (any_goals (first | refine st ?_ | (refine go2 fun xe hxe=>?_;conv=>whnf) | ((with_reducible refine cnd_i (fun hq=>?_) fun hq=>?_) <;> (try simp only [hqs] at hq) <;> (first | omega | conv=>whnf)) | refine cr (hV) ?_)))
  exact ⟨rfl,rfl⟩
 have hB:frgB w v = !w.props.any fun p=>vEq p.v v:=by
  have:(0:Int) ≤ w.bad:=by omega
  simp [frgB,this,h2,h3,h4]
 (repeat (any_goals (first | refine st ?_ | (refine go2 fun xe hxe=>?_;conv=>whnf) | ((with_reducible refine cnd_i (fun hq=>?_) fun hq=>?_) <;> (try simp only [hqs] at hq) <;> (first | omega | conv=>whnf)) | refine cr (hV) ?_)))
 refine at_loop hK [] [2,3,4,5] (fun j:Nat=>⟨[(2,.ptr 4 0),(3,.ptr 5 0),(4,.ptr 6 0),(5,.int .i64 (j:Int))],[(4,.var 27 (wrlA w).cells),(5,.var 58 (vtxA v).cells),(6,.var 27 [.nils,.nils,.int .i64 0,.nils,.nils])],7⟩)
  (fun j=>j ≤ w.props.length ∧ ∀ p ∈ w.props.take j,vEq p.v v = false) (fun j=>w.props.length - j) 0 ⟨by simp,by simp⟩ rfl ?_
 rintro j ⟨hj,hall⟩
 by_cases hlt:j < w.props.length
 ·have hxq:w.props[j]? = some w.props[j]:=List.getElem?_eq_getElem hlt
  have hsn:w.props.take (j + 1) = w.props.take j ++ [w.props[j]]:=List.take_succ_eq_append_getElem hlt
  have hqm:w.props[j] ∈ w.props:=List.getElem_mem hlt
  generalize w.props[j] = q at *
  have hS:=same_c q.v v
  cases h5:vEq q.v v
  ·rw [h5] at hS
   (repeat (any_goals (first | refine st ?_ | (refine go2 fun xe hxe=>?_;conv=>whnf) | ((with_reducible refine cnd_i (fun hq=>?_) fun hq=>?_) <;> (try simp only [hqs] at hq) <;> (first | omega | conv=>whnf)) | refine cr (hS) ?_)))
   exact ⟨j + 1,⟨by omega,by rw [hsn];exact tk_snoc hall h5⟩,by omega,rfl⟩
  ·rw [h5] at hS
   have:(w.props.any fun p=>vEq p.v v) = true:=List.any_eq_true.2 ⟨q,hqm,h5⟩
   rw [hno (by rw [hB,this];rfl)]
   (repeat (any_goals (first | refine st ?_ | (refine go2 fun xe hxe=>?_;conv=>whnf) | ((with_reducible refine cnd_i (fun hq=>?_) fun hq=>?_) <;> (try simp only [hqs] at hq) <;> (first | omega | conv=>whnf)) | refine cr (hS) ?_)))
   exact ⟨rfl,rfl⟩
 ·rw [List.take_of_length_le (by omega)] at hall
  have:(w.props.any fun p=>vEq p.v v) = false:=by
   rw [Bool.eq_false_iff]
   intro hh
   obtain ⟨p,hp,hh⟩:=List.any_eq_true.1 hh
   rw [hall p hp] at hh
   cases hh
  rw [hyes (by rw [hB,this];rfl)]
  (repeat (any_goals (first | refine st ?_ | (refine go2 fun xe hxe=>?_;conv=>whnf) | ((with_reducible refine cnd_i (fun hq=>?_) fun hq=>?_) <;> (try simp only [hqs] at hq) <;> (first | omega | conv=>whnf)) | refine cr (sone_c _ hvl) ?_)))
  exact ⟨rfl,rfl⟩
abbrev evtA (e:Evt):V:=.agg [.int .i64 e.kind,.int .i64 e.a,.int .i64 e.b,.int .i64 e.v.round,.int .i64 e.v.author,.lst (.int .i64) e.v.parents,.int .i64 e.v.digest]
theorem sdo_c (w:Wrl) (e:Evt) (h:WOK w) (hvl:e.v.parents.length ≤ 1000000):ConV Tryz.prog 34 [wrlA w,evtA e] [] (wrlA (sDo w e)) []:=by
 have hpl:=h.plen
 have h1:=sprp_c w e.a e.b h
 have h2:=svot_c w e.a e.b h
 have h3:=sdel_c w e.a e.b h
 have h4:=sfrg_c w e.v h hvl
 have hI:=in_c e.b 0 ((w.props.length:Int) - 1)
 refine con_eq Θ_ok Tryz.func34 rfl rfl true 0 4 rfl rfl rfl rfl fun K hK hb1 hb2=>?_;simp only [argsV,enc,Nat.reduceAdd]
 clear hb1 hb2
 unfold sDo
 by_cases k1:e.kind = 1
 ·rw [if_pos k1]
  generalize sPrp w e.a e.b = w' at *
  (repeat (any_goals (first | refine st ?_ | (refine go2 fun xe hxe=>?_;conv=>whnf) | ((with_reducible refine cnd_i (fun hq=>?_) fun hq=>?_) <;> (try simp only [hqs] at hq) <;> (first | omega | conv=>whnf)) | refine cr (h1) ?_)))
  exact ⟨rfl,rfl⟩
 by_cases k2:e.kind = 2
 ·rw [if_neg k1,if_pos k2]
  generalize sVot w e.a e.b = w' at *
  (repeat (any_goals (first | refine st ?_ | (refine go2 fun xe hxe=>?_;conv=>whnf) | ((with_reducible refine cnd_i (fun hq=>?_) fun hq=>?_) <;> (try simp only [hqs] at hq) <;> (first | omega | conv=>whnf)) | refine cr (h2) ?_)))
  exact ⟨rfl,rfl⟩
 by_cases k3:e.kind = 3
 ·rw [if_neg k1,if_neg k2,if_pos k3]
  generalize sDel w e.a e.b = w' at *
  (repeat (any_goals (first | refine st ?_ | (refine go2 fun xe hxe=>?_;conv=>whnf) | ((with_reducible refine cnd_i (fun hq=>?_) fun hq=>?_) <;> (try simp only [hqs] at hq) <;> (first | omega | conv=>whnf)) | refine cr (h3) ?_)))
  exact ⟨rfl,rfl⟩
 by_cases k4:e.kind = 4
 ·rw [if_neg k1,if_neg k2,if_neg k3,if_pos k4]
  generalize sFrg w e.v = w' at *
  (repeat (any_goals (first | refine st ?_ | (refine go2 fun xe hxe=>?_;conv=>whnf) | ((with_reducible refine cnd_i (fun hq=>?_) fun hq=>?_) <;> (try simp only [hqs] at hq) <;> (first | omega | conv=>whnf)) | refine cr (h4) ?_)))
  exact ⟨rfl,rfl⟩
 by_cases k5:e.kind = 5
 ·rw [if_neg k1,if_neg k2,if_neg k3,if_neg k4,if_pos k5]
  by_cases h6:0 ≤ w.bad
  ·cases h7:vIn e.b 0 ((w.props.length:Int) - 1)
   ·rw [h7] at hI
    have:sBad w e.b = w:=by simp [sBad,badB,inP,h7]
    rw [this]
    (repeat (any_goals (first | refine st ?_ | (refine go2 fun xe hxe=>?_;conv=>whnf) | ((with_reducible refine cnd_i (fun hq=>?_) fun hq=>?_) <;> (try simp only [hqs] at hq) <;> (first | omega | conv=>whnf)) | refine cr (hI) ?_)))
    exact ⟨rfl,rfl⟩
   ·rw [h7] at hI
    have h7':inP w e.b = true:=h7
    have:sBad w e.b = sCnt w e.b w.bad:=by simp [sBad,badB,h7',h6]
    rw [this]
    have h5:=scnt_c w e.b w.bad h h7'
    generalize sCnt w e.b w.bad = w' at *
    (repeat (any_goals (first | refine st ?_ | (refine go2 fun xe hxe=>?_;conv=>whnf) | ((with_reducible refine cnd_i (fun hq=>?_) fun hq=>?_) <;> (try simp only [hqs] at hq) <;> (first | omega | conv=>whnf)) | refine cr (hI) ?_ | refine cr (h5) ?_)))
    exact ⟨rfl,rfl⟩
  ·have:sBad w e.b = w:=by simp [sBad,badB,h6]
   rw [this]
   (repeat (any_goals (first | refine st ?_ | (refine go2 fun xe hxe=>?_;conv=>whnf) | ((with_reducible refine cnd_i (fun hq=>?_) fun hq=>?_) <;> (try simp only [hqs] at hq) <;> (first | omega | conv=>whnf)) | refine cr (hI) ?_)))
   exact ⟨rfl,rfl⟩
 ·rw [if_neg k1,if_neg k2,if_neg k3,if_neg k4,if_neg k5]
  (repeat (any_goals (first | refine st ?_ | (refine go2 fun xe hxe=>?_;conv=>whnf) | ((with_reducible refine cnd_i (fun hq=>?_) fun hq=>?_) <;> (try simp only [hqs] at hq) <;> (first | omega | conv=>whnf)))))
  exact ⟨rfl,rfl⟩
end Go.Proofs.YtncmbiacjeicpaaGreatDoor.Am
namespace Go.Proofs.YtncmbiacjeicpaaGreatDoor.Am
open Go
attribute [local irreducible] Mk Need Ari Get Idx Cnd CallM CallA Opt Unch At ConV
set_option maxRecDepth 10000
theorem ilock_c (c l:List Int) (b:Int) (tabs:List (List (Option Vtx))) (xss:List (Option (List Int))) (ms:List PplM):ConV Tryz.prog 46 [.ptr 4 0] (rX 0 c l b tabs xss ms) (.tup []) (rX 1 c l b tabs xss ms):=by
 have h:=conV_lock muLib (h:=rX 0 c l b tabs xss ms) (T:=55) (cs:=[.int .u32 0,.lst (.int .i64) c,.lst (.int .i64) l,.int .i64 b,.ref 5,.ref 6]) rfl
 exact h
set_option maxHeartbeats 1000000 in
theorem iappn_c (c l:List Int) (b:Int) (tabs tabs':List (List (Option Vtx))) (xss xss':List (Option (List Int))) (ms ms':List PplM) (e:Evt) (r:Bool) (ht:tabs.length ≤ tabs'.length) (hx:xss.length ≤ xss'.length)
  (h1:e.kind = 1 → ConV Tryz.prog 48 [.ptr 4 0,.int .i64 e.a,.int .i64 e.b] (rX 1 c l b tabs xss ms) (.bool r) (rX 1 c l b tabs' xss' ms'))
  (h2:e.kind = 2 → ConV Tryz.prog 49 [.ptr 4 0,.int .i64 e.a,.int .i64 e.b] (rX 1 c l b tabs xss ms) (.bool r) (rX 1 c l b tabs' xss' ms'))
  (h3:e.kind = 3 → ConV Tryz.prog 50 [.ptr 4 0,.int .i64 e.a,.int .i64 e.b] (rX 1 c l b tabs xss ms) (.bool r) (rX 1 c l b tabs' xss' ms'))
  (h4:e.kind = 4 → ConV Tryz.prog 51 [.ptr 4 0,vtxA e.v] (rX 1 c l b tabs xss ms) (.bool r) (rX 1 c l b tabs' xss' ms'))
  (h5:e.kind = 5 → ConV Tryz.prog 52 [.ptr 4 0,.int .i64 e.b] (rX 1 c l b tabs xss ms) (.bool r) (rX 1 c l b tabs' xss' ms'))
  (h6:¬ (1 ≤ e.kind ∧ e.kind ≤ 5) → r = false ∧ tabs' = tabs ∧ xss' = xss ∧ ms' = ms):ConV Tryz.prog 18 [.ptr 4 0,evtA e] (rX 0 c l b tabs xss ms) (.bool r) (rX 0 c l b tabs' xss' ms'):=by
 refine con_eqL muLib Θw_ok Tryz.func18 rfl rfl false 3 7 rfl rfl rfl rfl (by exact Live.of_look (look_at (i:=0) (x:=.var 55 [.int .i32 0,.int .u32 0,.lst (.int .i64) c,.lst (.int .i64) l,.int .i64 b,.ref 5,.ref 6]) rfl rfl)) fun K hK hK4 hb1 hb2=>?_;simp only [argsV,enc,Nat.reduceAdd]
 clear hb1 hb2
 have hL:=ilock_c c l b tabs xss ms
 have hF0:famLen (VB.fvari 126 217 (.ob .vtx) tabs) ≤ famLen (VB.fvari 126 217 (.ob .vtx) tabs'):=ht
 have hF1:famLen (VB.frowx 3 (.int .i64) xss) ≤ famLen (VB.frowx 3 (.int .i64) xss'):=hx
 refine atD_seq ?_
 (repeat (any_goals (first | refine stw ?_ | (refine go2 fun xe hxe=>?_;conv=>whnf) | ((with_reducible refine cnd_i (fun hq=>?_) fun hq=>?_) <;> (try simp only [hqs] at hq) <;> (first | omega | conv=>whnf)))))
 refine ⟨rfl,atD_seq ?_⟩
 (repeat (any_goals (first | refine stw ?_ | (refine go2 fun xe hxe=>?_;conv=>whnf) | ((with_reducible refine cnd_i (fun hq=>?_) fun hq=>?_) <;> (try simp only [hqs] at hq) <;> (first | omega | conv=>whnf)) | refine cr (hL) ?_)))
 refine ⟨rfl,atD_tail ?_⟩
 refine atD_reg Θw_ok (l:=[_,_,_]) (od:=_) rfl ⟨rfl,rfl,rfl⟩ (by decide) ?_
 (conv=>whnf)
 (repeat (any_goals (first | refine stw ?_ | (refine go2 fun xe hxe=>?_;conv=>whnf) | ((with_reducible refine cnd_i (fun hq=>?_) fun hq=>?_) <;> (try simp only [hqs] at hq) <;> (first | omega | conv=>whnf)))))
 refine ⟨rfl,hK4,rfl,?_⟩
 by_cases c1:e.kind = 1
 ·have h:=h1 c1
  (repeat (any_goals (first | refine stw ?_ | (refine go2 fun xe hxe=>?_;conv=>whnf) | ((with_reducible refine cnd_i (fun hq=>?_) fun hq=>?_) <;> (try simp only [hqs] at hq) <;> (first | omega | conv=>whnf)) | refine cr (h) ?_)))
  exact ⟨rfl,rfl⟩
 ·by_cases c2:e.kind = 2
  ·have h:=h2 c2
   (repeat (any_goals (first | refine stw ?_ | (refine go2 fun xe hxe=>?_;conv=>whnf) | ((with_reducible refine cnd_i (fun hq=>?_) fun hq=>?_) <;> (try simp only [hqs] at hq) <;> (first | omega | conv=>whnf)) | refine cr (h) ?_)))
   exact ⟨rfl,rfl⟩
  ·by_cases c3:e.kind = 3
   ·have h:=h3 c3
    (repeat (any_goals (first | refine stw ?_ | (refine go2 fun xe hxe=>?_;conv=>whnf) | ((with_reducible refine cnd_i (fun hq=>?_) fun hq=>?_) <;> (try simp only [hqs] at hq) <;> (first | omega | conv=>whnf)) | refine cr (h) ?_)))
    exact ⟨rfl,rfl⟩
   ·by_cases c4:e.kind = 4
    ·have h:=h4 c4
     (repeat (any_goals (first | refine stw ?_ | (refine go2 fun xe hxe=>?_;conv=>whnf) | ((with_reducible refine cnd_i (fun hq=>?_) fun hq=>?_) <;> (try simp only [hqs] at hq) <;> (first | omega | conv=>whnf)) | refine cr (h) ?_)))
     exact ⟨rfl,rfl⟩
    ·by_cases c5:e.kind = 5
     ·have h:=h5 c5
      (repeat (any_goals (first | refine stw ?_ | (refine go2 fun xe hxe=>?_;conv=>whnf) | ((with_reducible refine cnd_i (fun hq=>?_) fun hq=>?_) <;> (try simp only [hqs] at hq) <;> (first | omega | conv=>whnf)) | refine cr (h) ?_)))
      exact ⟨rfl,rfl⟩
     ·obtain ⟨rfl,rfl,rfl,rfl⟩:=h6 (by omega)
      (repeat (any_goals (first | refine stw ?_ | (refine go2 fun xe hxe=>?_;conv=>whnf) | ((with_reducible refine cnd_i (fun hq=>?_) fun hq=>?_) <;> (try simp only [hqs] at hq) <;> (first | omega | conv=>whnf)))))
      exact ⟨rfl,rfl⟩
end Go.Proofs.YtncmbiacjeicpaaGreatDoor.Am
namespace Go.Proofs.YtncmbiacjeicpaaGreatDoor.Am
open Go
attribute [local irreducible] Mk Need Ari Get Idx Cnd CallM CallA Opt Unch At ConV
set_option maxRecDepth 10000
theorem icpx_c (ps:List Ppl) (xss:List (Option (List Int))) (ms:List PplM) (hR:Rel ps xss ms) (hv:∀ p ∈ ps,p.v.parents.length ≤ 1000000 ∧ p.members.length ≤ 1000000) (hl:ps.length ≤ 1000000):ConV Tryz.prog 44 [.ref 4] [(1,.frowx 3 (.int .i64) xss),(4,.row 70 (.pplm 1) ms)] (.lst .ppl ps) [(1,.frowx 3 (.int .i64) xss),(4,.row 70 (.pplm 1) ms)]:=by
 refine con_eq Θ_ok Tryz.func44 rfl rfl true 1 5 rfl rfl rfl rfl fun K hK hb1 hb2=>?_;simp only [argsV,enc,Nat.reduceAdd]
 clear hb1 hb2
 have hpl:=hR.len
 (repeat (any_goals (first | refine st ?_ | (refine go2 fun xe hxe=>?_;conv=>whnf) | ((with_reducible refine cnd_i (fun hq=>?_) fun hq=>?_) <;> (try simp only [hqs] at hq) <;> (first | omega | conv=>whnf)))))
 refine at_loop hK [] [3,9,10,11] (fun i:Nat=>⟨[(3,.ref 5),(9,.ref 4),(10,.int .i64 ps.length),(11,.int .i64 (i:Int))],[(1,.frowx 3 (.int .i64) xss),(4,.row 70 (.pplm 1) ms),(5,.row 70 .ppl (ps.take i ++ (List.replicate ps.length p0).drop i))],6⟩) (fun i=>i ≤ ps.length) (fun i=>ps.length - i) 0 (by simp) (by simp only [hpl];simp;rfl) ?_
 intro i hi
 by_cases hlt:i < ps.length
 ·have hxe:ps[i]? = some ps[i]:=List.getElem?_eq_getElem hlt
  have hg:i < (ps.take i ++ (List.replicate ps.length p0).drop i).length:=over_get _ _ (by simp;omega) (by simpa using hlt)
  have hs:(ps.take i ++ (List.replicate ps.length p0).drop i).set i ps[i] = ps.take (i + 1) ++ (List.replicate ps.length p0).drop (i + 1):=by
   rw [set_over _ _ _ (by simp;omega) (by simpa using hlt),List.take_succ_eq_append_getElem hlt]
  obtain ⟨v1,v2⟩:=hv _ (List.getElem_mem hlt)
  obtain ⟨j,hx1,hx2⟩:=hR.get i _ hxe
  generalize hrow:ps.take i ++ (List.replicate ps.length p0).drop i = row at *
  generalize ps[i] = p at *
  (repeat (any_goals (first | refine st ?_ | (refine go2 fun xe hxe=>?_;conv=>whnf) | ((with_reducible refine cnd_i (fun hq=>?_) fun hq=>?_) <;> (try simp only [hqs] at hq) <;> (first | omega | conv=>whnf)) | refine cr (icl_c _ v1) ?_)))
  refine ⟨i + 1,by omega,by omega,?_⟩
  rw [← hs]
  rfl
 ·obtain rfl:i = ps.length:=by omega
  (repeat (any_goals (first | refine st ?_ | (refine go2 fun xe hxe=>?_;conv=>whnf) | ((with_reducible refine cnd_i (fun hq=>?_) fun hq=>?_) <;> (try simp only [hqs] at hq) <;> (first | omega | conv=>whnf)))))
  simp
def wlxS (s:Int) (c l:List Int) (b:Int) (tabs:List (List (Option Vtx))) (xss:List (Option (List Int))) (ms:List PplM) (ps:List Ppl):Nat → VSt
 | 0=>⟨[(2,.ptr 7 0),(3,.ptr 8 0),(30,.ref 5),(31,.int .i64 tabs.length),(32,.int .i64 0)],rX s c l b tabs xss ms ++ [(7,VB.var 27 [.nils,.nils,.int .i64 0,.nils,.nils]),(8,VB.var 27 [.lst (.int .i64) c,.ref 9,.int .i64 b,.nils,.lst .ppl ps]),(9,VB.row 3 (.int .i64) l)],10⟩
 | i + 1=>⟨[(2,.ptr 7 0),(3,.ptr 8 0),(30,.ref 5),(31,.int .i64 tabs.length),(32,.int .i64 ((i + 1:Nat):Int))],rX s c l b tabs xss ms ++ [(7,VB.var 27 [.nils,.nils,.int .i64 0,.nils,.nils]),(8,VB.var 27 [.lst (.int .i64) c,.ref 9,.int .i64 b,.ref 10,.lst .ppl ps]),(9,VB.row 3 (.int .i64) l),(10,VB.row 33 (.lst .vtx) ((tabs.take (i + 1)).map vtsV))],11⟩
set_option maxHeartbeats 1000000 in
theorem iwldx_c (s:Int) (c l:List Int) (b:Int) (tabs:List (List (Option Vtx))) (xss:List (Option (List Int))) (ms:List PplM) (ps:List Ppl) (hR:Rel ps xss ms) (hc:c ≠ []) (hcl:c.length ≤ 1000000) (hll:l.length ≤ 1000000) (ht:∀ t ∈ tabs,t.length = 217 ∧ ∀ v,some v ∈ t → v.parents.length ≤ 1000000) (htl:tabs.length ≤ 7) (htl1:1 ≤ tabs.length)
  (hv:∀ p ∈ ps,p.v.parents.length ≤ 1000000 ∧ p.members.length ≤ 1000000) (hpn:ps.length ≤ 1000000):ConV Tryz.prog 19 [.ptr 4 0] (rX s c l b tabs xss ms) (wrlA ⟨c,l,b,tabs.map vtsV,ps⟩) (rX s c l b tabs xss ms):=by
 have hC:=iclc_c c hc hcl
 have hP:=icpx_c ps xss ms hR hv hpn
 have hrl:((List.range tabs.length).map some).length = tabs.length:=by simp
 refine con_eq Θ_ok Tryz.func19 rfl rfl true 3 7 rfl rfl rfl rfl fun K hK hb1 hb2=>?_;simp only [argsV,enc,Nat.reduceAdd]
 clear hb1 hb2
 (repeat (any_goals (first | refine st ?_ | (refine go2 fun xe hxe=>?_;conv=>whnf) | ((with_reducible refine cnd_i (fun hq=>?_) fun hq=>?_) <;> (try simp only [hqs] at hq) <;> (first | omega | conv=>whnf)) | refine cr (hC) ?_ | refine co (hP) ?_)))
 refine at_loop hK [] [2,3,30,31,32] (wlxS s c l b tabs xss ms ps) (fun i=>i ≤ tabs.length) (fun i=>tabs.length - i) 0 (by simp) (by simp only [hrl];(conv=>whnf);rfl) ?_
 intro i hi
 by_cases hlt:i < tabs.length
 ·have hxe:tabs[i]? = some tabs[i]:=List.getElem?_eq_getElem hlt
  have hsn:tabs.take (i + 1) = tabs.take i ++ [tabs[i]]:=List.take_succ_eq_append_getElem hlt
  obtain ⟨t1,t2⟩:=ht _ (List.getElem_mem hlt)
  have hxv:((List.range tabs.length).map some)[i]? = some (some i):=by rw [List.getElem?_map,List.getElem?_range hlt];rfl
  have hV:=ivts_h tabs i _ hxe t1 t2
  generalize tabs[i] = tab at *
  cases i with
  | zero=>
   have hst:wlxS s c l b tabs xss ms ps (0 + 1) = ⟨[(2,.ptr 7 0),(3,.ptr 8 0),(30,.ref 5),(31,.int .i64 tabs.length),(32,.int .i64 ((0 + 1:Nat):Int))],rX s c l b tabs xss ms ++ [(7,VB.var 27 [.nils,.nils,.int .i64 0,.nils,.nils]),(8,VB.var 27 [.lst (.int .i64) c,.ref 9,.int .i64 b,.ref 10,.lst .ppl ps]),(9,VB.row 3 (.int .i64) l),(10,VB.row 33 (.lst .vtx) [vtsV tab])],11⟩:=by
    rw [wlxS,hsn]
    rfl
   have hs0:wlxS s c l b tabs xss ms ps 0 = ⟨[(2,.ptr 7 0),(3,.ptr 8 0),(30,.ref 5),(31,.int .i64 tabs.length),(32,.int .i64 0)],rX s c l b tabs xss ms ++ [(7,VB.var 27 [.nils,.nils,.int .i64 0,.nils,.nils]),(8,VB.var 27 [.lst (.int .i64) c,.ref 9,.int .i64 b,.nils,.lst .ppl ps]),(9,VB.row 3 (.int .i64) l)],10⟩:=rfl
   have hx0:((List.range tabs.length).map some)[(0:Int).toNat]? = some (some 0):=hxv
   rw [hs0]
   (repeat (any_goals (first | refine st ?_ | (refine go2 fun xe hxe=>?_;conv=>whnf) | ((with_reducible refine cnd_i (fun hq=>?_) fun hq=>?_) <;> (try simp only [hqs] at hq) <;> (first | omega | conv=>whnf)) | refine co (hV) ?_)))
   refine ⟨0 + 1,by omega,by omega,?_⟩
   rw [hst]
   rfl
  | succ i=>
   have hfl:((tabs.take (i + 1)).map vtsV).length = i + 1:=by rw [List.length_map,List.length_take];omega
   have hst:wlxS s c l b tabs xss ms ps (i + 1 + 1) = ⟨[(2,.ptr 7 0),(3,.ptr 8 0),(30,.ref 5),(31,.int .i64 tabs.length),(32,.int .i64 ((i + 1 + 1:Nat):Int))],rX s c l b tabs xss ms ++ [(7,VB.var 27 [.nils,.nils,.int .i64 0,.nils,.nils]),(8,VB.var 27 [.lst (.int .i64) c,.ref 9,.int .i64 b,.ref 10,.lst .ppl ps]),(9,VB.row 3 (.int .i64) l),(10,VB.row 33 (.lst .vtx) ((tabs.take (i + 1)).map vtsV ++ [vtsV tab]))],11⟩:=by
    rw [wlxS,hsn,List.map_append]
    rfl
   have hs0:wlxS s c l b tabs xss ms ps (i + 1) = ⟨[(2,.ptr 7 0),(3,.ptr 8 0),(30,.ref 5),(31,.int .i64 tabs.length),(32,.int .i64 ((i + 1:Nat):Int))],rX s c l b tabs xss ms ++ [(7,VB.var 27 [.nils,.nils,.int .i64 0,.nils,.nils]),(8,VB.var 27 [.lst (.int .i64) c,.ref 9,.int .i64 b,.ref 10,.lst .ppl ps]),(9,VB.row 3 (.int .i64) l),(10,VB.row 33 (.lst .vtx) ((tabs.take (i + 1)).map vtsV))],11⟩:=rfl
   rw [hs0]
   clear hs0
   generalize (tabs.take (i + 1)).map vtsV = ts at *
   (repeat (any_goals (first | refine st ?_ | (refine go2 fun xe hxe=>?_;conv=>whnf) | ((with_reducible refine cnd_i (fun hq=>?_) fun hq=>?_) <;> (try simp only [hqs] at hq) <;> (first | omega | conv=>whnf)) | refine co (hV) ?_)))
   refine ⟨i + 1 + 1,by omega,by omega,?_⟩
   rw [hst]
   rfl
 ·cases i with
  | zero=>omega
  | succ i=>
   have hs0:wlxS s c l b tabs xss ms ps (i + 1) = ⟨[(2,.ptr 7 0),(3,.ptr 8 0),(30,.ref 5),(31,.int .i64 tabs.length),(32,.int .i64 ((i + 1:Nat):Int))],rX s c l b tabs xss ms ++ [(7,VB.var 27 [.nils,.nils,.int .i64 0,.nils,.nils]),(8,VB.var 27 [.lst (.int .i64) c,.ref 9,.int .i64 b,.ref 10,.lst .ppl ps]),(9,VB.row 3 (.int .i64) l),(10,VB.row 33 (.lst .vtx) (tabs.map vtsV))],11⟩:=by
    rw [wlxS,List.take_of_length_le (by omega)]
   rw [hs0]
   clear hs0
   (repeat (any_goals (first | refine st ?_ | (refine go2 fun xe hxe=>?_;conv=>whnf) | ((with_reducible refine cnd_i (fun hq=>?_) fun hq=>?_) <;> (try simp only [hqs] at hq) <;> (first | omega | conv=>whnf)))))
   exact ⟨rfl,rfl⟩
theorem iwldW_c (s:Int) (w:Wrl) (xss:List (Option (List Int))) (ms:List PplM) (hw:WOK w) (hR:Rel w.props xss ms):ConV Tryz.prog 19 [.ptr 4 0] (rW s w xss ms) (wrlA w) (rW s w xss ms):=by
 have h:=(wok_iff.2 hw)
 rw [wrlS_eq,Bool.and_eq_true] at h
 have h:=h.1
 obtain ⟨h1,h2,h3,h4,h5,h6⟩:=pre_ok h
 have h7:=(comV_iff.1 h1).2
 have hll:=(leaS_iff.1 h2).2
 have hps:=pre_pOK h
 have hpl:=pro_len h4
 have hne:w.com ≠ []:=fun h=>by rw [h] at h7;simp at h7
 have hc:=iwldx_c s w.com w.lead w.bad (w.views.map tabV) xss ms w.props hR hne (by omega) (by omega) (fun t ht=>by
  obtain ⟨g,hg,rfl⟩:=List.mem_map.1 ht
  refine ⟨tabV_len g,fun v hv=>?_⟩
  have:=(pre_tab h g hg v (tabV_mem hv)).2
  omega) (by rw [List.length_map];omega) (by rw [List.length_map];omega) (fun p hp=>by have:=(hps p hp).2.2.2;omega) (by omega)
 rw [vts_views h] at hc
 exact hc
theorem rX_rB (c l:List Int) (b:Int) (tabs:List (List (Option Vtx))) (ps:List Ppl):∀ k:Id,look (toH (rX 0 c l b tabs (ps.map fun p=>some p.members) (pms ps))) k = look (toH (rB c l b tabs ps)) k:=by
 rintro ⟨k1,k2⟩
 rw [look_toH,look_toH]
 by_cases e:k1 = 1
 ·subst e
  simp only [look,if_true,Option.bind_some,VB.blks]
  simp [List.getElem?_map,rowX]
  rfl
 ·simp [look,e]
theorem iopx_c (w:Wrl) (hl:∀ g ∈ w.views,g.length ≤ 2000000) (hp:preS w = true):ConV Tryz.prog 15 [wrlA w] [] (.tup [.ptr 4 0,.bool (wrlS w)]) (rW 0 w (w.props.map fun p=>some p.members) (pms w.props)):=by
 have h:=iop_c w hl
 simp only [opR,opO,hp,if_true] at h
 rw [pre_kp hp] at h
 have e:wrlS w = kpar w.bad w.props w.views:=by rw [wrlS_eq,hp,Bool.true_and]
 rw [e]
 unfold ConV at h ⊢
 exact h.out (rX_rB _ _ _ _ _)
def adds (w:Wrl) (e:Evt):Bool:=(decide (e.kind = 1) && prpB w e.a e.b) || (decide (e.kind = 4) && frgB w e.v)
def chg (w:Wrl) (e:Evt):Bool:=if e.kind = 2 then votB w e.a e.b && !(prop w e.b).members.contains e.a else if e.kind = 3 then delB w e.a e.b else if e.kind = 5 then badB w e.b && !(prop w e.b).members.contains w.bad else false
end Go.Proofs.YtncmbiacjeicpaaGreatDoor.Am
namespace Go.Proofs.YtncmbiacjeicpaaGreatDoor.Am
open Go
attribute [local irreducible] Mk Need Ari Get Idx Cnd CallM CallA Opt Unch At ConV
set_option maxRecDepth 10000
set_option maxHeartbeats 1000000 in
theorem iappa_c (c l:List Int) (b:Int) (tabs:List (List (Option Vtx))) (xss xss':List (Option (List Int))) (ms ms':List PplM) (e:Evt) (hx:xss.length ≤ xss'.length) (hk:e.kind = 1 ∨ e.kind = 4)
  (h1:e.kind = 1 → ConV Tryz.prog 48 [.ptr 4 0,.int .i64 e.a,.int .i64 e.b] (rX 1 c l b tabs xss ms) (.bool true) (rXg 1 c l b tabs xss' ms'))
  (h4:e.kind = 4 → ConV Tryz.prog 51 [.ptr 4 0,vtxA e.v] (rX 1 c l b tabs xss ms) (.bool true) (rXg 1 c l b tabs xss' ms')):ConV Tryz.prog 18 [.ptr 4 0,evtA e] (rX 0 c l b tabs xss ms) (.bool true) (rXg 0 c l b tabs xss' ms'):=by
 refine con_eqL muLib Θw_ok Tryz.func18 rfl rfl false 3 7 rfl rfl rfl rfl (by exact Live.of_look (look_at (i:=0) (x:=.var 55 [.int .i32 0,.int .u32 0,.lst (.int .i64) c,.lst (.int .i64) l,.int .i64 b,.ref 5,.ref 6]) rfl rfl)) fun K hK hK4 hb1 hb2=>?_;simp only [argsV,enc,Nat.reduceAdd]
 clear hb1 hb2
 have hL:=ilock_c c l b tabs xss ms
 have hF1:famLen (VB.frowx 3 (.int .i64) xss) ≤ famLen (VB.frowx 3 (.int .i64) xss'):=hx
 refine atD_seq ?_
 (repeat (any_goals (first | refine stw ?_ | (refine go2 fun xe hxe=>?_;conv=>whnf) | ((with_reducible refine cnd_i (fun hq=>?_) fun hq=>?_) <;> (try simp only [hqs] at hq) <;> (first | omega | conv=>whnf)))))
 refine ⟨rfl,atD_seq ?_⟩
 (repeat (any_goals (first | refine stw ?_ | (refine go2 fun xe hxe=>?_;conv=>whnf) | ((with_reducible refine cnd_i (fun hq=>?_) fun hq=>?_) <;> (try simp only [hqs] at hq) <;> (first | omega | conv=>whnf)) | refine cr (hL) ?_)))
 refine ⟨rfl,atD_tail ?_⟩
 refine atD_reg Θw_ok (l:=[_,_,_]) (od:=_) rfl ⟨rfl,rfl,rfl⟩ (by decide) ?_
 (conv=>whnf)
 (repeat (any_goals (first | refine stw ?_ | (refine go2 fun xe hxe=>?_;conv=>whnf) | ((with_reducible refine cnd_i (fun hq=>?_) fun hq=>?_) <;> (try simp only [hqs] at hq) <;> (first | omega | conv=>whnf)))))
 refine ⟨rfl,hK4,rfl,?_⟩
 by_cases c1:e.kind = 1
 ·have h:=h1 c1
  (repeat (any_goals (first | refine stw ?_ | (refine go2 fun xe hxe=>?_;conv=>whnf) | ((with_reducible refine cnd_i (fun hq=>?_) fun hq=>?_) <;> (try simp only [hqs] at hq) <;> (first | omega | conv=>whnf)) | refine cr (h) ?_)))
  exact ⟨rfl,rfl⟩
 ·have c4:e.kind = 4:=hk.resolve_left c1
  have h:=h4 c4
  (repeat (any_goals (first | refine stw ?_ | (refine go2 fun xe hxe=>?_;conv=>whnf) | ((with_reducible refine cnd_i (fun hq=>?_) fun hq=>?_) <;> (try simp only [hqs] at hq) <;> (first | omega | conv=>whnf)) | refine cr (h) ?_)))
  exact ⟨rfl,rfl⟩
theorem iappA_c (w:Wrl) (xss:List (Option (List Int))) (ms:List PplM) (hw:WOK w) (hR:Rel w.props xss ms) (e:Evt) (h:adds w e = true):∃ x:List (Option (List Int)) × List PplM,(Rel (sDo w e).props x.1 x.2 ∧ xss.length ≤ x.1.length) ∧ ConV Tryz.prog 18 [.ptr 4 0,evtA e] (rW 0 w xss ms) (.bool true) (rWg 0 (sDo w e) x.1 x.2):=by
 have key:∃ v,sDo w e = addP w v ∧ (e.kind = 1 → prpB w e.a e.b = true ∧ v = prpV w e.a e.b) ∧ (e.kind = 4 → frgB w e.v = true ∧ v = e.v) ∧ (e.kind = 1 ∨ e.kind = 4):=by
  unfold adds at h
  by_cases c1:e.kind = 1
  ·have hp:prpB w e.a e.b = true:=by simpa [c1] using h
   exact ⟨prpV w e.a e.b,by unfold sDo sPrp;rw [if_pos c1,if_pos hp],fun _=>⟨hp,rfl⟩,fun c=>by omega,.inl c1⟩
  ·have hp:e.kind = 4 ∧ frgB w e.v = true:=by simpa [c1] using h
   exact ⟨e.v,by unfold sDo sFrg;rw [if_neg c1,if_neg (by omega),if_neg (by omega),if_pos hp.1,if_pos hp.2],fun c=>absurd c c1,fun _=>⟨hp.2,rfl⟩,.inr hp.1⟩
 obtain ⟨v,k1,k2,k3,k4⟩:=key
 rw [k1]
 refine ⟨(xss ++ [some []],ms ++ [(⟨v,some xss.length⟩:PplM)]),⟨hR.add v,by simp⟩,?_⟩
 refine iappa_c w.com w.lead w.bad (w.views.map tabV) xss _ ms _ e (by simp) k4 (fun c=>?_) fun c=>?_
 ·obtain ⟨a1,rfl⟩:=k2 c
  have hC:=iprp_c 1 w xss ms hw hR e.a e.b
  rw [a1] at hC
  exact hC
 ·obtain ⟨a1,rfl⟩:=k3 c
  have hC:=ifrg_c 1 w xss ms hw hR e.v
  rw [a1] at hC
  exact hC
theorem views_ins {w:Wrl} (hw:WOK w) {m:Int} (hm:0 ≤ m ∧ m < w.com.length) {v:Vtx} (hv:inTab v) (hn:hasV (view w m) v.round v.author = false):(w.views.set m.toNat (insV (view w m) v)).map tabV = tabD w m v:=by
 have hG:=(view_tab hw hm).2
 rw [List.map_set,tabV_ins (fun u hu=>vtxS_tab hw.com (hG.vtx u hu)) hv hn]
theorem iappN_c (w:Wrl) (xss:List (Option (List Int))) (ms:List PplM) (hw:WOK w) (hR:Rel w.props xss ms) (e:Evt) (h:adds w e = false):∃ x:List (Option (List Int)) × List PplM,(Rel (sDo w e).props x.1 x.2 ∧ xss.length ≤ x.1.length) ∧ ConV Tryz.prog 18 [.ptr 4 0,evtA e] (rW 0 w xss ms) (.bool (chg w e)) (rW 0 (sDo w e) x.1 x.2):=by
 have no:∀ {k:Int},e.kind = k → ∀ {j:Int},k ≠ j → ¬ e.kind = j:=fun h1 _ h2 h3=>h2 (h1.symm.trans h3)
 by_cases c1:e.kind = 1
 ·have hp:prpB w e.a e.b = false:=by simpa [adds,c1] using h
  have hd:sDo w e = w:=by unfold sDo sPrp;rw [if_pos c1,hp];rfl
  have hg:chg w e = false:=by unfold chg;rw [if_neg (by omega),if_neg (by omega),if_neg (by omega)]
  have hC:=iprp_c 1 w xss ms hw hR e.a e.b
  rw [hp] at hC
  rw [hd,hg]
  exact ⟨(xss,ms),⟨hR,Nat.le_refl _⟩,iappn_c w.com w.lead w.bad _ _ xss xss ms ms e false (Nat.le_refl _) (Nat.le_refl _) (fun _=>hC) (fun c=>by omega) (fun c=>by omega) (fun c=>by omega) (fun c=>by omega) (fun c=>by omega)⟩
 by_cases c2:e.kind = 2
 ·have hd:sDo w e = sVot w e.a e.b:=by unfold sDo;rw [if_neg c1,if_pos c2]
  have hg:chg w e = (votB w e.a e.b && !(prop w e.b).members.contains e.a):=by unfold chg;rw [if_pos c2]
  rw [hd,hg]
  cases hi:inP w e.b
  ·have hv:votB w e.a e.b = false:=by unfold votB;rw [hi];simp
   have hs:sVot w e.a e.b = w:=by unfold sVot;rw [hv];rfl
   rw [hs,hv]
   exact ⟨(xss,ms),⟨hR,Nat.le_refl _⟩,iappn_c w.com w.lead w.bad _ _ xss xss ms ms e false (Nat.le_refl _) (Nat.le_refl _) (fun c=>absurd c c1) (fun _=>ivoto_c 1 w xss ms hw hR e.a e.b hi) (fun c=>by omega) (fun c=>by omega) (fun c=>by omega) (fun c=>by omega)⟩
  ·obtain ⟨n,hn,hn1,hn2⟩:=nat_in hi
   obtain ⟨j,hj1,hj2⟩:=hR.get n _ hn2
   have hC:=ivot_c 1 w xss ms hw hR e.a n j (by rw [← hn];exact hi) (by rw [← hn];exact hj1) (by rw [← hn];exact hj2)
   rw [← hn] at hC
   have ha:=mems_asc (one_of hw (List.mem_of_getElem? hn2)).2
   cases hf:(votB w e.a e.b && !(prop w e.b).members.contains e.a)
   ·have hs:sVot w e.a e.b = w:=by
     unfold sVot
     split
     ·rename_i hv
      rw [hv,Bool.true_and] at hf
      exact cnt_same hi ha (by simpa using hf)
     ·rfl
    rw [hf] at hC
    rw [hs]
    exact ⟨(xss,ms),⟨hR,Nat.le_refl _⟩,iappn_c w.com w.lead w.bad _ _ xss xss ms ms e false (Nat.le_refl _) (Nat.le_refl _) (fun c=>absurd c c1) (fun _=>hC) (fun c=>by omega) (fun c=>by omega) (fun c=>by omega) (fun c=>by omega)⟩
   ·have hv:votB w e.a e.b = true:=(Bool.and_eq_true .. ▸ hf:_ ∧ _).1
    have hs:sVot w e.a e.b = sCnt w e.b e.a:=by unfold sVot;rw [hv];rfl
    rw [hf] at hC
    rw [hs]
    have hR2:=hR.cast hj1 (insM (prop w e.b).members e.a)
    refine ⟨(_,_),?_,iappn_c w.com w.lead w.bad _ _ xss _ ms _ e true (Nat.le_refl _) (by simp) (fun c=>absurd c c1) (fun _=>hC) (fun c=>by omega) (fun c=>by omega) (fun c=>by omega) (fun c=>by omega)⟩
    refine ⟨?_,by simp⟩
    have:e.b.toNat = n:=by omega
    show Rel (w.props.set e.b.toNat _) _ _
    rw [this]
    exact hR2
 by_cases c3:e.kind = 3
 ·have hd:sDo w e = sDel w e.a e.b:=by unfold sDo;rw [if_neg c1,if_neg c2,if_pos c3]
  have hg:chg w e = delB w e.a e.b:=by unfold chg;rw [if_neg c2,if_pos c3]
  rw [hd,hg]
  cases hi:inP w e.b
  ·have hv:delB w e.a e.b = false:=by unfold delB;rw [hi];simp
   have hs:sDel w e.a e.b = w:=by unfold sDel;rw [hv];rfl
   rw [hs,hv]
   exact ⟨(xss,ms),⟨hR,Nat.le_refl _⟩,iappn_c w.com w.lead w.bad _ _ xss xss ms ms e false (Nat.le_refl _) (Nat.le_refl _) (fun c=>absurd c c1) (fun c=>absurd c c2) (fun _=>idelo_c 1 w xss ms hw hR e.a e.b hi) (fun c=>by omega) (fun c=>by omega) (fun c=>by omega)⟩
  ·obtain ⟨n,hn,hn1,hn2⟩:=nat_in hi
   obtain ⟨j,hj1,hj2⟩:=hR.get n _ hn2
   have hC:=idel_c 1 w xss ms hw hR e.a n j (by rw [← hn];exact hi) (by rw [← hn];exact hj1) (by rw [← hn];exact hj2)
   rw [← hn] at hC
   cases hf:delB w e.a e.b
   ·have hs:sDel w e.a e.b = w:=by unfold sDel;rw [hf];rfl
    rw [hf] at hC
    rw [hs]
    exact ⟨(xss,ms),⟨hR,Nat.le_refl _⟩,iappn_c w.com w.lead w.bad _ _ xss xss ms ms e false (Nat.le_refl _) (Nat.le_refl _) (fun c=>absurd c c1) (fun c=>absurd c c2) (fun _=>hC) (fun c=>by omega) (fun c=>by omega) (fun c=>by omega)⟩
   ·have hs:sDel w e.a e.b = { w with views:=w.views.set e.a.toNat (insV (view w e.a) (prop w e.b).v) }:=by unfold sDel;rw [hf];rfl
    rw [hf] at hC
    rw [hs]
    unfold delB at hf
    simp only [Bool.and_eq_true,Bool.not_eq_true'] at hf
    have hvw:=views_ins hw (good_iff.1 hf.1).1 (vtxS_tab hw.com (one_of hw (List.mem_of_getElem? hn2)).1) hf.2.2.2.1
    refine ⟨(xss,ms),⟨hR,Nat.le_refl _⟩,?_⟩
    show ConV _ _ _ _ _ (rX 0 w.com w.lead w.bad ((w.views.set e.a.toNat (insV (view w e.a) (prop w e.b).v)).map tabV) xss ms)
    rw [hvw]
    exact iappn_c w.com w.lead w.bad _ (tabD w e.a (prop w e.b).v) xss xss ms ms e true (by simp [tabD]) (Nat.le_refl _) (fun c=>absurd c c1) (fun c=>absurd c c2) (fun _=>hC) (fun c=>by omega) (fun c=>by omega) (fun c=>by omega)
 by_cases c4:e.kind = 4
 ·have hp:frgB w e.v = false:=by simpa [adds,c4] using h
  have hd:sDo w e = w:=by unfold sDo sFrg;rw [if_neg c1,if_neg c2,if_neg c3,if_pos c4,hp];rfl
  have hg:chg w e = false:=by unfold chg;rw [if_neg (by omega),if_neg (by omega),if_neg (by omega)]
  have hC:=ifrg_c 1 w xss ms hw hR e.v
  rw [hp] at hC
  rw [hd,hg]
  exact ⟨(xss,ms),⟨hR,Nat.le_refl _⟩,iappn_c w.com w.lead w.bad _ _ xss xss ms ms e false (Nat.le_refl _) (Nat.le_refl _) (fun c=>absurd c c1) (fun c=>absurd c c2) (fun c=>absurd c c3) (fun _=>hC) (fun c=>by omega) (fun c=>by omega)⟩
 by_cases c5:e.kind = 5
 ·have hd:sDo w e = sBad w e.b:=by unfold sDo;rw [if_neg c1,if_neg c2,if_neg c3,if_neg c4,if_pos c5]
  have hg:chg w e = (badB w e.b && !(prop w e.b).members.contains w.bad):=by unfold chg;rw [if_neg c2,if_neg c3,if_pos c5]
  rw [hd,hg]
  cases hi:inP w e.b
  ·have hv:badB w e.b = false:=by unfold badB;rw [hi];simp
   have hs:sBad w e.b = w:=by unfold sBad;rw [hv];rfl
   rw [hs,hv]
   exact ⟨(xss,ms),⟨hR,Nat.le_refl _⟩,iappn_c w.com w.lead w.bad _ _ xss xss ms ms e false (Nat.le_refl _) (Nat.le_refl _) (fun c=>absurd c c1) (fun c=>absurd c c2) (fun c=>absurd c c3) (fun c=>absurd c c4) (fun _=>ibado_c 1 w xss ms hw hR e.b hi) (fun c=>by omega)⟩
  ·obtain ⟨n,hn,hn1,hn2⟩:=nat_in hi
   obtain ⟨j,hj1,hj2⟩:=hR.get n _ hn2
   have hC:=ibad_c 1 w xss ms hw hR n j (by rw [← hn];exact hi) (by rw [← hn];exact hj1) (by rw [← hn];exact hj2)
   rw [← hn] at hC
   have ha:=mems_asc (one_of hw (List.mem_of_getElem? hn2)).2
   cases hf:(badB w e.b && !(prop w e.b).members.contains w.bad)
   ·have hs:sBad w e.b = w:=by
     unfold sBad
     split
     ·rename_i hv
      rw [hv,Bool.true_and] at hf
      exact cnt_same hi ha (by simpa using hf)
     ·rfl
    rw [hf] at hC
    rw [hs]
    exact ⟨(xss,ms),⟨hR,Nat.le_refl _⟩,iappn_c w.com w.lead w.bad _ _ xss xss ms ms e false (Nat.le_refl _) (Nat.le_refl _) (fun c=>absurd c c1) (fun c=>absurd c c2) (fun c=>absurd c c3) (fun c=>absurd c c4) (fun _=>hC) (fun c=>by omega)⟩
   ·have hv:badB w e.b = true:=(Bool.and_eq_true .. ▸ hf:_ ∧ _).1
    have hs:sBad w e.b = sCnt w e.b w.bad:=by unfold sBad;rw [hv];rfl
    rw [hf] at hC
    rw [hs]
    have hR2:=hR.cast hj1 (insM (prop w e.b).members w.bad)
    refine ⟨(_,_),?_,iappn_c w.com w.lead w.bad _ _ xss _ ms _ e true (Nat.le_refl _) (by simp) (fun c=>absurd c c1) (fun c=>absurd c c2) (fun c=>absurd c c3) (fun c=>absurd c c4) (fun _=>hC) (fun c=>by omega)⟩
    refine ⟨?_,by simp⟩
    have:e.b.toNat = n:=by omega
    show Rel (w.props.set e.b.toNat _) _ _
    rw [this]
    exact hR2
 have hd:sDo w e = w:=by unfold sDo;rw [if_neg c1,if_neg c2,if_neg c3,if_neg c4,if_neg c5]
 have hg:chg w e = false:=by unfold chg;rw [if_neg c2,if_neg c3,if_neg c5]
 rw [hd,hg]
 exact ⟨(xss,ms),⟨hR,Nat.le_refl _⟩,iappn_c w.com w.lead w.bad _ _ xss xss ms ms e false (Nat.le_refl _) (Nat.le_refl _) (fun c=>absurd c c1) (fun c=>absurd c c2) (fun c=>absurd c c3) (fun c=>absurd c c4) (fun c=>absurd c c5) (fun _=>⟨rfl,rfl,rfl,rfl⟩)⟩
theorem sDo_same (w:Wrl) (e:Evt):(sDo w e).com = w.com ∧ (sDo w e).lead = w.lead ∧ (sDo w e).bad = w.bad ∧ (sDo w e).views.length = w.views.length:=by
 simp only [sDo,sPrp,sVot,sDel,sFrg,sBad,sCnt,addP]
 (repeat' split) <;> simp
theorem fl_v {w:Wrl} {e:Evt}:famLen (VB.fvari 126 217 (.ob .vtx) (w.views.map tabV)) ≤ famLen (VB.fvari 126 217 (.ob .vtx) ((sDo w e).views.map tabV)):=by
 show (w.views.map tabV).length ≤ ((sDo w e).views.map tabV).length
 rw [List.length_map,List.length_map,(sDo_same w e).2.2.2]
 exact Nat.le_refl _
end Go.Proofs.YtncmbiacjeicpaaGreatDoor.Am
namespace Go.Proofs.YtncmbiacjeicpaaGreatDoor.Am
open Go
attribute [local irreducible] Mk Need Ari Get Idx Cnd CallM CallA Opt Unch At ConV
set_option maxRecDepth 10000
theorem iop_no (w:Wrl) (hl:∀ g ∈ w.views,g.length ≤ 2000000) (hp:preS w = false):ConV Tryz.prog 15 [wrlA w] [] (.tup [.nilp,.bool false]) []:=by
 have h:=iop_c w hl
 simp only [opR,opO,hp,Bool.false_eq_true,if_false] at h
 exact h
abbrev rP (c l:List Int) (b:Int) (tabs:List (List (Option Vtx))) (xss:List (Option (List Int))) (ms:List PplM):VH:=[(0,.fvari 126 217 (.ob .vtx) tabs),(1,.frowx 3 (.int .i64) xss),(4,.var 27 [.nils,.nils,.int .i64 0,.nils,.nils]),(5,.var 55 [.int .i32 0,.int .u32 0,.lst (.int .i64) c,.lst (.int .i64) l,.int .i64 b,.ref 6,.ref 7]),(6,.row 89 (.hp 0) ((List.range tabs.length).map some)),(7,.row 70 (.pplm 1) ms)]
end Go.Proofs.YtncmbiacjeicpaaGreatDoor.Am
namespace Go.Proofs.YtncmbiacjeicpaaGreatDoor.Am
open Go
attribute [local irreducible] Mk Need Ari Get Idx Cnd CallM CallA Opt Unch At ConV
set_option maxRecDepth 10000
theorem delTo_le {w:Wrl} (h:WOK w) (i:Int):∀ n,tsz w ≤ tsz (delTo w i n)
 | 0=>Nat.le_refl _
 | n + 1=>by
  have h1:=delTo_le h i n
  rcases sDel_cases (delTo_ok h i n) n i with ⟨-,h2⟩ | ⟨-,h2⟩
  ·simp only [delTo,h2];exact h1
  ·simp only [delTo,h2];omega
theorem passTo_le {w:Wrl} (h:WOK w):∀ k,tsz w ≤ tsz (passTo w k)
 | 0=>Nat.le_refl _
 | k + 1=>Nat.le_trans (passTo_le h k) (delTo_le (passTo_ok h k) _ _)
theorem sDel_view {w:Wrl} (h:WOK w) {m i:Int} (hb:delB w m i = true):(sDel w m i).views[m.toNat]? = some (insV (view w m) (prop w i).v):=by
 have hg:good w m = true:=by
  simp only [delB,Bool.and_eq_true] at hb
  exact hb.1
 have hl:=(h.view hg).2.2
 simp [sDel,hb,List.getElem?_set,hl]
abbrev wZv:List V:=[.nils,.nils,.int .i64 0,.nils,.nils]
set_option maxHeartbeats 1000000 in
theorem sspr_c (w:Wrl) (h:WOK w):ConV Tryz.prog 22 [wrlA w] [] (wrlA (sSpr w)) []:=by
 refine con_eq Θ_ok Tryz.func22 rfl rfl true 0 4 rfl rfl rfl rfl fun K hK hb1 hb2=>?_;simp only [argsV,enc,Nat.reduceAdd]
 clear hb1 hb2
 (repeat (any_goals (first | refine st ?_ | (refine go2 fun xe hxe=>?_;conv=>whnf) | ((with_reducible refine cnd_i (fun hq=>?_) fun hq=>?_) <;> (try simp only [hqs] at hq) <;> (first | omega | conv=>whnf)))))
 refine at_loop hK [] [1,2,3] (fun x:Bool × Wrl=>⟨[(1,.ptr 4 0),(2,.ptr 5 0),(3,.bool x.1)],[(4,.var 27 (wrlA x.2).cells),(5,.var 27 wZv)],6⟩) (fun x=>WOK x.2 ∧ (x.1 = true → sSpr x.2 = sSpr w) ∧ (x.1 = false → x.2 = sSpr w)) (fun x=>if x.1 = true then 1520 - tsz x.2 else 0) (true,w) ⟨h,fun _=>rfl,fun h=>by cases h⟩ rfl ?_
 rintro ⟨b,x⟩ ⟨hx,hbt,hbf⟩
 dsimp only at hx hbt hbf ⊢
 cases b
 ·have:=hbf rfl
  rw [← this]
  (repeat (any_goals (first | refine st ?_ | (refine go2 fun xe hxe=>?_;conv=>whnf) | ((with_reducible refine cnd_i (fun hq=>?_) fun hq=>?_) <;> (try simp only [hqs] at hq) <;> (first | omega | conv=>whnf)))))
  exact ⟨rfl,rfl⟩
 have hbt:=hbt rfl
 have hx7:=hx.len
 have hxp:=hx.plen
 (repeat (any_goals (first | refine st ?_ | (refine go2 fun xe hxe=>?_;conv=>whnf) | ((with_reducible refine cnd_i (fun hq=>?_) fun hq=>?_) <;> (try simp only [hqs] at hq) <;> (first | omega | conv=>whnf)))))
 refine at_loop hK [] [1,2,3,4] (fun k:Nat=>⟨[(1,.ptr 4 0),(2,.ptr 5 0),(3,.bool (decide (tsz x < tsz (passTo x k)))),(4,.int .i64 (k:Int))],[(4,.var 27 (wrlA (passTo x k)).cells),(5,.var 27 wZv)],6⟩) (fun k=>k ≤ x.props.length) (fun k=>x.props.length - k) 0 (by omega) (by simp only [passTo,Nat.lt_irrefl,decide_false];rfl) ?_
 intro k hk
 have hpc:=passTo_com x k
 have hpo:=passTo_ok hx k
 have hple:=passTo_le hx k
 have hps:passTo x (k + 1) = delTo (passTo x k) k (passTo x k).com.length:=rfl
 by_cases hlt:k < x.props.length
 ·generalize passTo x k = y at *
  have hyl:y.props.length = x.props.length:=by rw [hpc.2]
  have hyc:y.com.length = x.com.length:=by rw [hpc.1]
  (repeat (any_goals (first | refine st ?_ | (refine go2 fun xe hxe=>?_;conv=>whnf) | ((with_reducible refine cnd_i (fun hq=>?_) fun hq=>?_) <;> (try simp only [hqs] at hq) <;> (first | omega | conv=>whnf)))))
  refine at_loop hK [] [1,2,3,4,5] (fun m:Nat=>⟨[(1,.ptr 4 0),(2,.ptr 5 0),(3,.bool (decide (tsz x < tsz (delTo y k m)))),(4,.int .i64 (k:Int)),(5,.int .i64 (m:Int))],[(4,.var 27 (wrlA (delTo y k m)).cells),(5,.var 27 wZv)],6⟩) (fun m=>m ≤ y.com.length) (fun m=>y.com.length - m) 0 (by omega) rfl ?_
  intro m hm
  have hdc:=delTo_com y k m
  have hdo:=delTo_ok hpo k m
  have hdle:=delTo_le hpo k m
  have hds:delTo y k (m + 1) = sDel (delTo y k m) m k:=rfl
  by_cases hml:m < y.com.length
  ·generalize delTo y k m = z at *
   have hzc:z.com.length = y.com.length:=by rw [hdc.1]
   have hzv:=hdo.vlen
   have hS:=sdel_c z m k hdo
   have hxv:z.views[m]? = some (view z m):=by
    unfold view
    rw [Int.toNat_natCast,List.getD_eq_getElem?_getD,List.getElem?_eq_getElem (show m < z.views.length by omega)]
    rfl
   have hgl:=hdo.vl _ (List.mem_of_getElem? hxv)
   have hso:=sDel_ok hdo m k
   have hsc:=sDel_com z m k
   have hsv:=hso.vlen
   rcases sDel_cases hdo m k with ⟨e1,e2⟩ | ⟨e1,e2⟩
   ·rw [e2] at hS hds
    generalize view z m = g at *
    by_cases hmo:tsz x < tsz z
    ·rw [decide_eq_true hmo]
     (repeat (any_goals (first | refine st ?_ | (refine go2 fun xe hxe=>?_;conv=>whnf) | ((with_reducible refine cnd_i (fun hq=>?_) fun hq=>?_) <;> (try simp only [hqs] at hq) <;> (first | omega | conv=>whnf)) | refine cr (hS) ?_)))
     exact ⟨m + 1,by omega,by omega,by rw [hds,decide_eq_true hmo];rfl⟩
    ·rw [decide_eq_false hmo]
     (repeat (any_goals (first | refine st ?_ | (refine go2 fun xe hxe=>?_;conv=>whnf) | ((with_reducible refine cnd_i (fun hq=>?_) fun hq=>?_) <;> (try simp only [hqs] at hq) <;> (first | omega | conv=>whnf)) | refine cr (hS) ?_)))
     exact ⟨m + 1,by omega,by omega,by rw [hds,decide_eq_false hmo,decide_eq_false (Int.lt_irrefl _)];rfl⟩
   ·have hxv2:=sDel_view hdo e1
    rw [Int.toNat_natCast] at hxv2
    have hil:=insV_len (view z m) (prop z k).v
    have hmo2:tsz x < tsz (sDel z m k):=by omega
    generalize sDel z m k = z2 at *
    generalize insV (view z m) (prop z k).v = g2 at *
    generalize view z m = g at *
    by_cases hmo:tsz x < tsz z
    ·rw [decide_eq_true hmo]
     (repeat (any_goals (first | refine st ?_ | (refine go2 fun xe hxe=>?_;conv=>whnf) | ((with_reducible refine cnd_i (fun hq=>?_) fun hq=>?_) <;> (try simp only [hqs] at hq) <;> (first | omega | conv=>whnf)) | refine cr (hS) ?_)))
     exact ⟨m + 1,by omega,by omega,by rw [hds,decide_eq_true hmo2];rfl⟩
    ·rw [decide_eq_false hmo]
     have hlt2:(g.length:Int) < g2.length:=by omega
     (repeat (any_goals (first | refine st ?_ | (refine go2 fun xe hxe=>?_;conv=>whnf) | ((with_reducible refine cnd_i (fun hq=>?_) fun hq=>?_) <;> (try simp only [hqs] at hq) <;> (first | omega | conv=>whnf)) | refine cr (hS) ?_)))
     exact ⟨m + 1,by omega,by omega,by rw [hds,decide_eq_true hmo2,decide_eq_true hlt2];rfl⟩
  ·obtain rfl:m = y.com.length:=by omega
   rw [← hps]
   have hc2:(passTo x (k + 1)).com.length = y.com.length:=by rw [hps,hdc.1]
   generalize hz:passTo x (k + 1) = z at *
   (repeat (any_goals (first | refine st ?_ | (refine go2 fun xe hxe=>?_;conv=>whnf) | ((with_reducible refine cnd_i (fun hq=>?_) fun hq=>?_) <;> (try simp only [hqs] at hq) <;> (first | omega | conv=>whnf)))))
   exact ⟨k + 1,by omega,by omega,by rw [hz];rfl⟩
 ·obtain rfl:k = x.props.length:=by omega
  have hpa:passTo x x.props.length = pass x:=rfl
  rw [hpa] at hpc hpo hple
  rw [hpa]
  clear hpa hps
  have hyl:(pass x).props.length = x.props.length:=by rw [hpc.2]
  have htl:=tsz_le hpo
  have htx:=tsz_le hx
  have e1:tsz x < tsz (pass x) → sSpr x = sSpr (pass x):=fun hh=>by
   rw [sSpr]
   exact dif_pos ⟨hh,htl⟩
  have e2:¬ tsz x < tsz (pass x) → sSpr x = pass x:=fun hh=>by
   rw [sSpr]
   exact dif_neg fun h9=>hh h9.1
  generalize pass x = z at *
  (repeat (any_goals (first | refine st ?_ | (refine go2 fun xe hxe=>?_;conv=>whnf) | ((with_reducible refine cnd_i (fun hq=>?_) fun hq=>?_) <;> (try simp only [hqs] at hq) <;> (first | omega | conv=>whnf)))))
  refine ⟨(decide (tsz x < tsz z),z),⟨hpo,fun hh=>?_,fun hh=>?_⟩,?_,rfl⟩
  ·rw [← hbt,e1 (of_decide_eq_true hh)]
  ·rw [← hbt,e2 (of_decide_eq_false hh)]
  ·dsimp only
   split
   ·rename_i hh
    have:=of_decide_eq_true hh
    simp only [if_true]
    omega
   ·simp only [if_true]
    omega
theorem svts_c (w:Wrl) (h:WOK w):ConV Tryz.prog 23 [wrlA w] [] (wrlA (sVts w)) []:=by
 have h7:=h.len
 have hpl:=h.plen
 refine con_eq Θ_ok Tryz.func23 rfl rfl true 0 4 rfl rfl rfl rfl fun K hK hb1 hb2=>?_;simp only [argsV,enc,Nat.reduceAdd]
 clear hb1 hb2
 (repeat (any_goals (first | refine st ?_ | (refine go2 fun xe hxe=>?_;conv=>whnf) | ((with_reducible refine cnd_i (fun hq=>?_) fun hq=>?_) <;> (try simp only [hqs] at hq) <;> (first | omega | conv=>whnf)))))
 refine at_loop hK [] [1,2,3] (fun k:Nat=>⟨[(1,.ptr 4 0),(2,.ptr 5 0),(3,.int .i64 (k:Int))],[(4,.var 27 (wrlA (votsTo w k)).cells),(5,.var 27 wZv)],6⟩) (fun k=>k ≤ w.props.length) (fun k=>w.props.length - k) 0 (by omega) rfl ?_
 intro k hk
 have hpc:=votsTo_com w k
 have hpo:=votsTo_ok h k
 have hps:votsTo w (k + 1) = votTo (votsTo w k) k (votsTo w k).com.length:=rfl
 by_cases hlt:k < w.props.length
 ·generalize votsTo w k = y at *
  have hyc:y.com.length = w.com.length:=by rw [hpc.1]
  (repeat (any_goals (first | refine st ?_ | (refine go2 fun xe hxe=>?_;conv=>whnf) | ((with_reducible refine cnd_i (fun hq=>?_) fun hq=>?_) <;> (try simp only [hqs] at hq) <;> (first | omega | conv=>whnf)))))
  refine at_loop hK [] [1,2,3,4] (fun m:Nat=>⟨[(1,.ptr 4 0),(2,.ptr 5 0),(3,.int .i64 (k:Int)),(4,.int .i64 (m:Int))],[(4,.var 27 (wrlA (votTo y k m)).cells),(5,.var 27 wZv)],6⟩) (fun m=>m ≤ y.com.length) (fun m=>y.com.length - m) 0 (by omega) rfl ?_
  intro m hm
  have hdc:=votTo_com y k m
  have hdo:=votTo_ok hpo k m
  have hds:votTo y k (m + 1) = sVot (votTo y k m) m k:=rfl
  by_cases hml:m < y.com.length
  ·generalize votTo y k m = z at *
   have hzc:z.com.length = y.com.length:=by rw [hdc.1]
   have hS:=svot_c z m k hdo
   generalize sVot z m k = z2 at *
   (repeat (any_goals (first | refine st ?_ | (refine go2 fun xe hxe=>?_;conv=>whnf) | ((with_reducible refine cnd_i (fun hq=>?_) fun hq=>?_) <;> (try simp only [hqs] at hq) <;> (first | omega | conv=>whnf)) | refine cr (hS) ?_)))
   exact ⟨m + 1,by omega,by omega,by rw [hds];rfl⟩
  ·obtain rfl:m = y.com.length:=by omega
   rw [← hps]
   have hc2:(votsTo w (k + 1)).com.length = y.com.length:=by rw [hps,hdc.1]
   generalize hz:votsTo w (k + 1) = z at *
   (repeat (any_goals (first | refine st ?_ | (refine go2 fun xe hxe=>?_;conv=>whnf) | ((with_reducible refine cnd_i (fun hq=>?_) fun hq=>?_) <;> (try simp only [hqs] at hq) <;> (first | omega | conv=>whnf)))))
   exact ⟨k + 1,by omega,by omega,by rw [hz];rfl⟩
 ·obtain rfl:k = w.props.length:=by omega
  have hpa:votsTo w w.props.length = sVts w:=rfl
  rw [hpa] at hpc hpo
  rw [hpa]
  clear hpa hps
  have hyl:=hpc.2
  generalize sVts w = z at *
  (repeat (any_goals (first | refine st ?_ | (refine go2 fun xe hxe=>?_;conv=>whnf) | ((with_reducible refine cnd_i (fun hq=>?_) fun hq=>?_) <;> (try simp only [hqs] at hq) <;> (first | omega | conv=>whnf)))))
  exact ⟨rfl,rfl⟩
theorem scpy_c (w:Wrl) (h:WOK w):ConV Tryz.prog 25 [wrlA w] [] (wrlA w) []:=by
 have h7:=h.len
 have hvl:=h.vlen
 have hpl:=h.plen
 have hll:=(leaS_iff.1 h.lead).2
 refine con_eq Θ_ok Tryz.func25 rfl rfl true 0 4 rfl rfl rfl rfl fun K hK hb1 hb2=>?_;simp only [argsV,enc,Nat.reduceAdd]
 clear hb1 hb2
 (repeat (any_goals (first | refine st ?_ | (refine go2 fun xe hxe=>?_;conv=>whnf) | ((with_reducible refine cnd_i (fun hq=>?_) fun hq=>?_) <;> (try simp only [hqs] at hq) <;> (first | omega | conv=>whnf)))))
 refine at_loop hK [] [1,2,3,4] (fun i:Nat=>⟨[(1,.ptr 4 0),(2,.ptr 5 0),(3,.ptr 6 0),(4,.int .i64 (i:Int))],[(4,.var 27 (wrlA w).cells),(5,.var 27 wZv),(6,.var 27 [.ref 7,.ref 8,.int .i64 w.bad,.ref 9,.ref 10]),(7,.row 3 (.int .i64) w.com),(8,.row 3 (.int .i64) w.lead),(9,.row 33 (.lst .vtx) (w.views.take i)),(10,.row 70 .ppl [])],11⟩) (fun i=>i ≤ w.views.length) (fun i=>w.views.length - i) 0 (by omega) rfl ?_
 intro i hi
 by_cases hlt:i < w.views.length
 ·have hxe:w.views[i]? = some w.views[i]:=List.getElem?_eq_getElem hlt
  have hsn:w.views.take (i + 1) = w.views.take i ++ [w.views[i]]:=List.take_succ_eq_append_getElem hlt
  have hgm:=List.getElem_mem hlt
  have hC:=scopy_c w.views[i] (by have:=h.vl _ hgm;omega) fun v hv=>by have:=h.par (h.vv _ hgm v hv);omega
  have hl1:(w.views.take i).length = i:=by rw [List.length_take];omega
  generalize w.views[i] = g at *
  generalize w.views.take i = l at *
  (repeat (any_goals (first | refine st ?_ | (refine go2 fun xe hxe=>?_;conv=>whnf) | ((with_reducible refine cnd_i (fun hq=>?_) fun hq=>?_) <;> (try simp only [hqs] at hq) <;> (first | omega | conv=>whnf)) | refine cr (hC) ?_)))
  exact ⟨i + 1,by omega,by omega,by rw [hsn];rfl⟩
 rw [List.take_of_length_le (by omega)]
 (repeat (any_goals (first | refine st ?_ | (refine go2 fun xe hxe=>?_;conv=>whnf) | ((with_reducible refine cnd_i (fun hq=>?_) fun hq=>?_) <;> (try simp only [hqs] at hq) <;> (first | omega | conv=>whnf)))))
 refine at_loop hK [] [1,2,3,5] (fun i:Nat=>⟨[(1,.ptr 4 0),(2,.ptr 5 0),(3,.ptr 6 0),(5,.int .i64 (i:Int))],[(4,.var 27 (wrlA w).cells),(5,.var 27 wZv),(6,.var 27 [.ref 7,.ref 8,.int .i64 w.bad,.ref 9,.ref 10]),(7,.row 3 (.int .i64) w.com),(8,.row 3 (.int .i64) w.lead),(9,.row 33 (.lst .vtx) w.views),(10,.row 70 .ppl (w.props.take i))],11⟩) (fun i=>i ≤ w.props.length) (fun i=>w.props.length - i) 0 (by omega) rfl ?_
 intro k hk
 by_cases hkl:k < w.props.length
 ·have hxe:w.props[k]? = some w.props[k]:=List.getElem?_eq_getElem hkl
  have hsn:w.props.take (k + 1) = w.props.take k ++ [w.props[k]]:=List.take_succ_eq_append_getElem hkl
  have hpm:=List.getElem_mem hkl
  have hC:=sone_c w.props[k].v (by have:=h.par (h.pv _ hpm).1;omega)
  have hm:=h.mem _ hpm
  have hl1:(w.props.take k).length = k:=by rw [List.length_take];omega
  generalize w.props[k] = p at *
  generalize w.props.take k = l at *
  (repeat (any_goals (first | refine st ?_ | (refine go2 fun xe hxe=>?_;conv=>whnf) | ((with_reducible refine cnd_i (fun hq=>?_) fun hq=>?_) <;> (try simp only [hqs] at hq) <;> (first | omega | conv=>whnf)) | refine cr (hC) ?_)))
  exact ⟨k + 1,by omega,by omega,by rw [hsn];rfl⟩
 ·(repeat (any_goals (first | refine st ?_ | (refine go2 fun xe hxe=>?_;conv=>whnf) | ((with_reducible refine cnd_i (fun hq=>?_) fun hq=>?_) <;> (try simp only [hqs] at hq) <;> (first | omega | conv=>whnf)))))
  rw [List.take_of_length_le (by omega)]
  exact ⟨rfl,rfl⟩
theorem wrl_com {w:Wrl} (h:WOK w):w.com.length ≤ 2000000:=by have:=h.len;omega
theorem scalm_c (w:Wrl) (r:Nat) (h:WOK w) (hr:r ≤ 12):ConV Tryz.prog 6 [wrlA w,.int .i64 (r:Int)] [] (wrlA (calmTo w r)) []:=by
 have hV:=swV_c w (wrl_com h)
 rw [wok_iff.2 h] at hV
 have hI:=in_c (r:Int) 0 12
 rw [vIn_iff.2 (by omega)] at hI
 have hS:=sspr_c w h
 refine con_eq Θ_ok Tryz.func6 rfl rfl true 0 4 rfl rfl rfl rfl fun K hK hb1 hb2=>?_;simp only [argsV,enc,Nat.reduceAdd]
 clear hb1 hb2
 (repeat (any_goals (first | refine st ?_ | (refine go2 fun xe hxe=>?_;conv=>whnf) | ((with_reducible refine cnd_i (fun hq=>?_) fun hq=>?_) <;> (try simp only [hqs] at hq) <;> (first | omega | conv=>whnf)) | refine cr (hV) ?_ | refine cr (hI) ?_ | refine cr (hS) ?_)))
 refine at_loop hK [] [1,2,4,5] (fun k:Nat=>⟨[(1,.int .i64 (r:Int)),(2,.ptr 4 0),(4,.ptr 5 0),(5,.int .i64 (k:Int))],[(4,.var 27 (wrlA (calmTo w k)).cells),(5,.var 27 wZv)],6⟩) (fun k=>k ≤ r) (fun k=>r - k) 0 (by omega) rfl ?_
 intro k hk
 have hco:=calmTo_ok h k
 have hcs:calmTo w (k + 1) = rnd1 (prpTo (rnd1 (calmTo w k)) k (rnd1 (calmTo w k)).com.length):=rfl
 by_cases hlt:k < r
 ·generalize calmTo w k = x at *
  have h1:=svts_c x hco
  have h2:=sspr_c (sVts x) (votsTo_ok hco _)
  have hr1:sSpr (sVts x) = rnd1 x:=rfl
  have hro:=rnd1_ok hco
  rw [hr1] at h2
  generalize sVts x = x1 at *
  generalize rnd1 x = y at *
  (repeat (any_goals (first | refine st ?_ | (refine go2 fun xe hxe=>?_;conv=>whnf) | ((with_reducible refine cnd_i (fun hq=>?_) fun hq=>?_) <;> (try simp only [hqs] at hq) <;> (first | omega | conv=>whnf)) | refine cr (h1) ?_ | refine cr (h2) ?_)))
  refine at_loop hK [] [1,2,4,5,6] (fun m:Nat=>⟨[(1,.int .i64 (r:Int)),(2,.ptr 4 0),(4,.ptr 5 0),(5,.int .i64 (k:Int)),(6,.int .i64 (m:Int))],[(4,.var 27 (wrlA (prpTo y k m)).cells),(5,.var 27 wZv)],6⟩) (fun m=>m ≤ y.com.length) (fun m=>y.com.length - m) 0 (by omega) rfl ?_
  intro m hm
  have hdc:=prpTo_com y k m
  have hdo:=prpTo_ok hro k m
  have hyl:=hro.len
  have hds:prpTo y k (m + 1) = sPrp (prpTo y k m) m (7 * k + m):=rfl
  by_cases hml:m < y.com.length
  ·generalize prpTo y k m = z at *
   have hzc:z.com.length = y.com.length:=by rw [hdc]
   have hP:=sprp_c z m (7 * k + m) hdo
   generalize sPrp z m (7 * k + m) = z2 at *
   (repeat (any_goals (first | refine st ?_ | (refine go2 fun xe hxe=>?_;conv=>whnf) | ((with_reducible refine cnd_i (fun hq=>?_) fun hq=>?_) <;> (try simp only [hqs] at hq) <;> (first | omega | conv=>whnf)) | refine cr (hP) ?_)))
   exact ⟨m + 1,by omega,by omega,by rw [hds];rfl⟩
  ·obtain rfl:m = y.com.length:=by omega
   have hzc:(prpTo y k y.com.length).com.length = y.com.length:=by rw [hdc]
   generalize prpTo y k y.com.length = z at *
   have h3:=svts_c z hdo
   have h4:=sspr_c (sVts z) (votsTo_ok hdo _)
   have hr2:sSpr (sVts z) = rnd1 z:=rfl
   rw [hr2] at h4
   generalize sVts z = z1 at *
   generalize rnd1 z = z2 at *
   (repeat (any_goals (first | refine st ?_ | (refine go2 fun xe hxe=>?_;conv=>whnf) | ((with_reducible refine cnd_i (fun hq=>?_) fun hq=>?_) <;> (try simp only [hqs] at hq) <;> (first | omega | conv=>whnf)) | refine cr (h3) ?_ | refine cr (h4) ?_)))
   exact ⟨k + 1,by omega,by omega,by rw [hcs];rfl⟩
 ·obtain rfl:k = r:=by omega
  have hC:=scpy_c (calmTo w k) hco
  generalize calmTo w k = x at *
  (repeat (any_goals (first | refine st ?_ | (refine go2 fun xe hxe=>?_;conv=>whnf) | ((with_reducible refine cnd_i (fun hq=>?_) fun hq=>?_) <;> (try simp only [hqs] at hq) <;> (first | omega | conv=>whnf)) | refine cr (hC) ?_)))
  exact ⟨rfl,rfl⟩
end Go.Proofs.YtncmbiacjeicpaaGreatDoor.Am
namespace Go.Proofs.YtncmbiacjeicpaaGreatDoor.Am
open Go
attribute [local irreducible] Mk Need Ari Get Idx Cnd CallM CallA Opt Unch At ConV
set_option maxRecDepth 10000
theorem rd0w {c:List Int} (h:∀ x ∈ c,0 ≤ x ∧ x ≤ 255):rdOK (c.take 2000) 0:=⟨by rw [List.length_take];omega,fun x hx=>h x (List.mem_of_mem_take hx),by omega,by omega⟩
end Go.Proofs.YtncmbiacjeicpaaGreatDoor.Am
namespace Go.Proofs.YtncmbiacjeicpaaGreatDoor.Am
open Go
attribute [local irreducible] Mk Need Ari Get Idx Cnd CallM CallA Opt Unch At ConV
set_option maxRecDepth 10000
theorem newS_bad {c l:List Int} (hc:comV c = true) (hl:leaS c l = true):newS c l (-1) = true:=by
 have:badS c (-1) = true:=badS_iff.2 (.inl rfl)
 simp [newS,hc,hl,this]
theorem new_ok {c l:List Int} {b:Int} (h:newS c l b = true):WOK (newW c l b):=wok_iff.1 (wrl_new h)
theorem dbeg_c (b:List Int) (p:Int) (h:rdOK b 0) (hp:0 ≤ p ∧ p ≤ 900000):∃ x:Wrl × Int,(p ≤ x.2 ∧ x.2 ≤ p + 60 ∧ WOK x.1) ∧ ConV Tryz.prog 33 [.ptr 4 0] [(4,rdB b p)] (wrlA x.1) [(4,rdB b x.2)]:=by
 obtain ⟨⟨c,q⟩,⟨h1,h2,h3⟩,hg⟩:=dgood_c b p h (by omega)
 dsimp only at h1 h2 h3 hg
 have h7:=(comV_iff.1 h3).2
 suffices hs:∃ r hout,(∃ x:Wrl × Int,(p ≤ x.2 ∧ x.2 ≤ p + 60 ∧ WOK x.1) ∧ r = wrlA x.1 ∧ hout = [(4,rdB b x.2)]) ∧ ConV Tryz.prog 33 [.ptr 4 0] [(4,rdB b p)] r hout by
  obtain ⟨r,hout,⟨v,hv,rfl,rfl⟩,h⟩:=hs
  exact ⟨v,hv,h⟩
 have h0:WOK (newW c [] (-1)):=new_ok (newS_bad h3 rfl)
 refine con_ex Θ_ok Tryz.func33 rfl rfl true 1 5 rfl rfl rfl rfl (R:=fun r hout=>∃ x:Wrl × Int,(p ≤ x.2 ∧ x.2 ≤ p + 60 ∧ WOK x.1) ∧ r = wrlA x.1 ∧ hout = [(4,rdB b x.2)]) (r0:=wrlA (newW c [] (-1))) (hout0:=[(4,rdB b p)]) (⟨(newW c [] (-1),p),⟨by dsimp only;omega,by dsimp only;omega,h0⟩,rfl,rfl⟩) fun K hK hb1 hb2=>?_;simp only [argsV,enc,Nat.reduceAdd]
 clear hb1 hb2
 (repeat (any_goals (first | refine st ?_ | (refine go2 fun xe hxe=>?_;conv=>whnf) | ((with_reducible refine cnd_i (fun hq=>?_) fun hq=>?_) <;> (try simp only [hqs] at hq) <;> (first | omega | conv=>whnf)) | refine co (hg) ?_)))
 refine at_loop hK [] [0,2,3,4,5] (fun i:Nat × List Int × Int=>⟨[(0,.ptr 4 0),(2,.ptr 5 0),(3,.lst (.int .i64) c),(4,.ref 6),(5,.int .i64 i.1)],[(4,rdB b i.2.2),(5,.var 27 wZv),(6,.row 3 (.int .i64) i.2.1)],7⟩)
  (fun i=>i.1 ≤ 11 ∧ i.2.1.length = i.1 ∧ i.2.2 = q + 2 * i.1 ∧ ∀ x ∈ i.2.1,0 ≤ x ∧ x < c.length) (fun i=>12 - i.1) (0,[],q) (by simp) rfl ?_
 rintro ⟨i,l,q2⟩ ⟨hi1,hi2,hi3,hi4⟩
 dsimp only at hi1 hi2 hi3 hi4 ⊢
 have hle:leaS c l = true:=leaS_iff.2 ⟨hi4,by omega⟩
 (repeat (any_goals (first | refine st ?_ | (refine go2 fun xe hxe=>?_;conv=>whnf) | ((with_reducible refine cnd_i (fun hq=>?_) fun hq=>?_) <;> (try simp only [hqs] at hq) <;> (first | omega | conv=>whnf)) | ((with_reducible refine call_r ?_);(conv=>whnf);(first | refine call_ex (pk_c b _ _ h (by omega) (by omega)) fun xv hxv=>?_);conv=>whnf))))
 ·exact ⟨(i + 1,l ++ [xv],q2 + 1 + 1),⟨by dsimp only;omega,by simp;omega,by dsimp only;omega,fun x hx=>by
   rcases List.mem_append.1 hx with hx | hx
   ·exact hi4 x hx
   ·rw [List.mem_singleton.1 hx];omega⟩,by dsimp only;omega,rfl⟩
 ·have hN:=snew_c c l (xv - 1) (by omega)
  cases hn:newS c l (xv - 1)
  ·rw [hn] at hN
   simp only [Bool.false_eq_true,if_false] at hN
   have hN2:=snew_c c l (-1) (by omega)
   rw [newS_bad h3 hle] at hN2
   simp only [if_true] at hN2
   (repeat (any_goals (first | refine st ?_ | (refine go2 fun xe hxe=>?_;conv=>whnf) | ((with_reducible refine cnd_i (fun hq=>?_) fun hq=>?_) <;> (try simp only [hqs] at hq) <;> (first | omega | conv=>whnf)) | refine cr (hN) ?_ | refine cr (hN2) ?_)))
   exact ⟨(newW c l (-1),q2 + 1 + 1),⟨by dsimp only;omega,by dsimp only;omega,new_ok (newS_bad h3 hle)⟩,rfl,rfl⟩
  ·rw [hn] at hN
   simp only [if_true] at hN
   (repeat (any_goals (first | refine st ?_ | (refine go2 fun xe hxe=>?_;conv=>whnf) | ((with_reducible refine cnd_i (fun hq=>?_) fun hq=>?_) <;> (try simp only [hqs] at hq) <;> (first | omega | conv=>whnf)) | refine cr (hN) ?_)))
   exact ⟨(newW c l (xv - 1),q2 + 1 + 1),⟨by dsimp only;omega,by dsimp only;omega,new_ok hn⟩,rfl,rfl⟩
def e0:Evt:=⟨0,0,0,v0⟩
abbrev evtZ (z:Bool) (e:Evt):V:=if z then .agg [.int .i64 e.kind,.int .i64 e.a,.int .i64 e.b,.int .i64 e.v.round,.int .i64 e.v.author,.nils,.int .i64 e.v.digest] else evtA e
def evtS (b:List Int) (q:Int) (k a c r u d:Int) (l:List Int):Nat → VSt
 | 0=>⟨[(0,.ptr 4 0),(4,.ptr 5 0),(7,.ptr 6 0)],[(4,rdB b q),(5,.var 60 [.int .i64 0,.int .i64 0,.int .i64 0,.int .i64 0,.int .i64 0,.nils,.int .i64 0]),(6,.var 60 [.int .i64 k,.int .i64 a,.int .i64 c,.int .i64 r,.int .i64 u,.nils,.int .i64 d])],7⟩
 | 1=>⟨[(0,.ptr 4 0),(4,.ptr 5 0),(7,.ptr 6 0)],[(4,rdB b q),(5,.var 60 [.int .i64 0,.int .i64 0,.int .i64 0,.int .i64 0,.int .i64 0,.nils,.int .i64 0]),(6,.var 60 [.int .i64 k,.int .i64 a,.int .i64 c,.int .i64 r,.int .i64 u,.lst (.int .i64) l,.int .i64 d])],7⟩
 | _=>⟨[(0,.ptr 4 0),(4,.ptr 5 0),(7,.ptr 6 0)],[(4,rdB b q),(5,.var 60 [.int .i64 0,.int .i64 0,.int .i64 0,.int .i64 0,.int .i64 0,.nils,.int .i64 0]),(6,.var 60 [.int .i64 k,.int .i64 a,.int .i64 c,.int .i64 r,.int .i64 u,.ref 7,.int .i64 d]),(7,.row 3 (.int .i64) l)],8⟩
def evtF (b:List Int) (x:(Int × Int × Int × Int) × Int × Int × Int × List Int × Nat):VSt:=evtS b x.2.1 x.1.1 x.1.2.1 x.1.2.2.1 x.1.2.2.2 x.2.2.1 x.2.2.2.1 x.2.2.2.2.1 x.2.2.2.2.2
theorem evt_k0 {b:List Int} {q k a c r u d:Int} {p:(Int × Int × Int × Int) × Int × Int × Int × List Int × Nat → Prop} (hp:p ((k,a,c,r),q,u,d,[],0)):∃ x,p x ∧ (⟨[(0,.ptr 4 0),(4,.ptr 5 0),(7,.ptr 6 0)],[(4,rdB b q),(5,.var 60 [.int .i64 0,.int .i64 0,.int .i64 0,.int .i64 0,.int .i64 0,.nils,.int .i64 0]),(6,.var 60 [.int .i64 k,.int .i64 a,.int .i64 c,.int .i64 r,.int .i64 u,.nils,.int .i64 d])],7⟩:VSt) = evtF b x:=⟨_,hp,rfl⟩
theorem evt_k1 {b:List Int} {q k a c r u d:Int} {l:List Int} {p:(Int × Int × Int × Int) × Int × Int × Int × List Int × Nat → Prop} (hp:p ((k,a,c,r),q,u,d,l,1)):∃ x,p x ∧ (⟨[(0,.ptr 4 0),(4,.ptr 5 0),(7,.ptr 6 0)],[(4,rdB b q),(5,.var 60 [.int .i64 0,.int .i64 0,.int .i64 0,.int .i64 0,.int .i64 0,.nils,.int .i64 0]),(6,.var 60 [.int .i64 k,.int .i64 a,.int .i64 c,.int .i64 r,.int .i64 u,.lst (.int .i64) l,.int .i64 d])],7⟩:VSt) = evtF b x:=⟨_,hp,rfl⟩
theorem evt_k2 {b:List Int} {q k a c r u d:Int} {l:List Int} {p:(Int × Int × Int × Int) × Int × Int × Int × List Int × Nat → Prop} (hp:p ((k,a,c,r),q,u,d,l,2)):∃ x,p x ∧ (⟨[(0,.ptr 4 0),(4,.ptr 5 0),(7,.ptr 6 0)],[(4,rdB b q),(5,.var 60 [.int .i64 0,.int .i64 0,.int .i64 0,.int .i64 0,.int .i64 0,.nils,.int .i64 0]),(6,.var 60 [.int .i64 k,.int .i64 a,.int .i64 c,.int .i64 r,.int .i64 u,.ref 7,.int .i64 d]),(7,.row 3 (.int .i64) l)],8⟩:VSt) = evtF b x:=⟨_,hp,rfl⟩
set_option maxHeartbeats 4000000 in
theorem devt_c (b:List Int) (p:Int) (w:Wrl) (h:rdOK b 0) (hp:0 ≤ p ∧ p ≤ 900000) (hw:WOK w):∃ x:(Bool × Evt) × Int,(p ≤ x.2 ∧ x.2 ≤ p + 60 ∧ x.1.2.v.parents.length ≤ 30 ∧ (x.1.1 = true → x.1.2.v.parents = [])) ∧ ConV Tryz.prog 35 [.ptr 4 0,wrlA w] [(4,rdB b p)] (evtZ x.1.1 x.1.2) [(4,rdB b x.2)]:=by
 have h7:=hw.len
 have hpl:=hw.plen
 have hbd:=badS_iff.1 hw.bad
 suffices hs:∃ r hout,(∃ x:(Bool × Evt) × Int,(p ≤ x.2 ∧ x.2 ≤ p + 60 ∧ x.1.2.v.parents.length ≤ 30 ∧ (x.1.1 = true → x.1.2.v.parents = [])) ∧ r = evtZ x.1.1 x.1.2 ∧ hout = [(4,rdB b x.2)]) ∧ ConV Tryz.prog 35 [.ptr 4 0,wrlA w] [(4,rdB b p)] r hout by
  obtain ⟨r,hout,⟨v,hv,rfl,rfl⟩,h⟩:=hs
  exact ⟨v,hv,h⟩
 refine con_ex Θ_ok Tryz.func35 rfl rfl true 1 5 rfl rfl rfl rfl (R:=fun r hout=>∃ x:(Bool × Evt) × Int,(p ≤ x.2 ∧ x.2 ≤ p + 60 ∧ x.1.2.v.parents.length ≤ 30 ∧ (x.1.1 = true → x.1.2.v.parents = [])) ∧ r = evtZ x.1.1 x.1.2 ∧ hout = [(4,rdB b x.2)]) (r0:=evtZ true e0) (hout0:=[(4,rdB b p)]) (⟨((true,e0),p),⟨by dsimp only;omega,by dsimp only;omega,by simp [e0,v0],fun _=>rfl⟩,rfl,rfl⟩) fun K hK hb1 hb2=>?_;simp only [argsV,enc,Nat.reduceAdd]
 clear hb1 hb2
 (repeat (any_goals (first | refine stn ?_ | (refine go2 fun xe hxe=>?_;conv=>whnf) | ((with_reducible refine cnd_i (fun hq=>?_) fun hq=>?_) <;> (try simp only [hqs] at hq) <;> (first | omega | conv=>whnf)) | ((with_reducible refine call_r ?_);(conv=>whnf);(first | refine call_ex (pk_c b _ _ h (by omega) (by omega)) fun xv hxv=>?_);conv=>whnf))))
 refine at_then hK [] [0,4,7] (evtF b) (fun x=>(p ≤ x.2.1 ∧ x.2.1 ≤ p + 50 ∧ x.2.2.2.2.1.length ≤ 30)) ?_ ?_
 ·(repeat (any_goals (first | refine st ?_ | (refine go2 fun xe hxe=>?_;conv=>whnf) | ((with_reducible refine cnd_i (fun hq=>?_) fun hq=>?_) <;> (try simp only [hqs] at hq) <;> (first | omega | conv=>whnf)) | ((with_reducible refine call_r ?_);(conv=>whnf);(first | refine call_ex (pk_c b _ _ h (by omega) (by omega)) fun xv hxv=>?_ | refine call_ex (ddig_c b _ h (by omega)) fun xv hxv=>?_ | refine call_ex (dmem_c b _ _ h (by omega) (by omega)) fun xv hxv=>?_);conv=>whnf))))
  all_goals first
   | (refine evt_k0 ⟨?_,?_,?_⟩ <;> first | (dsimp only;omega) | simp;done)
   | (refine evt_k1 ⟨?_,?_,?_⟩ <;> first | (dsimp only;omega) | simp;done)
   | (refine evt_k2 ⟨?_,?_,?_⟩ <;> first | (dsimp only;omega) | simp;done)
 ·rintro ⟨⟨k,a,c,r⟩,q,u,d,l,z⟩ ⟨hq1,hq2,hq3⟩
  dsimp only [evtF] at hq1 hq2 hq3 ⊢
  match z with
  | 0=>
   have hs0:evtS b q k a c r u d l 0 = ⟨[(0,.ptr 4 0),(4,.ptr 5 0),(7,.ptr 6 0)],[(4,rdB b q),(5,.var 60 [.int .i64 0,.int .i64 0,.int .i64 0,.int .i64 0,.int .i64 0,.nils,.int .i64 0]),(6,.var 60 [.int .i64 k,.int .i64 a,.int .i64 c,.int .i64 r,.int .i64 u,.nils,.int .i64 d])],7⟩:=rfl
   rw [hs0]
   (repeat (any_goals (first | refine st ?_ | (refine go2 fun xe hxe=>?_;conv=>whnf) | ((with_reducible refine cnd_i (fun hq=>?_) fun hq=>?_) <;> (try simp only [hqs] at hq) <;> (first | omega | conv=>whnf)) | ((with_reducible refine call_r ?_);(conv=>whnf);(first | refine call_ex (pk_c b _ _ h (by omega) (by omega)) fun xv hxv=>?_);conv=>whnf))))
   all_goals exact ⟨((true,⟨_,_,_,⟨_,_,[],_⟩⟩),_),⟨by dsimp only;omega,by dsimp only;omega,by simp,fun h=>by rfl⟩,rfl,rfl⟩
  | 1=>
   have hs0:evtS b q k a c r u d l 1 = ⟨[(0,.ptr 4 0),(4,.ptr 5 0),(7,.ptr 6 0)],[(4,rdB b q),(5,.var 60 [.int .i64 0,.int .i64 0,.int .i64 0,.int .i64 0,.int .i64 0,.nils,.int .i64 0]),(6,.var 60 [.int .i64 k,.int .i64 a,.int .i64 c,.int .i64 r,.int .i64 u,.lst (.int .i64) l,.int .i64 d])],7⟩:=rfl
   rw [hs0]
   (repeat (any_goals (first | refine st ?_ | (refine go2 fun xe hxe=>?_;conv=>whnf) | ((with_reducible refine cnd_i (fun hq=>?_) fun hq=>?_) <;> (try simp only [hqs] at hq) <;> (first | omega | conv=>whnf)) | ((with_reducible refine call_r ?_);(conv=>whnf);(first | refine call_ex (pk_c b _ _ h (by omega) (by omega)) fun xv hxv=>?_);conv=>whnf))))
   all_goals exact ⟨((false,⟨_,_,_,⟨_,_,l,_⟩⟩),_),⟨by dsimp only;omega,by dsimp only;omega,by dsimp only;omega,fun h=>by cases h⟩,rfl,rfl⟩
  | n + 2=>
   have hs0:evtS b q k a c r u d l (n + 2) = ⟨[(0,.ptr 4 0),(4,.ptr 5 0),(7,.ptr 6 0)],[(4,rdB b q),(5,.var 60 [.int .i64 0,.int .i64 0,.int .i64 0,.int .i64 0,.int .i64 0,.nils,.int .i64 0]),(6,.var 60 [.int .i64 k,.int .i64 a,.int .i64 c,.int .i64 r,.int .i64 u,.ref 7,.int .i64 d]),(7,.row 3 (.int .i64) l)],8⟩:=rfl
   rw [hs0]
   (repeat (any_goals (first | refine st ?_ | (refine go2 fun xe hxe=>?_;conv=>whnf) | ((with_reducible refine cnd_i (fun hq=>?_) fun hq=>?_) <;> (try simp only [hqs] at hq) <;> (first | omega | conv=>whnf)) | ((with_reducible refine call_r ?_);(conv=>whnf);(first | refine call_ex (pk_c b _ _ h (by omega) (by omega)) fun xv hxv=>?_);conv=>whnf))))
   all_goals exact ⟨((false,⟨_,_,_,⟨_,_,l,_⟩⟩),_),⟨by dsimp only;omega,by dsimp only;omega,by dsimp only;omega,fun h=>by cases h⟩,rfl,rfl⟩
end Go.Proofs.YtncmbiacjeicpaaGreatDoor.Am
