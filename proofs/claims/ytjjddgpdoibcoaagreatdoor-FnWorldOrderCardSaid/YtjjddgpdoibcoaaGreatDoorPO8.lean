/- Runs: what the specification's functions of events give. Runs: what the specification's functions of events give, put together. Runs: an event is applied, under the lock. Runs: what has been applied is handed back. Runs: what an event does to a run. Runs: impl's WorldDo and WorldPlay. Runs: quiet rounds, copies, whole events: what the specification gives. What is drawn for new runs; the law FnWorldNew. What is drawn for runs. What is drawn for runs: whole runs, runs that are often invalid. Certified proposals: the law FnWorldCertified. Runs: the reference's WorldDo and WorldPlay; what is drawn -/
import Derived.Test.YtjjddgpdoibcoaaGreatDoorPO7
set_option linter.unusedSimpArgs false
set_option linter.unusedVariables false
namespace Go.Proofs.YtjjddgpdoibcoaaGreatDoor.Am
open Go
attribute [local irreducible] Mk Need Ari Get Idx Cnd CallM CallA Opt Unch At ConV
set_option maxRecDepth 10000
theorem sgood_c (w:Wrl) (m:Int):ConV Tryz.prog 115 [wrlA w,.int .i64 m] [] (.bool (good w m)) []:=by
 have hI:=in_c m 0 ((w.com.length:Int) - 1)
 refine con_eq Θ_ok Tryz.func115 rfl rfl false 0 4 rfl rfl rfl rfl fun K hK hb1 hb2=>?_;simp only [argsV,enc,Nat.reduceAdd]
 simp [toDL,V.toD,bnd,encD,D.cells] at hb1
 cases h:vIn m 0 ((w.com.length:Int) - 1)
 ·rw [h] at hI
  (repeat (any_goals (first | refine st ?_ | (refine go2 fun xe hxe=>?_;conv=>whnf) | ((with_reducible refine cnd_i (fun hq=>?_) fun hq=>?_) <;> (try simp only [hqs] at hq) <;> (first | omega | conv=>whnf)) | refine cr (hI) ?_)))
  exact ⟨by simp [good,hasM,h],rfl⟩
 ·rw [h] at hI
  (repeat (any_goals (first | refine st ?_ | (refine go2 fun xe hxe=>?_;conv=>whnf) | ((with_reducible refine cnd_i (fun hq=>?_) fun hq=>?_) <;> (try simp only [hqs] at hq) <;> (first | omega | conv=>whnf)) | refine cr (hI) ?_)))
  exact ⟨by simp [good,hasM,h],rfl⟩
theorem nxt_snoc {ps:List Ppl} {i:Nat} {p:Ppl} (h:ps[i]? = some p) (m:Int):nxt (ps.take (i + 1)) m = if p.v.author = m then (if nxt (ps.take i) m < p.v.round + 1 then p.v.round + 1 else nxt (ps.take i) m) else nxt (ps.take i) m:=by
 obtain ⟨hl,rfl⟩:=List.getElem?_eq_some_iff.1 h
 rw [List.take_succ_eq_append_getElem hl,nxt_app]
 split
 ·split <;> omega
 ·rfl
theorem snext_c (w:Wrl) (m:Int) (hp:∀ p ∈ w.props,0 ≤ p.v.round ∧ p.v.round ≤ 30) (hl:w.props.length ≤ 1000):ConV Tryz.prog 119 [wrlA w,.int .i64 m] [] (.int .i64 (nxt w.props m)) []:=by
 refine con_eq Θ_ok Tryz.func119 rfl rfl false 0 4 rfl rfl rfl rfl fun K hK hb1 hb2=>?_;simp only [argsV,enc,Nat.reduceAdd]
 clear hb1 hb2
 (repeat (any_goals (first | refine st ?_ | (refine go2 fun xe hxe=>?_;conv=>whnf) | ((with_reducible refine cnd_i (fun hq=>?_) fun hq=>?_) <;> (try simp only [hqs] at hq) <;> (first | omega | conv=>whnf)))))
 refine at_loop hK [] [1,2,5,6] (fun i:Nat=>⟨[(1,.int .i64 m),(2,.ptr 4 0),(5,.int .i64 (nxt (w.props.take i) m)),(6,.int .i64 (i:Int))],[(4,.var 27 (wrlA w).cells)],5⟩) (fun i=>i ≤ w.props.length) (fun i=>w.props.length - i) 0 (by simp) rfl ?_
 intro i hi
 by_cases hlt:i < w.props.length
 ·have hxe:w.props[i]? = some w.props[i]:=List.getElem?_eq_getElem hlt
  have hs:=nxt_snoc hxe m
  have hpb:=hp _ (List.getElem_mem hlt)
  have hnb:=nxt_bd (m:=m) fun p hpp=>hp p (List.mem_of_mem_take (i:=i) hpp)
  generalize w.props[i] = p at *
  by_cases ha:p.v.author = m
  ·rw [if_pos ha] at hs
   (repeat (any_goals (first | refine st ?_ | (refine go2 fun xe hxe=>?_;conv=>whnf) | ((with_reducible refine cnd_i (fun hq=>?_) fun hq=>?_) <;> (try simp only [hqs] at hq) <;> (first | omega | conv=>whnf)))))
   exact ⟨i + 1,by omega,by omega,by rw [hs];rfl⟩
  ·rw [if_neg ha] at hs
   (repeat (any_goals (first | refine st ?_ | (refine go2 fun xe hxe=>?_;conv=>whnf) | ((with_reducible refine cnd_i (fun hq=>?_) fun hq=>?_) <;> (try simp only [hqs] at hq) <;> (first | omega | conv=>whnf)))))
   exact ⟨i + 1,by omega,by omega,by rw [hs];rfl⟩
 ·(repeat (any_goals (first | refine st ?_ | (refine go2 fun xe hxe=>?_;conv=>whnf) | ((with_reducible refine cnd_i (fun hq=>?_) fun hq=>?_) <;> (try simp only [hqs] at hq) <;> (first | omega | conv=>whnf)))))
  rw [List.take_of_length_le (by omega)]
  exact ⟨rfl,rfl⟩
theorem sins_c (l:List Int) (n:Int) (hl:l.length ≤ 1000):ConV Tryz.prog 195 [.lst (.int .i64) l,.int .i64 n] [] (.lst (.int .i64) (insM l n)) []:=by
 refine con_eq Θ_ok Tryz.func195 rfl rfl true 0 4 rfl rfl rfl rfl fun K hK hb1 hb2=>?_;simp only [argsV,enc,Nat.reduceAdd]
 clear hb1 hb2
 (repeat (any_goals (first | refine st ?_ | (refine go2 fun xe hxe=>?_;conv=>whnf) | ((with_reducible refine cnd_i (fun hq=>?_) fun hq=>?_) <;> (try simp only [hqs] at hq) <;> (first | omega | conv=>whnf)))))
 refine at_loop hK [] [0,1,5] (fun k:Nat=>⟨[(0,.lst (.int .i64) l),(1,.int .i64 n),(5,.int .i64 (k:Int))],[],4⟩) (fun k=>k ≤ l.length ∧ ∀ y ∈ l.take k,y < n) (fun k=>l.length - k) 0 ⟨by simp,by simp⟩ rfl ?_
 rintro k ⟨hk,hall⟩
 have hat:=insM_at (l:=l) (n:=n) (k:=k) hall hk
 have e1:cutL l none (some (.int .i64 k)) 0 (k:Int).toNat = l.take k:=by simp [cutL]
 have e2:cutL l (some (.int .i64 k)) none (k:Int).toNat l.length = l.drop k:=by simp [cutL]
 have hl1:(l.take k).length = k:=by rw [List.length_take];omega
 have hl2:(l.drop k).length = l.length - k:=List.length_drop ..
 by_cases hlt:k < l.length
 ·have hxe:l[k]? = some l[k]:=List.getElem?_eq_getElem hlt
  have hsn:l.take (k + 1) = l.take k ++ [l[k]]:=List.take_succ_eq_append_getElem hlt
  generalize l[k] = x at *
  by_cases hx:x < n
  ·(repeat (any_goals (first | refine st ?_ | (refine go2 fun xe hxe=>?_;conv=>whnf) | ((with_reducible refine cnd_i (fun hq=>?_) fun hq=>?_) <;> (try simp only [hqs] at hq) <;> (first | omega | conv=>whnf)))))
   exact ⟨k + 1,⟨by omega,by rw [hsn];intro y hy;rcases List.mem_append.1 hy with h | h;exact hall y h;rw [List.mem_singleton.1 h];exact hx⟩,by omega,rfl⟩
  ·have hat:=hat fun y hy=>by rw [hxe] at hy;obtain rfl:=Option.some.inj hy;exact hx
   rw [hxe] at hat
   by_cases hxn:x = n
   ·rw [if_pos (by rw [hxn])] at hat
    rw [hat]
    (repeat (any_goals (first | refine st ?_ | (refine go2 fun xe hxe=>?_;conv=>whnf) | ((with_reducible refine cnd_i (fun hq=>?_) fun hq=>?_) <;> (try simp only [hqs] at hq) <;> (first | omega | conv=>whnf)))))
    exact ⟨rfl,rfl⟩
   ·rw [if_neg (by simpa using hxn)] at hat
    rw [hat]
    (repeat (any_goals (first | refine st ?_ | (refine go2 fun xe hxe=>?_;conv=>whnf) | ((with_reducible refine cnd_i (fun hq=>?_) fun hq=>?_) <;> (try simp only [hqs] at hq) <;> (first | omega | conv=>whnf)))))
    rw [e1]
    refine need_i ?_ ?_
    ·refine fits_ap (xs:=([]:List Int)) (ys:=l.take k) (by simp) (by omega) ?_;decide
    (conv=>whnf)
    (repeat (any_goals (first | refine st ?_ | (refine go2 fun xe hxe=>?_;conv=>whnf) | ((with_reducible refine cnd_i (fun hq=>?_) fun hq=>?_) <;> (try simp only [hqs] at hq) <;> (first | omega | conv=>whnf)))))
    rw [e2]
    refine need_i ?_ ?_
    ·refine fits_ap (xs:=[] ++ l.take k ++ [n]) (ys:=l.drop k) (by rw [List.nil_append,List.length_append,List.length_singleton];omega) (by omega) ?_;decide
    (conv=>whnf)
    (repeat (any_goals (first | refine st ?_ | (refine go2 fun xe hxe=>?_;conv=>whnf) | ((with_reducible refine cnd_i (fun hq=>?_) fun hq=>?_) <;> (try simp only [hqs] at hq) <;> (first | omega | conv=>whnf)))))
    exact ⟨rfl,rfl⟩
 ·obtain rfl:k = l.length:=by omega
  have hat:=hat fun y hy=>by rw [List.getElem?_eq_none (Nat.le_refl _)] at hy;cases hy
  rw [List.getElem?_eq_none (Nat.le_refl _),if_neg (by simp)] at hat
  rw [hat]
  (repeat (any_goals (first | refine st ?_ | (refine go2 fun xe hxe=>?_;conv=>whnf) | ((with_reducible refine cnd_i (fun hq=>?_) fun hq=>?_) <;> (try simp only [hqs] at hq) <;> (first | omega | conv=>whnf)))))
  rw [e1]
  refine need_i ?_ ?_
  ·refine fits_ap (xs:=([]:List Int)) (ys:=l.take l.length) (by simp) (by omega) ?_;decide
  (conv=>whnf)
  (repeat (any_goals (first | refine st ?_ | (refine go2 fun xe hxe=>?_;conv=>whnf) | ((with_reducible refine cnd_i (fun hq=>?_) fun hq=>?_) <;> (try simp only [hqs] at hq) <;> (first | omega | conv=>whnf)))))
  rw [e2]
  refine need_i ?_ ?_
  ·refine fits_ap (xs:=[] ++ l.take l.length ++ [n]) (ys:=l.drop l.length) (by rw [List.nil_append,List.length_append,List.length_singleton];omega) (by omega) ?_;decide
  (conv=>whnf)
  (repeat (any_goals (first | refine st ?_ | (refine go2 fun xe hxe=>?_;conv=>whnf) | ((with_reducible refine cnd_i (fun hq=>?_) fun hq=>?_) <;> (try simp only [hqs] at hq) <;> (first | omega | conv=>whnf)))))
  exact ⟨rfl,rfl⟩
theorem sone_c (v:Vtx) (hl:v.parents.length ≤ 1000000):ConV Tryz.prog 122 [vtxA v] [] (vtxA v) []:=by
 refine con_eq Θ_ok Tryz.func122 rfl rfl true 0 4 rfl rfl rfl rfl fun K hK hb1 hb2=>?_;simp only [argsV,enc,Nat.reduceAdd]
 clear hb1 hb2
 (repeat (any_goals (first | refine st ?_ | (refine go2 fun xe hxe=>?_;conv=>whnf) | ((with_reducible refine cnd_i (fun hq=>?_) fun hq=>?_) <;> (try simp only [hqs] at hq) <;> (first | omega | conv=>whnf)))))
 exact ⟨rfl,rfl⟩
theorem scopy_c (g:List Vtx) (hl:g.length ≤ 1000) (hv:∀ v ∈ g,v.parents.length ≤ 1000000):ConV Tryz.prog 121 [.lst .vtx g] [] (.lst .vtx g) []:=by
 refine con_eq Θ_ok Tryz.func121 rfl rfl true 0 4 rfl rfl rfl rfl fun K hK hb1 hb2=>?_;simp only [argsV,enc,Nat.reduceAdd]
 clear hb1 hb2
 (repeat (any_goals (first | refine st ?_ | (refine go2 fun xe hxe=>?_;conv=>whnf) | ((with_reducible refine cnd_i (fun hq=>?_) fun hq=>?_) <;> (try simp only [hqs] at hq) <;> (first | omega | conv=>whnf)))))
 refine at_loop hK [] [0,3,4] (fun i:Nat=>⟨[(0,.lst .vtx g),(3,.ref 4),(4,.int .i64 (i:Int))],[(4,.row 39 .vtx (g.take i))],5⟩) (fun i=>i ≤ g.length) (fun i=>g.length - i) 0 (by simp) rfl ?_
 intro i hi
 by_cases hlt:i < g.length
 ·have hxe:g[i]? = some g[i]:=List.getElem?_eq_getElem hlt
  have hsn:g.take (i + 1) = g.take i ++ [g[i]]:=List.take_succ_eq_append_getElem hlt
  have hvl:=hv _ (List.getElem_mem hlt)
  have hll:(g.take i).length = i:=by rw [List.length_take];omega
  generalize g[i] = v at *
  generalize g.take i = l at *
  (repeat (any_goals (first | refine st ?_ | (refine go2 fun xe hxe=>?_;conv=>whnf) | ((with_reducible refine cnd_i (fun hq=>?_) fun hq=>?_) <;> (try simp only [hqs] at hq) <;> (first | omega | conv=>whnf)) | refine cr (sone_c _ hvl) ?_)))
  exact ⟨i + 1,by omega,by omega,by rw [hsn];rfl⟩
 ·(repeat (any_goals (first | refine st ?_ | (refine go2 fun xe hxe=>?_;conv=>whnf) | ((with_reducible refine cnd_i (fun hq=>?_) fun hq=>?_) <;> (try simp only [hqs] at hq) <;> (first | omega | conv=>whnf)))))
  rw [List.take_of_length_le (by omega)]
  exact ⟨rfl,rfl⟩
theorem fnd_no {g:List Vtx} {r a:Int} (h:hasV g r a = false):fndI g r a < 0:=by
 have:=fnd_lt g r a
 simpa [h] using this
theorem sadd_c (g:List Vtx) (v:Vtx) (hl:g.length ≤ 400) (hv:∀ u ∈ g,u.parents.length ≤ 1000000) (hvp:v.parents.length ≤ 1000000) (hr:-1000000 < v.round ∧ v.round < 1000000) (h1:hasV g v.round v.author = false) (h2:parOK g v = true):ConV Tryz.prog 177 [.lst .vtx g,vtxA v] [] (.tup [.lst .vtx (insV g v),.int .i64 0]) []:=by
 have hF:=find_c g v.round v.author
 have hF2:=fnd_no h1
 have hP:=parents_c g v hr
 rw [h2] at hP
 refine con_eq Θ_ok Tryz.func177 rfl rfl true 0 4 rfl rfl rfl rfl fun K hK hb1 hb2=>?_;simp only [argsV,enc,Nat.reduceAdd]
 clear hb1 hb2
 generalize fndI g v.round v.author = fi at *
 (repeat (any_goals (first | refine st ?_ | (refine go2 fun xe hxe=>?_;conv=>whnf) | ((with_reducible refine cnd_i (fun hq=>?_) fun hq=>?_) <;> (try simp only [hqs] at hq) <;> (first | omega | conv=>whnf)) | refine cr (hF) ?_ | refine cr (hP) ?_)))
 refine at_loop hK [] [0,3,7,8] (fun k:Nat=>⟨[(0,.lst .vtx g),(3,.ptr 4 0),(7,.ref 5),(8,.int .i64 (k:Int))],[(4,.var 39 (vtxA v).cells),(5,.row 39 .vtx (g.take k))],6⟩) (fun k=>k ≤ g.length ∧ ∀ y ∈ g.take k,bef y v = true) (fun k=>g.length - k) 0 ⟨by simp,by simp⟩ rfl ?_
 rintro k ⟨hk,hall⟩
 have hat:=insV_at (g:=g) (v:=v) (k:=k) hall hk
 have hll:(g.take k).length = k:=by rw [List.length_take];omega
 have e2:cutL g (some (.int .i64 k)) none (k:Int).toNat g.length = g.drop k:=by simp [cutL]
 have hdl:(g.drop k).length = g.length - k:=List.length_drop ..
 have hC:=scopy_c (g.drop k) (by omega) fun u hu=>hv u (List.mem_of_mem_drop hu)
 by_cases hlt:k < g.length
 ·have hxe:g[k]? = some g[k]:=List.getElem?_eq_getElem hlt
  have hsn:g.take (k + 1) = g.take k ++ [g[k]]:=List.take_succ_eq_append_getElem hlt
  have hxl:=hv _ (List.getElem_mem hlt)
  generalize g[k] = x at *
  have hB:=before_c x v
  cases hb:bef x v
  ·rw [hb] at hB
   have hat:=hat fun y hy=>by rw [hxe] at hy;obtain rfl:=Option.some.inj hy;exact hb
   rw [hat]
   generalize g.take k = lt at *
   (repeat (any_goals (first | refine st ?_ | (refine go2 fun xe hxe=>?_;conv=>whnf) | ((with_reducible refine cnd_i (fun hq=>?_) fun hq=>?_) <;> (try simp only [hqs] at hq) <;> (first | omega | conv=>whnf)) | refine cr (hB) ?_ | refine cr (sone_c _ hvp) ?_)))
   have e3:cutL g (some (.int .i64 (lt.length:Int))) none (lt.length:Int).toNat g.length = g.drop k:=by rw [hll];exact e2
   rw [e3]
   (repeat (any_goals (first | refine st ?_ | (refine go2 fun xe hxe=>?_;conv=>whnf) | ((with_reducible refine cnd_i (fun hq=>?_) fun hq=>?_) <;> (try simp only [hqs] at hq) <;> (first | omega | conv=>whnf)) | refine cr (hC) ?_)))
   exact ⟨rfl,rfl⟩
  ·rw [hb] at hB
   generalize hlt2:g.take k = lt at *
   (repeat (any_goals (first | refine st ?_ | (refine go2 fun xe hxe=>?_;conv=>whnf) | ((with_reducible refine cnd_i (fun hq=>?_) fun hq=>?_) <;> (try simp only [hqs] at hq) <;> (first | omega | conv=>whnf)) | refine cr (hB) ?_ | refine cr (sone_c _ hxl) ?_)))
   exact ⟨k + 1,⟨by omega,by rw [hsn];exact tk_snoc hall hb⟩,by omega,by rw [hsn];rfl⟩
 ·have hat:=hat fun y hy=>by rw [List.getElem?_eq_none (by omega)] at hy;cases hy
  rw [hat]
  generalize g.take k = lt at *
  (repeat (any_goals (first | refine st ?_ | (refine go2 fun xe hxe=>?_;conv=>whnf) | ((with_reducible refine cnd_i (fun hq=>?_) fun hq=>?_) <;> (try simp only [hqs] at hq) <;> (first | omega | conv=>whnf)) | refine cr (sone_c _ hvp) ?_)))
  have e3:cutL g (some (.int .i64 (lt.length:Int))) none (lt.length:Int).toNat g.length = g.drop k:=by rw [hll];exact e2
  rw [e3]
  (repeat (any_goals (first | refine st ?_ | (refine go2 fun xe hxe=>?_;conv=>whnf) | ((with_reducible refine cnd_i (fun hq=>?_) fun hq=>?_) <;> (try simp only [hqs] at hq) <;> (first | omega | conv=>whnf)) | refine cr (hC) ?_)))
  exact ⟨rfl,rfl⟩
end Go.Proofs.YtjjddgpdoibcoaaGreatDoor.Am
namespace Go.Proofs.YtjjddgpdoibcoaaGreatDoor.Am
open Go
attribute [local irreducible] Mk Need Ari Get Idx Cnd CallM CallA Opt Unch At ConV
set_option maxRecDepth 10000
theorem sprp_c (w:Wrl) (m d:Int) (h:WOK w):ConV Tryz.prog 56 [wrlA w,.int .i64 m,.int .i64 d] [] (wrlA (sPrp w m d)) []:=by
 have hG:=sgood_c w m
 have hD:=digest_c d
 have hN:=snext_c w m (fun p hp=>(vtxS_ok (h.pv p hp).1).1) (by have:=h.plen;omega)
 have hpl:=h.plen
 have hno:prpB w m d = false → sPrp w m d = w:=fun h=>by simp [sPrp,h]
 refine con_eq Θ_ok Tryz.func56 rfl rfl true 0 4 rfl rfl rfl rfl fun K hK hb1 hb2=>?_;simp only [argsV,enc,Nat.reduceAdd]
 clear hb1 hb2
 cases h1:good w m
 ·rw [h1] at hG
  rw [hno (by simp [prpB,h1])]
  (repeat (any_goals (first | refine st ?_ | (refine go2 fun xe hxe=>?_;conv=>whnf) | ((with_reducible refine cnd_i (fun hq=>?_) fun hq=>?_) <;> (try simp only [hqs] at hq) <;> (first | omega | conv=>whnf)) | refine cr (hG) ?_)))
  exact ⟨rfl,rfl⟩
 rw [h1] at hG
 cases h2:vIn d 0 990
 ·rw [h2] at hD
  rw [hno (by simp [prpB,h2])]
  (repeat (any_goals (first | refine st ?_ | (refine go2 fun xe hxe=>?_;conv=>whnf) | ((with_reducible refine cnd_i (fun hq=>?_) fun hq=>?_) <;> (try simp only [hqs] at hq) <;> (first | omega | conv=>whnf)) | refine cr (hG) ?_ | refine cr (hD) ?_)))
  exact ⟨rfl,rfl⟩
 rw [h2] at hD
 by_cases h3:w.props.length < 220
 rotate_left
 ·rw [hno (by simp [prpB,h3])]
  (repeat (any_goals (first | refine st ?_ | (refine go2 fun xe hxe=>?_;conv=>whnf) | ((with_reducible refine cnd_i (fun hq=>?_) fun hq=>?_) <;> (try simp only [hqs] at hq) <;> (first | omega | conv=>whnf)) | refine cr (hG) ?_ | refine cr (hD) ?_)))
  exact ⟨rfl,rfl⟩
 obtain ⟨hx,hvm,hml⟩:=h.view h1
 have hgo:=graS_ok (h.gra _ hvm)
 have hvl:=h.vl _ hvm
 have hgr:=good_iff.1 h1
 have hvlen:=h.vlen
 have hH:=hgt_c w.com (view w m) hgo (by omega)
 have hhb:=hgtTo_lt w.com (view w m) 31
 have hhb:-1 ≤ hgt w.com (view w m) ∧ hgt w.com (view w m) < 31:=hhb
 have hnb:=nxt_bd (ps:=w.props) (m:=m) fun p hp=>(vtxS_ok (h.pv p hp).1).1
 have hB:prpB w m d = (decide (nxt w.props m ≤ (prpV w m d).round) && vtxS w.com (prpV w m d)):=by simp [prpB,h1,h2,h3]
 by_cases h4:0 < hgt w.com (view w m) + 1
 ·have hA:=auth_c (view w m) (hgt w.com (view w m) + 1 - 1) (by omega)
  have hv:prpV w m d = ⟨hgt w.com (view w m) + 1,m,auth (view w m) (hgt w.com (view w m) + 1 - 1),d⟩:=by
   rw [prpV,if_pos h4,show hgt w.com (view w m) + 1 - 1 = hgt w.com (view w m) by omega]
  have hV:=vtx_c w.com (prpV w m d) h.com
  rw [hv] at hV hB
  have hadd:prpB w m d = true → sPrp w m d = addP w ⟨hgt w.com (view w m) + 1,m,auth (view w m) (hgt w.com (view w m) + 1 - 1),d⟩:=fun hb=>by simp only [sPrp,hb,if_true,hv]
  generalize auth (view w m) (hgt w.com (view w m) + 1 - 1) = au at *
  generalize hgt w.com (view w m) = hh at *
  generalize view w m = g at *
  by_cases h5:nxt w.props m ≤ hh + 1
  rotate_left
  ·rw [hno (by rw [hB];simp [h5])]
   generalize nxt w.props m = nn at *
   (repeat (any_goals (first | refine st ?_ | (refine go2 fun xe hxe=>?_;conv=>whnf) | ((with_reducible refine cnd_i (fun hq=>?_) fun hq=>?_) <;> (try simp only [hqs] at hq) <;> (first | omega | conv=>whnf)) | refine cr (hG) ?_ | refine cr (hD) ?_ | refine cr (hH) ?_ | refine cr (hA) ?_ | refine cr (hN) ?_ | refine cr (hV) ?_)))
   exact ⟨rfl,rfl⟩
  cases h6:vtxS w.com ⟨hh + 1,m,au,d⟩
  ·rw [h6] at hV
   rw [hno (by rw [hB,h6,Bool.and_false])]
   generalize nxt w.props m = nn at *
   (repeat (any_goals (first | refine st ?_ | (refine go2 fun xe hxe=>?_;conv=>whnf) | ((with_reducible refine cnd_i (fun hq=>?_) fun hq=>?_) <;> (try simp only [hqs] at hq) <;> (first | omega | conv=>whnf)) | refine cr (hG) ?_ | refine cr (hD) ?_ | refine cr (hH) ?_ | refine cr (hA) ?_ | refine cr (hN) ?_ | refine cr (hV) ?_)))
   exact ⟨rfl,rfl⟩
  ·rw [h6] at hV
   rw [hadd (by rw [hB,h6];simpa using h5)]
   generalize nxt w.props m = nn at *
   (repeat (any_goals (first | refine st ?_ | (refine go2 fun xe hxe=>?_;conv=>whnf) | ((with_reducible refine cnd_i (fun hq=>?_) fun hq=>?_) <;> (try simp only [hqs] at hq) <;> (first | omega | conv=>whnf)) | refine cr (hG) ?_ | refine cr (hD) ?_ | refine cr (hH) ?_ | refine cr (hA) ?_ | refine cr (hN) ?_ | refine cr (hV) ?_)))
   exact ⟨rfl,rfl⟩
 ·have hv:prpV w m d = ⟨hgt w.com (view w m) + 1,m,[],d⟩:=by rw [prpV,if_neg h4]
  have hV:=vtx_c w.com (prpV w m d) h.com
  rw [hv] at hV hB
  have hadd:prpB w m d = true → sPrp w m d = addP w ⟨hgt w.com (view w m) + 1,m,[],d⟩:=fun hb=>by simp only [sPrp,hb,if_true,hv]
  generalize hgt w.com (view w m) = hh at *
  generalize view w m = g at *
  by_cases h5:nxt w.props m ≤ hh + 1
  rotate_left
  ·rw [hno (by rw [hB];simp [h5])]
   generalize nxt w.props m = nn at *
   (repeat (any_goals (first | refine st ?_ | (refine go2 fun xe hxe=>?_;conv=>whnf) | ((with_reducible refine cnd_i (fun hq=>?_) fun hq=>?_) <;> (try simp only [hqs] at hq) <;> (first | omega | conv=>whnf)) | refine cr (hG) ?_ | refine cr (hD) ?_ | refine cr (hH) ?_ | refine cr (hN) ?_ | refine cr (hV) ?_)))
   exact ⟨rfl,rfl⟩
  cases h6:vtxS w.com ⟨hh + 1,m,[],d⟩
  ·rw [h6] at hV
   rw [hno (by rw [hB,h6,Bool.and_false])]
   generalize nxt w.props m = nn at *
   (repeat (any_goals (first | refine st ?_ | (refine go2 fun xe hxe=>?_;conv=>whnf) | ((with_reducible refine cnd_i (fun hq=>?_) fun hq=>?_) <;> (try simp only [hqs] at hq) <;> (first | omega | conv=>whnf)) | refine cr (hG) ?_ | refine cr (hD) ?_ | refine cr (hH) ?_ | refine cr (hN) ?_ | refine cr (hV) ?_)))
   exact ⟨rfl,rfl⟩
  ·rw [h6] at hV
   rw [hadd (by rw [hB,h6];simpa using h5)]
   generalize nxt w.props m = nn at *
   (repeat (any_goals (first | refine st ?_ | (refine go2 fun xe hxe=>?_;conv=>whnf) | ((with_reducible refine cnd_i (fun hq=>?_) fun hq=>?_) <;> (try simp only [hqs] at hq) <;> (first | omega | conv=>whnf)) | refine cr (hG) ?_ | refine cr (hD) ?_ | refine cr (hH) ?_ | refine cr (hN) ?_ | refine cr (hV) ?_)))
   exact ⟨rfl,rfl⟩
theorem scnt_c (w:Wrl) (i m:Int) (h:WOK w) (hi:inP w i = true):ConV Tryz.prog 147 [wrlA w,.int .i64 i,.int .i64 m] [] (wrlA (sCnt w i m)) []:=by
 obtain ⟨hl,hx,hp⟩:=prop_at hi
 have hpl:=h.plen
 have hir:=vIn_iff.1 hi
 have hI:=sins_c (prop w i).members m (by have:=h.mem _ hp;omega)
 have hs:sCnt w i m = { w with props:=w.props.set i.toNat ⟨(prop w i).v,insM (prop w i).members m⟩ }:=rfl
 rw [hs]
 refine con_eq Θ_ok Tryz.func147 rfl rfl true 0 4 rfl rfl rfl rfl fun K hK hb1 hb2=>?_;simp only [argsV,enc,Nat.reduceAdd]
 clear hb1 hb2
 generalize prop w i = p at *
 generalize insM p.members m = ms at *
 (repeat (any_goals (first | refine st ?_ | (refine go2 fun xe hxe=>?_;conv=>whnf) | ((with_reducible refine cnd_i (fun hq=>?_) fun hq=>?_) <;> (try simp only [hqs] at hq) <;> (first | omega | conv=>whnf)))))
 obtain rfl:xe = p:=Option.some.inj (hxe.symm.trans hx)
 (repeat (any_goals (first | refine st ?_ | (refine go2 fun xe hxe=>?_;conv=>whnf) | ((with_reducible refine cnd_i (fun hq=>?_) fun hq=>?_) <;> (try simp only [hqs] at hq) <;> (first | omega | conv=>whnf)) | refine cr (hI) ?_)))
 exact ⟨rfl,rfl⟩
theorem svot_c (w:Wrl) (m i:Int) (h:WOK w):ConV Tryz.prog 114 [wrlA w,.int .i64 m,.int .i64 i] [] (wrlA (sVot w m i)) []:=by
 have hG:=sgood_c w m
 have hI:=in_c i 0 ((w.props.length:Int) - 1)
 have hpl:=h.plen
 have hno:votB w m i = false → sVot w m i = w:=fun h=>by simp [sVot,h]
 refine con_eq Θ_ok Tryz.func114 rfl rfl true 0 4 rfl rfl rfl rfl fun K hK hb1 hb2=>?_;simp only [argsV,enc,Nat.reduceAdd]
 clear hb1 hb2
 cases h1:good w m
 ·rw [h1] at hG
  rw [hno (by simp [votB,h1])]
  (repeat (any_goals (first | refine st ?_ | (refine go2 fun xe hxe=>?_;conv=>whnf) | ((with_reducible refine cnd_i (fun hq=>?_) fun hq=>?_) <;> (try simp only [hqs] at hq) <;> (first | omega | conv=>whnf)) | refine cr (hG) ?_)))
  exact ⟨rfl,rfl⟩
 rw [h1] at hG
 cases h2:vIn i 0 ((w.props.length:Int) - 1)
 ·rw [h2] at hI
  rw [hno (by simp [votB,inP,h2])]
  (repeat (any_goals (first | refine st ?_ | (refine go2 fun xe hxe=>?_;conv=>whnf) | ((with_reducible refine cnd_i (fun hq=>?_) fun hq=>?_) <;> (try simp only [hqs] at hq) <;> (first | omega | conv=>whnf)) | refine cr (hG) ?_ | refine cr (hI) ?_)))
  exact ⟨rfl,rfl⟩
 rw [h2] at hI
 have h2':inP w i = true:=h2
 obtain ⟨hl,hx,hp⟩:=prop_at h2'
 have hir:=vIn_iff.1 h2
 have hvx:=h.pv _ hp
 have hrd:=vtxS_rd hvx.1
 obtain ⟨hgx,hvm,hml⟩:=h.view h1
 have hgr:=good_iff.1 h1
 have hvlen:=h.vlen
 have hB:votB w m i = (!dbl w m i && parOK (view w m) (prop w i).v):=by simp [votB,h1,h2']
 have hP:=parents_c (view w m) (prop w i).v hrd
 have hC:=scnt_c w i m h h2'
 have hyes:votB w m i = true → sVot w m i = sCnt w i m:=fun h=>by simp [sVot,h]
 have hdbl:dbl w m i = (List.range w.props.length).any fun j=>(j:Int) != i && (slt (w.props.getD j p0).v (prop w i).v && (w.props.getD j p0).members.contains m):=rfl
 generalize prop w i = p at *
 (repeat (any_goals (first | refine st ?_ | (refine go2 fun xe hxe=>?_;conv=>whnf) | ((with_reducible refine cnd_i (fun hq=>?_) fun hq=>?_) <;> (try simp only [hqs] at hq) <;> (first | omega | conv=>whnf)) | refine cr (hG) ?_ | refine cr (hI) ?_)))
 refine at_loop hK [] [1,2,3,6,7,8] (fun j:Nat=>⟨[(1,.int .i64 m),(2,.int .i64 i),(3,.ptr 4 0),(6,.ptr 5 0),(7,.ptr 6 0),(8,.int .i64 (j:Int))],[(4,.var 27 (wrlA w).cells),(5,.var 27 [.nils,.nils,.int .i64 0,.nils,.nils]),(6,.var 39 (vtxA p.v).cells)],7⟩)
  (fun j=>j ≤ w.props.length ∧ ∀ k,k < j → ((k:Int) != i && (slt (w.props.getD k p0).v p.v && (w.props.getD k p0).members.contains m)) = false) (fun j=>w.props.length - j) 0 ⟨by simp,by simp⟩ rfl ?_
 rintro j ⟨hj,hall⟩
 by_cases hlt:j < w.props.length
 ·have hxq:w.props[j]? = some (w.props.getD j p0):=by rw [List.getD_eq_getElem?_getD,List.getElem?_eq_getElem hlt];rfl
  have hqm:w.props.getD j p0 ∈ w.props:=gd_mem hlt
  have hyes2:((j:Int) != i && (slt (w.props.getD j p0).v p.v && (w.props.getD j p0).members.contains m)) = true → dbl w m i = true:=fun hh=>by rw [hdbl];exact List.any_eq_true.2 ⟨j,List.mem_range.2 hlt,hh⟩
  have hno2:((j:Int) != i && (slt (w.props.getD j p0).v p.v && (w.props.getD j p0).members.contains m)) = false → ∀ k,k < j + 1 → ((k:Int) != i && (slt (w.props.getD k p0).v p.v && (w.props.getD k p0).members.contains m)) = false:=fun hh k hk=>by
   rcases Nat.lt_or_ge k j with h5 | h5
   ·exact hall k h5
   ·obtain rfl:k = j:=by omega
    exact hh
  generalize w.props.getD j p0 = q at *
  have hS:=sslt_c q.v p.v
  have hH:=has_c q.members m
  by_cases h3:(j:Int) = i
  ·(repeat (any_goals (first | refine st ?_ | (refine go2 fun xe hxe=>?_;conv=>whnf) | ((with_reducible refine cnd_i (fun hq=>?_) fun hq=>?_) <;> (try simp only [hqs] at hq) <;> (first | omega | conv=>whnf)) | refine cr (hS) ?_ | refine cr (hH) ?_)))
   exact ⟨j + 1,⟨by omega,hno2 (by simp [h3])⟩,by omega,rfl⟩
  cases h4:slt q.v p.v
  ·rw [h4] at hS
   (repeat (any_goals (first | refine st ?_ | (refine go2 fun xe hxe=>?_;conv=>whnf) | ((with_reducible refine cnd_i (fun hq=>?_) fun hq=>?_) <;> (try simp only [hqs] at hq) <;> (first | omega | conv=>whnf)) | refine cr (hS) ?_ | refine cr (hH) ?_)))
   exact ⟨j + 1,⟨by omega,hno2 (by simp [h4])⟩,by omega,rfl⟩
  rw [h4] at hS
  cases h5:q.members.contains m
  ·rw [h5] at hH
   (repeat (any_goals (first | refine st ?_ | (refine go2 fun xe hxe=>?_;conv=>whnf) | ((with_reducible refine cnd_i (fun hq=>?_) fun hq=>?_) <;> (try simp only [hqs] at hq) <;> (first | omega | conv=>whnf)) | refine cr (hS) ?_ | refine cr (hH) ?_)))
   exact ⟨j + 1,⟨by omega,hno2 (by rw [h5,Bool.and_false,Bool.and_false])⟩,by omega,rfl⟩
  ·rw [h5] at hH
   rw [hno (by rw [hB,hyes2 (by rw [h4,h5];simpa using h3)];rfl)]
   (repeat (any_goals (first | refine st ?_ | (refine go2 fun xe hxe=>?_;conv=>whnf) | ((with_reducible refine cnd_i (fun hq=>?_) fun hq=>?_) <;> (try simp only [hqs] at hq) <;> (first | omega | conv=>whnf)) | refine cr (hS) ?_ | refine cr (hH) ?_)))
   exact ⟨rfl,rfl⟩
 ·have hnd:dbl w m i = false:=by
   rw [hdbl,Bool.eq_false_iff]
   intro hh
   obtain ⟨k,hk,hh⟩:=List.any_eq_true.1 hh
   rw [hall k (by have:=List.mem_range.1 hk;omega)] at hh
   cases hh
  rw [hnd] at hB
  generalize view w m = g at *
  cases h6:parOK g p.v
  ·rw [h6] at hP hB
   rw [hno hB]
   (repeat (any_goals (first | refine st ?_ | (refine go2 fun xe hxe=>?_;conv=>whnf) | ((with_reducible refine cnd_i (fun hq=>?_) fun hq=>?_) <;> (try simp only [hqs] at hq) <;> (first | omega | conv=>whnf)) | refine cr (hP) ?_)))
   exact ⟨rfl,rfl⟩
  ·rw [h6] at hP hB
   rw [hyes hB]
   (repeat (any_goals (first | refine st ?_ | (refine go2 fun xe hxe=>?_;conv=>whnf) | ((with_reducible refine cnd_i (fun hq=>?_) fun hq=>?_) <;> (try simp only [hqs] at hq) <;> (first | omega | conv=>whnf)) | refine cr (hP) ?_ | refine cr (hC) ?_)))
   exact ⟨rfl,rfl⟩
theorem sdel_c (w:Wrl) (m i:Int) (h:WOK w):ConV Tryz.prog 113 [wrlA w,.int .i64 m,.int .i64 i] [] (wrlA (sDel w m i)) []:=by
 have hG:=sgood_c w m
 have hI:=in_c i 0 ((w.props.length:Int) - 1)
 have hpl:=h.plen
 have hno:delB w m i = false → sDel w m i = w:=fun h=>by simp [sDel,h]
 refine con_eq Θ_ok Tryz.func113 rfl rfl true 0 4 rfl rfl rfl rfl fun K hK hb1 hb2=>?_;simp only [argsV,enc,Nat.reduceAdd]
 clear hb1 hb2
 cases h1:good w m
 ·rw [h1] at hG
  rw [hno (by simp [delB,h1])]
  (repeat (any_goals (first | refine st ?_ | (refine go2 fun xe hxe=>?_;conv=>whnf) | ((with_reducible refine cnd_i (fun hq=>?_) fun hq=>?_) <;> (try simp only [hqs] at hq) <;> (first | omega | conv=>whnf)) | refine cr (hG) ?_)))
  exact ⟨rfl,rfl⟩
 rw [h1] at hG
 cases h2:vIn i 0 ((w.props.length:Int) - 1)
 ·rw [h2] at hI
  rw [hno (by simp [delB,inP,h2])]
  (repeat (any_goals (first | refine st ?_ | (refine go2 fun xe hxe=>?_;conv=>whnf) | ((with_reducible refine cnd_i (fun hq=>?_) fun hq=>?_) <;> (try simp only [hqs] at hq) <;> (first | omega | conv=>whnf)) | refine cr (hG) ?_ | refine cr (hI) ?_)))
  exact ⟨rfl,rfl⟩
 rw [h2] at hI
 have h2':inP w i = true:=h2
 obtain ⟨hl,hx,hp⟩:=prop_at h2'
 have hir:=vIn_iff.1 h2
 have hvx:=h.pv _ hp
 have hrd:=vtxS_rd hvx.1
 obtain ⟨hgx,hvm,hml⟩:=h.view h1
 have hgr:=good_iff.1 h1
 have hvlen:=h.vlen
 have h7:=h.len
 have hDn:=sdone_c w (prop w i) h.com hvx.2
 have hB:delB w m i = (don w.com (prop w i) && (!hasV (view w m) (prop w i).v.round (prop w i).v.author && parOK (view w m) (prop w i).v)):=by simp [delB,h1,h2']
 have hyes:delB w m i = true → sDel w m i = { w with views:=w.views.set m.toNat (insV (view w m) (prop w i).v) }:=fun h=>by simp [sDel,h]
 have hF:=find_c (view w m) (prop w i).v.round (prop w i).v.author
 have hFl:=fnd_lt (view w m) (prop w i).v.round (prop w i).v.author
 have hP:=parents_c (view w m) (prop w i).v hrd
 have hAd:=sadd_c (view w m) (prop w i).v (by have:=h.vl _ hvm;omega) (fun u hu=>by have:=h.par (h.vv _ hvm u hu);omega) (by have:=h.par hvx.1;omega) hrd
 cases h3:don w.com (prop w i)
 ·rw [h3] at hDn
  rw [hno (by rw [hB,h3];rfl)]
  generalize prop w i = p at *
  (repeat (any_goals (first | refine st ?_ | (refine go2 fun xe hxe=>?_;conv=>whnf) | ((with_reducible refine cnd_i (fun hq=>?_) fun hq=>?_) <;> (try simp only [hqs] at hq) <;> (first | omega | conv=>whnf)) | refine cr (hG) ?_ | refine cr (hI) ?_ | refine cr (hDn) ?_)))
  exact ⟨rfl,rfl⟩
 rw [h3] at hDn
 generalize prop w i = p at *
 generalize view w m = g at *
 cases h4:hasV g p.v.round p.v.author
 rotate_left
 ·have hFl:¬ fndI g p.v.round p.v.author < 0:=by simpa [h4] using hFl
  rw [hno (by rw [hB,h3,h4];rfl)]
  generalize fndI g p.v.round p.v.author = fi at *
  (repeat (any_goals (first | refine st ?_ | (refine go2 fun xe hxe=>?_;conv=>whnf) | ((with_reducible refine cnd_i (fun hq=>?_) fun hq=>?_) <;> (try simp only [hqs] at hq) <;> (first | omega | conv=>whnf)) | refine cr (hG) ?_ | refine cr (hI) ?_ | refine cr (hDn) ?_ | refine cr (hF) ?_)))
  exact ⟨rfl,rfl⟩
 have hFl:fndI g p.v.round p.v.author < 0:=by simpa [h4] using hFl
 generalize fndI g p.v.round p.v.author = fi at *
 cases h5:parOK g p.v
 ·rw [h5] at hP
  rw [hno (by rw [hB,h3,h4,h5];rfl)]
  (repeat (any_goals (first | refine st ?_ | (refine go2 fun xe hxe=>?_;conv=>whnf) | ((with_reducible refine cnd_i (fun hq=>?_) fun hq=>?_) <;> (try simp only [hqs] at hq) <;> (first | omega | conv=>whnf)) | refine cr (hG) ?_ | refine cr (hI) ?_ | refine cr (hDn) ?_ | refine cr (hF) ?_ | refine cr (hP) ?_)))
  exact ⟨rfl,rfl⟩
 rw [h5] at hP
 rw [hyes (by rw [hB,h3,h4,h5];rfl)]
 have hAd:=hAd h4 h5
 generalize insV g p.v = g2 at *
 (repeat (any_goals (first | refine st ?_ | (refine go2 fun xe hxe=>?_;conv=>whnf) | ((with_reducible refine cnd_i (fun hq=>?_) fun hq=>?_) <;> (try simp only [hqs] at hq) <;> (first | omega | conv=>whnf)) | refine cr (hG) ?_ | refine cr (hI) ?_ | refine cr (hDn) ?_ | refine cr (hF) ?_ | refine cr (hP) ?_ | refine cr (hAd) ?_)))
 exact ⟨rfl,rfl⟩
theorem sfrg_c (w:Wrl) (v:Vtx) (h:WOK w) (hvl:v.parents.length ≤ 1000000):ConV Tryz.prog 146 [wrlA w,vtxA v] [] (wrlA (sFrg w v)) []:=by
 have hpl:=h.plen
 have hno:frgB w v = false → sFrg w v = w:=fun h=>by simp [sFrg,h]
 have hyes:frgB w v = true → sFrg w v = addP w v:=fun h=>by simp [sFrg,h]
 have hV:=vtx_c w.com v h.com
 refine con_eq Θ_ok Tryz.func146 rfl rfl true 0 4 rfl rfl rfl rfl fun K hK hb1 hb2=>?_;simp only [argsV,enc,Nat.reduceAdd]
 clear hb1 hb2
 by_cases h1:w.bad < 0
 ·rw [hno (by simp [frgB];intro h9;omega)]
  (repeat (any_goals (first | refine st ?_ | (refine go2 fun xe hxe=>?_;conv=>whnf) | ((with_reducible refine cnd_i (fun hq=>?_) fun hq=>?_) <;> (try simp only [hqs] at hq) <;> (first | omega | conv=>whnf)) | refine cr (hV) ?_)))
  exact ⟨rfl,rfl⟩
 by_cases h2:v.author = w.bad
 rotate_left
 ·rw [hno (by simp [frgB,h2])]
  (repeat (any_goals (first | refine st ?_ | (refine go2 fun xe hxe=>?_;conv=>whnf) | ((with_reducible refine cnd_i (fun hq=>?_) fun hq=>?_) <;> (try simp only [hqs] at hq) <;> (first | omega | conv=>whnf)) | refine cr (hV) ?_)))
  exact ⟨rfl,rfl⟩
 cases h3:vtxS w.com v
 ·rw [h3] at hV
  rw [hno (by simp [frgB,h3])]
  (repeat (any_goals (first | refine st ?_ | (refine go2 fun xe hxe=>?_;conv=>whnf) | ((with_reducible refine cnd_i (fun hq=>?_) fun hq=>?_) <;> (try simp only [hqs] at hq) <;> (first | omega | conv=>whnf)) | refine cr (hV) ?_)))
  exact ⟨rfl,rfl⟩
 rw [h3] at hV
 by_cases h4:w.props.length < 220
 rotate_left
 ·rw [hno (by simp [frgB,h4])]
  (repeat (any_goals (first | refine st ?_ | (refine go2 fun xe hxe=>?_;conv=>whnf) | ((with_reducible refine cnd_i (fun hq=>?_) fun hq=>?_) <;> (try simp only [hqs] at hq) <;> (first | omega | conv=>whnf)) | refine cr (hV) ?_)))
  exact ⟨rfl,rfl⟩
 have hB:frgB w v = !w.props.any fun p=>vEq p.v v:=by
  have:(0:Int) ≤ w.bad:=by omega
  simp [frgB,this,h2,h3,h4]
 (repeat (any_goals (first | refine st ?_ | (refine go2 fun xe hxe=>?_;conv=>whnf) | ((with_reducible refine cnd_i (fun hq=>?_) fun hq=>?_) <;> (try simp only [hqs] at hq) <;> (first | omega | conv=>whnf)) | refine cr (hV) ?_)))
 refine at_loop hK [] [2,3,4,5] (fun j:Nat=>⟨[(2,.ptr 4 0),(3,.ptr 5 0),(4,.ptr 6 0),(5,.int .i64 (j:Int))],[(4,.var 27 (wrlA w).cells),(5,.var 39 (vtxA v).cells),(6,.var 27 [.nils,.nils,.int .i64 0,.nils,.nils])],7⟩)
  (fun j=>j ≤ w.props.length ∧ ∀ p ∈ w.props.take j,vEq p.v v = false) (fun j=>w.props.length - j) 0 ⟨by simp,by simp⟩ rfl ?_
 rintro j ⟨hj,hall⟩
 by_cases hlt:j < w.props.length
 ·have hxq:w.props[j]? = some w.props[j]:=List.getElem?_eq_getElem hlt
  have hsn:w.props.take (j + 1) = w.props.take j ++ [w.props[j]]:=List.take_succ_eq_append_getElem hlt
  have hqm:w.props[j] ∈ w.props:=List.getElem_mem hlt
  generalize w.props[j] = q at *
  have hS:=same_c q.v v
  cases h5:vEq q.v v
  ·rw [h5] at hS
   (repeat (any_goals (first | refine st ?_ | (refine go2 fun xe hxe=>?_;conv=>whnf) | ((with_reducible refine cnd_i (fun hq=>?_) fun hq=>?_) <;> (try simp only [hqs] at hq) <;> (first | omega | conv=>whnf)) | refine cr (hS) ?_)))
   exact ⟨j + 1,⟨by omega,by rw [hsn];exact tk_snoc hall h5⟩,by omega,rfl⟩
  ·rw [h5] at hS
   have:(w.props.any fun p=>vEq p.v v) = true:=List.any_eq_true.2 ⟨q,hqm,h5⟩
   rw [hno (by rw [hB,this];rfl)]
   (repeat (any_goals (first | refine st ?_ | (refine go2 fun xe hxe=>?_;conv=>whnf) | ((with_reducible refine cnd_i (fun hq=>?_) fun hq=>?_) <;> (try simp only [hqs] at hq) <;> (first | omega | conv=>whnf)) | refine cr (hS) ?_)))
   exact ⟨rfl,rfl⟩
 ·rw [List.take_of_length_le (by omega)] at hall
  have:(w.props.any fun p=>vEq p.v v) = false:=by
   rw [Bool.eq_false_iff]
   intro hh
   obtain ⟨p,hp,hh⟩:=List.any_eq_true.1 hh
   rw [hall p hp] at hh
   cases hh
  rw [hyes (by rw [hB,this];rfl)]
  (repeat (any_goals (first | refine st ?_ | (refine go2 fun xe hxe=>?_;conv=>whnf) | ((with_reducible refine cnd_i (fun hq=>?_) fun hq=>?_) <;> (try simp only [hqs] at hq) <;> (first | omega | conv=>whnf)) | refine cr (sone_c _ hvl) ?_)))
  exact ⟨rfl,rfl⟩
abbrev evtA (e:Evt):V:=.agg [.int .i64 e.kind,.int .i64 e.a,.int .i64 e.b,.int .i64 e.v.round,.int .i64 e.v.author,.lst (.int .i64) e.v.parents,.int .i64 e.v.digest]
theorem sdo_c (w:Wrl) (e:Evt) (h:WOK w) (hvl:e.v.parents.length ≤ 1000000):ConV Tryz.prog 75 [wrlA w,evtA e] [] (wrlA (sDo w e)) []:=by
 have hpl:=h.plen
 have h1:=sprp_c w e.a e.b h
 have h2:=svot_c w e.a e.b h
 have h3:=sdel_c w e.a e.b h
 have h4:=sfrg_c w e.v h hvl
 have hI:=in_c e.b 0 ((w.props.length:Int) - 1)
 refine con_eq Θ_ok Tryz.func75 rfl rfl true 0 4 rfl rfl rfl rfl fun K hK hb1 hb2=>?_;simp only [argsV,enc,Nat.reduceAdd]
 clear hb1 hb2
 unfold sDo
 by_cases k1:e.kind = 1
 ·rw [if_pos k1]
  generalize sPrp w e.a e.b = w' at *
  (repeat (any_goals (first | refine st ?_ | (refine go2 fun xe hxe=>?_;conv=>whnf) | ((with_reducible refine cnd_i (fun hq=>?_) fun hq=>?_) <;> (try simp only [hqs] at hq) <;> (first | omega | conv=>whnf)) | refine cr (h1) ?_)))
  exact ⟨rfl,rfl⟩
 by_cases k2:e.kind = 2
 ·rw [if_neg k1,if_pos k2]
  generalize sVot w e.a e.b = w' at *
  (repeat (any_goals (first | refine st ?_ | (refine go2 fun xe hxe=>?_;conv=>whnf) | ((with_reducible refine cnd_i (fun hq=>?_) fun hq=>?_) <;> (try simp only [hqs] at hq) <;> (first | omega | conv=>whnf)) | refine cr (h2) ?_)))
  exact ⟨rfl,rfl⟩
 by_cases k3:e.kind = 3
 ·rw [if_neg k1,if_neg k2,if_pos k3]
  generalize sDel w e.a e.b = w' at *
  (repeat (any_goals (first | refine st ?_ | (refine go2 fun xe hxe=>?_;conv=>whnf) | ((with_reducible refine cnd_i (fun hq=>?_) fun hq=>?_) <;> (try simp only [hqs] at hq) <;> (first | omega | conv=>whnf)) | refine cr (h3) ?_)))
  exact ⟨rfl,rfl⟩
 by_cases k4:e.kind = 4
 ·rw [if_neg k1,if_neg k2,if_neg k3,if_pos k4]
  generalize sFrg w e.v = w' at *
  (repeat (any_goals (first | refine st ?_ | (refine go2 fun xe hxe=>?_;conv=>whnf) | ((with_reducible refine cnd_i (fun hq=>?_) fun hq=>?_) <;> (try simp only [hqs] at hq) <;> (first | omega | conv=>whnf)) | refine cr (h4) ?_)))
  exact ⟨rfl,rfl⟩
 by_cases k5:e.kind = 5
 ·rw [if_neg k1,if_neg k2,if_neg k3,if_neg k4,if_pos k5]
  by_cases h6:0 ≤ w.bad
  ·cases h7:vIn e.b 0 ((w.props.length:Int) - 1)
   ·rw [h7] at hI
    have:sBad w e.b = w:=by simp [sBad,badB,inP,h7]
    rw [this]
    (repeat (any_goals (first | refine st ?_ | (refine go2 fun xe hxe=>?_;conv=>whnf) | ((with_reducible refine cnd_i (fun hq=>?_) fun hq=>?_) <;> (try simp only [hqs] at hq) <;> (first | omega | conv=>whnf)) | refine cr (hI) ?_)))
    exact ⟨rfl,rfl⟩
   ·rw [h7] at hI
    have h7':inP w e.b = true:=h7
    have:sBad w e.b = sCnt w e.b w.bad:=by simp [sBad,badB,h7',h6]
    rw [this]
    have h5:=scnt_c w e.b w.bad h h7'
    generalize sCnt w e.b w.bad = w' at *
    (repeat (any_goals (first | refine st ?_ | (refine go2 fun xe hxe=>?_;conv=>whnf) | ((with_reducible refine cnd_i (fun hq=>?_) fun hq=>?_) <;> (try simp only [hqs] at hq) <;> (first | omega | conv=>whnf)) | refine cr (hI) ?_ | refine cr (h5) ?_)))
    exact ⟨rfl,rfl⟩
  ·have:sBad w e.b = w:=by simp [sBad,badB,h6]
   rw [this]
   (repeat (any_goals (first | refine st ?_ | (refine go2 fun xe hxe=>?_;conv=>whnf) | ((with_reducible refine cnd_i (fun hq=>?_) fun hq=>?_) <;> (try simp only [hqs] at hq) <;> (first | omega | conv=>whnf)) | refine cr (hI) ?_)))
   exact ⟨rfl,rfl⟩
 ·rw [if_neg k1,if_neg k2,if_neg k3,if_neg k4,if_neg k5]
  (repeat (any_goals (first | refine st ?_ | (refine go2 fun xe hxe=>?_;conv=>whnf) | ((with_reducible refine cnd_i (fun hq=>?_) fun hq=>?_) <;> (try simp only [hqs] at hq) <;> (first | omega | conv=>whnf)))))
  exact ⟨rfl,rfl⟩
end Go.Proofs.YtjjddgpdoibcoaaGreatDoor.Am
namespace Go.Proofs.YtjjddgpdoibcoaaGreatDoor.Am
open Go
attribute [local irreducible] Mk Need Ari Get Idx Cnd CallM CallA Opt Unch At ConV
set_option maxRecDepth 10000
end Go.Proofs.YtjjddgpdoibcoaaGreatDoor.Am
namespace Go.Proofs.YtjjddgpdoibcoaaGreatDoor.Am
open Go
attribute [local irreducible] Mk Need Ari Get Idx Cnd CallM CallA Opt Unch At ConV
set_option maxRecDepth 10000
def adds (w:Wrl) (e:Evt):Bool:=(decide (e.kind = 1) && prpB w e.a e.b) || (decide (e.kind = 4) && frgB w e.v)
end Go.Proofs.YtjjddgpdoibcoaaGreatDoor.Am
namespace Go.Proofs.YtjjddgpdoibcoaaGreatDoor.Am
open Go
attribute [local irreducible] Mk Need Ari Get Idx Cnd CallM CallA Opt Unch At ConV
set_option maxRecDepth 10000
end Go.Proofs.YtjjddgpdoibcoaaGreatDoor.Am
namespace Go.Proofs.YtjjddgpdoibcoaaGreatDoor.Am
open Go
attribute [local irreducible] Mk Need Ari Get Idx Cnd CallM CallA Opt Unch At ConV
set_option maxRecDepth 10000
end Go.Proofs.YtjjddgpdoibcoaaGreatDoor.Am
namespace Go.Proofs.YtjjddgpdoibcoaaGreatDoor.Am
open Go
attribute [local irreducible] Mk Need Ari Get Idx Cnd CallM CallA Opt Unch At ConV
set_option maxRecDepth 10000
theorem delTo_le {w:Wrl} (h:WOK w) (i:Int):∀ n,tsz w ≤ tsz (delTo w i n)
 | 0=>Nat.le_refl _
 | n + 1=>by
  have h1:=delTo_le h i n
  rcases sDel_cases (delTo_ok h i n) n i with ⟨-,h2⟩ | ⟨-,h2⟩
  ·simp only [delTo,h2];exact h1
  ·simp only [delTo,h2];omega
theorem passTo_le {w:Wrl} (h:WOK w):∀ k,tsz w ≤ tsz (passTo w k)
 | 0=>Nat.le_refl _
 | k + 1=>Nat.le_trans (passTo_le h k) (delTo_le (passTo_ok h k) _ _)
theorem sDel_view {w:Wrl} (h:WOK w) {m i:Int} (hb:delB w m i = true):(sDel w m i).views[m.toNat]? = some (insV (view w m) (prop w i).v):=by
 have hg:good w m = true:=by
  simp only [delB,Bool.and_eq_true] at hb
  exact hb.1
 have hl:=(h.view hg).2.2
 simp [sDel,hb,List.getElem?_set,hl]
abbrev wZv:List V:=[.nils,.nils,.int .i64 0,.nils,.nils]
set_option maxHeartbeats 1000000 in
theorem sspr_c (w:Wrl) (h:WOK w):ConV Tryz.prog 54 [wrlA w] [] (wrlA (sSpr w)) []:=by
 refine con_eq Θ_ok Tryz.func54 rfl rfl true 0 4 rfl rfl rfl rfl fun K hK hb1 hb2=>?_;simp only [argsV,enc,Nat.reduceAdd]
 clear hb1 hb2
 (repeat (any_goals (first | refine st ?_ | (refine go2 fun xe hxe=>?_;conv=>whnf) | ((with_reducible refine cnd_i (fun hq=>?_) fun hq=>?_) <;> (try simp only [hqs] at hq) <;> (first | omega | conv=>whnf)))))
 refine at_loop hK [] [1,2,3] (fun x:Bool × Wrl=>⟨[(1,.ptr 4 0),(2,.ptr 5 0),(3,.bool x.1)],[(4,.var 27 (wrlA x.2).cells),(5,.var 27 wZv)],6⟩) (fun x=>WOK x.2 ∧ (x.1 = true → sSpr x.2 = sSpr w) ∧ (x.1 = false → x.2 = sSpr w)) (fun x=>if x.1 = true then 1520 - tsz x.2 else 0) (true,w) ⟨h,fun _=>rfl,fun h=>by cases h⟩ rfl ?_
 rintro ⟨b,x⟩ ⟨hx,hbt,hbf⟩
 dsimp only at hx hbt hbf ⊢
 cases b
 ·have:=hbf rfl
  rw [← this]
  (repeat (any_goals (first | refine st ?_ | (refine go2 fun xe hxe=>?_;conv=>whnf) | ((with_reducible refine cnd_i (fun hq=>?_) fun hq=>?_) <;> (try simp only [hqs] at hq) <;> (first | omega | conv=>whnf)))))
  exact ⟨rfl,rfl⟩
 have hbt:=hbt rfl
 have hx7:=hx.len
 have hxp:=hx.plen
 (repeat (any_goals (first | refine st ?_ | (refine go2 fun xe hxe=>?_;conv=>whnf) | ((with_reducible refine cnd_i (fun hq=>?_) fun hq=>?_) <;> (try simp only [hqs] at hq) <;> (first | omega | conv=>whnf)))))
 refine at_loop hK [] [1,2,3,4] (fun k:Nat=>⟨[(1,.ptr 4 0),(2,.ptr 5 0),(3,.bool (decide (tsz x < tsz (passTo x k)))),(4,.int .i64 (k:Int))],[(4,.var 27 (wrlA (passTo x k)).cells),(5,.var 27 wZv)],6⟩) (fun k=>k ≤ x.props.length) (fun k=>x.props.length - k) 0 (by omega) (by simp only [passTo,Nat.lt_irrefl,decide_false];rfl) ?_
 intro k hk
 have hpc:=passTo_com x k
 have hpo:=passTo_ok hx k
 have hple:=passTo_le hx k
 have hps:passTo x (k + 1) = delTo (passTo x k) k (passTo x k).com.length:=rfl
 by_cases hlt:k < x.props.length
 ·generalize passTo x k = y at *
  have hyl:y.props.length = x.props.length:=by rw [hpc.2]
  have hyc:y.com.length = x.com.length:=by rw [hpc.1]
  (repeat (any_goals (first | refine st ?_ | (refine go2 fun xe hxe=>?_;conv=>whnf) | ((with_reducible refine cnd_i (fun hq=>?_) fun hq=>?_) <;> (try simp only [hqs] at hq) <;> (first | omega | conv=>whnf)))))
  refine at_loop hK [] [1,2,3,4,5] (fun m:Nat=>⟨[(1,.ptr 4 0),(2,.ptr 5 0),(3,.bool (decide (tsz x < tsz (delTo y k m)))),(4,.int .i64 (k:Int)),(5,.int .i64 (m:Int))],[(4,.var 27 (wrlA (delTo y k m)).cells),(5,.var 27 wZv)],6⟩) (fun m=>m ≤ y.com.length) (fun m=>y.com.length - m) 0 (by omega) rfl ?_
  intro m hm
  have hdc:=delTo_com y k m
  have hdo:=delTo_ok hpo k m
  have hdle:=delTo_le hpo k m
  have hds:delTo y k (m + 1) = sDel (delTo y k m) m k:=rfl
  by_cases hml:m < y.com.length
  ·generalize delTo y k m = z at *
   have hzc:z.com.length = y.com.length:=by rw [hdc.1]
   have hzv:=hdo.vlen
   have hS:=sdel_c z m k hdo
   have hxv:z.views[m]? = some (view z m):=by
    unfold view
    rw [Int.toNat_natCast,List.getD_eq_getElem?_getD,List.getElem?_eq_getElem (show m < z.views.length by omega)]
    rfl
   have hgl:=hdo.vl _ (List.mem_of_getElem? hxv)
   have hso:=sDel_ok hdo m k
   have hsc:=sDel_com z m k
   have hsv:=hso.vlen
   rcases sDel_cases hdo m k with ⟨e1,e2⟩ | ⟨e1,e2⟩
   ·rw [e2] at hS hds
    generalize view z m = g at *
    by_cases hmo:tsz x < tsz z
    ·rw [decide_eq_true hmo]
     (repeat (any_goals (first | refine st ?_ | (refine go2 fun xe hxe=>?_;conv=>whnf) | ((with_reducible refine cnd_i (fun hq=>?_) fun hq=>?_) <;> (try simp only [hqs] at hq) <;> (first | omega | conv=>whnf)) | refine cr (hS) ?_)))
     exact ⟨m + 1,by omega,by omega,by rw [hds,decide_eq_true hmo];rfl⟩
    ·rw [decide_eq_false hmo]
     (repeat (any_goals (first | refine st ?_ | (refine go2 fun xe hxe=>?_;conv=>whnf) | ((with_reducible refine cnd_i (fun hq=>?_) fun hq=>?_) <;> (try simp only [hqs] at hq) <;> (first | omega | conv=>whnf)) | refine cr (hS) ?_)))
     exact ⟨m + 1,by omega,by omega,by rw [hds,decide_eq_false hmo,decide_eq_false (Int.lt_irrefl _)];rfl⟩
   ·have hxv2:=sDel_view hdo e1
    rw [Int.toNat_natCast] at hxv2
    have hil:=insV_len (view z m) (prop z k).v
    have hmo2:tsz x < tsz (sDel z m k):=by omega
    generalize sDel z m k = z2 at *
    generalize insV (view z m) (prop z k).v = g2 at *
    generalize view z m = g at *
    by_cases hmo:tsz x < tsz z
    ·rw [decide_eq_true hmo]
     (repeat (any_goals (first | refine st ?_ | (refine go2 fun xe hxe=>?_;conv=>whnf) | ((with_reducible refine cnd_i (fun hq=>?_) fun hq=>?_) <;> (try simp only [hqs] at hq) <;> (first | omega | conv=>whnf)) | refine cr (hS) ?_)))
     exact ⟨m + 1,by omega,by omega,by rw [hds,decide_eq_true hmo2];rfl⟩
    ·rw [decide_eq_false hmo]
     have hlt2:(g.length:Int) < g2.length:=by omega
     (repeat (any_goals (first | refine st ?_ | (refine go2 fun xe hxe=>?_;conv=>whnf) | ((with_reducible refine cnd_i (fun hq=>?_) fun hq=>?_) <;> (try simp only [hqs] at hq) <;> (first | omega | conv=>whnf)) | refine cr (hS) ?_)))
     exact ⟨m + 1,by omega,by omega,by rw [hds,decide_eq_true hmo2,decide_eq_true hlt2];rfl⟩
  ·obtain rfl:m = y.com.length:=by omega
   rw [← hps]
   have hc2:(passTo x (k + 1)).com.length = y.com.length:=by rw [hps,hdc.1]
   generalize hz:passTo x (k + 1) = z at *
   (repeat (any_goals (first | refine st ?_ | (refine go2 fun xe hxe=>?_;conv=>whnf) | ((with_reducible refine cnd_i (fun hq=>?_) fun hq=>?_) <;> (try simp only [hqs] at hq) <;> (first | omega | conv=>whnf)))))
   exact ⟨k + 1,by omega,by omega,by rw [hz];rfl⟩
 ·obtain rfl:k = x.props.length:=by omega
  have hpa:passTo x x.props.length = pass x:=rfl
  rw [hpa] at hpc hpo hple
  rw [hpa]
  clear hpa hps
  have hyl:(pass x).props.length = x.props.length:=by rw [hpc.2]
  have htl:=tsz_le hpo
  have htx:=tsz_le hx
  have e1:tsz x < tsz (pass x) → sSpr x = sSpr (pass x):=fun hh=>by
   rw [sSpr]
   exact dif_pos ⟨hh,htl⟩
  have e2:¬ tsz x < tsz (pass x) → sSpr x = pass x:=fun hh=>by
   rw [sSpr]
   exact dif_neg fun h9=>hh h9.1
  generalize pass x = z at *
  (repeat (any_goals (first | refine st ?_ | (refine go2 fun xe hxe=>?_;conv=>whnf) | ((with_reducible refine cnd_i (fun hq=>?_) fun hq=>?_) <;> (try simp only [hqs] at hq) <;> (first | omega | conv=>whnf)))))
  refine ⟨(decide (tsz x < tsz z),z),⟨hpo,fun hh=>?_,fun hh=>?_⟩,?_,rfl⟩
  ·rw [← hbt,e1 (of_decide_eq_true hh)]
  ·rw [← hbt,e2 (of_decide_eq_false hh)]
  ·dsimp only
   split
   ·rename_i hh
    have:=of_decide_eq_true hh
    simp only [if_true]
    omega
   ·simp only [if_true]
    omega
theorem svts_c (w:Wrl) (h:WOK w):ConV Tryz.prog 55 [wrlA w] [] (wrlA (sVts w)) []:=by
 have h7:=h.len
 have hpl:=h.plen
 refine con_eq Θ_ok Tryz.func55 rfl rfl true 0 4 rfl rfl rfl rfl fun K hK hb1 hb2=>?_;simp only [argsV,enc,Nat.reduceAdd]
 clear hb1 hb2
 (repeat (any_goals (first | refine st ?_ | (refine go2 fun xe hxe=>?_;conv=>whnf) | ((with_reducible refine cnd_i (fun hq=>?_) fun hq=>?_) <;> (try simp only [hqs] at hq) <;> (first | omega | conv=>whnf)))))
 refine at_loop hK [] [1,2,3] (fun k:Nat=>⟨[(1,.ptr 4 0),(2,.ptr 5 0),(3,.int .i64 (k:Int))],[(4,.var 27 (wrlA (votsTo w k)).cells),(5,.var 27 wZv)],6⟩) (fun k=>k ≤ w.props.length) (fun k=>w.props.length - k) 0 (by omega) rfl ?_
 intro k hk
 have hpc:=votsTo_com w k
 have hpo:=votsTo_ok h k
 have hps:votsTo w (k + 1) = votTo (votsTo w k) k (votsTo w k).com.length:=rfl
 by_cases hlt:k < w.props.length
 ·generalize votsTo w k = y at *
  have hyc:y.com.length = w.com.length:=by rw [hpc.1]
  (repeat (any_goals (first | refine st ?_ | (refine go2 fun xe hxe=>?_;conv=>whnf) | ((with_reducible refine cnd_i (fun hq=>?_) fun hq=>?_) <;> (try simp only [hqs] at hq) <;> (first | omega | conv=>whnf)))))
  refine at_loop hK [] [1,2,3,4] (fun m:Nat=>⟨[(1,.ptr 4 0),(2,.ptr 5 0),(3,.int .i64 (k:Int)),(4,.int .i64 (m:Int))],[(4,.var 27 (wrlA (votTo y k m)).cells),(5,.var 27 wZv)],6⟩) (fun m=>m ≤ y.com.length) (fun m=>y.com.length - m) 0 (by omega) rfl ?_
  intro m hm
  have hdc:=votTo_com y k m
  have hdo:=votTo_ok hpo k m
  have hds:votTo y k (m + 1) = sVot (votTo y k m) m k:=rfl
  by_cases hml:m < y.com.length
  ·generalize votTo y k m = z at *
   have hzc:z.com.length = y.com.length:=by rw [hdc.1]
   have hS:=svot_c z m k hdo
   generalize sVot z m k = z2 at *
   (repeat (any_goals (first | refine st ?_ | (refine go2 fun xe hxe=>?_;conv=>whnf) | ((with_reducible refine cnd_i (fun hq=>?_) fun hq=>?_) <;> (try simp only [hqs] at hq) <;> (first | omega | conv=>whnf)) | refine cr (hS) ?_)))
   exact ⟨m + 1,by omega,by omega,by rw [hds];rfl⟩
  ·obtain rfl:m = y.com.length:=by omega
   rw [← hps]
   have hc2:(votsTo w (k + 1)).com.length = y.com.length:=by rw [hps,hdc.1]
   generalize hz:votsTo w (k + 1) = z at *
   (repeat (any_goals (first | refine st ?_ | (refine go2 fun xe hxe=>?_;conv=>whnf) | ((with_reducible refine cnd_i (fun hq=>?_) fun hq=>?_) <;> (try simp only [hqs] at hq) <;> (first | omega | conv=>whnf)))))
   exact ⟨k + 1,by omega,by omega,by rw [hz];rfl⟩
 ·obtain rfl:k = w.props.length:=by omega
  have hpa:votsTo w w.props.length = sVts w:=rfl
  rw [hpa] at hpc hpo
  rw [hpa]
  clear hpa hps
  have hyl:=hpc.2
  generalize sVts w = z at *
  (repeat (any_goals (first | refine st ?_ | (refine go2 fun xe hxe=>?_;conv=>whnf) | ((with_reducible refine cnd_i (fun hq=>?_) fun hq=>?_) <;> (try simp only [hqs] at hq) <;> (first | omega | conv=>whnf)))))
  exact ⟨rfl,rfl⟩
theorem scpy_c (w:Wrl) (h:WOK w):ConV Tryz.prog 57 [wrlA w] [] (wrlA w) []:=by
 have h7:=h.len
 have hvl:=h.vlen
 have hpl:=h.plen
 have hll:=(leaS_iff.1 h.lead).2
 refine con_eq Θ_ok Tryz.func57 rfl rfl true 0 4 rfl rfl rfl rfl fun K hK hb1 hb2=>?_;simp only [argsV,enc,Nat.reduceAdd]
 clear hb1 hb2
 (repeat (any_goals (first | refine st ?_ | (refine go2 fun xe hxe=>?_;conv=>whnf) | ((with_reducible refine cnd_i (fun hq=>?_) fun hq=>?_) <;> (try simp only [hqs] at hq) <;> (first | omega | conv=>whnf)))))
 refine at_loop hK [] [1,2,3,4] (fun i:Nat=>⟨[(1,.ptr 4 0),(2,.ptr 5 0),(3,.ptr 6 0),(4,.int .i64 (i:Int))],[(4,.var 27 (wrlA w).cells),(5,.var 27 wZv),(6,.var 27 [.ref 7,.ref 8,.int .i64 w.bad,.ref 9,.ref 10]),(7,.row 3 (.int .i64) w.com),(8,.row 3 (.int .i64) w.lead),(9,.row 33 (.lst .vtx) (w.views.take i)),(10,.row 41 .ppl [])],11⟩) (fun i=>i ≤ w.views.length) (fun i=>w.views.length - i) 0 (by omega) rfl ?_
 intro i hi
 by_cases hlt:i < w.views.length
 ·have hxe:w.views[i]? = some w.views[i]:=List.getElem?_eq_getElem hlt
  have hsn:w.views.take (i + 1) = w.views.take i ++ [w.views[i]]:=List.take_succ_eq_append_getElem hlt
  have hgm:=List.getElem_mem hlt
  have hC:=scopy_c w.views[i] (by have:=h.vl _ hgm;omega) fun v hv=>by have:=h.par (h.vv _ hgm v hv);omega
  have hl1:(w.views.take i).length = i:=by rw [List.length_take];omega
  generalize w.views[i] = g at *
  generalize w.views.take i = l at *
  (repeat (any_goals (first | refine st ?_ | (refine go2 fun xe hxe=>?_;conv=>whnf) | ((with_reducible refine cnd_i (fun hq=>?_) fun hq=>?_) <;> (try simp only [hqs] at hq) <;> (first | omega | conv=>whnf)) | refine cr (hC) ?_)))
  exact ⟨i + 1,by omega,by omega,by rw [hsn];rfl⟩
 rw [List.take_of_length_le (by omega)]
 (repeat (any_goals (first | refine st ?_ | (refine go2 fun xe hxe=>?_;conv=>whnf) | ((with_reducible refine cnd_i (fun hq=>?_) fun hq=>?_) <;> (try simp only [hqs] at hq) <;> (first | omega | conv=>whnf)))))
 refine at_loop hK [] [1,2,3,5] (fun i:Nat=>⟨[(1,.ptr 4 0),(2,.ptr 5 0),(3,.ptr 6 0),(5,.int .i64 (i:Int))],[(4,.var 27 (wrlA w).cells),(5,.var 27 wZv),(6,.var 27 [.ref 7,.ref 8,.int .i64 w.bad,.ref 9,.ref 10]),(7,.row 3 (.int .i64) w.com),(8,.row 3 (.int .i64) w.lead),(9,.row 33 (.lst .vtx) w.views),(10,.row 41 .ppl (w.props.take i))],11⟩) (fun i=>i ≤ w.props.length) (fun i=>w.props.length - i) 0 (by omega) rfl ?_
 intro k hk
 by_cases hkl:k < w.props.length
 ·have hxe:w.props[k]? = some w.props[k]:=List.getElem?_eq_getElem hkl
  have hsn:w.props.take (k + 1) = w.props.take k ++ [w.props[k]]:=List.take_succ_eq_append_getElem hkl
  have hpm:=List.getElem_mem hkl
  have hC:=sone_c w.props[k].v (by have:=h.par (h.pv _ hpm).1;omega)
  have hm:=h.mem _ hpm
  have hl1:(w.props.take k).length = k:=by rw [List.length_take];omega
  generalize w.props[k] = p at *
  generalize w.props.take k = l at *
  (repeat (any_goals (first | refine st ?_ | (refine go2 fun xe hxe=>?_;conv=>whnf) | ((with_reducible refine cnd_i (fun hq=>?_) fun hq=>?_) <;> (try simp only [hqs] at hq) <;> (first | omega | conv=>whnf)) | refine cr (hC) ?_)))
  exact ⟨k + 1,by omega,by omega,by rw [hsn];rfl⟩
 ·(repeat (any_goals (first | refine st ?_ | (refine go2 fun xe hxe=>?_;conv=>whnf) | ((with_reducible refine cnd_i (fun hq=>?_) fun hq=>?_) <;> (try simp only [hqs] at hq) <;> (first | omega | conv=>whnf)))))
  rw [List.take_of_length_le (by omega)]
  exact ⟨rfl,rfl⟩
theorem wrl_com {w:Wrl} (h:WOK w):w.com.length ≤ 2000000:=by have:=h.len;omega
theorem scalm_c (w:Wrl) (r:Nat) (h:WOK w) (hr:r ≤ 12):ConV Tryz.prog 12 [wrlA w,.int .i64 (r:Int)] [] (wrlA (calmTo w r)) []:=by
 have hV:=swV_c w (wrl_com h)
 rw [wok_iff.2 h] at hV
 have hI:=in_c (r:Int) 0 12
 rw [vIn_iff.2 (by omega)] at hI
 have hS:=sspr_c w h
 refine con_eq Θ_ok Tryz.func12 rfl rfl true 0 4 rfl rfl rfl rfl fun K hK hb1 hb2=>?_;simp only [argsV,enc,Nat.reduceAdd]
 clear hb1 hb2
 (repeat (any_goals (first | refine st ?_ | (refine go2 fun xe hxe=>?_;conv=>whnf) | ((with_reducible refine cnd_i (fun hq=>?_) fun hq=>?_) <;> (try simp only [hqs] at hq) <;> (first | omega | conv=>whnf)) | refine cr (hV) ?_ | refine cr (hI) ?_ | refine cr (hS) ?_)))
 refine at_loop hK [] [1,2,4,5] (fun k:Nat=>⟨[(1,.int .i64 (r:Int)),(2,.ptr 4 0),(4,.ptr 5 0),(5,.int .i64 (k:Int))],[(4,.var 27 (wrlA (calmTo w k)).cells),(5,.var 27 wZv)],6⟩) (fun k=>k ≤ r) (fun k=>r - k) 0 (by omega) rfl ?_
 intro k hk
 have hco:=calmTo_ok h k
 have hcs:calmTo w (k + 1) = rnd1 (prpTo (rnd1 (calmTo w k)) k (rnd1 (calmTo w k)).com.length):=rfl
 by_cases hlt:k < r
 ·generalize calmTo w k = x at *
  have h1:=svts_c x hco
  have h2:=sspr_c (sVts x) (votsTo_ok hco _)
  have hr1:sSpr (sVts x) = rnd1 x:=rfl
  have hro:=rnd1_ok hco
  rw [hr1] at h2
  generalize sVts x = x1 at *
  generalize rnd1 x = y at *
  (repeat (any_goals (first | refine st ?_ | (refine go2 fun xe hxe=>?_;conv=>whnf) | ((with_reducible refine cnd_i (fun hq=>?_) fun hq=>?_) <;> (try simp only [hqs] at hq) <;> (first | omega | conv=>whnf)) | refine cr (h1) ?_ | refine cr (h2) ?_)))
  refine at_loop hK [] [1,2,4,5,6] (fun m:Nat=>⟨[(1,.int .i64 (r:Int)),(2,.ptr 4 0),(4,.ptr 5 0),(5,.int .i64 (k:Int)),(6,.int .i64 (m:Int))],[(4,.var 27 (wrlA (prpTo y k m)).cells),(5,.var 27 wZv)],6⟩) (fun m=>m ≤ y.com.length) (fun m=>y.com.length - m) 0 (by omega) rfl ?_
  intro m hm
  have hdc:=prpTo_com y k m
  have hdo:=prpTo_ok hro k m
  have hyl:=hro.len
  have hds:prpTo y k (m + 1) = sPrp (prpTo y k m) m (7 * k + m):=rfl
  by_cases hml:m < y.com.length
  ·generalize prpTo y k m = z at *
   have hzc:z.com.length = y.com.length:=by rw [hdc]
   have hP:=sprp_c z m (7 * k + m) hdo
   generalize sPrp z m (7 * k + m) = z2 at *
   (repeat (any_goals (first | refine st ?_ | (refine go2 fun xe hxe=>?_;conv=>whnf) | ((with_reducible refine cnd_i (fun hq=>?_) fun hq=>?_) <;> (try simp only [hqs] at hq) <;> (first | omega | conv=>whnf)) | refine cr (hP) ?_)))
   exact ⟨m + 1,by omega,by omega,by rw [hds];rfl⟩
  ·obtain rfl:m = y.com.length:=by omega
   have hzc:(prpTo y k y.com.length).com.length = y.com.length:=by rw [hdc]
   generalize prpTo y k y.com.length = z at *
   have h3:=svts_c z hdo
   have h4:=sspr_c (sVts z) (votsTo_ok hdo _)
   have hr2:sSpr (sVts z) = rnd1 z:=rfl
   rw [hr2] at h4
   generalize sVts z = z1 at *
   generalize rnd1 z = z2 at *
   (repeat (any_goals (first | refine st ?_ | (refine go2 fun xe hxe=>?_;conv=>whnf) | ((with_reducible refine cnd_i (fun hq=>?_) fun hq=>?_) <;> (try simp only [hqs] at hq) <;> (first | omega | conv=>whnf)) | refine cr (h3) ?_ | refine cr (h4) ?_)))
   exact ⟨k + 1,by omega,by omega,by rw [hcs];rfl⟩
 ·obtain rfl:k = r:=by omega
  have hC:=scpy_c (calmTo w k) hco
  generalize calmTo w k = x at *
  (repeat (any_goals (first | refine st ?_ | (refine go2 fun xe hxe=>?_;conv=>whnf) | ((with_reducible refine cnd_i (fun hq=>?_) fun hq=>?_) <;> (try simp only [hqs] at hq) <;> (first | omega | conv=>whnf)) | refine cr (hC) ?_)))
  exact ⟨rfl,rfl⟩
end Go.Proofs.YtjjddgpdoibcoaaGreatDoor.Am
namespace Go.Proofs.YtjjddgpdoibcoaaGreatDoor.Am
open Go
attribute [local irreducible] Mk Need Ari Get Idx Cnd CallM CallA Opt Unch At ConV
set_option maxRecDepth 10000
theorem rd0w {c:List Int} (h:∀ x ∈ c,0 ≤ x ∧ x ≤ 255):rdOK (c.take 2000) 0:=⟨by rw [List.length_take];omega,fun x hx=>h x (List.mem_of_mem_take hx),by omega,by omega⟩
end Go.Proofs.YtjjddgpdoibcoaaGreatDoor.Am
namespace Go.Proofs.YtjjddgpdoibcoaaGreatDoor.Am
open Go
attribute [local irreducible] Mk Need Ari Get Idx Cnd CallM CallA Opt Unch At ConV
set_option maxRecDepth 10000
theorem newS_bad {c l:List Int} (hc:comV c = true) (hl:leaS c l = true):newS c l (-1) = true:=by
 have:badS c (-1) = true:=badS_iff.2 (.inl rfl)
 simp [newS,hc,hl,this]
theorem new_ok {c l:List Int} {b:Int} (h:newS c l b = true):WOK (newW c l b):=wok_iff.1 (wrl_new h)
theorem dbeg_c (b:List Int) (p:Int) (h:rdOK b 0) (hp:0 ≤ p ∧ p ≤ 900000):∃ x:Wrl × Int,(p ≤ x.2 ∧ x.2 ≤ p + 60 ∧ WOK x.1) ∧ ConV Tryz.prog 73 [.ptr 4 0] [(4,rdB b p)] (wrlA x.1) [(4,rdB b x.2)]:=by
 obtain ⟨⟨c,q⟩,⟨h1,h2,h3⟩,hg⟩:=dgood_c b p h (by omega)
 dsimp only at h1 h2 h3 hg
 have h7:=(comV_iff.1 h3).2
 suffices hs:∃ r hout,(∃ x:Wrl × Int,(p ≤ x.2 ∧ x.2 ≤ p + 60 ∧ WOK x.1) ∧ r = wrlA x.1 ∧ hout = [(4,rdB b x.2)]) ∧ ConV Tryz.prog 73 [.ptr 4 0] [(4,rdB b p)] r hout by
  obtain ⟨r,hout,⟨v,hv,rfl,rfl⟩,h⟩:=hs
  exact ⟨v,hv,h⟩
 have h0:WOK (newW c [] (-1)):=new_ok (newS_bad h3 rfl)
 refine con_ex Θ_ok Tryz.func73 rfl rfl true 1 5 rfl rfl rfl rfl (R:=fun r hout=>∃ x:Wrl × Int,(p ≤ x.2 ∧ x.2 ≤ p + 60 ∧ WOK x.1) ∧ r = wrlA x.1 ∧ hout = [(4,rdB b x.2)]) (r0:=wrlA (newW c [] (-1))) (hout0:=[(4,rdB b p)]) (⟨(newW c [] (-1),p),⟨by dsimp only;omega,by dsimp only;omega,h0⟩,rfl,rfl⟩) fun K hK hb1 hb2=>?_;simp only [argsV,enc,Nat.reduceAdd]
 clear hb1 hb2
 (repeat (any_goals (first | refine st ?_ | (refine go2 fun xe hxe=>?_;conv=>whnf) | ((with_reducible refine cnd_i (fun hq=>?_) fun hq=>?_) <;> (try simp only [hqs] at hq) <;> (first | omega | conv=>whnf)) | refine co (hg) ?_)))
 refine at_loop hK [] [0,2,3,4,5] (fun i:Nat × List Int × Int=>⟨[(0,.ptr 4 0),(2,.ptr 5 0),(3,.lst (.int .i64) c),(4,.ref 6),(5,.int .i64 i.1)],[(4,rdB b i.2.2),(5,.var 27 wZv),(6,.row 3 (.int .i64) i.2.1)],7⟩)
  (fun i=>i.1 ≤ 11 ∧ i.2.1.length = i.1 ∧ i.2.2 = q + 2 * i.1 ∧ ∀ x ∈ i.2.1,0 ≤ x ∧ x < c.length) (fun i=>12 - i.1) (0,[],q) (by simp) rfl ?_
 rintro ⟨i,l,q2⟩ ⟨hi1,hi2,hi3,hi4⟩
 dsimp only at hi1 hi2 hi3 hi4 ⊢
 have hle:leaS c l = true:=leaS_iff.2 ⟨hi4,by omega⟩
 (repeat (any_goals (first | refine st ?_ | (refine go2 fun xe hxe=>?_;conv=>whnf) | ((with_reducible refine cnd_i (fun hq=>?_) fun hq=>?_) <;> (try simp only [hqs] at hq) <;> (first | omega | conv=>whnf)) | ((with_reducible refine call_r ?_);(conv=>whnf);(first | refine call_ex (pk_c b _ _ h (by omega) (by omega)) fun xv hxv=>?_);conv=>whnf))))
 ·exact ⟨(i + 1,l ++ [xv],q2 + 1 + 1),⟨by dsimp only;omega,by simp;omega,by dsimp only;omega,fun x hx=>by
   rcases List.mem_append.1 hx with hx | hx
   ·exact hi4 x hx
   ·rw [List.mem_singleton.1 hx];omega⟩,by dsimp only;omega,rfl⟩
 ·have hN:=snew_c c l (xv - 1) (by omega)
  cases hn:newS c l (xv - 1)
  ·rw [hn] at hN
   simp only [Bool.false_eq_true,if_false] at hN
   have hN2:=snew_c c l (-1) (by omega)
   rw [newS_bad h3 hle] at hN2
   simp only [if_true] at hN2
   (repeat (any_goals (first | refine st ?_ | (refine go2 fun xe hxe=>?_;conv=>whnf) | ((with_reducible refine cnd_i (fun hq=>?_) fun hq=>?_) <;> (try simp only [hqs] at hq) <;> (first | omega | conv=>whnf)) | refine cr (hN) ?_ | refine cr (hN2) ?_)))
   exact ⟨(newW c l (-1),q2 + 1 + 1),⟨by dsimp only;omega,by dsimp only;omega,new_ok (newS_bad h3 hle)⟩,rfl,rfl⟩
  ·rw [hn] at hN
   simp only [if_true] at hN
   (repeat (any_goals (first | refine st ?_ | (refine go2 fun xe hxe=>?_;conv=>whnf) | ((with_reducible refine cnd_i (fun hq=>?_) fun hq=>?_) <;> (try simp only [hqs] at hq) <;> (first | omega | conv=>whnf)) | refine cr (hN) ?_)))
   exact ⟨(newW c l (xv - 1),q2 + 1 + 1),⟨by dsimp only;omega,by dsimp only;omega,new_ok hn⟩,rfl,rfl⟩
def e0:Evt:=⟨0,0,0,v0⟩
abbrev evtZ (z:Bool) (e:Evt):V:=if z then .agg [.int .i64 e.kind,.int .i64 e.a,.int .i64 e.b,.int .i64 e.v.round,.int .i64 e.v.author,.nils,.int .i64 e.v.digest] else evtA e
def evtS (b:List Int) (q:Int) (k a c r u d:Int) (l:List Int):Nat → VSt
 | 0=>⟨[(0,.ptr 4 0),(4,.ptr 5 0),(7,.ptr 6 0)],[(4,rdB b q),(5,.var 60 [.int .i64 0,.int .i64 0,.int .i64 0,.int .i64 0,.int .i64 0,.nils,.int .i64 0]),(6,.var 60 [.int .i64 k,.int .i64 a,.int .i64 c,.int .i64 r,.int .i64 u,.nils,.int .i64 d])],7⟩
 | 1=>⟨[(0,.ptr 4 0),(4,.ptr 5 0),(7,.ptr 6 0)],[(4,rdB b q),(5,.var 60 [.int .i64 0,.int .i64 0,.int .i64 0,.int .i64 0,.int .i64 0,.nils,.int .i64 0]),(6,.var 60 [.int .i64 k,.int .i64 a,.int .i64 c,.int .i64 r,.int .i64 u,.lst (.int .i64) l,.int .i64 d])],7⟩
 | _=>⟨[(0,.ptr 4 0),(4,.ptr 5 0),(7,.ptr 6 0)],[(4,rdB b q),(5,.var 60 [.int .i64 0,.int .i64 0,.int .i64 0,.int .i64 0,.int .i64 0,.nils,.int .i64 0]),(6,.var 60 [.int .i64 k,.int .i64 a,.int .i64 c,.int .i64 r,.int .i64 u,.ref 7,.int .i64 d]),(7,.row 3 (.int .i64) l)],8⟩
def evtF (b:List Int) (x:(Int × Int × Int × Int) × Int × Int × Int × List Int × Nat):VSt:=evtS b x.2.1 x.1.1 x.1.2.1 x.1.2.2.1 x.1.2.2.2 x.2.2.1 x.2.2.2.1 x.2.2.2.2.1 x.2.2.2.2.2
theorem evt_k0 {b:List Int} {q k a c r u d:Int} {p:(Int × Int × Int × Int) × Int × Int × Int × List Int × Nat → Prop} (hp:p ((k,a,c,r),q,u,d,[],0)):∃ x,p x ∧ (⟨[(0,.ptr 4 0),(4,.ptr 5 0),(7,.ptr 6 0)],[(4,rdB b q),(5,.var 60 [.int .i64 0,.int .i64 0,.int .i64 0,.int .i64 0,.int .i64 0,.nils,.int .i64 0]),(6,.var 60 [.int .i64 k,.int .i64 a,.int .i64 c,.int .i64 r,.int .i64 u,.nils,.int .i64 d])],7⟩:VSt) = evtF b x:=⟨_,hp,rfl⟩
theorem evt_k1 {b:List Int} {q k a c r u d:Int} {l:List Int} {p:(Int × Int × Int × Int) × Int × Int × Int × List Int × Nat → Prop} (hp:p ((k,a,c,r),q,u,d,l,1)):∃ x,p x ∧ (⟨[(0,.ptr 4 0),(4,.ptr 5 0),(7,.ptr 6 0)],[(4,rdB b q),(5,.var 60 [.int .i64 0,.int .i64 0,.int .i64 0,.int .i64 0,.int .i64 0,.nils,.int .i64 0]),(6,.var 60 [.int .i64 k,.int .i64 a,.int .i64 c,.int .i64 r,.int .i64 u,.lst (.int .i64) l,.int .i64 d])],7⟩:VSt) = evtF b x:=⟨_,hp,rfl⟩
theorem evt_k2 {b:List Int} {q k a c r u d:Int} {l:List Int} {p:(Int × Int × Int × Int) × Int × Int × Int × List Int × Nat → Prop} (hp:p ((k,a,c,r),q,u,d,l,2)):∃ x,p x ∧ (⟨[(0,.ptr 4 0),(4,.ptr 5 0),(7,.ptr 6 0)],[(4,rdB b q),(5,.var 60 [.int .i64 0,.int .i64 0,.int .i64 0,.int .i64 0,.int .i64 0,.nils,.int .i64 0]),(6,.var 60 [.int .i64 k,.int .i64 a,.int .i64 c,.int .i64 r,.int .i64 u,.ref 7,.int .i64 d]),(7,.row 3 (.int .i64) l)],8⟩:VSt) = evtF b x:=⟨_,hp,rfl⟩
set_option maxHeartbeats 4000000 in
theorem devt_c (b:List Int) (p:Int) (w:Wrl) (h:rdOK b 0) (hp:0 ≤ p ∧ p ≤ 900000) (hw:WOK w):∃ x:(Bool × Evt) × Int,(p ≤ x.2 ∧ x.2 ≤ p + 60 ∧ x.1.2.v.parents.length ≤ 30 ∧ (x.1.1 = true → x.1.2.v.parents = [])) ∧ ConV Tryz.prog 74 [.ptr 4 0,wrlA w] [(4,rdB b p)] (evtZ x.1.1 x.1.2) [(4,rdB b x.2)]:=by
 have h7:=hw.len
 have hpl:=hw.plen
 have hbd:=badS_iff.1 hw.bad
 suffices hs:∃ r hout,(∃ x:(Bool × Evt) × Int,(p ≤ x.2 ∧ x.2 ≤ p + 60 ∧ x.1.2.v.parents.length ≤ 30 ∧ (x.1.1 = true → x.1.2.v.parents = [])) ∧ r = evtZ x.1.1 x.1.2 ∧ hout = [(4,rdB b x.2)]) ∧ ConV Tryz.prog 74 [.ptr 4 0,wrlA w] [(4,rdB b p)] r hout by
  obtain ⟨r,hout,⟨v,hv,rfl,rfl⟩,h⟩:=hs
  exact ⟨v,hv,h⟩
 refine con_ex Θ_ok Tryz.func74 rfl rfl true 1 5 rfl rfl rfl rfl (R:=fun r hout=>∃ x:(Bool × Evt) × Int,(p ≤ x.2 ∧ x.2 ≤ p + 60 ∧ x.1.2.v.parents.length ≤ 30 ∧ (x.1.1 = true → x.1.2.v.parents = [])) ∧ r = evtZ x.1.1 x.1.2 ∧ hout = [(4,rdB b x.2)]) (r0:=evtZ true e0) (hout0:=[(4,rdB b p)]) (⟨((true,e0),p),⟨by dsimp only;omega,by dsimp only;omega,by simp [e0,v0],fun _=>rfl⟩,rfl,rfl⟩) fun K hK hb1 hb2=>?_;simp only [argsV,enc,Nat.reduceAdd]
 clear hb1 hb2
 (repeat (any_goals (first | refine stn ?_ | (refine go2 fun xe hxe=>?_;conv=>whnf) | ((with_reducible refine cnd_i (fun hq=>?_) fun hq=>?_) <;> (try simp only [hqs] at hq) <;> (first | omega | conv=>whnf)) | ((with_reducible refine call_r ?_);(conv=>whnf);(first | refine call_ex (pk_c b _ _ h (by omega) (by omega)) fun xv hxv=>?_);conv=>whnf))))
 refine at_then hK [] [0,4,7] (evtF b) (fun x=>(p ≤ x.2.1 ∧ x.2.1 ≤ p + 50 ∧ x.2.2.2.2.1.length ≤ 30)) ?_ ?_
 ·(repeat (any_goals (first | refine st ?_ | (refine go2 fun xe hxe=>?_;conv=>whnf) | ((with_reducible refine cnd_i (fun hq=>?_) fun hq=>?_) <;> (try simp only [hqs] at hq) <;> (first | omega | conv=>whnf)) | ((with_reducible refine call_r ?_);(conv=>whnf);(first | refine call_ex (pk_c b _ _ h (by omega) (by omega)) fun xv hxv=>?_ | refine call_ex (ddig_c b _ h (by omega)) fun xv hxv=>?_ | refine call_ex (dmem_c b _ _ h (by omega) (by omega)) fun xv hxv=>?_);conv=>whnf))))
  all_goals first
   | (refine evt_k0 ⟨?_,?_,?_⟩ <;> first | (dsimp only;omega) | simp;done)
   | (refine evt_k1 ⟨?_,?_,?_⟩ <;> first | (dsimp only;omega) | simp;done)
   | (refine evt_k2 ⟨?_,?_,?_⟩ <;> first | (dsimp only;omega) | simp;done)
 ·rintro ⟨⟨k,a,c,r⟩,q,u,d,l,z⟩ ⟨hq1,hq2,hq3⟩
  dsimp only [evtF] at hq1 hq2 hq3 ⊢
  match z with
  | 0=>
   have hs0:evtS b q k a c r u d l 0 = ⟨[(0,.ptr 4 0),(4,.ptr 5 0),(7,.ptr 6 0)],[(4,rdB b q),(5,.var 60 [.int .i64 0,.int .i64 0,.int .i64 0,.int .i64 0,.int .i64 0,.nils,.int .i64 0]),(6,.var 60 [.int .i64 k,.int .i64 a,.int .i64 c,.int .i64 r,.int .i64 u,.nils,.int .i64 d])],7⟩:=rfl
   rw [hs0]
   (repeat (any_goals (first | refine st ?_ | (refine go2 fun xe hxe=>?_;conv=>whnf) | ((with_reducible refine cnd_i (fun hq=>?_) fun hq=>?_) <;> (try simp only [hqs] at hq) <;> (first | omega | conv=>whnf)) | ((with_reducible refine call_r ?_);(conv=>whnf);(first | refine call_ex (pk_c b _ _ h (by omega) (by omega)) fun xv hxv=>?_);conv=>whnf))))
   all_goals exact ⟨((true,⟨_,_,_,⟨_,_,[],_⟩⟩),_),⟨by dsimp only;omega,by dsimp only;omega,by simp,fun h=>by rfl⟩,rfl,rfl⟩
  | 1=>
   have hs0:evtS b q k a c r u d l 1 = ⟨[(0,.ptr 4 0),(4,.ptr 5 0),(7,.ptr 6 0)],[(4,rdB b q),(5,.var 60 [.int .i64 0,.int .i64 0,.int .i64 0,.int .i64 0,.int .i64 0,.nils,.int .i64 0]),(6,.var 60 [.int .i64 k,.int .i64 a,.int .i64 c,.int .i64 r,.int .i64 u,.lst (.int .i64) l,.int .i64 d])],7⟩:=rfl
   rw [hs0]
   (repeat (any_goals (first | refine st ?_ | (refine go2 fun xe hxe=>?_;conv=>whnf) | ((with_reducible refine cnd_i (fun hq=>?_) fun hq=>?_) <;> (try simp only [hqs] at hq) <;> (first | omega | conv=>whnf)) | ((with_reducible refine call_r ?_);(conv=>whnf);(first | refine call_ex (pk_c b _ _ h (by omega) (by omega)) fun xv hxv=>?_);conv=>whnf))))
   all_goals exact ⟨((false,⟨_,_,_,⟨_,_,l,_⟩⟩),_),⟨by dsimp only;omega,by dsimp only;omega,by dsimp only;omega,fun h=>by cases h⟩,rfl,rfl⟩
  | n + 2=>
   have hs0:evtS b q k a c r u d l (n + 2) = ⟨[(0,.ptr 4 0),(4,.ptr 5 0),(7,.ptr 6 0)],[(4,rdB b q),(5,.var 60 [.int .i64 0,.int .i64 0,.int .i64 0,.int .i64 0,.int .i64 0,.nils,.int .i64 0]),(6,.var 60 [.int .i64 k,.int .i64 a,.int .i64 c,.int .i64 r,.int .i64 u,.ref 7,.int .i64 d]),(7,.row 3 (.int .i64) l)],8⟩:=rfl
   rw [hs0]
   (repeat (any_goals (first | refine st ?_ | (refine go2 fun xe hxe=>?_;conv=>whnf) | ((with_reducible refine cnd_i (fun hq=>?_) fun hq=>?_) <;> (try simp only [hqs] at hq) <;> (first | omega | conv=>whnf)) | ((with_reducible refine call_r ?_);(conv=>whnf);(first | refine call_ex (pk_c b _ _ h (by omega) (by omega)) fun xv hxv=>?_);conv=>whnf))))
   all_goals exact ⟨((false,⟨_,_,_,⟨_,_,l,_⟩⟩),_),⟨by dsimp only;omega,by dsimp only;omega,by dsimp only;omega,fun h=>by cases h⟩,rfl,rfl⟩
end Go.Proofs.YtjjddgpdoibcoaaGreatDoor.Am
namespace Go.Proofs.YtjjddgpdoibcoaaGreatDoor.Am
open Go
attribute [local irreducible] Mk Need Ari Get Idx Cnd CallM CallA Opt Unch At ConV
set_option maxRecDepth 10000
theorem evtZ_do (w:Wrl) (z:Bool) (e:Evt) (h:WOK w) (hvl:e.v.parents.length ≤ 30) (hz:z = true → e.v.parents = []):ConV Tryz.prog 75 [wrlA w,.agg [.int .i64 e.kind,.int .i64 e.a,.int .i64 e.b,.int .i64 e.v.round,.int .i64 e.v.author,.lst (.int .i64) e.v.parents,.int .i64 e.v.digest]] [] (wrlA (sDo w e)) []:=
 sdo_c w e h (by omega)
set_option maxHeartbeats 1000000 in
theorem dwld_c (b:List Int) (p:Int) (h:rdOK b 0) (hp:0 ≤ p ∧ p ≤ 500000):∃ x:Wrl × Int,(p ≤ x.2 ∧ x.2 ≤ p + 6000 ∧ WOK x.1) ∧ ConV Tryz.prog 45 [.ptr 4 0] [(4,rdB b p)] (wrlA x.1) [(4,rdB b x.2)]:=by
 obtain ⟨⟨w0,q⟩,⟨h1,h2,h3⟩,hB⟩:=dbeg_c b p h (by omega)
 dsimp only at h1 h2 h3 hB
 obtain ⟨m,hm,hmc⟩:=pk_c b q 3 h (by omega) (by omega)
 obtain ⟨r,hr,hrc⟩:=pk_c b (q + 1) 5 h (by omega) (by omega)
 obtain ⟨r,rfl⟩:∃ k:Nat,(k:Int) = r:=⟨r.toNat,by omega⟩
 have hC:=scalm_c w0 r h3 (by omega)
 have hco:=calmTo_ok h3 r
 suffices hs:∃ r hout,(∃ x:Wrl × Int,(p ≤ x.2 ∧ x.2 ≤ p + 6000 ∧ WOK x.1) ∧ r = wrlA x.1 ∧ hout = [(4,rdB b x.2)]) ∧ ConV Tryz.prog 45 [.ptr 4 0] [(4,rdB b p)] r hout by
  obtain ⟨r,hout,⟨v,hv,rfl,rfl⟩,h⟩:=hs
  exact ⟨v,hv,h⟩
 refine con_ex Θ_ok Tryz.func45 rfl rfl true 1 5 rfl rfl rfl rfl (R:=fun r hout=>∃ x:Wrl × Int,(p ≤ x.2 ∧ x.2 ≤ p + 6000 ∧ WOK x.1) ∧ r = wrlA x.1 ∧ hout = [(4,rdB b x.2)]) (r0:=wrlA w0) (hout0:=[(4,rdB b p)]) (⟨(w0,p),⟨by dsimp only;omega,by dsimp only;omega,h3⟩,rfl,rfl⟩) fun K hK hb1 hb2=>?_;simp only [argsV,enc,Nat.reduceAdd]
 clear hb1 hb2
 generalize calmTo w0 r = w1 at *
 have body:∀ (K:Id → Prop) (c:Code) (i:Nat) (w:Wrl) (q2:Int),True:=fun _ _ _ _ _=>trivial
 by_cases hm0:0 < m
 ·(repeat (any_goals (first | refine st ?_ | (refine go2 fun xe hxe=>?_;conv=>whnf) | ((with_reducible refine cnd_i (fun hq=>?_) fun hq=>?_) <;> (try simp only [hqs] at hq) <;> (first | omega | conv=>whnf)) | refine cr (hmc) ?_ | refine cr (hrc) ?_ | refine cr (hC) ?_ | refine co (hB) ?_)))
  refine at_loop hK [] [0,2,3,4] (fun x:Nat × Wrl × Int=>⟨[(0,.ptr 4 0),(2,.ptr 5 0),(3,.ptr 6 0),(4,.int .i64 x.1)],[(4,rdB b x.2.2),(5,.var 27 wZv),(6,.var 27 (wrlA x.2.1).cells)],7⟩)
   (fun x=>x.1 ≤ 69 ∧ WOK x.2.1 ∧ p ≤ x.2.2 ∧ x.2.2 ≤ p + 100 + 61 * x.1) (fun x=>70 - x.1) (0,w1,q + 1 + 1) ⟨by dsimp only;omega,hco,by dsimp only;omega,by dsimp only;omega⟩ rfl ?_
  rintro ⟨i,w,q2⟩ ⟨hi1,hi2,hi3,hi4⟩
  dsimp only at hi1 hi2 hi3 hi4 ⊢
  obtain ⟨n,hn,hnc⟩:=pk_c b q2 70 h (by omega) (by omega)
  obtain ⟨⟨⟨z,e⟩,q3⟩,⟨e1,e2,e3,e4⟩,hE⟩:=devt_c b (q2 + 1) w h (by omega) hi2
  dsimp only at e1 e2 e3 e4 hE
  have hD:=evtZ_do w z e hi2 e3 e4
  have hdo:=sDo_ok hi2 e
  by_cases hlt:(i:Int) < n
  ·cases z with
   | false=>
    have hE:ConV Tryz.prog 74 [.ptr 4 0,wrlA w] [(4,rdB b (q2 + 1))] (evtA e) [(4,rdB b q3)]:=hE
    generalize sDo w e = w2 at *
    (repeat (any_goals (first | refine st ?_ | (refine go2 fun xe hxe=>?_;conv=>whnf) | ((with_reducible refine cnd_i (fun hq=>?_) fun hq=>?_) <;> (try simp only [hqs] at hq) <;> (first | omega | conv=>whnf)) | refine cr (hnc) ?_ | refine cr (hD) ?_ | refine co (hE) ?_)))
    exact ⟨(i + 1,w2,q3),⟨by dsimp only;omega,hdo,by dsimp only;omega,by dsimp only;omega⟩,by dsimp only;omega,rfl⟩
   | true=>
    have hE:ConV Tryz.prog 74 [.ptr 4 0,wrlA w] [(4,rdB b (q2 + 1))] (.agg [.int .i64 e.kind,.int .i64 e.a,.int .i64 e.b,.int .i64 e.v.round,.int .i64 e.v.author,.nils,.int .i64 e.v.digest]) [(4,rdB b q3)]:=hE
    rw [e4 rfl] at hD
    generalize sDo w e = w2 at *
    (repeat (any_goals (first | refine st ?_ | (refine go2 fun xe hxe=>?_;conv=>whnf) | ((with_reducible refine cnd_i (fun hq=>?_) fun hq=>?_) <;> (try simp only [hqs] at hq) <;> (first | omega | conv=>whnf)) | refine cr (hnc) ?_ | refine cr (hD) ?_ | refine co (hE) ?_)))
    exact ⟨(i + 1,w2,q3),⟨by dsimp only;omega,hdo,by dsimp only;omega,by dsimp only;omega⟩,by dsimp only;omega,rfl⟩
  ·(repeat (any_goals (first | refine st ?_ | (refine go2 fun xe hxe=>?_;conv=>whnf) | ((with_reducible refine cnd_i (fun hq=>?_) fun hq=>?_) <;> (try simp only [hqs] at hq) <;> (first | omega | conv=>whnf)) | refine cr (hnc) ?_)))
   exact ⟨(w,q2 + 1),⟨by dsimp only;omega,by dsimp only;omega,hi2⟩,rfl,rfl⟩
 ·(repeat (any_goals (first | refine st ?_ | (refine go2 fun xe hxe=>?_;conv=>whnf) | ((with_reducible refine cnd_i (fun hq=>?_) fun hq=>?_) <;> (try simp only [hqs] at hq) <;> (first | omega | conv=>whnf)) | refine cr (hmc) ?_ | refine co (hB) ?_)))
  refine at_loop hK [] [0,2,3,4] (fun x:Nat × Wrl × Int=>⟨[(0,.ptr 4 0),(2,.ptr 5 0),(3,.ptr 6 0),(4,.int .i64 x.1)],[(4,rdB b x.2.2),(5,.var 27 wZv),(6,.var 27 (wrlA x.2.1).cells)],7⟩)
   (fun x=>x.1 ≤ 69 ∧ WOK x.2.1 ∧ p ≤ x.2.2 ∧ x.2.2 ≤ p + 100 + 61 * x.1) (fun x=>70 - x.1) (0,w0,q + 1) ⟨by dsimp only;omega,h3,by dsimp only;omega,by dsimp only;omega⟩ rfl ?_
  rintro ⟨i,w,q2⟩ ⟨hi1,hi2,hi3,hi4⟩
  dsimp only at hi1 hi2 hi3 hi4 ⊢
  obtain ⟨n,hn,hnc⟩:=pk_c b q2 70 h (by omega) (by omega)
  obtain ⟨⟨⟨z,e⟩,q3⟩,⟨e1,e2,e3,e4⟩,hE⟩:=devt_c b (q2 + 1) w h (by omega) hi2
  dsimp only at e1 e2 e3 e4 hE
  have hD:=evtZ_do w z e hi2 e3 e4
  have hdo:=sDo_ok hi2 e
  by_cases hlt:(i:Int) < n
  ·cases z with
   | false=>
    have hE:ConV Tryz.prog 74 [.ptr 4 0,wrlA w] [(4,rdB b (q2 + 1))] (evtA e) [(4,rdB b q3)]:=hE
    generalize sDo w e = w2 at *
    (repeat (any_goals (first | refine st ?_ | (refine go2 fun xe hxe=>?_;conv=>whnf) | ((with_reducible refine cnd_i (fun hq=>?_) fun hq=>?_) <;> (try simp only [hqs] at hq) <;> (first | omega | conv=>whnf)) | refine cr (hnc) ?_ | refine cr (hD) ?_ | refine co (hE) ?_)))
    exact ⟨(i + 1,w2,q3),⟨by dsimp only;omega,hdo,by dsimp only;omega,by dsimp only;omega⟩,by dsimp only;omega,rfl⟩
   | true=>
    have hE:ConV Tryz.prog 74 [.ptr 4 0,wrlA w] [(4,rdB b (q2 + 1))] (.agg [.int .i64 e.kind,.int .i64 e.a,.int .i64 e.b,.int .i64 e.v.round,.int .i64 e.v.author,.nils,.int .i64 e.v.digest]) [(4,rdB b q3)]:=hE
    rw [e4 rfl] at hD
    generalize sDo w e = w2 at *
    (repeat (any_goals (first | refine st ?_ | (refine go2 fun xe hxe=>?_;conv=>whnf) | ((with_reducible refine cnd_i (fun hq=>?_) fun hq=>?_) <;> (try simp only [hqs] at hq) <;> (first | omega | conv=>whnf)) | refine cr (hnc) ?_ | refine cr (hD) ?_ | refine co (hE) ?_)))
    exact ⟨(i + 1,w2,q3),⟨by dsimp only;omega,hdo,by dsimp only;omega,by dsimp only;omega⟩,by dsimp only;omega,rfl⟩
  ·(repeat (any_goals (first | refine st ?_ | (refine go2 fun xe hxe=>?_;conv=>whnf) | ((with_reducible refine cnd_i (fun hq=>?_) fun hq=>?_) <;> (try simp only [hqs] at hq) <;> (first | omega | conv=>whnf)) | refine cr (hnc) ?_)))
   exact ⟨(w,q2 + 1),⟨by dsimp only;omega,by dsimp only;omega,hi2⟩,rfl,rfl⟩
end Go.Proofs.YtjjddgpdoibcoaaGreatDoor.Am
namespace Go.Proofs.YtjjddgpdoibcoaaGreatDoor.Am
open Go
attribute [local irreducible] Mk Need Ari Get Idx Cnd CallM CallA Opt Unch At ConV
set_option maxRecDepth 10000
end Go.Proofs.YtjjddgpdoibcoaaGreatDoor.Am
namespace Go.Proofs.YtjjddgpdoibcoaaGreatDoor.Am
open Go
attribute [local irreducible] Mk Need Ari Get Idx Cnd CallM CallA Opt Unch At ConV
set_option maxRecDepth 10000
end Go.Proofs.YtjjddgpdoibcoaaGreatDoor.Am
namespace Go.Proofs.YtjjddgpdoibcoaaGreatDoor.Am
open Go
end Go.Proofs.YtjjddgpdoibcoaaGreatDoor.Am
namespace Go.Proofs.YtjjddgpdoibcoaaGreatDoor.Am
open Go
def still (w:Wrl):Prop:=∀ m i:Nat,m < w.com.length → i < w.props.length → delB w m i = false
theorem view_gd {w:Wrl} (hw:WOK w) {m:Nat} (hm:m < w.com.length):w.views.getD m [] ∈ w.views:=gd_mem (by rw [hw.vlen];exact hm)
end Go.Proofs.YtjjddgpdoibcoaaGreatDoor.Am
namespace Go.Proofs.YtjjddgpdoibcoaaGreatDoor.Am
open Go
end Go.Proofs.YtjjddgpdoibcoaaGreatDoor.Am
namespace Go.Proofs.YtjjddgpdoibcoaaGreatDoor.Am
open Go
structure Grw (w u:Wrl):Prop where
 com:u.com = w.com
 lead:u.lead = w.lead
 bad:u.bad = w.bad
 vlen:u.views.length = w.views.length
 views:∀ m:Nat,∀ v ∈ w.views.getD m [],v ∈ u.views.getD m []
 props:∀ (k:Nat) (p:Ppl),w.props[k]? = some p → ∃ l,u.props[k]? = some ⟨p.v,l⟩ ∧ ∀ m ∈ p.members,m ∈ l
theorem Grw.refl (w:Wrl):Grw w w:=⟨rfl,rfl,rfl,rfl,fun _ _ h=>h,fun _ p h=>⟨p.members,h,fun _ h=>h⟩⟩
theorem Grw.trans {w u x:Wrl} (h1:Grw w u) (h2:Grw u x):Grw w x:=by
 refine ⟨h2.com.trans h1.com,h2.lead.trans h1.lead,h2.bad.trans h1.bad,h2.vlen.trans h1.vlen,fun m v h=>h2.views m v (h1.views m v h),fun k p h=>?_⟩
 obtain ⟨l,a1,a2⟩:=h1.props k p h
 obtain ⟨l2,b1,b2⟩:=h2.props k _ a1
 exact ⟨l2,b1,fun m hm=>b2 m (a2 m hm)⟩
theorem Grw.plen {w u:Wrl} (h:Grw w u):w.props.length ≤ u.props.length:=by
 rcases Nat.lt_or_ge u.props.length w.props.length with hlt | hge
 ·obtain ⟨l,a1,-⟩:=h.props u.props.length _ (List.getElem?_eq_getElem hlt)
  have:=(List.getElem?_eq_some_iff.1 a1).1
  omega
 ·exact hge
end Go.Proofs.YtjjddgpdoibcoaaGreatDoor.Am
namespace Go.Proofs.YtjjddgpdoibcoaaGreatDoor.Am
open Go
inductive Rv (g:List Vtx):Vtx → Vtx → Prop where
 | refl (u:Vtx):Rv g u u
 | step {u x v:Vtx} (hx:x ∈ g) (h1:x.round = u.round - 1) (h2:x.author ∈ u.parents) (h:Rv g x v):Rv g u v
theorem Rv.trans {g:List Vtx} {u x v:Vtx} (h:Rv g u x) (h':Rv g x v):Rv g u v:=by
 induction h with
 | refl u=>exact h'
 | step hx h1 h2 _ ih=>exact .step hx h1 h2 (ih h')
theorem Rv.mem {g:List Vtx} {u v:Vtx} (h:Rv g u v) (hu:u ∈ g):v ∈ g:=by
 induction h with
 | refl u=>exact hu
 | step hx _ _ _ ih=>exact ih hx
theorem Rv.round {g:List Vtx} {u v:Vtx} (h:Rv g u v):v.round ≤ u.round:=by
 induction h with
 | refl u=>exact Int.le_refl _
 | step _ h1 _ _ ih=>omega
theorem Rv.mono {g U:List Vtx} (hs:∀ v ∈ g,v ∈ U) {u v:Vtx} (h:Rv g u v):Rv U u v:=by
 induction h with
 | refl u=>exact .refl u
 | step hx h1 h2 _ ih=>exact .step (hs _ hx) h1 h2 ih
theorem pw_uniq {g:List Vtx} (h:g.Pairwise fun a b=>bef a b = true) {u v:Vtx} (hu:u ∈ g) (hv:v ∈ g) (h1:u.round = v.round) (h2:u.author = v.author):u = v:=by
 obtain ⟨i,hi⟩:=List.getElem?_of_mem hu
 obtain ⟨k,hk⟩:=List.getElem?_of_mem hv
 rcases Nat.lt_trichotomy i k with hlt | rfl | hlt
 ·have:=pw_get h hlt hi hk
  simp only [bef,Bool.or_eq_true,Bool.and_eq_true,decide_eq_true_eq] at this
  omega
 ·rw [hi] at hk;exact Option.some.inj hk
 ·have:=pw_get h hlt hk hi
  simp only [bef,Bool.or_eq_true,Bool.and_eq_true,decide_eq_true_eq] at this
  omega
theorem Rv.down {c:List Int} {g U:List Vtx} (hg:GraOK c g) (hU:GraOK c U) (hs:∀ v ∈ g,v ∈ U) {u v:Vtx} (h:Rv U u v) (hu:u ∈ g):Rv g u v:=by
 induction h with
 | refl u=>exact .refl u
 | @step u x v hx h1 h2 _ ih=>
  obtain ⟨y,y1,y2,y3⟩:=hasV_iff.1 (parOK_iff.1 (hg.par u hu) _ h2)
  have e:y = x:=pw_uniq hU.pw (hs y y1) hx (by omega) y3
  subst e
  exact .step y1 h1 h2 (ih y1)
def ldrA (l:List Int) (w:Nat):Int:=l.getD (w - 1) 0
def ldr (g:List Vtx) (l:List Int) (w:Nat):Option Vtx:=g.find? (isAt (2 * (w:Int) - 1) (ldrA l w))
theorem ldr_some {g:List Vtx} {l:List Int} {w:Nat} {v:Vtx} (h:ldr g l w = some v):v ∈ g ∧ v.round = 2 * (w:Int) - 1 ∧ v.author = ldrA l w:=
 ⟨List.mem_of_find?_eq_some h,isAt_iff.1 (List.find?_some h)⟩
def vtr (g:List Vtx) (l:List Int) (w:Nat):List Int:=(g.filter fun v=>v.round == 2 * (w:Int) && v.parents.contains (ldrA l w)).map (·.author)
def vts' (c:List Int) (g:List Vtx) (l:List Int) (w:Nat):Int:=if (ldr g l w).isSome then wei c (vtr g l w) else 0
def sup (c:List Int):Int:=(tot c).tdiv 3 + 1
def dir (c:List Int) (g:List Vtx) (l:List Int) (w:Nat):Bool:=decide (sup c ≤ vts' c g l w)
theorem sup_pos {c:List Int} (h:comV c = true):1 ≤ sup c ∧ sup c = tot c / 3 + 1:=by
 have:=tot_bd h
 unfold sup
 rw [Int.tdiv_eq_ediv_of_nonneg (by omega)]
 omega
theorem dir_ldr {c:List Int} {g:List Vtx} {l:List Int} {w:Nat} (hc:comV c = true) (h:dir c g l w = true):∃ v,ldr g l w = some v ∧ sup c ≤ wei c (vtr g l w):=by
 have hs:=sup_pos hc
 unfold dir vts' at h
 have h:=of_decide_eq_true h
 cases hl:ldr g l w with
 | none=>rw [hl] at h;simp at h;omega
 | some v=>rw [hl] at h;exact ⟨v,rfl,by simpa using h⟩
theorem vtr_mem {g:List Vtx} {l:List Int} {w:Nat} {a:Int}:a ∈ vtr g l w ↔ ∃ v ∈ g,v.round = 2 * (w:Int) ∧ ldrA l w ∈ v.parents ∧ v.author = a:=by
 simp only [vtr,List.mem_map,List.mem_filter,Bool.and_eq_true,beq_iff_eq,List.contains_iff_mem]
 constructor
 ·rintro ⟨v,⟨h1,h2,h3⟩,h4⟩;exact ⟨v,h1,h2,h3,h4⟩
 ·rintro ⟨v,h1,h2,h3,h4⟩;exact ⟨v,⟨h1,h2,h3⟩,h4⟩
theorem vtr_asc {g:List Vtx} (h:g.Pairwise fun a b=>bef a b = true) (l:List Int) (w:Nat):(vtr g l w).Pairwise (· < ·):=by
 unfold vtr
 rw [List.pairwise_map]
 refine (h.sublist (List.filter_sublist ..)).imp_of_mem fun {a b} ha hb hab=>?_
 have ha:=(List.mem_filter.1 ha).2
 have hb:=(List.mem_filter.1 hb).2
 simp only [bef,Bool.or_eq_true,Bool.and_eq_true,decide_eq_true_eq,beq_iff_eq] at *
 omega
open Classical in
noncomputable def dwn (g:List Vtx) (l:List Int) (last:Nat):Nat → Vtx → List Nat
 | 0,_=>[]
 | x + 1,cur=>if x + 1 ≤ last then [] else match ldr g l (x + 1) with
  | some k=>if Rv g cur k then dwn g l last x k ++ [x + 1] else dwn g l last x cur
  | none=>dwn g l last x cur
noncomputable def chn (g:List Vtx) (l:List Int) (w last:Nat):List Nat:=match ldr g l w with
 | some k=>dwn g l last (w - 1) k ++ [w]
 | none=>[w]
noncomputable def cmt (c:List Int) (g:List Vtx) (l:List Int):Nat → List Nat × Nat
 | 0=>([],0)
 | n + 1=>if dir c g l (n + 1) then ((cmt c g l n).1 ++ chn g l (n + 1) (cmt c g l n).2,n + 1) else cmt c g l n
open Classical in
theorem dwn_ldr (g:List Vtx) (l:List Int) (last:Nat):∀ (x:Nat) (cur:Vtx),∀ w ∈ dwn g l last x cur,1 ≤ w ∧ w ≤ x ∧ ∃ k,ldr g l w = some k
 | 0,_,w,hw=>by simp [dwn] at hw
 | x + 1,cur,w,hw=>by
  unfold dwn at hw
  split at hw
  ·cases hw
  ·split at hw
   ·rename_i k hk
    split at hw
    ·rcases List.mem_append.1 hw with h | h
     ·obtain ⟨h1,h2,h3⟩:=dwn_ldr g l last x k w h
      exact ⟨h1,by omega,h3⟩
     ·obtain rfl:=List.mem_singleton.1 h
      exact ⟨by omega,Nat.le_refl _,k,hk⟩
    ·obtain ⟨h1,h2,h3⟩:=dwn_ldr g l last x cur w hw
     exact ⟨h1,by omega,h3⟩
   ·obtain ⟨h1,h2,h3⟩:=dwn_ldr g l last x cur w hw
    exact ⟨h1,by omega,h3⟩
theorem cmt_ldr {c:List Int} {g:List Vtx} (hc:comV c = true) (l:List Int):∀ n:Nat,∀ w ∈ (cmt c g l n).1,1 ≤ w ∧ w ≤ n ∧ ∃ k,ldr g l w = some k
 | 0,w,hw=>by simp [cmt] at hw
 | n + 1,w,hw=>by
  unfold cmt at hw
  split at hw
  ·rename_i hd
   obtain ⟨k,hk,-⟩:=dir_ldr hc hd
   rcases List.mem_append.1 hw with h | h
   ·obtain ⟨h1,h2,h3⟩:=cmt_ldr hc l n w h
    exact ⟨h1,by omega,h3⟩
   ·unfold chn at h
    rw [hk] at h
    rcases List.mem_append.1 h with h | h
    ·obtain ⟨h1,h2,h3⟩:=dwn_ldr g l _ _ k w h
     exact ⟨h1,by omega,h3⟩
    ·obtain rfl:=List.mem_singleton.1 h
     exact ⟨by omega,Nat.le_refl _,k,hk⟩
  ·obtain ⟨h1,h2,h3⟩:=cmt_ldr hc l n w hw
   exact ⟨h1,by omega,h3⟩
open Classical in
noncomputable def ordW (g:List Vtx) (l:List Int) (acc:List Vtx) (w:Nat):List Vtx:=match ldr g l w with
 | some k=>g.filter fun v=>decide (Rv g k v) && (decide (2 * (w:Int) - 7 ≤ v.round) && decide (v ∉ acc))
 | none=>[]
noncomputable def ordTo (g:List Vtx) (l:List Int) (acc:List Vtx) (ws:List Nat):List Vtx:=ws.foldl (fun acc w=>acc ++ ordW g l acc w) acc
theorem ordTo_cons (g:List Vtx) (l:List Int) (acc:List Vtx) (w:Nat) (ws:List Nat):ordTo g l acc (w :: ws) = ordTo g l (acc ++ ordW g l acc w) ws:=rfl
theorem ordTo_app (g:List Vtx) (l:List Int) (acc:List Vtx) (ws ws':List Nat):ordTo g l acc (ws ++ ws') = ordTo g l (ordTo g l acc ws) ws':=by simp [ordTo,List.foldl_append]
noncomputable def ordG (c:List Int) (g:List Vtx) (l:List Int):List Vtx:=ordTo g l [] (cmt c g l l.length).1
end Go.Proofs.YtjjddgpdoibcoaaGreatDoor.Am
namespace Go.Proofs.YtjjddgpdoibcoaaGreatDoor.Am
open Go
def pix (g:List Vtx) (v:Vtx):List (Option Nat):=v.parents.map fun a=>g.findIdx? (isAt (v.round - 1) a)
theorem idx_some {g:List Vtx} {r a:Int} {k:Nat} (h:g.findIdx? (isAt r a) = some k):∃ x,g[k]? = some x ∧ x.round = r ∧ x.author = a:=by
 obtain ⟨hk,h1,-⟩:=List.findIdx?_eq_some_iff_getElem.1 h
 exact ⟨_,List.getElem?_eq_getElem hk,isAt_iff.1 h1⟩
theorem idx_of {c:List Int} {g:List Vtx} (hg:GraOK c g) {k:Nat} {x:Vtx} (h:g[k]? = some x):g.findIdx? (isAt x.round x.author) = some k:=by
 cases hf:g.findIdx? (isAt x.round x.author) with
 | none=>
  have:=List.findIdx?_eq_none_iff.1 hf x (List.mem_of_getElem? h)
  rw [isAt_iff.2 ⟨rfl,rfl⟩] at this
  cases this
 | some j=>
  obtain ⟨y,h1,h2,h3⟩:=idx_some hf
  have e:=pw_uniq hg.pw (List.mem_of_getElem? h1) (List.mem_of_getElem? h) h2 h3
  subst e
  rw [pw_idx hg h1 h]
where
 pw_idx {c:List Int} {g:List Vtx} (hg:GraOK c g) {i k:Nat} {x:Vtx} (h1:g[i]? = some x) (h2:g[k]? = some x):i = k:=by
  rcases Nat.lt_trichotomy i k with hlt | rfl | hlt
  ·have:=pw_get hg.pw hlt h1 h2
   simp only [bef,Bool.or_eq_true,Bool.and_eq_true,decide_eq_true_eq] at this
   omega
  ·rfl
  ·have:=pw_get hg.pw hlt h2 h1
   simp only [bef,Bool.or_eq_true,Bool.and_eq_true,decide_eq_true_eq] at this
   omega
theorem g_inj {c:List Int} {g:List Vtx} (hg:GraOK c g) {i k:Nat} {x:Vtx} (h1:g[i]? = some x) (h2:g[k]? = some x):i = k:=by
 have e1:=idx_of hg h1
 have e2:=idx_of hg h2
 rw [e1] at e2
 exact Option.some.inj e2
theorem pix_get {c:List Int} {g:List Vtx} (hg:GraOK c g) {v:Vtx} (hv:v ∈ g) {o:Option Nat} (h:o ∈ pix g v):∃ k x,o = some k ∧ g[k]? = some x ∧ x.round = v.round - 1 ∧ x.author ∈ v.parents:=by
 obtain ⟨a,ha,rfl⟩:=List.mem_map.1 h
 obtain ⟨x,x1,x2,x3⟩:=hasV_iff.1 (parOK_iff.1 (hg.par v hv) a ha)
 obtain ⟨k,hk⟩:=List.getElem?_of_mem x1
 have:=idx_of hg hk
 rw [x2,x3] at this
 exact ⟨k,x,this,hk,x2,x3 ▸ ha⟩
theorem pix_rv {c:List Int} {g:List Vtx} (hg:GraOK c g) {v x:Vtx} (hv:v ∈ g) {k:Nat} (h:some k ∈ pix g v) (hx:g[k]? = some x):Rv g v x:=by
 obtain ⟨k',x',e,h1,h2,h3⟩:=pix_get hg hv h
 obtain rfl:=Option.some.inj e
 rw [hx] at h1
 obtain rfl:=Option.some.inj h1
 exact .step (List.mem_of_getElem? hx) h2 h3 (.refl x)
theorem rv_closed {c:List Int} {g:List Vtx} (hg:GraOK c g) {S:Nat → Prop} (hS:∀ i v,g[i]? = some v → S i → ∀ k,some k ∈ pix g v → S k) {u v:Vtx} (h:Rv g u v):∀ i k,g[i]? = some u → S i → g[k]? = some v → S k:=by
 induction h with
 | refl u=>
  intro i k h1 h2 h3
  rw [← g_inj hg h1 h3]
  exact h2
 | @step u x v hx h1 h2 _ ih=>
  intro i k hi hs hk
  obtain ⟨j,hj⟩:=List.getElem?_of_mem hx
  have:=idx_of hg hj
  exact ih j k hj (hS i u hi hs j (List.mem_map.2 ⟨x.author,h2,by rw [← h1];exact this⟩)) hk
structure Dfs (g:List Vtx) (u:Vtx) (n j:Nat) (re:List Bool) (wt:List (Option Nat)):Prop where
 len:re.length = g.length
 snd:∀ (i:Nat) (v:Vtx),g[i]? = some v → re[i]? = some true → Rv g u v
 wtg:∀ o ∈ wt,∃ k,o = some k ∧ re[k]? = some true
 cur:∀ v:Vtx,g[n]? = some v → re[n]? = some true
 cls:∀ (i:Nat) (v:Vtx),g[i]? = some v → re[i]? = some true → some i ∈ wt ∨ (i = n ∧ ∀ (k q:Nat),k < j → (pix g v)[k]? = some (some q) → re[q]? = some true) ∨ ∀ q:Nat,some q ∈ pix g v → re[q]? = some true
theorem dfs_0 {c:List Int} {g:List Vtx} (hg:GraOK c g) {st:Nat} {u:Vtx} (h:g[st]? = some u):Dfs g u g.length 0 ((List.replicate g.length false).set st true) [some st]:=by
 have hl:=(List.getElem?_eq_some_iff.1 h).1
 have key:∀ i:Nat,((List.replicate g.length false).set st true)[i]? = some true → i = st:=fun i hi=>by
  rw [List.getElem?_set] at hi
  split at hi
  ·omega
  ·rw [List.getElem?_replicate] at hi
   split at hi <;> cases hi
 have hst:((List.replicate g.length false).set st true)[st]? = some true:=by
  rw [List.getElem?_set,if_pos rfl,if_pos (by simpa using hl)]
 refine ⟨by simp,fun i v hi hr=>?_,fun o ho=>⟨st,by simpa using ho,hst⟩,fun v hv=>?_,fun i v hi hr=>.inl ?_⟩
 ·obtain rfl:=key i hr
  rw [h] at hi
  obtain rfl:=Option.some.inj hi
  exact .refl u
 ·have:=(List.getElem?_eq_some_iff.1 hv).1
  omega
 ·rw [key i hr]
  simp
theorem dfs_pop {g:List Vtx} {u:Vtx} {n j:Nat} {re:List Bool} {wt:List (Option Nat)} {q:Nat} (h:Dfs g u n j re (wt ++ [some q])) (hn:g[n]? = none):Dfs g u q 0 re wt:=by
 refine ⟨h.len,h.snd,fun o ho=>h.wtg o (List.mem_append.2 (.inl ho)),fun v _=>?_,fun i v hi hr=>?_⟩
 ·obtain ⟨k,h1,h2⟩:=h.wtg (some q) (by simp)
  obtain rfl:=Option.some.inj h1
  exact h2
 ·rcases h.cls i v hi hr with h1 | ⟨rfl,-⟩ | h1
  ·rcases List.mem_append.1 h1 with h1 | h1
   ·exact .inl h1
   ·refine .inr (.inl ⟨?_,fun k _ hk=>absurd hk (Nat.not_lt_zero k)⟩)
    simpa using h1
  ·rw [hn] at hi;cases hi
  ·exact .inr (.inr h1)
theorem dfs_skip {g:List Vtx} {u v:Vtx} {n j q:Nat} {re:List Bool} {wt:List (Option Nat)} (h:Dfs g u n j re wt) (hv:g[n]? = some v) (hj:(pix g v)[j]? = some (some q)) (hq:re[q]? = some true):Dfs g u n (j + 1) re wt:=by
 refine ⟨h.len,h.snd,h.wtg,h.cur,fun i x hi hr=>?_⟩
 rcases h.cls i x hi hr with h1 | ⟨rfl,h1⟩ | h1
 ·exact .inl h1
 ·refine .inr (.inl ⟨rfl,fun k q' hk hp=>?_⟩)
  rcases Nat.lt_or_ge k j with hlt | hge
  ·exact h1 k q' hlt hp
  ·obtain rfl:k = j:=by omega
   rw [hv] at hi
   obtain rfl:=Option.some.inj hi
   rw [hj] at hp
   obtain rfl:=Option.some.inj (Option.some.inj hp)
   exact hq
 ·exact .inr (.inr h1)
theorem set_true {re:List Bool} {q i:Nat} (h:re[i]? = some true):(re.set q true)[i]? = some true:=by
 have hl:=(List.getElem?_eq_some_iff.1 h).1
 rw [List.getElem?_set]
 split
 ·rename_i e
  rw [if_pos (by omega)]
 ·exact h
theorem dfs_push {c:List Int} {g:List Vtx} (hg:GraOK c g) {u v:Vtx} {n j q:Nat} {re:List Bool} {wt:List (Option Nat)} (h:Dfs g u n j re wt) (hv:g[n]? = some v) (hj:(pix g v)[j]? = some (some q)) (hq:re[q]? = some false):Dfs g u n (j + 1) (re.set q true) (wt ++ [some q]):=by
 have hql:=(List.getElem?_eq_some_iff.1 hq).1
 have hqt:(re.set q true)[q]? = some true:=by rw [List.getElem?_set,if_pos rfl,if_pos hql]
 have hne:∀ i:Nat,i ≠ q → (re.set q true)[i]? = re[i]?:=fun i hi=>by rw [List.getElem?_set,if_neg (by omega)]
 refine ⟨by rw [List.length_set];exact h.len,fun i x hi hr=>?_,fun o ho=>?_,fun x hx=>set_true (h.cur x hx),fun i x hi hr=>?_⟩
 ·by_cases e:i = q
  ·subst e
   exact (h.snd n v hv (h.cur v hv)).trans (pix_rv hg (List.mem_of_getElem? hv) (List.mem_of_getElem? hj) hi)
  ·rw [hne i e] at hr
   exact h.snd i x hi hr
 ·rcases List.mem_append.1 ho with ho | ho
  ·obtain ⟨k,h1,h2⟩:=h.wtg o ho
   exact ⟨k,h1,set_true h2⟩
  ·exact ⟨q,by simpa using ho,hqt⟩
 ·by_cases e:i = q
  ·subst e
   exact .inl (by simp)
  rw [hne i e] at hr
  rcases h.cls i x hi hr with h1 | ⟨rfl,h1⟩ | h1
  ·exact .inl (List.mem_append.2 (.inl h1))
  ·refine .inr (.inl ⟨rfl,fun k q' hk hp=>?_⟩)
   rcases Nat.lt_or_ge k j with hlt | hge
   ·exact set_true (h1 k q' hlt hp)
   ·obtain rfl:k = j:=by omega
    rw [hv] at hi
    obtain rfl:=Option.some.inj hi
    rw [hj] at hp
    obtain rfl:=Option.some.inj (Option.some.inj hp)
    exact hqt
  ·exact .inr (.inr fun q' hq'=>set_true (h1 q' hq'))
theorem dfs_next {g:List Vtx} {u v:Vtx} {n j:Nat} {re:List Bool} {wt:List (Option Nat)} (h:Dfs g u n j re wt) (hv:g[n]? = some v) (hj:v.parents.length ≤ j):Dfs g u g.length 0 re wt:=by
 refine ⟨h.len,h.snd,h.wtg,fun x hx=>?_,fun i x hi hr=>?_⟩
 ·have:=(List.getElem?_eq_some_iff.1 hx).1
  omega
 ·rcases h.cls i x hi hr with h1 | ⟨rfl,h1⟩ | h1
  ·exact .inl h1
  ·rw [hv] at hi
   obtain rfl:=Option.some.inj hi
   refine .inr (.inr fun q hq=>?_)
   obtain ⟨k,hk⟩:=List.getElem?_of_mem hq
   have hkl:=(List.getElem?_eq_some_iff.1 hk).1
   unfold pix at hkl
   rw [List.length_map] at hkl
   exact h1 k q (by omega) hk
  ·exact .inr (.inr h1)
theorem dfs_end {c:List Int} {g:List Vtx} (hg:GraOK c g) {u:Vtx} {st:Nat} (hst:g[st]? = some u) {re:List Bool} (h:Dfs g u g.length 0 re []) (h0:re[st]? = some true) {i:Nat} {v:Vtx} (hi:g[i]? = some v):re[i]? = some true ↔ Rv g u v:=by
 refine ⟨h.snd i v hi,fun hr=>?_⟩
 refine rv_closed hg (S:=fun k=>re[k]? = some true) (fun k x hk hs q hq=>?_) hr st i hst h0 hi
 rcases h.cls k x hk hs with h1 | ⟨rfl,-⟩ | h1
 ·cases h1
 ·have:=(List.getElem?_eq_some_iff.1 hk).1
  omega
 ·exact h1 q hq
theorem cnt_set:∀ {re:List Bool} {q:Nat},re[q]? = some false → (re.set q true).count false + 1 = re.count false
 | [],_,h=>by simp at h
 | b :: re,0,h=>by
  simp only [List.getElem?_cons_zero,Option.some.injEq] at h
  subst h
  simp
 | b :: re,q + 1,h=>by
  have:=cnt_set (re:=re) (q:=q) (by simpa using h)
  simp only [List.set_cons_succ,List.count_cons]
  omega
open Classical in
noncomputable def pst (g:List Vtx) (u:Vtx):List Int:=((List.range g.length).filter fun i=>decide (Rv g u (g.getD i v0))).map fun i:Nat=>(i:Int)
def trues (re:List Bool) (n:Nat):List Int:=((List.range n).filter fun i=>re.getD i false).map fun i:Nat=>(i:Int)
theorem trues_snoc {re:List Bool} {n:Nat} {b:Bool} (h:re[n]? = some b):trues re (n + 1) = if b = true then trues re n ++ [(n:Int)] else trues re n:=by
 have e:re.getD n false = b:=by rw [List.getD_eq_getElem?_getD,h];rfl
 simp only [trues,List.range_succ,List.filter_append,List.map_append,List.filter_cons,List.filter_nil,e]
 cases b <;> simp
theorem trues_len (re:List Bool) (n:Nat):(trues re n).length ≤ n:=by
 unfold trues
 rw [List.length_map]
 exact Nat.le_trans (List.length_filter_le _ _) (by simp)
open Classical in
theorem trues_pst {g:List Vtx} {u:Vtx} {re:List Bool} (hl:re.length = g.length) (h:∀ (i:Nat) (v:Vtx),g[i]? = some v → (re[i]? = some true ↔ Rv g u v)):trues re g.length = pst g u:=by
 unfold trues pst
 congr 1
 refine List.filter_congr fun i hi=>?_
 have hi:=List.mem_range.1 hi
 have h1:=h i (g.getD i v0) (by rw [List.getD_eq_getElem?_getD,List.getElem?_eq_getElem hi];rfl)
 rw [List.getElem?_eq_getElem (by omega)] at h1
 rw [List.getD_eq_getElem?_getD,List.getElem?_eq_getElem (by omega)]
 rw [Bool.eq_iff_iff,decide_eq_true_iff,← h1]
 simp
open Classical in
theorem pst_mem {g:List Vtx} {u:Vtx} {x:Int}:x ∈ pst g u ↔ ∃ i:Nat,x = i ∧ ∃ v,g[i]? = some v ∧ Rv g u v:=by
 unfold pst
 rw [List.mem_map]
 constructor
 ·rintro ⟨i,hi,rfl⟩
  obtain ⟨h1,h2⟩:=List.mem_filter.1 hi
  have h1:=List.mem_range.1 h1
  exact ⟨i,rfl,_,by rw [List.getD_eq_getElem?_getD,List.getElem?_eq_getElem h1];rfl,of_decide_eq_true h2⟩
 ·rintro ⟨i,rfl,v,hv,hr⟩
  have hl:=(List.getElem?_eq_some_iff.1 hv).1
  refine ⟨i,List.mem_filter.2 ⟨List.mem_range.2 hl,decide_eq_true ?_⟩,rfl⟩
  rw [List.getD_eq_getElem?_getD,hv]
  exact hr
theorem pst_asc (g:List Vtx) (u:Vtx):(pst g u).Pairwise (· < ·):=by
 unfold pst
 rw [List.pairwise_map]
 exact (List.Pairwise.filter _ List.pairwise_lt_range).imp fun h=>by omega
theorem pst_len (g:List Vtx) (u:Vtx):(pst g u).length ≤ g.length:=by
 unfold pst
 rw [List.length_map]
 exact Nat.le_trans (List.length_filter_le _ _) (by simp)
theorem gst_rows {c:List Int}:∀ {g:List Vtx},GraOK c g → ∀ {i:Nat} {v:Vtx},g[i]? = some v → ∃ p,(gst g).nodes[i]? = some ⟨v,i,p⟩ ∧ ((v.parents = [] ∧ p = none) ∨ ∃ r,p = some r ∧ (gst g).rows[r]? = some (pix g v)):=by
 have raw:∀ (g:List Vtx) {i:Nat} {v:Vtx},g[i]? = some v → ∃ p,(gst g).nodes[i]? = some ⟨v,i,p⟩ ∧ ((v.parents = [] ∧ p = none) ∨ ∃ r,p = some r ∧ (gst g).rows[r]? = some (v.parents.map fun a=>(gst (g.take i)).at (v.round - 1) a)):=by
  intro g
  induction g using snoc_ind with
  | h0=>intro i v h;simp at h
  | h l x ih=>
   intro i v h
   rw [gst_snoc]
   have hnl:=(gst_len l).1
   rcases Nat.lt_or_ge i l.length with hlt | hge
   ·rw [List.getElem?_append_left hlt] at h
    obtain ⟨p,h1,h2⟩:=ih h
    refine ⟨p,?_,?_⟩
    ·show ((gst l).nodes ++ _)[i]? = _
     rw [List.getElem?_append_left (by omega)]
     exact h1
    ·rcases h2 with h2 | ⟨r,h2,h3⟩
     ·exact .inl h2
     ·refine .inr ⟨r,h2,?_⟩
      have hr:=(List.getElem?_eq_some_iff.1 h3).1
      rw [List.take_append_of_le_length (by omega)]
      simp only [gstep]
      split
      ·exact h3
      ·rw [List.getElem?_append_left hr];exact h3
   ·obtain rfl:i = l.length:=by
     have:=(List.getElem?_eq_some_iff.1 h).1
     simp at this
     omega
    rw [List.getElem?_append_right (Nat.le_refl _),Nat.sub_self] at h
    simp only [List.getElem?_cons_zero,Option.some.injEq] at h
    subst h
    refine ⟨if x.parents = [] then none else some (gst l).rows.length,?_,?_⟩
    ·show ((gst l).nodes ++ _)[l.length]? = _
     rw [← hnl,List.getElem?_append_right (Nat.le_refl _),Nat.sub_self]
     rfl
    ·by_cases hp:x.parents = []
     ·exact .inl ⟨hp,by rw [if_pos hp]⟩
     ·refine .inr ⟨_,by rw [if_neg hp],?_⟩
      simp only [gstep]
      rw [if_neg hp,List.getElem?_append_right (Nat.le_refl _),Nat.sub_self,List.take_left]
      rfl
 rename_i g
 intro hg i v h
 obtain ⟨p,h1,h2⟩:=raw g h
 refine ⟨p,h1,?_⟩
 rcases h2 with h2 | ⟨r,h2,h3⟩
 ·exact .inl h2
 ·refine .inr ⟨r,h2,?_⟩
  rw [h3]
  congr 1
  unfold pix
  refine List.map_congr_left fun a ha=>?_
  have hv:=List.mem_of_getElem? h
  obtain ⟨x,x1,x2,x3⟩:=hasV_iff.1 (parOK_iff.1 (hg.par v hv) a ha)
  obtain ⟨k,hk⟩:=List.getElem?_of_mem x1
  have hx:=idx_of hg hk
  rw [x2,x3] at hx
  rw [hx]
  have hil:=(List.getElem?_eq_some_iff.1 h).1
  have hki:k < i:=by
   rcases Nat.lt_or_ge k i with hlt | hge
   ·exact hlt
   ·exfalso
    rcases Nat.lt_or_ge i k with hlt | hge2
    ·have:=pw_get hg.pw hlt h hk
     simp only [bef,Bool.or_eq_true,Bool.and_eq_true,decide_eq_true_eq] at this
     omega
    ·obtain rfl:i = k:=by omega
     rw [h] at hk
     obtain rfl:=Option.some.inj hk
     omega
  have hvt:=(vtxS_ok (hg.vtx v hv)).1
  have hxt:=vtxS_tab hg.com (hg.vtx x x1)
  have ht:∀ u ∈ g.take i,inTab u:=fun u hu=>vtxS_tab hg.com (hg.vtx u (List.mem_of_mem_take hu))
  have hk2:(g.take i)[k]? = some x:=by rw [List.getElem?_take,if_pos hki];exact hk
  have hin:=(gst_at ht (r:=v.round - 1) (a:=a) (by have:=hxt.1;omega) (by have:=hxt.2;omega))
  have hsome:hasV (g.take i) (v.round - 1) a = true:=hasV_iff.2 ⟨x,List.mem_of_getElem? hk2,x2,x3⟩
  obtain ⟨j,hj⟩:=Option.isSome_iff_exists.1 (hin.1.trans hsome)
  rw [hj]
  have hjx:=hin.2 j hj
  exact congrArg some (gst_j hg hki hjx hk x2 x3)
where
 gst_j {c:List Int} {g:List Vtx} (hg:GraOK c g) {i j k:Nat} {a r:Int} {x:Vtx} (hki:k < i) (hj:∃ y,(g.take i)[j]? = some y ∧ y.round = r ∧ y.author = a) (hk:g[k]? = some x) (x2:x.round = r) (x3:x.author = a):j = k:=by
  obtain ⟨y,y1,y2,y3⟩:=hj
  have y1':g[j]? = some y:=by
   rw [List.getElem?_take] at y1
   split at y1
   ·exact y1
   ·cases y1
  have e:=pw_uniq hg.pw (List.mem_of_getElem? y1') (List.mem_of_getElem? hk) (by omega) (by rw [y3,x3])
  subst e
  exact g_inj hg y1' hk
end Go.Proofs.YtjjddgpdoibcoaaGreatDoor.Am
