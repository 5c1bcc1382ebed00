/- Orders: all committed waves of the program. Orders: in quiet periods the waves of correct leaders are committed (plain laws). Runs: impl's quiet rounds. Quiet periods: the reference's WorldCalm, what is drawn; the law of invalid runs. Quiet periods: what is drawn; all members have the same graph, every round adds a round. Quiet periods commit waves. -/
import Derived.Test.YtncmbiacjeicpaaGreatDoorPM10
set_option linter.unusedSimpArgs false
set_option linter.unusedVariables false
namespace Go.Proofs.YtncmbiacjeicpaaGreatDoor.Am
open Go
attribute [local irreducible] Mk Need Ari Get Idx Cnd CallM CallA Opt Unch At ConV
set_option maxRecDepth 10000
theorem asc_len:∀ {l:List Nat} {a b:Nat},l.Pairwise (· < ·) → (∀ x ∈ l,a < x ∧ x ≤ b) → l.length ≤ b - a
 | [],_,_,_,_=>Nat.zero_le _
 | x :: l,a,b,h,hb=>by
  obtain ⟨h1,h2⟩:=List.pairwise_cons.1 h
  have hx:=hb x (by simp)
  have:=asc_len (a:=x) (b:=b) h2 fun y hy=>⟨h1 y hy,(hb y (by simp [hy])).2⟩
  simp only [List.length_cons]
  omega
theorem cmt_len (c:List Int) (g:List Vtx) (l:List Int) (hc:comV c = true) (n:Nat):(cmt c g l n).1.length ≤ n:=by
 have h1:=cmt_ldr (g:=g) hc l n
 have:=asc_len (a:=0) (b:=n) (cmt_asc c g l n).2.1 fun x hx=>⟨by have:=(h1 x hx).1;omega,(h1 x hx).2.1⟩
 omega
theorem chn_len (g:List Vtx) (l:List Int) {w last:Nat} (h:last < w):(chn g l w last).length ≤ w:=by
 obtain ⟨h1,h2⟩:=chn_asc g l h
 have:=asc_len h1 h2
 omega
theorem cmt_yes {c:List Int} {g:List Vtx} {l:List Int} {n:Nat} (h:dir c g l (n + 1) = true):cmt c g l (n + 1) = ((cmt c g l n).1 ++ chn g l (n + 1) (cmt c g l n).2,n + 1):=by
 conv=>lhs;unfold cmt
 rw [if_pos h]
theorem cmt_no {c:List Int} {g:List Vtx} {l:List Int} {n:Nat} (h:dir c g l (n + 1) = false):cmt c g l (n + 1) = cmt c g l n:=by
 conv=>lhs;unfold cmt
 rw [if_neg (by rw [h];simp)]
theorem cmt_nil (c:List Int) (l:List Int) (hc:comV c = true):∀ n:Nat,cmt c [] l n = ([],0)
 | 0=>rfl
 | n + 1=>by
  have h:dir c [] l (n + 1) = false:=by
   rw [Bool.eq_false_iff]
   intro h
   obtain ⟨k,hk,-⟩:=dir_ldr hc h
   cases hk
  rw [cmt_no h,cmt_nil c l hc n]
theorem icmt_c (c:List Int) (g:List Vtx) (l:List Int) (hg:GraOK c g) (hgl:g.length ≤ 1000000) (hl:leaS c l = true):ConV Tryz.prog 32 [.agg [.ptr 4 0,.lst (.int .i64) l]] (gR c (gst g)) (.lst (.int .i64) (intsN (cmt c g l l.length).1)) (gR c (gst g)):=by
 have hll:=(leaS_iff.1 hl).2
 refine con_eq Θe_ok Tryz.func32 rfl rfl true 2 6 rfl rfl rfl rfl fun K hK hb1 hb2=>?_;simp only [argsV,enc,Nat.reduceAdd]
 clear hb1 hb2
 (repeat (any_goals (first | refine ste ?_ | (refine go2 fun xe hxe=>?_;conv=>whnf) | ((with_reducible refine cnd_i (fun hq=>?_) fun hq=>?_) <;> (try simp only [hqs] at hq) <;> (first | omega | conv=>whnf)))))
 refine at_loop hK [] [1,3,4,5] (fun n:Nat=>⟨[(1,.ptr 6 0),(3,.ref 7),(4,.int .i64 ((cmt c g l n).2:Int)),(5,.int .i64 ((n:Int) + 1))],gRx c (gst g) (.var 76 [.ptr 4 0,.lst (.int .i64) l]) ++ [(7,.row 3 (.int .i64) (intsN (cmt c g l n).1))],8⟩) (fun n=>n ≤ l.length) (fun n=>l.length - n) 0 (Nat.zero_le _) ?_ ?_
 ·rw [show (((0:Nat):Int) + 1) = 1 from rfl]
  rfl
 intro n hn
 have hcl:=cmt_len c g l hg.com n
 have hil:=intsN_len (cmt c g l n).1
 have hc2:=(cmt_asc c g l n).1
 by_cases hlt:n < l.length
 ·have hD:=idir_c c g l (n + 1) hg hl (by omega) (by omega)
  have e1:(((n + 1:Nat)):Int) = (n:Int) + 1:=by omega
  cases hd:dir c g l (n + 1)
  ·rw [hd,e1] at hD
   have hcn:=cmt_no hd
   (repeat (any_goals (first | refine ste ?_ | (refine go2 fun xe hxe=>?_;conv=>whnf) | ((with_reducible refine cnd_i (fun hq=>?_) fun hq=>?_) <;> (try simp only [hqs] at hq) <;> (first | omega | conv=>whnf)) | refine co (hD) ?_)))
   exact ⟨n + 1,by omega,by omega,by rw [hcn,e1];rfl⟩
  ·obtain ⟨k,hk,-⟩:=dir_ldr hg.com hd
   have hC:=ichn_c c g l (n + 1) (cmt c g l n).2 hg hgl hl (by omega) (by omega) (by omega) hk
   have hkl:=chn_len g l (w:=n + 1) (last:=(cmt c g l n).2) (by omega)
   have hkl2:=intsN_len (chn g l (n + 1) (cmt c g l n).2)
   rw [hd,e1] at hD
   rw [e1] at hC
   have hcn:=cmt_yes hd
   have hap:=intsN_app (cmt c g l n).1 (chn g l (n + 1) (cmt c g l n).2)
   generalize hA:intsN (cmt c g l n).1 = A at *
   generalize hB:intsN (chn g l (n + 1) (cmt c g l n).2) = B at *
   (repeat (any_goals (first | refine ste ?_ | (refine go2 fun xe hxe=>?_;conv=>whnf) | ((with_reducible refine cnd_i (fun hq=>?_) fun hq=>?_) <;> (try simp only [hqs] at hq) <;> (first | omega | conv=>whnf)) | refine co (hD) ?_ | refine co (hC) ?_)))
   exact ⟨n + 1,by omega,by omega,by rw [hcn];dsimp only;rw [hap,e1];rfl⟩
 ·obtain rfl:n = l.length:=by omega
  (repeat (any_goals (first | refine ste ?_ | (refine go2 fun xe hxe=>?_;conv=>whnf) | ((with_reducible refine cnd_i (fun hq=>?_) fun hq=>?_) <;> (try simp only [hqs] at hq) <;> (first | omega | conv=>whnf)))))
  exact ⟨rfl,rfl⟩
theorem icmtZ_c (c:List Int) (l:List Int) (hc:comV c = true) (hl:leaS c l = true):ConV Tryz.prog 32 [.agg [.ptr 4 0,.lst (.int .i64) l]] (gZ c gs0) (.lst (.int .i64) []) (gZ c gs0):=by
 have hll:=(leaS_iff.1 hl).2
 refine con_eq Θe_ok Tryz.func32 rfl rfl true 1 5 rfl rfl rfl rfl fun K hK hb1 hb2=>?_;simp only [argsV,enc,Nat.reduceAdd]
 clear hb1 hb2
 (repeat (any_goals (first | refine ste ?_ | (refine go2 fun xe hxe=>?_;conv=>whnf) | ((with_reducible refine cnd_i (fun hq=>?_) fun hq=>?_) <;> (try simp only [hqs] at hq) <;> (first | omega | conv=>whnf)))))
 refine at_loop hK [] [1,3,4,5] (fun n:Nat=>⟨[(1,.ptr 5 0),(3,.ref 6),(4,.int .i64 0),(5,.int .i64 ((n:Int) + 1))],gZx c gs0 (.var 76 [.ptr 4 0,.lst (.int .i64) l]) ++ [(6,.row 3 (.int .i64) [])],7⟩) (fun n=>n ≤ l.length) (fun n=>l.length - n) 0 (Nat.zero_le _) ?_ ?_
 ·rw [show (((0:Nat):Int) + 1) = 1 from rfl]
  rfl
 intro n hn
 by_cases hlt:n < l.length
 ·have hD:=idirZ_c c l (n + 1) hc hl (by omega) (by omega)
  have e1:(((n + 1:Nat)):Int) = (n:Int) + 1:=by omega
  rw [e1] at hD
  (repeat (any_goals (first | refine ste ?_ | (refine go2 fun xe hxe=>?_;conv=>whnf) | ((with_reducible refine cnd_i (fun hq=>?_) fun hq=>?_) <;> (try simp only [hqs] at hq) <;> (first | omega | conv=>whnf)) | refine co (hD) ?_)))
  exact ⟨n + 1,by omega,by omega,by rw [e1];rfl⟩
 ·(repeat (any_goals (first | refine ste ?_ | (refine go2 fun xe hxe=>?_;conv=>whnf) | ((with_reducible refine cnd_i (fun hq=>?_) fun hq=>?_) <;> (try simp only [hqs] at hq) <;> (first | omega | conv=>whnf)))))
  exact ⟨rfl,rfl⟩
def wvV (c:List Int) (g:List Vtx) (l:List Int):Bool:=graS c g && leaS c l
theorem inw_no (c:List Int) (g:List Vtx) (l:List Int) (hgl:g.length ≤ 1000000) (h:wvV c g l = false):ConV Tryz.prog 31 [.lst (.int .i64) c,.lst .vtx g,.lst (.int .i64) l] [] (.tup [.agg [.nilp,.nils],.gv 0]) []:=by
 have hL:=link_c c g (by omega)
 have hV:=ileaV_c c l
 refine con_eq Θe_ok Tryz.func31 rfl rfl false 0 4 rfl rfl rfl rfl fun K hK hb1 hb2=>?_;simp only [argsV,enc,Nat.reduceAdd]
 clear hb1 hb2
 cases hg:graS c g
 ·simp only [lgR,lgO,hg,Bool.false_eq_true,if_false] at hL
  (repeat (any_goals (first | refine ste ?_ | (refine go2 fun xe hxe=>?_;conv=>whnf) | ((with_reducible refine cnd_i (fun hq=>?_) fun hq=>?_) <;> (try simp only [hqs] at hq) <;> (first | omega | conv=>whnf)) | refine cr (hL) ?_ | refine cr (hV) ?_)))
  exact ⟨rfl,rfl⟩
 ·have hok:=graS_ok hg
  simp only [lgR,lgO,hg,if_true] at hL
  rw [wvV,hg,Bool.true_and] at h
  rw [hok.com,h] at hV
  cases g with
  | nil=>
   (repeat (any_goals (first | refine ste ?_ | (refine go2 fun xe hxe=>?_;conv=>whnf) | ((with_reducible refine cnd_i (fun hq=>?_) fun hq=>?_) <;> (try simp only [hqs] at hq) <;> (first | omega | conv=>whnf)) | refine cr (hL) ?_ | refine cr (hV) ?_)))
   exact ⟨rfl,rfl⟩
  | cons v g=>
   (repeat (any_goals (first | refine ste ?_ | (refine go2 fun xe hxe=>?_;conv=>whnf) | ((with_reducible refine cnd_i (fun hq=>?_) fun hq=>?_) <;> (try simp only [hqs] at hq) <;> (first | omega | conv=>whnf)) | refine cr (hL) ?_ | refine cr (hV) ?_)))
   exact ⟨rfl,rfl⟩
theorem inwR_c (c:List Int) (v:Vtx) (g:List Vtx) (l:List Int) (hgl:(v :: g).length ≤ 1000000) (hg:graS c (v :: g) = true) (hl:leaS c l = true):ConV Tryz.prog 31 [.lst (.int .i64) c,.lst .vtx (v :: g),.lst (.int .i64) l] [] (.tup [.agg [.ptr 4 0,.lst (.int .i64) l],.nili]) (gR c (gst (v :: g))):=by
 have hL:=link_c c (v :: g) (by omega)
 have hV:=ileaV_c c l
 have hok:=graS_ok hg
 simp only [lgR,lgO,hg,if_true] at hL
 rw [hok.com,hl] at hV
 refine con_eq Θe_ok Tryz.func31 rfl rfl false 0 4 rfl rfl rfl rfl fun K hK hb1 hb2=>?_;simp only [argsV,enc,Nat.reduceAdd]
 clear hb1 hb2
 (repeat (any_goals (first | refine ste ?_ | (refine go2 fun xe hxe=>?_;conv=>whnf) | ((with_reducible refine cnd_i (fun hq=>?_) fun hq=>?_) <;> (try simp only [hqs] at hq) <;> (first | omega | conv=>whnf)) | refine cr (hL) ?_ | refine cr (hV) ?_)))
 exact ⟨rfl,rfl⟩
theorem inwZ_c (c:List Int) (l:List Int) (hc:comV c = true) (hl:leaS c l = true):ConV Tryz.prog 31 [.lst (.int .i64) c,.lst .vtx [],.lst (.int .i64) l] [] (.tup [.agg [.ptr 4 0,.lst (.int .i64) l],.nili]) (gZ c gs0):=by
 have hg:graS c [] = true:=by simp [graS,hc,allTo]
 have hL:=link_c c [] (by simp)
 have hV:=ileaV_c c l
 simp only [lgR,lgO,hg,if_true] at hL
 rw [hc,hl] at hV
 refine con_eq Θe_ok Tryz.func31 rfl rfl false 0 4 rfl rfl rfl rfl fun K hK hb1 hb2=>?_;simp only [argsV,enc,Nat.reduceAdd]
 clear hb1 hb2
 (repeat (any_goals (first | refine ste ?_ | (refine go2 fun xe hxe=>?_;conv=>whnf) | ((with_reducible refine cnd_i (fun hq=>?_) fun hq=>?_) <;> (try simp only [hqs] at hq) <;> (first | omega | conv=>whnf)) | refine cr (hL) ?_ | refine cr (hV) ?_)))
 exact ⟨rfl,rfl⟩
noncomputable def cmw (c:List Int) (g:List Vtx) (l:List Int):List Nat:=if wvV c g l then (cmt c g l l.length).1 else []
theorem icw_c (c:List Int) (g:List Vtx) (l:List Int) (hgl:g.length ≤ 1000000):ConV Tryz.prog 9 [.lst (.int .i64) c,.lst .vtx g,.lst (.int .i64) l] [] (.lst (.int .i64) (intsN (cmw c g l))) []:=by
 refine con_eq Θe_ok Tryz.func9 rfl rfl true 0 4 rfl rfl rfl rfl fun K hK hb1 hb2=>?_;simp only [argsV,enc,Nat.reduceAdd]
 clear hb1 hb2
 cases hw:wvV c g l
 ·have hN:=inw_no c g l hgl hw
  (repeat (any_goals (first | refine ste ?_ | (refine go2 fun xe hxe=>?_;conv=>whnf) | ((with_reducible refine cnd_i (fun hq=>?_) fun hq=>?_) <;> (try simp only [hqs] at hq) <;> (first | omega | conv=>whnf)) | refine cr (hN) ?_)))
  exact ⟨by rw [cmw,hw];rfl,rfl⟩
 ·obtain ⟨hg,hl⟩:graS c g = true ∧ leaS c l = true:=by simpa [wvV] using hw
  have hok:=graS_ok hg
  have e:cmw c g l = (cmt c g l l.length).1:=by rw [cmw,hw];rfl
  rw [e]
  cases g with
  | nil=>
   have hN:=inwZ_c c l hok.com hl
   have hC:=icmtZ_c c l hok.com hl
   rw [cmt_nil c l hok.com]
   (repeat (any_goals (first | refine ste ?_ | (refine go2 fun xe hxe=>?_;conv=>whnf) | ((with_reducible refine cnd_i (fun hq=>?_) fun hq=>?_) <;> (try simp only [hqs] at hq) <;> (first | omega | conv=>whnf)) | refine cr (hN) ?_ | refine co (hC) ?_)))
   exact ⟨rfl,rfl⟩
  | cons v g=>
   have hN:=inwR_c c v g l hgl hg hl
   have hC:=icmt_c c (v :: g) l hok hgl hl
   (repeat (any_goals (first | refine ste ?_ | (refine go2 fun xe hxe=>?_;conv=>whnf) | ((with_reducible refine cnd_i (fun hq=>?_) fun hq=>?_) <;> (try simp only [hqs] at hq) <;> (first | omega | conv=>whnf)) | refine cr (hN) ?_ | refine co (hC) ?_)))
   exact ⟨rfl,rfl⟩
end Go.Proofs.YtncmbiacjeicpaaGreatDoor.Am
namespace Go.Proofs.YtncmbiacjeicpaaGreatDoor.Am
open Go
theorem quo_good {c ms:List Int} {b:Int} (hc:comV c = true) (hb:badS c b = true) (hm:mems c ms = true) (hq:quo c ≤ wei c ms):∃ m:Nat,(m:Int) ∈ ms ∧ (m:Int) ≠ b ∧ m < c.length:=by
 by_cases hx:∃ m ∈ ms,m ≠ b
 ·obtain ⟨m,h1,h2⟩:=hx
  have:=mems_in hm m h1
  exact ⟨m.toNat,by rw [Int.toNat_of_nonneg this.1];exact h1,by rw [Int.toNat_of_nonneg this.1];exact h2,by omega⟩
 ·exfalso
  have hf:ms.filter (fun m=>m != b) = []:=List.filter_eq_nil_iff.2 fun m h1 h2=>hx ⟨m,h1,by simpa using h2⟩
  have h1:=wei_but (c:=c) (b:=b) (asc_nodup (mems_asc hm))
  rw [hf] at h1
  have hle:(if b ∈ ms then c.getD b.toNat 0 else 0) ≤ fau c:=by
   have hbd:=fau_bd hc
   split
   ·rename_i h2
    rcases badS_iff.1 hb with h | ⟨-,h⟩
    ·have:=mems_in hm _ h2;omega
    ·exact h
   ·exact hbd.1
  have hbd:=fau_bd hc
  have ht:=tot_bd hc
  have:quo c = 2 * tot c / 3 + 1:=by
   unfold quo
   rw [Int.tdiv_eq_ediv_of_nonneg (by omega)]
  have h0:wei c [] = 0:=rfl
  omega
def vsm (w u:Wrl):Prop:=∀ p ∈ u.props,∃ q ∈ w.props,q.v = p.v
theorem vsm_refl (w:Wrl):vsm w w:=fun p hp=>⟨p,hp,rfl⟩
theorem vsm_trans {w u x:Wrl} (h1:vsm w u) (h2:vsm u x):vsm w x:=fun p hp=>by
 obtain ⟨q,q1,q2⟩:=h2 p hp
 obtain ⟨y,y1,y2⟩:=h1 q q1
 exact ⟨y,y1,y2.trans q2⟩
theorem vsm_vot (w:Wrl) (m i:Int):vsm w (sVot w m i):=by
 unfold sVot
 split
 ·rename_i h
  have hi:inP w i = true:=by
   unfold votB at h
   simp only [Bool.and_eq_true] at h
   exact h.2.1
  obtain ⟨h1,h2,h3⟩:=prop_at hi
  intro p hp
  rcases List.mem_or_eq_of_mem_set hp with hp | rfl
  ·exact ⟨p,hp,rfl⟩
  ·exact ⟨_,h3,rfl⟩
 ·exact vsm_refl w
theorem vsm_votTo (w:Wrl) (i:Int):∀ n,vsm w (votTo w i n)
 | 0=>vsm_refl w
 | n + 1=>vsm_trans (vsm_votTo w i n) (vsm_vot _ _ _)
theorem vsm_votsTo (w:Wrl):∀ k,vsm w (votsTo w k)
 | 0=>vsm_refl w
 | k + 1=>vsm_trans (vsm_votsTo w k) (vsm_votTo _ _ _)
theorem vsm_spr:∀ (n:Nat) {w:Wrl},1519 - tsz w ≤ n → WOK w → vsm w (sSpr w):=by
 have base:∀ w:Wrl,vsm w (pass w):=fun w p hp=>by
  have:(pass w).props = w.props:=(passTo_com w _).2
  rw [this] at hp
  exact ⟨p,hp,rfl⟩
 intro n
 induction n with
 | zero=>
  intro w hn h
  rw [sSpr]
  split
  ·rename_i hh
   exact absurd hh (by omega)
  ·exact base w
 | succ n ih=>
  intro w hn h
  rw [sSpr]
  split
  ·rename_i hh
   have hh1:=hh.1
   exact vsm_trans (base w) (ih (w:=pass w) (by omega) (pass_ok h))
  ·exact base w
theorem vsm_rnd1 {w:Wrl} (hw:WOK w):vsm w (rnd1 w):=vsm_trans (vsm_votsTo w _) (vsm_spr _ (Nat.le_refl _) (votsTo_ok hw _))
def upB (w:Wrl) (B:Int):Prop:=∀ p ∈ w.props,p.v.author ≠ w.bad → p.v.round ≤ B
theorem upB_vsm {w u:Wrl} {B:Int} (h:upB w B) (hs:vsm w u) (hb:u.bad = w.bad):upB u B:=fun p hp ha=>by
 obtain ⟨q,q1,q2⟩:=hs p hp
 rw [← q2]
 exact h q q1 (by rw [q2,← hb];exact ha)
theorem hgt_up {w:Wrl} (hw:WOK w) {B:Int} (hB:-1 ≤ B) (h:upB w B) {m:Nat} (hm:m < w.com.length):hgt w.com (w.views.getD m []) ≤ B:=by
 have hg:=graS_ok (hw.gra _ (view_gd hw hm))
 have hbd:=hgt_bd w.com (w.views.getD m [])
 by_cases h0:hgt w.com (w.views.getD m []) < 0
 ·omega
 ·obtain ⟨r,hr⟩:∃ r:Nat,hgt w.com (w.views.getD m []) = r:=⟨(hgt w.com (w.views.getD m [])).toNat,by omega⟩
  have hq:=(hgt_iff hg (r:=r) (by omega)).2 (by omega)
  obtain ⟨a,a1,a2,a3⟩:=quo_good hw.com hw.bad (auth_mems hg r) hq
  obtain ⟨v,v1,v2,v3⟩:=hasV_iff.1 (auth_mem.1 a1)
  obtain ⟨p,p1,p2,rfl⟩:=hw.knw _ (view_gd hw hm) v v1
  have:=h p p1 (by rw [v3];exact a2)
  omega
def hgtE (w:Wrl) (H:Int):Prop:=∀ m:Nat,m < w.com.length → (m:Int) ≠ w.bad → hgt w.com (w.views.getD m []) = H
theorem hgtE_of {w:Wrl} (hw:WOK w) (hs:still w):∃ H,(-1 ≤ H ∧ H ≤ 30) ∧ hgtE w H:=by
 have hx:∃ m:Nat,m < w.com.length ∧ (m:Int) ≠ w.bad:=by
  refine Classical.byContradiction fun hno=>?_
  have:=cor_quo (c:=w.com) (ms:=[]) hw.com hw.bad List.Pairwise.nil fun m h1 h2=>absurd ⟨m,h1,h2⟩ hno
  have hb:=quo_bd hw.com
  have h0:wei w.com [] = 0:=rfl
  omega
 obtain ⟨m,m1,m2⟩:=hx
 exact ⟨_,hgt_bd _ _,fun k k1 k2=>by rw [still_evn hw hs k1 k2 m1 m2]⟩
theorem half {w:Wrl} (hw:WOK w) (hs:still w) (r:Nat) (hr:r ≤ 12) (hl:(prpTo w r w.com.length).props.length < 220) {H:Int} (hH:-1 ≤ H ∧ H ≤ 30) (hE:hgtE w H) (hU:upB w (H + 1)):∃ H',(-1 ≤ H' ∧ H' ≤ 30) ∧ hgtE (rnd1 (prpTo w r w.com.length)) H' ∧ upB (rnd1 (prpTo w r w.com.length)) H' ∧ ((H < 30 ∧ H' = H + 1) ∨ (H = 30 ∧ H' = 30)):=by
 have hu:=prpTo_ok hw r w.com.length
 have huc:=prpTo_com w r w.com.length
 obtain ⟨huv,hub⟩:=prpTo_views w r w.com.length
 have hx:=rnd1_ok hu
 have hg:=grw_rnd1 hu
 have hgu:=grw_prpTo hw r w.com.length
 have hup:∀ p ∈ (prpTo w r w.com.length).props,p.v.author ≠ (prpTo w r w.com.length).bad → p.v.round ≤ H + 1 ∧ p.v.round ≤ 30:=fun p hp ha=>by
  have hok:=vtxS_ok (one_of hu hp).1
  have hm:p.v.author.toNat < w.com.length:=by rw [← huc];omega
  have e:((p.v.author.toNat:Nat):Int) = p.v.author:=by omega
  have:=prop_hgt hu hp (m:=p.v.author.toNat) (by rw [huc];exact hm) (by rw [e];exact ha) e.symm
  rw [huc,huv,hE _ hm (by rw [e,← hub];exact ha)] at this
  exact ⟨this,hok.1.2⟩
 by_cases h30:H < 30
 ·have hU3:upB (rnd1 (prpTo w r w.com.length)) (H + 1):=upB_vsm (fun p hp ha=>(hup p hp ha).1) (vsm_rnd1 hu) hg.bad
  refine ⟨H + 1,by omega,fun m hm hb=>?_,hU3,.inl ⟨h30,rfl⟩⟩
  have hmw:m < w.com.length:=by rw [← huc,← hg.com];exact hm
  have hmb:(m:Int) ≠ w.bad:=by rw [← hub,← hg.bad];exact hb
  have h1:=hgt_up hx (by omega) hU3 hm
  have h2:=rnd_grows hw hs r hr hl hmw hmb (by rw [hE m hmw hmb];exact h30)
  rw [hE m hmw hmb] at h2
  rw [hg.com,huc] at h1 ⊢
  omega
 ·have hU3:upB (rnd1 (prpTo w r w.com.length)) 30:=upB_vsm (fun p hp ha=>(hup p hp ha).2) (vsm_rnd1 hu) hg.bad
  refine ⟨30,by omega,fun m hm hb=>?_,hU3,.inr ⟨by omega,rfl⟩⟩
  have hmw:m < w.com.length:=by rw [← huc,← hg.com];exact hm
  have hmb:(m:Int) ≠ w.bad:=by rw [← hub,← hg.bad];exact hb
  have h1:=hgt_up hx (by omega) hU3 hm
  have v1:=hw.gra _ (view_gd hw hmw)
  have v2:=hx.gra _ (view_gd hx hm)
  rw [hg.com,huc] at v2
  have h2:=hgt_sub v1 v2 ((hgu.trans hg).views m)
  rw [hE m hmw hmb] at h2
  rw [hg.com,huc] at h1 ⊢
  omega
structure Lock (w:Wrl) (L H:Int):Prop where
 bd:-1 ≤ H ∧ H ≤ 30
 hh:hgtE w H
 up:upB w H
 all:H < 30 → ∀ m a:Nat,m < w.com.length → (m:Int) ≠ w.bad → a < w.com.length → (a:Int) ≠ w.bad → hasV (w.views.getD m []) H a = true
 par:∀ m a:Nat,m < w.com.length → (m:Int) ≠ w.bad → a < w.com.length → (a:Int) ≠ w.bad → ∀ R:Int,L + 3 ≤ R → R ≤ H → ∃ v ∈ w.views.getD m [],v.author = a ∧ v.round = R ∧ ∀ b:Nat,b < w.com.length → (b:Int) ≠ w.bad → (b:Int) ∈ v.parents
theorem hgtE_rnd1 {w:Wrl} (hw:WOK w) {B:Int} (hB:-1 ≤ B) (hU:upB w B) {H:Int} (hE:hgtE w H):∃ H',(-1 ≤ H' ∧ H' ≤ 30) ∧ hgtE (rnd1 w) H' ∧ H' ≤ B ∧ H ≤ H':=by
 have hx:=rnd1_ok hw
 have hg:=grw_rnd1 hw
 have hst:still (rnd1 w):=sSpr_still _ (Nat.le_refl _) (votsTo_ok hw _)
 obtain ⟨H',h1,h2⟩:=hgtE_of hx hst
 have hm:∃ m:Nat,m < w.com.length ∧ (m:Int) ≠ w.bad:=by
  refine Classical.byContradiction fun hno=>?_
  have:=cor_quo (c:=w.com) (ms:=[]) hw.com hw.bad List.Pairwise.nil fun m h1 h2=>absurd ⟨m,h1,h2⟩ hno
  have hb:=quo_bd hw.com
  have h0:wei w.com [] = 0:=rfl
  omega
 obtain ⟨m,m1,m2⟩:=hm
 have hmx:m < (rnd1 w).com.length:=by rw [hg.com];exact m1
 have e1:=h2 m hmx (by rw [hg.bad];exact m2)
 have e2:=hE m m1 m2
 have a1:=hgt_up hx hB (upB_vsm hU (vsm_rnd1 hw) hg.bad) hmx
 have v1:=hw.gra _ (view_gd hw m1)
 have v2:=hx.gra _ (view_gd hx hmx)
 rw [hg.com] at v2 e1 a1
 have a2:=hgt_sub v1 v2 (hg.views m)
 exact ⟨H',h1,h2,by omega,by omega⟩
theorem lock0 {w:Wrl} (hw:WOK w) {L:Int} (hL:-1 ≤ L) (hE:hgtE w L) (r:Nat) (hr:r ≤ 12) (hl:(prpTo (rnd1 w) r (rnd1 w).com.length).props.length < 220):∃ H,Lock (rnd w r) L H:=by
 have hU:upB w (L + 1):=fun p hp ha=>by
  have hok:=vtxS_ok (one_of hw hp).1
  have e:((p.v.author.toNat:Nat):Int) = p.v.author:=by omega
  have:=prop_hgt hw hp (m:=p.v.author.toNat) (by omega) (by rw [e];exact ha) e.symm
  rw [hE _ (by omega) (by rw [e];exact ha)] at this
  exact this
 obtain ⟨H1,b1,b2,b3,b4⟩:=hgtE_rnd1 hw (by omega) hU hE
 have h1:=rnd1_ok hw
 have hs1:still (rnd1 w):=sSpr_still _ (Nat.le_refl _) (votsTo_ok hw _)
 have hg1:=grw_rnd1 hw
 have hU1:upB (rnd1 w) (H1 + 1):=fun p hp ha=>by
  have:=upB_vsm hU (vsm_rnd1 hw) hg1.bad p hp ha
  omega
 obtain ⟨H,c1,c2,c3,c4⟩:=half h1 hs1 r hr hl b1 b2 hU1
 have hu:=prpTo_ok h1 r (rnd1 w).com.length
 have huc:=prpTo_com (rnd1 w) r (rnd1 w).com.length
 have hub:=(prpTo_views (rnd1 w) r (rnd1 w).com.length).2
 have hg3:=grw_rnd1 hu
 refine ⟨H,c1,c2,c3,fun h30 m a hm hb ha hab=>?_,fun m a hm hb ha hab R r1 r2=>?_⟩
 ·have hm':m < (rnd1 w).com.length:=by rw [← huc,← hg3.com];exact hm
  have hb':(m:Int) ≠ (rnd1 w).bad:=by rw [← hub,← hg3.bad];exact hb
  obtain ⟨v,v1,v2,v3,-⟩:=rnd_in h1 hs1 r hr hl hm' hb' (by rw [b2 m hm' hb'];omega) (k:=a) (by rw [← huc,← hg3.com];exact ha) (by rw [← hub,← hg3.bad];exact hab)
  rw [b2 m hm' hb'] at v3
  exact hasV_iff.2 ⟨v,v1,by omega,v2⟩
 ·omega
theorem lock1 {w:Wrl} (hw:WOK w) {L H:Int} (hL:-1 ≤ L) (h:Lock w L H) (r:Nat) (hr:r ≤ 12) (hl:(prpTo (rnd1 w) r (rnd1 w).com.length).props.length < 220):∃ H',Lock (rnd w r) L H':=by
 obtain ⟨H1,b1,b2,b3,b4⟩:=hgtE_rnd1 hw h.bd.1 h.up h.hh
 obtain rfl:H1 = H:=by omega
 have h1:=rnd1_ok hw
 have hs1:still (rnd1 w):=sSpr_still _ (Nat.le_refl _) (votsTo_ok hw _)
 have hg1:=grw_rnd1 hw
 have hU1:upB (rnd1 w) H1:=upB_vsm h.up (vsm_rnd1 hw) hg1.bad
 obtain ⟨H',c1,c2,c3,c4⟩:=half h1 hs1 r hr hl b1 b2 fun p hp ha=>by have:=hU1 p hp ha;omega
 have hu:=prpTo_ok h1 r (rnd1 w).com.length
 have huc:=prpTo_com (rnd1 w) r (rnd1 w).com.length
 have hub:=(prpTo_views (rnd1 w) r (rnd1 w).com.length).2
 have hg2:=grw_prpTo h1 r (rnd1 w).com.length
 have hg3:=grw_rnd1 hu
 have hgA:=hg1.trans (hg2.trans hg3)
 have tr:∀ {m:Nat},m < (rnd w r).com.length → (m:Int) ≠ (rnd w r).bad → (m < (rnd1 w).com.length ∧ (m:Int) ≠ (rnd1 w).bad) ∧ m < w.com.length ∧ (m:Int) ≠ w.bad:=fun {m} a b=>by
  have a:m < (rnd1 (prpTo (rnd1 w) r (rnd1 w).com.length)).com.length:=a
  have b:(m:Int) ≠ (rnd1 (prpTo (rnd1 w) r (rnd1 w).com.length)).bad:=b
  rw [hg3.com,huc] at a
  rw [hg3.bad,hub] at b
  exact ⟨⟨a,b⟩,by rw [← hg1.com];exact a,by rw [← hg1.bad];exact b⟩
 refine ⟨H',c1,c2,c3,fun h30 m a hm hb ha hab=>?_,fun m a hm hb ha hab R r1 r2=>?_⟩
 ·obtain ⟨⟨m1,m2⟩,m3,m4⟩:=tr hm hb
  obtain ⟨⟨a1,a2⟩,a3,a4⟩:=tr ha hab
  obtain ⟨v,v1,v2,v3,-⟩:=rnd_in h1 hs1 r hr hl m1 m2 (by rw [b2 m m1 m2];omega) a1 a2
  rw [b2 m m1 m2] at v3
  exact hasV_iff.2 ⟨v,v1,by omega,v2⟩
 ·obtain ⟨⟨m1,m2⟩,m3,m4⟩:=tr hm hb
  obtain ⟨⟨a1,a2⟩,a3,a4⟩:=tr ha hab
  rcases Int.lt_or_le H1 R with hlt | hge
  ·obtain ⟨v,v1,v2,v3,v4⟩:=rnd_in h1 hs1 r hr hl m1 m2 (by rw [b2 m m1 m2];omega) a1 a2
   rw [b2 m m1 m2] at v3 v4
   refine ⟨v,v1,v2,by omega,fun b hbl hbb=>?_⟩
   obtain ⟨⟨d1,d2⟩,d3,d4⟩:=tr hbl hbb
   rcases v4 with ⟨q,q1,q2⟩ | v4
   ·have:=hU1 q q1 (by rw [q2,v2];exact a2)
    rw [q2] at this
    omega
   ·rw [v4 (by omega),auth_mem]
    obtain ⟨u,u1,u2,u3⟩:=hasV_iff.1 (h.all (by omega) m b m3 m4 d3 d4)
    exact hasV_iff.2 ⟨u,hg1.views m u u1,u2,u3⟩
  ·obtain ⟨v,v1,v2,v3,v4⟩:=h.par m a m3 m4 a3 a4 R r1 hge
   exact ⟨v,hgA.views m v v1,v2,v3,fun b hbl hbb=>v4 b (tr hbl hbb).2.1 (tr hbl hbb).2.2⟩
theorem calm_lock {w:Wrl} (hw:WOK w) {L:Int} (hL:-1 ≤ L) (hE:hgtE (calmTo w 0) L):∀ r:Nat,r ≤ 12 → (calmTo w r).props.length < 220 → (r = 0 ∧ hgtE (calmTo w r) L) ∨ ∃ H,Lock (calmTo w r) L H
 | 0,_,_=>.inl ⟨rfl,hE⟩
 | r + 1,hr,hl=>by
  have ho:=calmTo_ok hw r
  have ho1:=rnd1_ok ho
  have hg1:=grw_rnd1 ho
  have hg2:=grw_prpTo ho1 r (rnd1 (calmTo w r)).com.length
  have hg3:=grw_rnd1 (prpTo_ok ho1 r (rnd1 (calmTo w r)).com.length)
  have hl:(rnd1 (prpTo (rnd1 (calmTo w r)) r (rnd1 (calmTo w r)).com.length)).props.length < 220:=hl
  have l1:=hg1.plen
  have l2:=hg2.plen
  have l3:=hg3.plen
  rcases calm_lock hw hL hE r (by omega) (by omega) with ⟨e1,e2⟩ | ⟨H,h⟩
  ·exact .inr (lock0 ho hL e2 r (by omega) (by omega))
  ·exact .inr (lock1 ho hL h r (by omega) (by omega))
theorem dir_cmt {c:List Int} {g:List Vtx} (hc:comV c = true) (l:List Int) {k:Nat} (hk:1 ≤ k) (hd:dir c g l k = true):∀ n:Nat,k ≤ n → k ∈ (cmt c g l n).1
 | 0,h=>by omega
 | n + 1,h=>by
  rcases Nat.lt_or_ge n k with hlt | hge
  ·obtain rfl:k = n + 1:=by omega
   obtain ⟨v,hv,-⟩:=dir_ldr hc hd
   unfold cmt
   rw [if_pos hd]
   refine List.mem_append.2 (.inr ?_)
   unfold chn
   rw [hv]
   exact List.mem_append.2 (.inr (by simp))
  ·have ih:=dir_cmt hc l hk hd n hge
   unfold cmt
   split
   ·exact List.mem_append.2 (.inl ih)
   ·exact ih
theorem calm_dir {w:Wrl} (hw:WOK w) {L:Int} (hL:-1 ≤ L) (hE:hgtE (calmTo w 0) L) (r:Nat) (hr:r ≤ 12) (hl:(calmTo w r).props.length < 220) {m:Nat} (hm:m < w.com.length) (hb:(m:Int) ≠ w.bad) {l:List Int} {k:Nat} (h1:L + 1 < 2 * (k:Int) - 1) (h2:2 * (k:Int) ≤ hgt w.com ((calmTo w r).views.getD m [])) {a:Nat} (ha:ldrA l k = a) (hal:a < w.com.length) (hab:(a:Int) ≠ w.bad):dir w.com ((calmTo w r).views.getD m []) l k = true:=by
 have hg:=grw_calm hw r
 have ho:=calmTo_ok hw r
 rcases calm_lock hw hL hE r hr hl with ⟨e1,e2⟩ | ⟨H,h⟩
 ·have:=e2 m (by rw [hg.com];exact hm) (by rw [hg.bad];exact hb)
  rw [hg.com] at this
  omega
 ·have hH:=h.hh m (by rw [hg.com];exact hm) (by rw [hg.bad];exact hb)
  rw [hg.com] at hH
  have hgo:=graS_ok (ho.gra _ (view_gd ho (m:=m) (by rw [hg.com];exact hm)))
  rw [hg.com] at hgo
  have key:∀ b:Nat,b < w.com.length → (b:Int) ≠ w.bad → ∃ v ∈ (calmTo w r).views.getD m [],v.author = b ∧ v.round = 2 * (k:Int) ∧ (a:Int) ∈ v.parents:=fun b b1 b2=>by
   obtain ⟨v,v1,v2,v3,v4⟩:=h.par m b (by rw [hg.com];exact hm) (by rw [hg.bad];exact hb) (by rw [hg.com];exact b1) (by rw [hg.bad];exact b2) (2 * (k:Int)) (by omega) (by omega)
   exact ⟨v,v1,v2,v3,v4 a (by rw [hg.com];exact hal) (by rw [hg.bad];exact hab)⟩
  generalize (calmTo w r).views.getD m [] = g at *
  obtain ⟨v,v1,v2,v3,v4⟩:=key a hal hab
  obtain ⟨u,u1,u2,u3⟩:=hasV_iff.1 (parOK_iff.1 (hgo.par v v1) _ v4)
  have hld:=ldr_of hgo.pw (l:=l) (w:=k) u1 (by omega) (by rw [u3,ha])
  have hq:=cor_quo hw.com hw.bad (vtr_asc hgo.pw l k) fun b b1 b2=>by
   obtain ⟨x,x1,x2,x3,x4⟩:=key b b1 b2
   exact vtr_mem.2 ⟨x,x1,x3,by rw [ha];exact x4,x2⟩
  have ht:=tot_bd hw.com
  have hs:=sup_pos hw.com
  have hqe:quo w.com = 2 * tot w.com / 3 + 1:=by
   unfold quo
   rw [Int.tdiv_eq_ediv_of_nonneg (by omega)]
  unfold dir vts'
  rw [hld]
  exact decide_eq_true (by simp only [Option.isSome_some,if_true];omega)
end Go.Proofs.YtncmbiacjeicpaaGreatDoor.Am
namespace Go.Proofs.YtncmbiacjeicpaaGreatDoor.Am
open Go
attribute [local irreducible] Mk Need Ari Get Idx Cnd CallM CallA Opt Unch At ConV
set_option maxRecDepth 10000
def evK (k:Int) (m i:Nat):Evt:=⟨k,m,i,v0⟩
def eTo (k:Int) (w:Wrl) (i:Nat):Nat → Wrl
 | 0=>w
 | m + 1=>sDo (eTo k w i m) (evK k m i)
def eTs (k:Int) (w:Wrl):Nat → Wrl
 | 0=>w
 | i + 1=>eTo k (eTs k w i) i (eTs k w i).com.length
def cTo (k:Int) (w:Wrl) (i:Nat) (b:Bool):Nat → Bool
 | 0=>b
 | m + 1=>cTo k w i b m || chg (eTo k w i m) (evK k m i)
def cTs (k:Int) (w:Wrl):Nat → Bool
 | 0=>false
 | i + 1=>cTo k (eTs k w i) i (cTs k w i) (eTs k w i).com.length
theorem eTo_ok {k:Int} {w:Wrl} (h:WOK w) (i:Nat):∀ m,WOK (eTo k w i m)
 | 0=>h
 | m + 1=>sDo_ok (eTo_ok h i m) _
theorem eTs_ok {k:Int} {w:Wrl} (h:WOK w):∀ i,WOK (eTs k w i)
 | 0=>h
 | i + 1=>eTo_ok (eTs_ok h i) i _
theorem sDo_2 (w:Wrl) (m i:Nat):sDo w (evK 2 m i) = sVot w m i:=rfl
theorem sDo_3 (w:Wrl) (m i:Nat):sDo w (evK 3 m i) = sDel w m i:=rfl
theorem eTo_2 (w:Wrl) (i:Nat):∀ m,eTo 2 w i m = votTo w i m
 | 0=>rfl
 | m + 1=>by rw [eTo,sDo_2,eTo_2 w i m];rfl
theorem eTs_2 (w:Wrl):∀ i,eTs 2 w i = votsTo w i
 | 0=>rfl
 | i + 1=>by rw [eTs,eTo_2,eTs_2 w i];rfl
theorem eTo_3 (w:Wrl) (i:Nat):∀ m,eTo 3 w i m = delTo w i m
 | 0=>rfl
 | m + 1=>by rw [eTo,sDo_3,eTo_3 w i m];rfl
theorem eTs_3 (w:Wrl):∀ i,eTs 3 w i = passTo w i
 | 0=>rfl
 | i + 1=>by rw [eTs,eTo_3,eTs_3 w i];rfl
theorem eTo_com {k:Int} (hk:k = 2 ∨ k = 3) (w:Wrl) (i m:Nat):(eTo k w i m).com = w.com ∧ (eTo k w i m).props.length = w.props.length:=by
 rcases hk with rfl | rfl
 ·rw [eTo_2]
  exact votTo_com w i m
 ·rw [eTo_3]
  exact ⟨(delTo_com w i m).1,by rw [(delTo_com w i m).2]⟩
theorem eTs_com {k:Int} (hk:k = 2 ∨ k = 3) (w:Wrl) (i:Nat):(eTs k w i).com = w.com ∧ (eTs k w i).props.length = w.props.length:=by
 rcases hk with rfl | rfl
 ·rw [eTs_2]
  exact votsTo_com w i
 ·rw [eTs_3]
  exact ⟨(passTo_com w i).1,by rw [(passTo_com w i).2]⟩
theorem chg_3 {w:Wrl} (h:WOK w) (m i:Nat):chg w (evK 3 m i) = decide (tsz w < tsz (sDel w m i)):=by
 have e:chg w (evK 3 m i) = delB w m i:=rfl
 rw [e]
 rcases sDel_cases h m i with ⟨h1,h2⟩ | ⟨h1,h2⟩
 ·rw [h1,h2];simp
 ·rw [h1,h2];simp
theorem cTo_3 {w:Wrl} (h:WOK w) (i:Nat) {b:Bool} {n:Nat} (hn:n ≤ tsz w) (hb:b = decide (n < tsz w)):∀ m,cTo 3 w i b m = decide (n < tsz (delTo w i m)) ∧ n ≤ tsz (delTo w i m)
 | 0=>⟨hb,hn⟩
 | m + 1=>by
  obtain ⟨h1,h2⟩:=cTo_3 h i hn hb m
  have h3:=delTo_ok h i m
  rw [cTo,h1,eTo_3,chg_3 h3]
  have h4:tsz (delTo w i m) ≤ tsz (delTo w i (m + 1)):=by
   rcases sDel_cases h3 m i with ⟨-,e⟩ | ⟨-,e⟩
   ·show _ ≤ tsz (sDel _ _ _);rw [e];exact Nat.le_refl _
   ·show _ ≤ tsz (sDel _ _ _);rw [e];omega
  refine ⟨?_,by omega⟩
  rw [Bool.eq_iff_iff,Bool.or_eq_true,decide_eq_true_iff,decide_eq_true_iff,decide_eq_true_iff]
  show _ ∨ tsz (delTo w i m) < tsz (delTo w i (m + 1)) ↔ _
  omega
theorem cTs_3 {w:Wrl} (h:WOK w):∀ i,cTs 3 w i = decide (tsz w < tsz (passTo w i)) ∧ tsz w ≤ tsz (passTo w i)
 | 0=>⟨by rw [cTs,passTo];simp,Nat.le_refl _⟩
 | i + 1=>by
  obtain ⟨h1,h2⟩:=cTs_3 h i
  have:=cTo_3 (passTo_ok h i) i h2 h1 (passTo w i).com.length
  rw [cTs,eTs_3]
  exact this
abbrev Xm:Type:=List (Option (List Int)) × List PplM
theorem evt_app (w:Wrl) (xss:List (Option (List Int))) (ms:List PplM) (hw:WOK w) (hR:Rel w.props xss ms) {k:Int} (hk:k = 2 ∨ k = 3) (m i:Nat):∃ x:Xm,(Rel (sDo w (evK k m i)).props x.1 x.2 ∧ xss.length ≤ x.1.length) ∧ ConV Tryz.prog 18 [.ptr 4 0,evtA (evK k m i)] (rW 0 w xss ms) (.bool (chg w (evK k m i))) (rW 0 (sDo w (evK k m i)) x.1 x.2):=by
 refine iappN_c w xss ms hw hR (evK k m i) ?_
 unfold adds evK
 rcases hk with rfl | rfl <;> rfl
theorem eTo_ex {k:Int} (hk:k = 2 ∨ k = 3) {w:Wrl} (hw:WOK w) (i:Nat) {x:Xm} (hR:Rel w.props x.1 x.2):∀ m,∃ y:Xm,Rel (eTo k w i m).props y.1 y.2 ∧ x.1.length ≤ y.1.length
 | 0=>⟨x,hR,Nat.le_refl _⟩
 | m + 1=>by
  obtain ⟨y,h1,h2⟩:=eTo_ex hk hw i hR m
  obtain ⟨z,⟨h3,h4⟩,-⟩:=evt_app _ y.1 y.2 (eTo_ok hw i m) h1 hk m i
  exact ⟨z,h3,Nat.le_trans h2 h4⟩
theorem eTs_ex {k:Int} (hk:k = 2 ∨ k = 3) {w:Wrl} (hw:WOK w) {x:Xm} (hR:Rel w.props x.1 x.2):∀ i,∃ y:Xm,Rel (eTs k w i).props y.1 y.2 ∧ x.1.length ≤ y.1.length
 | 0=>⟨x,hR,Nat.le_refl _⟩
 | i + 1=>by
  obtain ⟨y,h1,h2⟩:=eTs_ex hk hw hR i
  obtain ⟨z,h3,h4⟩:=eTo_ex hk (eTs_ok hw i) i h1 (eTs k w i).com.length
  exact ⟨z,h3,Nat.le_trans h2 h4⟩
theorem fl_u {w u:Wrl} (h:u.views.length = w.views.length):famLen (VB.fvari 126 217 (.ob .vtx) (w.views.map tabV)) ≤ famLen (VB.fvari 126 217 (.ob .vtx) (u.views.map tabV)):=by
 show (w.views.map tabV).length ≤ (u.views.map tabV).length
 rw [List.length_map,List.length_map,h]
 exact Nat.le_refl _
theorem fl_x {xs ys:List (Option (List Int))} (h:xs.length ≤ ys.length):famLen (VB.frowx 3 (.int .i64) xs) ≤ famLen (VB.frowx 3 (.int .i64) ys):=h
set_option maxHeartbeats 1000000 in
theorem ieach_c {k:Int} (hk:k = 2 ∨ k = 3) (w:Wrl) (x0:Xm) (hw:WOK w) (hR:Rel w.props x0.1 x0.2):∃ x:Xm,(Rel (eTs k w w.props.length).props x.1 x.2 ∧ x0.1.length ≤ x.1.length) ∧ ConV Tryz.prog 17 [.ptr 4 0,.int .i64 k] (rW 0 w x0.1 x0.2) (.bool (cTs k w w.props.length)) (rW 0 (eTs k w w.props.length) x.1 x.2):=by
 obtain ⟨y0,hy0⟩:=eTs_ex hk hw hR w.props.length
 suffices hs:∃ r hout,(∃ x:Xm,(Rel (eTs k w w.props.length).props x.1 x.2 ∧ x0.1.length ≤ x.1.length) ∧ r = .bool (cTs k w w.props.length) ∧ hout = rW 0 (eTs k w w.props.length) x.1 x.2) ∧ ConV Tryz.prog 17 [.ptr 4 0,.int .i64 k] (rW 0 w x0.1 x0.2) r hout by
  obtain ⟨r,hout,⟨v,hv,rfl,rfl⟩,h⟩:=hs
  exact ⟨v,hv,h⟩
 refine con_ex Θw_ok Tryz.func17 rfl rfl false 3 7 rfl rfl rfl rfl (R:=fun r hout=>∃ x:Xm,(Rel (eTs k w w.props.length).props x.1 x.2 ∧ x0.1.length ≤ x.1.length) ∧ r = .bool (cTs k w w.props.length) ∧ hout = rW 0 (eTs k w w.props.length) x.1 x.2) (r0:=.bool (cTs k w w.props.length)) (hout0:=rW 0 (eTs k w w.props.length) y0.1 y0.2) (⟨y0,hy0,rfl,rfl⟩) fun K hK hb1 hb2=>?_;simp only [argsV,enc,Nat.reduceAdd]
 clear hb1 hb2
 have h7:=hw.len
 have hpl:=hw.plen
 have hml:=hR.len
 (repeat (any_goals (first | refine stw ?_ | (refine go2 fun xe hxe=>?_;conv=>whnf) | ((with_reducible refine cnd_i (fun hq=>?_) fun hq=>?_) <;> (try simp only [hqs] at hq) <;> (first | omega | conv=>whnf)))))
 refine at_loop hK [] [0,1,5,12,13] (fun x:Nat × Xm=>⟨[(0,.ptr 4 0),(1,.int .i64 k),(5,.bool (cTs k w x.1)),(12,.int .i64 w.props.length),(13,.int .i64 (x.1:Int))],rW 0 (eTs k w x.1) x.2.1 x.2.2,7⟩) (fun x=>x.1 ≤ w.props.length ∧ Rel (eTs k w x.1).props x.2.1 x.2.2 ∧ x0.1.length ≤ x.2.1.length) (fun x=>w.props.length - x.1) (0,x0) ⟨Nat.zero_le _,hR,Nat.le_refl _⟩ (by rw [← hml];rfl) ?_
 rintro ⟨i,xs,ms⟩ ⟨hi,hRi,hxi⟩
 dsimp only at hi hRi hxi ⊢
 have hoi:=eTs_ok (k:=k) hw i
 have hci:=eTs_com hk w i
 have hsu:eTs k w (i + 1) = eTo k (eTs k w i) i (eTs k w i).com.length:=rfl
 have hsc:cTs k w (i + 1) = cTo k (eTs k w i) i (cTs k w i) (eTs k w i).com.length:=rfl
 by_cases hlt:i < w.props.length
 ·generalize eTs k w i = y at *
  generalize cTs k w i = b at *
  have hyc:y.com.length = w.com.length:=by rw [hci.1]
  (repeat (any_goals (first | refine stw ?_ | (refine go2 fun xe hxe=>?_;conv=>whnf) | ((with_reducible refine cnd_i (fun hq=>?_) fun hq=>?_) <;> (try simp only [hqs] at hq) <;> (first | omega | conv=>whnf)))))
  refine at_loop hK [] [0,1,5,6,12,13,20,21] (fun x:Nat × Xm=>⟨[(0,.ptr 4 0),(1,.int .i64 k),(5,.bool (cTo k y i b x.1)),(6,.int .i64 (i:Int)),(12,.int .i64 w.props.length),(13,.int .i64 (i:Int)),(20,.int .i64 y.com.length),(21,.int .i64 (x.1:Int))],rW 0 (eTo k y i x.1) x.2.1 x.2.2,7⟩) (fun x=>x.1 ≤ y.com.length ∧ Rel (eTo k y i x.1).props x.2.1 x.2.2 ∧ x0.1.length ≤ x.2.1.length) (fun x=>y.com.length - x.1) (0,xs,ms) ⟨Nat.zero_le _,hRi,hxi⟩ rfl ?_
  rintro ⟨m,xs,ms⟩ ⟨hm,hRm,hxm⟩
  dsimp only at hm hRm hxm ⊢
  have hom:=eTo_ok (k:=k) hoi i m
  have hcm:=eTo_com hk y i m
  have hmu:eTo k y i (m + 1) = sDo (eTo k y i m) (evK k m i):=rfl
  have hmc:cTo k y i b (m + 1) = (cTo k y i b m || chg (eTo k y i m) (evK k m i)):=rfl
  by_cases hml:m < y.com.length
  ·generalize eTo k y i m = z at *
   generalize cTo k y i b m = b2 at *
   obtain ⟨⟨xs',ms'⟩,⟨hR',hx⟩,hC⟩:=evt_app z xs ms hom hRm hk m i
   have hF0:=fl_v (w:=z) (e:=evK k m i)
   have hF1:=fl_x hx
   have hC:ConV Tryz.prog 18 [.ptr 4 0,.agg [.int .i64 k,.int .i64 (m:Int),.int .i64 (i:Int),.int .i64 0,.int .i64 0,.lst (.int .i64) [],.int .i64 0]] (rW 0 z xs ms) (.bool (chg z (evK k m i))) (rW 0 (sDo z (evK k m i)) xs' ms'):=hC
   cases hcg:chg z (evK k m i)
   ·rw [hcg] at hC hmc
    rw [Bool.or_false] at hmc
    (repeat (any_goals (first | refine stw ?_ | (refine go2 fun xe hxe=>?_;conv=>whnf) | ((with_reducible refine cnd_i (fun hq=>?_) fun hq=>?_) <;> (try simp only [hqs] at hq) <;> (first | omega | conv=>whnf)) | refine cr (hC) ?_)))
    refine ⟨(m + 1,xs',ms'),⟨by dsimp only;omega,by dsimp only;rw [hmu];exact hR',by dsimp only at hx ⊢;omega⟩,by dsimp only;omega,?_⟩
    dsimp only
    rw [hmu,hmc]
    rfl
   ·rw [hcg] at hC hmc
    rw [Bool.or_true] at hmc
    (repeat (any_goals (first | refine stw ?_ | (refine go2 fun xe hxe=>?_;conv=>whnf) | ((with_reducible refine cnd_i (fun hq=>?_) fun hq=>?_) <;> (try simp only [hqs] at hq) <;> (first | omega | conv=>whnf)) | refine cr (hC) ?_)))
    refine ⟨(m + 1,xs',ms'),⟨by dsimp only;omega,by dsimp only;rw [hmu];exact hR',by dsimp only at hx ⊢;omega⟩,by dsimp only;omega,?_⟩
    dsimp only
    rw [hmu,hmc]
    rfl
  ·obtain rfl:m = y.com.length:=by omega
   rw [← hsu] at hRm
   rw [← hsu,← hsc]
   generalize hz:eTs k w (i + 1) = z at *
   generalize hb:cTs k w (i + 1) = b2 at *
   (repeat (any_goals (first | refine stw ?_ | (refine go2 fun xe hxe=>?_;conv=>whnf) | ((with_reducible refine cnd_i (fun hq=>?_) fun hq=>?_) <;> (try simp only [hqs] at hq) <;> (first | omega | conv=>whnf)))))
   refine ⟨(i + 1,xs,ms),⟨by dsimp only;omega,by dsimp only;rw [hz];exact hRm,hxm⟩,by dsimp only;omega,?_⟩
   dsimp only
   rw [hz,hb]
   rfl
 ·obtain rfl:i = w.props.length:=by omega
  (repeat (any_goals (first | refine stw ?_ | (refine go2 fun xe hxe=>?_;conv=>whnf) | ((with_reducible refine cnd_i (fun hq=>?_) fun hq=>?_) <;> (try simp only [hqs] at hq) <;> (first | omega | conv=>whnf)))))
  exact ⟨(xs,ms),⟨hRi,hxi⟩,rfl,rfl⟩
theorem ivoa_c (w:Wrl) (x0:Xm) (hw:WOK w) (hR:Rel w.props x0.1 x0.2):∃ x:Xm,(Rel (sVts w).props x.1 x.2 ∧ x0.1.length ≤ x.1.length) ∧ ConV Tryz.prog 17 [.ptr 4 0,.int .i64 2] (rW 0 w x0.1 x0.2) (.bool (cTs 2 w w.props.length)) (rW 0 (sVts w) x.1 x.2):=by
 have h:=ieach_c (k:=2) (.inl rfl) w x0 hw hR
 rw [eTs_2] at h
 exact h
theorem ipas_c (w:Wrl) (x0:Xm) (hw:WOK w) (hR:Rel w.props x0.1 x0.2):∃ x:Xm,(Rel (pass w).props x.1 x.2 ∧ x0.1.length ≤ x.1.length) ∧ ConV Tryz.prog 17 [.ptr 4 0,.int .i64 3] (rW 0 w x0.1 x0.2) (.bool (decide (tsz w < tsz (pass w)))) (rW 0 (pass w) x.1 x.2):=by
 have h:=ieach_c (k:=3) (.inr rfl) w x0 hw hR
 rw [eTs_3,(cTs_3 hw _).1] at h
 exact h
theorem spr_ex:∀ (n:Nat) {w:Wrl},1519 - tsz w ≤ n → ∀ {x:Xm},WOK w → Rel w.props x.1 x.2 → ∃ y:Xm,Rel (sSpr w).props y.1 y.2 ∧ x.1.length ≤ y.1.length:=by
 intro n
 induction n with
 | zero=>
  intro w hn x hw hR
  obtain ⟨y,h,-⟩:=ipas_c w x hw hR
  rw [sSpr]
  split
  ·omega
  ·exact ⟨y,h⟩
 | succ n ih=>
  intro w hn x hw hR
  obtain ⟨y,⟨h1,h2⟩,-⟩:=ipas_c w x hw hR
  rw [sSpr]
  split
  ·obtain ⟨z,h3,h4⟩:=ih (by omega) (pass_ok hw) h1
   exact ⟨z,h3,Nat.le_trans h2 h4⟩
  ·exact ⟨y,h1,h2⟩
theorem spr_com:∀ (n:Nat) {w:Wrl},1519 - tsz w ≤ n → (sSpr w).com = w.com:=by
 intro n
 induction n with
 | zero=>
  intro w hn
  rw [sSpr]
  split
  ·omega
  ·exact (passTo_com w _).1
 | succ n ih=>
  intro w hn
  rw [sSpr]
  split
  ·rw [ih (by omega)];exact (passTo_com w _).1
  ·exact (passTo_com w _).1
theorem views_com {w u:Wrl} (hw:WOK w) (hu:WOK u) (h:u.com = w.com):u.views.length = w.views.length:=by rw [hu.vlen,hw.vlen,h]
set_option maxHeartbeats 1000000 in
theorem ispr_c (w:Wrl) (x0:Xm) (hw:WOK w) (hR:Rel w.props x0.1 x0.2):∃ x:Xm,(Rel (sSpr w).props x.1 x.2 ∧ x0.1.length ≤ x.1.length) ∧ ConV Tryz.prog 16 [.ptr 4 0] (rW 0 w x0.1 x0.2) (.tup []) (rW 0 (sSpr w) x.1 x.2):=by
 obtain ⟨y0,hy0⟩:=spr_ex _ (Nat.le_refl _) hw hR
 suffices hs:∃ r hout,(∃ x:Xm,(Rel (sSpr w).props x.1 x.2 ∧ x0.1.length ≤ x.1.length) ∧ r = .tup [] ∧ hout = rW 0 (sSpr w) x.1 x.2) ∧ ConV Tryz.prog 16 [.ptr 4 0] (rW 0 w x0.1 x0.2) r hout by
  obtain ⟨r,hout,⟨v,hv,rfl,rfl⟩,h⟩:=hs
  exact ⟨v,hv,h⟩
 refine con_ex Θw_ok Tryz.func16 rfl rfl false 3 7 rfl rfl rfl rfl (R:=fun r hout=>∃ x:Xm,(Rel (sSpr w).props x.1 x.2 ∧ x0.1.length ≤ x.1.length) ∧ r = .tup [] ∧ hout = rW 0 (sSpr w) x.1 x.2) (r0:=.tup []) (hout0:=rW 0 (sSpr w) y0.1 y0.2) (⟨y0,hy0,rfl,rfl⟩) fun K hK hb1 hb2=>?_;simp only [argsV,enc,Nat.reduceAdd]
 clear hb1 hb2
 (repeat (any_goals (first | refine stw ?_ | (refine go2 fun xe hxe=>?_;conv=>whnf) | ((with_reducible refine cnd_i (fun hq=>?_) fun hq=>?_) <;> (try simp only [hqs] at hq) <;> (first | omega | conv=>whnf)))))
 refine at_loop hK [] [0] (fun x:Wrl × Xm=>⟨[(0,.ptr 4 0)],rW 0 x.1 x.2.1 x.2.2,7⟩) (fun x=>WOK x.1 ∧ (Rel x.1.props x.2.1 x.2.2 ∧ x0.1.length ≤ x.2.1.length) ∧ x.1.com = w.com ∧ sSpr x.1 = sSpr w) (fun x=>1520 - tsz x.1) (w,x0) ⟨hw,⟨hR,Nat.le_refl _⟩,rfl,rfl⟩ rfl ?_
 rintro ⟨u,xs,ms⟩ ⟨hu,⟨hRu,hxu⟩,huc,hus⟩
 dsimp only at hu hRu hxu huc hus ⊢
 obtain ⟨⟨xs',ms'⟩,⟨hR',hx⟩,hC⟩:=ipas_c u (xs,ms) hu hRu
 dsimp only at hR' hx hC
 have hpo:=pass_ok hu
 have hpc:(pass u).com = u.com:=(passTo_com u _).1
 have hF0:=fl_u (views_com hu hpo hpc)
 have hF1:=fl_x hx
 have htl:=tsz_le hpo
 have htx:=tsz_le hu
 have e1:tsz u < tsz (pass u) → sSpr u = sSpr (pass u):=fun hh=>by
  rw [sSpr]
  exact dif_pos ⟨hh,htl⟩
 have e2:¬ tsz u < tsz (pass u) → sSpr u = pass u:=fun hh=>by
  rw [sSpr]
  exact dif_neg fun h9=>hh h9.1
 generalize pass u = z at *
 by_cases hh:tsz u < tsz z
 ·rw [decide_eq_true hh] at hC
  (repeat (any_goals (first | refine stw ?_ | (refine go2 fun xe hxe=>?_;conv=>whnf) | ((with_reducible refine cnd_i (fun hq=>?_) fun hq=>?_) <;> (try simp only [hqs] at hq) <;> (first | omega | conv=>whnf)) | refine cr (hC) ?_)))
  exact ⟨(z,xs',ms'),⟨hpo,⟨hR',by dsimp only at hx ⊢;omega⟩,by rw [hpc];exact huc,by rw [← e1 hh];exact hus⟩,by dsimp only;omega,rfl⟩
 ·rw [decide_eq_false hh] at hC
  have e3:=e2 hh
  (repeat (any_goals (first | refine stw ?_ | (refine go2 fun xe hxe=>?_;conv=>whnf) | ((with_reducible refine cnd_i (fun hq=>?_) fun hq=>?_) <;> (try simp only [hqs] at hq) <;> (first | omega | conv=>whnf)) | refine cr (hC) ?_)))
  refine ⟨(xs',ms'),⟨?_,?_⟩,rfl,?_⟩
  ·rw [← hus,e3];exact hR'
  ·dsimp only;omega
  ·rw [← hus,e3]
theorem calm_com {w:Wrl}:∀ r,(calmTo w r).com = w.com
 | 0=>spr_com _ (Nat.le_refl _)
 | r + 1=>by
  have h1:∀ u:Wrl,(rnd1 u).com = u.com:=fun u=>(spr_com _ (Nat.le_refl _)).trans (votsTo_com u _).1
  show (rnd1 _).com = _
  rw [h1,prpTo_com,h1]
  exact calm_com r
set_option maxHeartbeats 4000000 in
theorem icalm_c (w:Wrl) (r:Int) (hl:∀ g ∈ w.views,g.length ≤ 2000000) (hr:-1000000 ≤ r ∧ r ≤ 1000000):ConV Tryz.prog 5 [wrlA w,.int .i64 r] [] (if decide (0 ≤ r ∧ r ≤ 12) && wrlS w then wrlA (calmTo w r.toNat) else wrlZ) []:=by
 have he:=wrlS_eq w
 refine con_eq Θw_ok Tryz.func5 rfl rfl true 0 4 rfl rfl rfl rfl fun K hK hb1 hb2=>?_;simp only [argsV,enc,Nat.reduceAdd]
 clear hb1 hb2
 by_cases hr0:r < 0
 ·(repeat (any_goals (first | refine stw ?_ | (refine go2 fun xe hxe=>?_;conv=>whnf) | ((with_reducible refine cnd_i (fun hq=>?_) fun hq=>?_) <;> (try simp only [hqs] at hq) <;> (first | omega | conv=>whnf)))))
  rw [decide_eq_false (p:=0 ≤ r ∧ r ≤ 12) (by omega)]
  exact ⟨rfl,rfl⟩
 by_cases hr1:12 < r
 ·(repeat (any_goals (first | refine stw ?_ | (refine go2 fun xe hxe=>?_;conv=>whnf) | ((with_reducible refine cnd_i (fun hq=>?_) fun hq=>?_) <;> (try simp only [hqs] at hq) <;> (first | omega | conv=>whnf)))))
  rw [decide_eq_false (p:=0 ≤ r ∧ r ≤ 12) (by omega)]
  exact ⟨rfl,rfl⟩
 rw [decide_eq_true (p:=0 ≤ r ∧ r ≤ 12) (by omega),Bool.true_and]
 cases hp:preS w
 ·have hO:=iop_no w hl hp
  rw [hp,Bool.false_and] at he
  (repeat (any_goals (first | refine stw ?_ | (refine go2 fun xe hxe=>?_;conv=>whnf) | ((with_reducible refine cnd_i (fun hq=>?_) fun hq=>?_) <;> (try simp only [hqs] at hq) <;> (first | omega | conv=>whnf)) | refine cr (hO) ?_)))
  rw [he]
  exact ⟨rfl,rfl⟩
 have hO:=iopx_c w hl hp
 cases hs:wrlS w
 ·rw [hs] at hO
  (repeat (any_goals (first | refine stw ?_ | (refine go2 fun xe hxe=>?_;conv=>whnf) | ((with_reducible refine cnd_i (fun hq=>?_) fun hq=>?_) <;> (try simp only [hqs] at hq) <;> (first | omega | conv=>whnf)) | refine cr (hO) ?_)))
  exact ⟨rfl,rfl⟩
 rw [hs] at hO
 have hw:=wok_iff.1 hs
 obtain ⟨⟨xs0,ms0⟩,⟨hR0,hx0⟩,hC0⟩:=ispr_c w (w.props.map fun p=>some p.members,pms w.props) hw (rel0 _)
 dsimp only at hR0 hx0 hC0
 have hF0:=fl_u (views_com hw (calmTo_ok hw 0) (calm_com 0))
 have hF1:=fl_x hx0
 rw [show sSpr w = calmTo w 0 from rfl] at hR0 hC0
 (repeat (any_goals (first | refine stw ?_ | (refine go2 fun xe hxe=>?_;conv=>whnf) | ((with_reducible refine cnd_i (fun hq=>?_) fun hq=>?_) <;> (try simp only [hqs] at hq) <;> (first | omega | conv=>whnf)) | refine cr (hO) ?_ | refine cr (hC0) ?_)))
 clear hO hC0 hF0 hF1
 refine at_loop hK [] [4,5,26,27] (fun x:Nat × Xm=>⟨[(4,.ptr 4 0),(5,.ptr 5 0),(26,.int .i64 r),(27,.int .i64 (x.1:Int))],rP (calmTo w x.1).com (calmTo w x.1).lead (calmTo w x.1).bad ((calmTo w x.1).views.map tabV) x.2.1 x.2.2,8⟩) (fun x=>x.1 ≤ r.toNat ∧ Rel (calmTo w x.1).props x.2.1 x.2.2) (fun x=>r.toNat - x.1) (0,xs0,ms0) ⟨Nat.zero_le _,hR0⟩ (by (conv=>whnf);rfl) ?_
 rintro ⟨k,xs,ms⟩ ⟨hk,hRk⟩
 dsimp only at hk hRk ⊢
 have hco:=calmTo_ok hw k
 have hcs:calmTo w (k + 1) = rnd1 (prpTo (rnd1 (calmTo w k)) k (rnd1 (calmTo w k)).com.length):=rfl
 have h1c:∀ u:Wrl,(rnd1 u).com = u.com:=fun u=>(spr_com _ (Nat.le_refl _)).trans (votsTo_com u _).1
 by_cases hlt:(k:Int) < r
 ·generalize calmTo w k = x at *
  obtain ⟨⟨xs1,ms1⟩,⟨hR1,hx1⟩,hC1⟩:=ivoa_c x (xs,ms) hco hRk
  dsimp only at hR1 hx1 hC1
  have hvo:WOK (sVts x):=votsTo_ok hco x.props.length
  have hvc:(sVts x).com = x.com:=(votsTo_com x _).1
  obtain ⟨⟨xs2,ms2⟩,⟨hR2,hx2⟩,hC2⟩:=ispr_c (sVts x) (xs1,ms1) hvo hR1
  dsimp only at hR2 hx2 hC2
  have hro:=rnd1_ok hco
  have hF0:=fl_u (views_com hco hvo hvc)
  have hF1:=fl_x hx1
  have hF2:=fl_u (w:=sVts x) (views_com hvo hro ((h1c x).trans hvc.symm))
  have hF3:=fl_x hx2
  rw [show sSpr (sVts x) = rnd1 x from rfl] at hR2 hC2
  have hxc:=h1c x
  generalize sVts x = x1 at *
  generalize rnd1 x = y at *
  (repeat (any_goals (first | refine stw ?_ | (refine go2 fun xe hxe=>?_;conv=>whnf) | ((with_reducible refine cnd_i (fun hq=>?_) fun hq=>?_) <;> (try simp only [hqs] at hq) <;> (first | omega | conv=>whnf)) | refine cr (hC1) ?_ | refine cr (hC2) ?_)))
  clear hC1 hC2 hF0 hF1 hF2 hF3
  refine at_loop hK [] [4,5,7,26,27,38,39] (fun q:Nat × Xm=>⟨[(4,.ptr 4 0),(5,.ptr 5 0),(7,.int .i64 (k:Int)),(26,.int .i64 r),(27,.int .i64 (k:Int)),(38,.int .i64 y.com.length),(39,.int .i64 (q.1:Int))],rP (prpTo y k q.1).com (prpTo y k q.1).lead (prpTo y k q.1).bad ((prpTo y k q.1).views.map tabV) q.2.1 q.2.2,8⟩) (fun q=>q.1 ≤ y.com.length ∧ Rel (prpTo y k q.1).props q.2.1 q.2.2) (fun q=>y.com.length - q.1) (0,xs2,ms2) ⟨Nat.zero_le _,hR2⟩ (by (conv=>whnf);rfl) ?_
  rintro ⟨m,xs3,ms3⟩ ⟨hm,hR3⟩
  dsimp only at hm hR3 ⊢
  have hdc:=prpTo_com y k m
  have hdo:=prpTo_ok hro k m
  have hyl:=hro.len
  have hds:prpTo y k (m + 1) = sPrp (prpTo y k m) m (7 * k + m):=rfl
  by_cases hml:m < y.com.length
  ·generalize prpTo y k m = z at *
   have hsd:sDo z ⟨1,m,7 * k + m,v0⟩ = sPrp z m (7 * k + m):=rfl
   have hF0:=fl_v (w:=z) (e:=⟨1,m,7 * k + m,v0⟩)
   rw [hsd] at hF0
   cases ha:adds z ⟨1,m,7 * k + m,v0⟩
   ·obtain ⟨⟨xs4,ms4⟩,⟨hR4,hx4⟩,hC4⟩:=iappN_c z _ _ hdo hR3 ⟨1,m,7 * k + m,v0⟩ ha
    have hcg:chg z ⟨1,m,7 * k + m,v0⟩ = false:=rfl
    rw [hsd] at hR4 hC4
    rw [hcg] at hC4
    have hF1:=fl_x hx4
    have hC4:ConV Tryz.prog 18 [.ptr 4 0,.agg [.int .i64 1,.int .i64 (m:Int),.int .i64 (7 * k + m),.int .i64 0,.int .i64 0,.lst (.int .i64) [],.int .i64 0]] (rW 0 z xs3 ms3) (.bool false) (rW 0 (sPrp z m (7 * k + m)) xs4 ms4):=hC4
    generalize sPrp z m (7 * k + m) = z2 at *
    (repeat (any_goals (first | refine stw ?_ | (refine go2 fun xe hxe=>?_;conv=>whnf) | ((with_reducible refine cnd_i (fun hq=>?_) fun hq=>?_) <;> (try simp only [hqs] at hq) <;> (first | omega | conv=>whnf)) | refine cr (hC4) ?_)))
    refine ⟨(m + 1,xs4,ms4),⟨by dsimp only;omega,by dsimp only;rw [hds];exact hR4⟩,by dsimp only;omega,?_⟩
    dsimp only
    rw [hds]
    rfl
   ·obtain ⟨⟨xs4,ms4⟩,⟨hR4,hx4⟩,hC4⟩:=iappA_c z _ _ hdo hR3 ⟨1,m,7 * k + m,v0⟩ ha
    rw [hsd] at hR4 hC4
    have hF1:=fl_x hx4
    have hC4:ConV Tryz.prog 18 [.ptr 4 0,.agg [.int .i64 1,.int .i64 (m:Int),.int .i64 (7 * k + m),.int .i64 0,.int .i64 0,.lst (.int .i64) [],.int .i64 0]] (rW 0 z xs3 ms3) (.bool true) (rWg 0 (sPrp z m (7 * k + m)) xs4 ms4):=hC4
    generalize sPrp z m (7 * k + m) = z2 at *
    (repeat (any_goals (first | refine stw ?_ | (refine go2 fun xe hxe=>?_;conv=>whnf) | ((with_reducible refine cnd_i (fun hq=>?_) fun hq=>?_) <;> (try simp only [hqs] at hq) <;> (first | omega | conv=>whnf)) | refine cr (hC4) ?_)))
    refine ⟨(m + 1,xs4,ms4),⟨by dsimp only;omega,by dsimp only;rw [hds];exact hR4⟩,by dsimp only;omega,?_⟩
    dsimp only
    rw [hds]
    rfl
  ·obtain rfl:m = y.com.length:=by omega
   have hzc:(prpTo y k y.com.length).com.length = y.com.length:=by rw [hdc]
   generalize prpTo y k y.com.length = z at *
   obtain ⟨⟨xs4,ms4⟩,⟨hR4,hx4⟩,hC4⟩:=ivoa_c z (xs3,ms3) hdo hR3
   dsimp only at hR4 hx4 hC4
   have hvo4:WOK (sVts z):=votsTo_ok hdo z.props.length
   have hvc4:(sVts z).com = z.com:=(votsTo_com z _).1
   obtain ⟨⟨xs5,ms5⟩,⟨hR5,hx5⟩,hC5⟩:=ispr_c (sVts z) (xs4,ms4) hvo4 hR4
   dsimp only at hR5 hx5 hC5
   have hro4:=rnd1_ok hdo
   have hF0:=fl_u (views_com hdo hvo4 hvc4)
   have hF1:=fl_x hx4
   have hF2:=fl_u (w:=sVts z) (views_com hvo4 hro4 ((h1c z).trans hvc4.symm))
   have hF3:=fl_x hx5
   rw [show sSpr (sVts z) = rnd1 z from rfl] at hR5 hC5
   generalize sVts z = z1 at *
   generalize rnd1 z = z2 at *
   (repeat (any_goals (first | refine stw ?_ | (refine go2 fun xe hxe=>?_;conv=>whnf) | ((with_reducible refine cnd_i (fun hq=>?_) fun hq=>?_) <;> (try simp only [hqs] at hq) <;> (first | omega | conv=>whnf)) | refine cr (hC4) ?_ | refine cr (hC5) ?_)))
   refine ⟨(k + 1,xs5,ms5),⟨by dsimp only;omega,by dsimp only;rw [hcs];exact hR5⟩,by dsimp only;omega,?_⟩
   dsimp only
   rw [hcs]
   rfl
 ·obtain rfl:k = r.toNat:=by omega
  have hW:=iwldW_c 0 (calmTo w r.toNat) xs ms hco hRk
  generalize calmTo w r.toNat = x at *
  (repeat (any_goals (first | refine stw ?_ | (refine go2 fun xe hxe=>?_;conv=>whnf) | ((with_reducible refine cnd_i (fun hq=>?_) fun hq=>?_) <;> (try simp only [hqs] at hq) <;> (first | omega | conv=>whnf)) | refine cr (hW) ?_)))
  exact ⟨rfl,rfl⟩
end Go.Proofs.YtncmbiacjeicpaaGreatDoor.Am
namespace Go.Proofs.YtncmbiacjeicpaaGreatDoor.Am
open Go
attribute [local irreducible] Mk Need Ari Get Idx Cnd CallM CallA Opt Unch At ConV
set_option maxRecDepth 10000
theorem swcalm_c (w:Wrl) (r:Int) (hl:w.com.length ≤ 2000000):ConV Tryz.prog 6 [wrlA w,.int .i64 r] [] (if decide (0 ≤ r ∧ r ≤ 12) && wrlS w then wrlA (calmTo w r.toNat) else wrlZ) []:=by
 have hV:=swV_c w hl
 have hI:=in_c r 0 12
 cases hs:wrlS w
 ·rw [hs] at hV
  rw [Bool.and_false]
  refine con_eq Θ_ok Tryz.func6 rfl rfl true 0 4 rfl rfl rfl rfl fun K hK hb1 hb2=>?_;simp only [argsV,enc,Nat.reduceAdd]
  clear hb1 hb2
  (repeat (any_goals (first | refine st ?_ | (refine go2 fun xe hxe=>?_;conv=>whnf) | ((with_reducible refine cnd_i (fun hq=>?_) fun hq=>?_) <;> (try simp only [hqs] at hq) <;> (first | omega | conv=>whnf)) | refine cr (hV) ?_ | refine cr (hI) ?_)))
  exact ⟨rfl,rfl⟩
 ·rw [Bool.and_true]
  by_cases hr:0 ≤ r ∧ r ≤ 12
  ·rw [decide_eq_true hr]
   have h:=scalm_c w r.toNat (wok_iff.1 hs) (by omega)
   rw [show ((r.toNat:Nat):Int) = r by omega] at h
   exact h
  ·rw [decide_eq_false hr]
   rw [hs] at hV
   have hv:vIn r 0 12 = false:=by
    rw [Bool.eq_false_iff]
    intro h
    exact hr (vIn_iff.1 h)
   rw [hv] at hI
   refine con_eq Θ_ok Tryz.func6 rfl rfl true 0 4 rfl rfl rfl rfl fun K hK hb1 hb2=>?_;simp only [argsV,enc,Nat.reduceAdd]
   clear hb1 hb2
   (repeat (any_goals (first | refine st ?_ | (refine go2 fun xe hxe=>?_;conv=>whnf) | ((with_reducible refine cnd_i (fun hq=>?_) fun hq=>?_) <;> (try simp only [hqs] at hq) <;> (first | omega | conv=>whnf)) | refine cr (hV) ?_ | refine cr (hI) ?_)))
   exact ⟨rfl,rfl⟩
end Go.Proofs.YtncmbiacjeicpaaGreatDoor.Am
namespace Go.Proofs.YtncmbiacjeicpaaGreatDoor.Am
open Go
attribute [local irreducible] Mk Need Ari Get Idx Cnd CallM CallA Opt Unch At ConV
set_option maxRecDepth 10000
theorem cal_i {w:Wrl} {l:List Int} {i:Nat} {e:Int} (hw:WSm w) (hl:∀ x ∈ l,-1 ≤ x ∧ x ≤ 13) (h:l[i]? = some e):∃ x:Wrl × Int,(WSm x.1 ∧ -1 ≤ x.2 ∧ x.2 ≤ 13) ∧ V.tup [wrlA w,.int .i64 e] = .tup [wrlA x.1,.int .i64 x.2] ∧ ([]:VH) = []:=by
 have:=hl e (List.mem_of_getElem? h)
 exact ⟨(w,e),⟨hw,this.1,this.2⟩,rfl,rfl⟩
set_option maxHeartbeats 1000000 in
theorem dcal_c (c:List Int) (hc:∀ x ∈ c,0 ≤ x ∧ x ≤ 255):∃ x:Wrl × Int,(WSm x.1 ∧ -1 ≤ x.2 ∧ x.2 ≤ 13) ∧ ConV Tryz.prog 4 [.lst (.int .u8) c] [] (.tup [wrlA x.1,.int .i64 x.2]) []:=by
 have h:=rd0w hc
 obtain ⟨⟨w,q⟩,⟨h1,h2,h3⟩,hw⟩:=dwld_c _ 0 h (by omega)
 dsimp only at h1 h2 h3 hw
 obtain ⟨n,hn,hnc⟩:=pk_c _ q 14 h (by omega) (by omega)
 by_cases h0:n = 0
 ·obtain ⟨⟨w2,q2⟩,⟨g1,g2,g3⟩,hW⟩:=dwrg_c _ (q + 1) h (by omega)
  dsimp only at g1 g2 g3 hW
  obtain ⟨k,hk,hkc⟩:=pk_c _ q2 4 h (by omega) (by omega)
  refine ⟨(w2,k),⟨g3,by dsimp only;omega,by dsimp only;omega⟩,?_⟩
  refine con_eq Θ_ok Tryz.func4 rfl rfl true 0 4 rfl rfl rfl rfl fun K hK hb1 hb2=>?_;simp only [argsV,enc,Nat.reduceAdd]
  clear hb1 hb2
  (repeat (any_goals (first | refine st ?_ | (refine go2 fun xe hxe=>?_;conv=>whnf) | ((with_reducible refine cnd_i (fun hq=>?_) fun hq=>?_) <;> (try simp only [hqs] at hq) <;> (first | omega | conv=>whnf)) | refine cr (open_c _) ?_ | refine cr (hw) ?_ | refine cr (hnc) ?_ | refine cr (hW) ?_ | refine cr (hkc) ?_)))
  exact ⟨rfl,rfl⟩
 ·obtain ⟨a1,b1,k1⟩:=pk_c _ (q + 1) 8 h (by omega) (by omega)
  obtain ⟨a2,b2,k2⟩:=pk_c _ (q + 1 + 1) 8 h (by omega) (by omega)
  obtain ⟨a3,b3,k3⟩:=pk_c _ (q + 1 + 1 + 1) 8 h (by omega) (by omega)
  obtain ⟨a4,b4,k4⟩:=pk_c _ (q + 1 + 1 + 1 + 1) 8 h (by omega) (by omega)
  obtain ⟨a5,b5,k5⟩:=pk_c _ (q + 1 + 1 + 1 + 1 + 1) 8 h (by omega) (by omega)
  obtain ⟨i,bi,ki⟩:=pk_c _ (q + 1 + 1 + 1 + 1 + 1 + 1) 8 h (by omega) (by omega)
  suffices hs:∃ r hout,(∃ x:Wrl × Int,(WSm x.1 ∧ -1 ≤ x.2 ∧ x.2 ≤ 13) ∧ r = .tup [wrlA x.1,.int .i64 x.2] ∧ hout = []) ∧ ConV Tryz.prog 4 [.lst (.int .u8) c] [] r hout by
   obtain ⟨r,hout,⟨v,hv,rfl,rfl⟩,h⟩:=hs
   exact ⟨v,hv,h⟩
  refine con_ex Θ_ok Tryz.func4 rfl rfl true 0 4 rfl rfl rfl rfl (R:=fun r hout=>∃ x:Wrl × Int,(WSm x.1 ∧ -1 ≤ x.2 ∧ x.2 ≤ 13) ∧ r = .tup [wrlA x.1,.int .i64 x.2] ∧ hout = []) (r0:=.tup [wrlA w,.int .i64 0]) (hout0:=[]) (⟨(w,0),⟨h3.sm,by dsimp only;omega,by dsimp only;omega⟩,rfl,rfl⟩) fun K hK hb1 hb2=>?_;simp only [argsV,enc,Nat.reduceAdd]
  clear hb1 hb2
  (repeat (any_goals (first | refine st ?_ | (refine go2 fun xe hxe=>?_;conv=>whnf) | ((with_reducible refine cnd_i (fun hq=>?_) fun hq=>?_) <;> (try simp only [hqs] at hq) <;> (first | omega | conv=>whnf)) | refine cr (open_c _) ?_ | refine cr (hw) ?_ | refine cr (hnc) ?_ | refine cr (k1) ?_ | refine cr (k2) ?_ | refine cr (k3) ?_ | refine cr (k4) ?_ | refine cr (k5) ?_ | refine cr (ki) ?_)))
  refine cal_i h3.sm ?_ hxe
  intro x hx
  simp only [List.mem_cons,List.not_mem_nil,or_false] at hx
  omega
def hvx (g:List Vtx) (v:Vtx) (n:Nat):Bool:=(g.take n).any fun u=>vEq u v
theorem ghV_eq {c:List Int} {g:List Vtx} (h:graS c g = true):ghV c g = hgt c g:=by simp [ghV,h]
end Go.Proofs.YtncmbiacjeicpaaGreatDoor.Am
namespace Go.Proofs.YtncmbiacjeicpaaGreatDoor.Am
open Go
attribute [local irreducible] Mk Need Ari Get Idx Cnd CallM CallA Opt Unch At ConV
set_option maxRecDepth 10000
def lwH (c:List Int):List (List Vtx) → Int → Int
 | [],a=>a
 | g :: l,a=>lwH c l (if a < hgt c g then hgt c g else a)
theorem lwH_snoc (c:List Int) (g:List Vtx):∀ (l:List (List Vtx)) (a:Int),lwH c (l ++ [g]) a = if lwH c l a < hgt c g then hgt c g else lwH c l a
 | [],a=>rfl
 | x :: l,a=>lwH_snoc c g l _
theorem lwH_bd (c:List Int):∀ (l:List (List Vtx)) (a:Int),-1 ≤ a ∧ a ≤ 30 → -1 ≤ lwH c l a ∧ lwH c l a ≤ 30
 | [],a,h=>h
 | g :: l,a,h=>by
  refine lwH_bd c l _ ?_
  have:=hgt_bd c g
  split <;> omega
theorem lwH_le (c:List Int) {B:Int}:∀ (l:List (List Vtx)) (a:Int),a ≤ B → (∀ g ∈ l,hgt c g ≤ B) → lwH c l a ≤ B
 | [],a,h,_=>h
 | g :: l,a,h,hb=>by
  refine lwH_le c l _ ?_ fun x hx=>hb x (by simp [hx])
  have:=hb g (by simp)
  split <;> omega
theorem lwH_ge (c:List Int):∀ (l:List (List Vtx)) (a:Int),a ≤ lwH c l a ∧ ∀ g ∈ l,hgt c g ≤ lwH c l a
 | [],a=>⟨Int.le_refl _,by simp⟩
 | g :: l,a=>by
  obtain ⟨h1,h2⟩:=lwH_ge c l (if a < hgt c g then hgt c g else a)
  have hz:a ≤ (if a < hgt c g then hgt c g else a) ∧ hgt c g ≤ (if a < hgt c g then hgt c g else a):=by split <;> omega
  show a ≤ lwH c l (if a < hgt c g then hgt c g else a) ∧ ∀ x ∈ g :: l,hgt c x ≤ lwH c l (if a < hgt c g then hgt c g else a)
  generalize (if a < hgt c g then hgt c g else a) = z at *
  refine ⟨by omega,fun x hx=>?_⟩
  rcases List.mem_cons.1 hx with rfl | hx
  ·omega
  ·exact h2 x hx
theorem hgt_nil {c:List Int} (hc:comV c = true):hgt c [] = -1:=by
 have hq:=quo_bd hc
 have:∀ n:Nat,hgtTo c [] n = -1:=fun n=>by
  induction n with
  | zero=>rfl
  | succ n ih=>
   have e:hgtTo c [] (n + 1) = if quo c ≤ wei c (auth [] n) then (n:Int) else hgtTo c [] n:=rfl
   rw [e,if_neg (by show ¬ quo c ≤ 0;omega),ih]
 exact this 31
theorem low_eq {w:Wrl} (hw:WOK w) {H:Int} (hH:-1 ≤ H ∧ H ≤ 30) (hE:hgtE w H):lwH w.com w.views (-1) = H:=by
 have hle:lwH w.com w.views (-1) ≤ H:=lwH_le w.com w.views (-1) hH.1 fun g hg=>by
  obtain ⟨m,hm,rfl⟩:=List.getElem_of_mem hg
  have e:w.views.getD m [] = w.views[m]:=by rw [List.getD_eq_getElem?_getD,List.getElem?_eq_getElem hm];rfl
  by_cases hb:(m:Int) = w.bad
  ·rw [← e,hw.bv m hm hb,hgt_nil hw.com]
   exact hH.1
  ·rw [← e,hE m (by rw [← hw.vlen];exact hm) hb]
   exact Int.le_refl _
 by_cases h1:H = -1
 ·have:=(lwH_ge w.com w.views (-1)).1
  omega
 obtain ⟨m,hm,hb⟩:∃ m:Nat,m < w.com.length ∧ (m:Int) ≠ w.bad:=good_ex hw
 have hm2:m < w.views.length:=by rw [hw.vlen];exact hm
 have e:w.views.getD m [] = w.views[m]:=by rw [List.getD_eq_getElem?_getD,List.getElem?_eq_getElem hm2];rfl
 have h3:=(lwH_ge w.com w.views (-1)).2 _ (List.getElem_mem hm2)
 rw [← e,hE m hm hb] at h3
 omega
where
 good_ex {w:Wrl} (hw:WOK w):∃ m:Nat,m < w.com.length ∧ (m:Int) ≠ w.bad:=by
  refine Classical.byContradiction fun hno=>?_
  have:=cor_quo (c:=w.com) (ms:=[]) hw.com hw.bad List.Pairwise.nil fun m h1 h2=>absurd ⟨m,h1,h2⟩ hno
  have hb:=quo_bd hw.com
  have h0:wei w.com [] = 0:=rfl
  omega
theorem intsN_has {ws:List Nat} {k:Nat} (h:k ∈ ws):(intsN ws).contains (k:Int) = true:=List.contains_iff_mem.2 (List.mem_map.2 ⟨k,h,rfl⟩)
set_option maxHeartbeats 2000000 in
theorem lawCcm_c (c:List Int) (hc:∀ x ∈ c,0 ≤ x ∧ x ≤ 255):ConV Tryz.prog 3 [.lst (.int .u8) c] [] (.bool true) []:=by
 obtain ⟨⟨w,r⟩,⟨hw,hr1,hr2⟩,hd⟩:=dcal_c c hc
 dsimp only at hw hr1 hr2 hd
 have hI:=icalm_c w r (fun g hg=>by have:=hw.2 g hg;omega) (by omega)
 have hI0:=icalm_c w 0 (fun g hg=>by have:=hw.2 g hg;omega) (by omega)
 have hS:=swcalm_c w r (by have:=hw.1;omega)
 refine con_eq Θ_ok Tryz.func3 rfl rfl false 0 4 rfl rfl rfl rfl fun K hK hb1 hb2=>?_;simp only [argsV,enc,Nat.reduceAdd]
 clear hb1 hb2
 by_cases hl:1048576 < (c.length:Int)
 ·(repeat (any_goals (first | refine st ?_ | (refine go2 fun xe hxe=>?_;conv=>whnf) | ((with_reducible refine cnd_i (fun hq=>?_) fun hq=>?_) <;> (try simp only [hqs] at hq) <;> (first | omega | conv=>whnf)))))
  (try any_goals (first | exact absurd trivial hq | exact absurd rfl hq | exact absurd hq (by omega) | (exfalso;simp at hq;done)))
  exact ⟨rfl,rfl⟩
 cases hs:decide (0 ≤ r ∧ r ≤ 12) && wrlS w
 ·simp only [hs,Bool.false_eq_true,if_false] at hI hS
  (repeat (any_goals (first | refine st ?_ | (refine go2 fun xe hxe=>?_;conv=>whnf) | ((with_reducible refine cnd_i (fun hq=>?_) fun hq=>?_) <;> (try simp only [hqs] at hq) <;> (first | omega | conv=>whnf)) | refine cr (hd) ?_ | refine cr (hI) ?_ | refine cr (hS) ?_ | refine cr (sWrl_z) ?_)))
  all_goals first | exact ⟨rfl,rfl⟩ | (exfalso;rename_i h;exact h rfl) | (exfalso;rename_i h _;exact h rfl) | (exfalso;exact hq rfl)
 ·simp only [hs,if_true] at hI hS
  obtain ⟨hrr,hww⟩:=(Bool.and_eq_true .. ▸ hs:_ ∧ _)
  have hrr:=of_decide_eq_true hrr
  have hok:=wok_iff.1 hww
  have hz:(decide ((0:Int) ≤ 0 ∧ (0:Int) ≤ 12) && wrlS w) = true:=by rw [hww];rfl
  rw [hz] at hI0
  simp only [if_true] at hI0
  rw [show (0:Int).toNat = 0 from rfl] at hI0
  have hu:=calmTo_ok hok r.toNat
  have hx:=calmTo_ok hok 0
  have hco:(calmTo w r.toNat).com = w.com:=calm_com r.toNat
  have hcx:(calmTo w 0).com = w.com:=calm_com 0
  have hba:=(grw_calm hok r.toNat).bad
  have hbx:=(grw_calm hok 0).bad
  obtain ⟨H,hH,hHE⟩:=hgtE_of hx (calmTo_still hok 0)
  have hlow:=low_eq hx hH hHE
  have hcd:=fun (hlt:(calmTo w r.toNat).props.length < 220) (m:Nat) hm hb (l:List Int) (k:Nat) h1 h2 (a:Nat) ha hal hab=>calm_dir hok hH.1 hHE r.toNat (by omega) hlt (m:=m) hm hb (l:=l) (k:=k) h1 h2 (a:=a) ha hal hab
  generalize calmTo w r.toNat = u at *
  generalize calmTo w 0 = x at *
  have hE:=sWrl_e u
  have h7:=hu.len
  have h7x:=hx.len
  have hvl:=hu.vlen
  have hvlx:=hx.vlen
  have hpl:=hu.plen
  have hvg:=hx.vl
  have hvg2:=hu.vl
  have hgr:=hx.gra
  have hgr2:=hu.gra
  have hll:=leaS_iff.1 hu.lead
  by_cases hp:200 ≤ (u.props.length:Int)
  ·(repeat (any_goals (first | refine st ?_ | (refine go2 fun xe hxe=>?_;conv=>whnf) | ((with_reducible refine cnd_i (fun hq=>?_) fun hq=>?_) <;> (try simp only [hqs] at hq) <;> (first | omega | conv=>whnf)) | refine cr (hd) ?_ | refine cr (hI) ?_ | refine cr (hS) ?_ | refine cr (hE) ?_)))
   (try any_goals (first | exact absurd trivial hq | exact absurd rfl hq | exact absurd hq (by omega) | (exfalso;simp at hq;done)))
   exact ⟨rfl,rfl⟩
  ·(repeat (any_goals (first | refine st ?_ | (refine go2 fun xe hxe=>?_;conv=>whnf) | ((with_reducible refine cnd_i (fun hq=>?_) fun hq=>?_) <;> (try simp only [hqs] at hq) <;> (first | omega | conv=>whnf)) | refine cr (hd) ?_ | refine cr (hI) ?_ | refine cr (hS) ?_ | refine cr (hE) ?_ | refine cr (hI0) ?_)))
   (try any_goals (first | exact absurd trivial hq | exact absurd rfl hq | exact absurd hq (by omega) | (exfalso;simp at hq;done)))
   refine at_loop hK [] [5,7,8,9] (fun m:Nat=>⟨[(5,.ptr 4 0),(7,.int .i64 (lwH x.com (x.views.take m) (-1))),(8,.ptr 5 0),(9,.int .i64 (m:Int))],[(4,.var 27 (wrlA u).cells),(5,.var 27 (wrlA x).cells)],6⟩) (fun m=>m ≤ x.views.length) (fun m=>x.views.length - m) 0 (Nat.zero_le _) rfl ?_
   intro m hm
   by_cases hlt:m < x.views.length
   ·have hx1:x.views[m]? = some x.views[m]:=List.getElem?_eq_getElem hlt
    have hH1:=igh_c x.com x.views[m] (by have:=hvg _ (List.getElem_mem hlt);omega)
    rw [ghV_eq (hgr _ (List.getElem_mem hlt))] at hH1
    have hsn:=lwH_snoc x.com x.views[m] (x.views.take m) (-1)
    rw [← List.take_succ_eq_append_getElem hlt] at hsn
    have hbd:=lwH_bd x.com (x.views.take m) (-1) (by omega)
    have hbd2:=hgt_bd x.com x.views[m]
    generalize x.views[m] = g1 at *
    (repeat (any_goals (first | refine st ?_ | (refine go2 fun xe hxe=>?_;conv=>whnf) | ((with_reducible refine cnd_i (fun hq=>?_) fun hq=>?_) <;> (try simp only [hqs] at hq) <;> (first | omega | conv=>whnf)) | refine cr (hH1) ?_)))
    (try any_goals (first | exact absurd trivial hq | exact absurd rfl hq | exact absurd hq (by omega) | (exfalso;simp at hq;done)))
    exact ⟨m + 1,by omega,by omega,by rw [hsn];rfl⟩
   ·rw [List.take_of_length_le (by omega),hlow]
    clear hI hI0 hS hd hE
    (repeat (any_goals (first | refine st ?_ | (refine go2 fun xe hxe=>?_;conv=>whnf) | ((with_reducible refine cnd_i (fun hq=>?_) fun hq=>?_) <;> (try simp only [hqs] at hq) <;> (first | omega | conv=>whnf)))))
    (try any_goals (first | exact absurd trivial hq | exact absurd rfl hq | exact absurd hq (by omega) | (exfalso;simp at hq;done)))
    refine at_loop hK [] [5,7,10] (fun m:Nat=>⟨[(5,.ptr 4 0),(7,.int .i64 H),(10,.int .i64 (m:Int))],[(4,.var 27 (wrlA u).cells)],5⟩) (fun m=>m ≤ u.views.length) (fun m=>u.views.length - m) 0 (Nat.zero_le _) rfl ?_
    intro m hm
    by_cases hlt:m < u.views.length
    ·have hx1:u.views[m]? = some u.views[m]:=List.getElem?_eq_getElem hlt
     have hg1:u.views.getD m [] = u.views[m]:=by rw [List.getD_eq_getElem?_getD,hx1];rfl
     have hgl:=hvg2 _ (List.getElem_mem hlt)
     have hgg:=hgr2 _ (List.getElem_mem hlt)
     have hH1:=igh_c u.com u.views[m] (by omega)
     rw [ghV_eq hgg] at hH1
     have hW:=icw_c u.com u.views[m] u.lead (by omega)
     have hcw:cmw u.com u.views[m] u.lead = (cmt u.com u.views[m] u.lead u.lead.length).1:=by rw [cmw,wvV,hgg,hu.lead];rfl
     rw [hcw] at hW
     have hbd:=hgt_bd u.com u.views[m]
     have key:∀ k:Nat,1 ≤ k → k ≤ u.lead.length → (m:Int) ≠ u.bad → H + 1 < 2 * (k:Int) - 1 → 2 * (k:Int) ≤ hgt u.com u.views[m] → ldrA u.lead k ≠ u.bad → (intsN (cmt u.com u.views[m] u.lead u.lead.length).1).contains (k:Int) = true:=fun k k1 k2 k3 k4 k5 k6=>by
      have ha:=hll.1 _ (List.mem_of_getElem? (ldrA_at k1 k2))
      have:=hcd (by omega) m (by rw [← hco,← hvl];exact hlt) (by rw [← hba];exact k3) u.lead k k4 (by rw [hg1,← hco];exact k5) (ldrA u.lead k).toNat (by omega) (by rw [← hco];omega) (by rw [← hba];omega)
      rw [hg1,← hco] at this
      exact intsN_has (dir_cmt hu.com u.lead k1 this _ k2)
     clear hcd hcw
     generalize hws:intsN (cmt u.com u.views[m] u.lead u.lead.length).1 = ws at *
     generalize hgt u.com u.views[m] = h at *
     generalize u.views[m] = g1 at *
     (repeat (any_goals (first | refine st ?_ | (refine go2 fun xe hxe=>?_;conv=>whnf) | ((with_reducible refine cnd_i (fun hq=>?_) fun hq=>?_) <;> (try simp only [hqs] at hq) <;> (first | omega | conv=>whnf)) | refine cr (hH1) ?_ | refine cr (hW) ?_)))
     (try any_goals (first | exact absurd trivial hq | exact absurd rfl hq | exact absurd hq (by omega) | (exfalso;simp at hq;done)))
     clear hH1 hW
     refine at_loop hK [] [5,7,10,11,12,13] (fun k:Nat=>⟨[(5,.ptr 4 0),(7,.int .i64 H),(10,.int .i64 (m:Int)),(11,.lst (.int .i64) ws),(12,.int .i64 h),(13,.int .i64 ((k:Int) + 1))],[(4,.var 27 (wrlA u).cells)],5⟩) (fun k=>k ≤ u.lead.length) (fun k=>u.lead.length - k) 0 (Nat.zero_le _) rfl ?_
     intro k hk
     have e1:(((k + 1:Nat)):Int) = (k:Int) + 1:=by omega
     by_cases hkl:k < u.lead.length
     ·have hla:=ldrA_at (l:=u.lead) (w:=k + 1) (by omega) (by omega)
      rw [e1] at hla
      have hky:=key (k + 1) (by omega) (by omega)
      rw [e1] at hky
      generalize ldrA u.lead (k + 1) = a at *
      by_cases c1:(m:Int) = u.bad
      ·(repeat (any_goals (first | refine st ?_ | (refine go2 fun xe hxe=>?_;conv=>whnf) | ((with_reducible refine cnd_i (fun hq=>?_) fun hq=>?_) <;> (try simp only [hqs] at hq) <;> (first | omega | conv=>whnf)))))
       (try any_goals (first | exact absurd trivial hq | exact absurd rfl hq | exact absurd hq (by omega) | (exfalso;simp at hq;done)))
       exact ⟨k + 1,by omega,by omega,by rw [e1];rfl⟩
      by_cases c2:H + 1 < 2 * ((k:Int) + 1) - 1
      ·by_cases c3:2 * ((k:Int) + 1) ≤ h
       ·by_cases c4:a = u.bad
        ·(repeat (any_goals (first | refine st ?_ | (refine go2 fun xe hxe=>?_;conv=>whnf) | ((with_reducible refine cnd_i (fun hq=>?_) fun hq=>?_) <;> (try simp only [hqs] at hq) <;> (first | omega | conv=>whnf)))))
         (try any_goals (first | exact absurd trivial hq | exact absurd rfl hq | exact absurd hq (by omega) | (exfalso;simp at hq;done)))
         exact ⟨k + 1,by omega,by omega,by rw [e1];rfl⟩
        ·have hI:=hasI_c ws ((k:Int) + 1)
         rw [hky c1 c2 c3 c4] at hI
         (repeat (any_goals (first | refine st ?_ | (refine go2 fun xe hxe=>?_;conv=>whnf) | ((with_reducible refine cnd_i (fun hq=>?_) fun hq=>?_) <;> (try simp only [hqs] at hq) <;> (first | omega | conv=>whnf)) | refine cr (hI) ?_)))
         (try any_goals (first | exact absurd trivial hq | exact absurd rfl hq | exact absurd hq (by omega) | (exfalso;simp at hq;done)))
         exact ⟨k + 1,by omega,by omega,by rw [e1];rfl⟩
       ·(repeat (any_goals (first | refine st ?_ | (refine go2 fun xe hxe=>?_;conv=>whnf) | ((with_reducible refine cnd_i (fun hq=>?_) fun hq=>?_) <;> (try simp only [hqs] at hq) <;> (first | omega | conv=>whnf)))))
        (try any_goals (first | exact absurd trivial hq | exact absurd rfl hq | exact absurd hq (by omega) | (exfalso;simp at hq;done)))
        exact ⟨k + 1,by omega,by omega,by rw [e1];rfl⟩
      ·(repeat (any_goals (first | refine st ?_ | (refine go2 fun xe hxe=>?_;conv=>whnf) | ((with_reducible refine cnd_i (fun hq=>?_) fun hq=>?_) <;> (try simp only [hqs] at hq) <;> (first | omega | conv=>whnf)))))
       (try any_goals (first | exact absurd trivial hq | exact absurd rfl hq | exact absurd hq (by omega) | (exfalso;simp at hq;done)))
       exact ⟨k + 1,by omega,by omega,by rw [e1];rfl⟩
     ·(repeat (any_goals (first | refine st ?_ | (refine go2 fun xe hxe=>?_;conv=>whnf) | ((with_reducible refine cnd_i (fun hq=>?_) fun hq=>?_) <;> (try simp only [hqs] at hq) <;> (first | omega | conv=>whnf)))))
      (try any_goals (first | exact absurd trivial hq | exact absurd rfl hq | exact absurd hq (by omega) | (exfalso;simp at hq;done)))
      exact ⟨m + 1,by omega,by omega,rfl⟩
    ·(repeat (any_goals (first | refine st ?_ | (refine go2 fun xe hxe=>?_;conv=>whnf) | ((with_reducible refine cnd_i (fun hq=>?_) fun hq=>?_) <;> (try simp only [hqs] at hq) <;> (first | omega | conv=>whnf)))))
     (try any_goals (first | exact absurd trivial hq | exact absurd rfl hq | exact absurd hq (by omega) | (exfalso;simp at hq;done)))
     exact ⟨rfl,rfl⟩
end Go.Proofs.YtncmbiacjeicpaaGreatDoor.Am
