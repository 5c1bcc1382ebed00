/- Orders: what the laws' functions reckon (plain laws). Orders: what the laws' functions give. Orders: what the program's waves give. Errors told apart. Orders: leaders, votes, committed waves of the program. Orders: heaps of vertices (plain laws). Orders: heaps of vertices in the program. Orders: vertices sink in heaps. Orders: vertices come out of heaps in order. Orders: what a wave orders, vertex by vertex (plain laws). Orders: committed waves of the program. -/
import Derived.LaidEql
import Derived.Stop.Asserts
import Derived.RowKitTokens
import Derived.Test.YtjjddgpdoibcoaaGreatDoorPO8
set_option linter.unusedSimpArgs false
set_option linter.unusedVariables false
namespace Go.Proofs.YtjjddgpdoibcoaaGreatDoor.Am
open Go
structure Sph (g:List Vtx) (u:Vtx) (st m:Nat) (re:List Bool):Prop where
 len:re.length = g.length
 snd:∀ (i:Nat) (v:Vtx),g[i]? = some v → re[i]? = some true → Rv g u v
 top:re[st]? = some true
 cls:∀ (i:Nat) (v:Vtx),g[i]? = some v → re[i]? = some true → i < m ∨ ∀ q:Nat,some q ∈ pix g v → re[q]? = some true
structure Spi (g:List Vtx) (u:Vtx) (st n j:Nat) (re:List Bool):Prop where
 len:re.length = g.length
 snd:∀ (i:Nat) (v:Vtx),g[i]? = some v → re[i]? = some true → Rv g u v
 top:re[st]? = some true
 cur:re[n]? = some true ∨ j = 0
 cls:∀ (i:Nat) (v:Vtx),g[i]? = some v → re[i]? = some true → i < n ∨ (i = n ∧ ∀ (k q:Nat),k < j → (pix g v)[k]? = some (some q) → re[q]? = some true) ∨ ∀ q:Nat,some q ∈ pix g v → re[q]? = some true
theorem sph_0 {g:List Vtx} {st:Nat} {u:Vtx} (h:g[st]? = some u):Sph g u st (st + 1) ((List.replicate g.length false).set st true):=by
 have hl:=(List.getElem?_eq_some_iff.1 h).1
 have key:∀ i:Nat,((List.replicate g.length false).set st true)[i]? = some true → i = st:=fun i hi=>by
  rw [List.getElem?_set] at hi
  split at hi
  ·omega
  ·rw [List.getElem?_replicate] at hi
   split at hi <;> cases hi
 have hst:((List.replicate g.length false).set st true)[st]? = some true:=by
  rw [List.getElem?_set,if_pos rfl,if_pos (by simpa using hl)]
 refine ⟨by simp,fun i v hi hr=>?_,hst,fun i v hi hr=>.inl ?_⟩
 ·obtain rfl:=key i hr
  rw [h] at hi
  obtain rfl:=Option.some.inj hi
  exact .refl u
 ·rw [key i hr]
  omega
theorem spi_of {g:List Vtx} {u:Vtx} {st m:Nat} {re:List Bool} (h:Sph g u st (m + 1) re):Spi g u st m 0 re:=by
 refine ⟨h.len,h.snd,h.top,.inr rfl,fun i v hi hr=>?_⟩
 rcases h.cls i v hi hr with h1 | h1
 ·rcases Nat.lt_or_ge i m with h2 | h2
  ·exact .inl h2
  ·exact .inr (.inl ⟨by omega,fun k _ hk=>absurd hk (Nat.not_lt_zero k)⟩)
 ·exact .inr (.inr h1)
theorem pix_lt {c:List Int} {g:List Vtx} (hg:GraOK c g) {n q:Nat} {v:Vtx} (hv:g[n]? = some v) (hq:some q ∈ pix g v):q < n:=by
 obtain ⟨k,x,e,h1,h2,h3⟩:=pix_get hg (List.mem_of_getElem? hv) hq
 obtain rfl:=Option.some.inj e
 rcases Nat.lt_trichotomy q n with h | h | h
 ·exact h
 ·subst h
  rw [hv] at h1
  obtain rfl:=Option.some.inj h1
  omega
 ·have:=pw_get hg.pw h hv h1
  rw [bef_iff'] at this
  omega
where
 bef_iff' {a b:Vtx}:bef a b = true ↔ a.round < b.round ∨ (a.round = b.round ∧ a.author < b.author):=by
  simp only [bef,Bool.or_eq_true,Bool.and_eq_true,decide_eq_true_eq]
theorem spi_set {c:List Int} {g:List Vtx} (hg:GraOK c g) {u v:Vtx} {st n j q:Nat} {re:List Bool} (h:Spi g u st n j re) (hv:g[n]? = some v) (hn:re[n]? = some true) (hj:(pix g v)[j]? = some (some q)):Spi g u st n (j + 1) (re.set q true):=by
 have hqm:=List.mem_of_getElem? hj
 have hqn:=pix_lt hg hv hqm
 have hnl:=(List.getElem?_eq_some_iff.1 hn).1
 have hqt:(re.set q true)[q]? = some true:=by rw [List.getElem?_set,if_pos rfl,if_pos (by omega)]
 have hne:∀ i:Nat,i ≠ q → (re.set q true)[i]? = re[i]?:=fun i hi=>by rw [List.getElem?_set,if_neg (by omega)]
 refine ⟨by rw [List.length_set];exact h.len,fun i x hi hr=>?_,set_true h.top,.inl (set_true hn),fun i x hi hr=>?_⟩
 ·by_cases e:i = q
  ·subst e
   exact (h.snd n v hv hn).trans (pix_rv hg (List.mem_of_getElem? hv) hqm hi)
  ·rw [hne i e] at hr
   exact h.snd i x hi hr
 ·by_cases e:i = q
  ·subst e
   exact .inl hqn
  rw [hne i e] at hr
  rcases h.cls i x hi hr with h1 | ⟨rfl,h1⟩ | h1
  ·exact .inl h1
  ·refine .inr (.inl ⟨rfl,fun k q' hk hp=>?_⟩)
   rcases Nat.lt_or_ge k j with hlt | hge
   ·exact set_true (h1 k q' hlt hp)
   ·obtain rfl:k = j:=by omega
    rw [hv] at hi
    obtain rfl:=Option.some.inj hi
    rw [hj] at hp
    obtain rfl:=Option.some.inj (Option.some.inj hp)
    exact hqt
  ·exact .inr (.inr fun q' hq'=>set_true (h1 q' hq'))
theorem sph_off {g:List Vtx} {u v:Vtx} {st n j:Nat} {re:List Bool} (h:Spi g u st n j re) (hv:g[n]? = some v) (hj:re[n]? = some false ∨ v.parents.length ≤ j):Sph g u st n re:=by
 refine ⟨h.len,h.snd,h.top,fun i x hi hr=>?_⟩
 rcases h.cls i x hi hr with h1 | ⟨rfl,h1⟩ | h1
 ·exact .inl h1
 ·rw [hv] at hi
  obtain rfl:=Option.some.inj hi
  rcases hj with hj | hj
  ·rw [hr] at hj;cases hj
  refine .inr fun q hq=>?_
  obtain ⟨k,hk⟩:=List.getElem?_of_mem hq
  have hkl:=(List.getElem?_eq_some_iff.1 hk).1
  unfold pix at hkl
  rw [List.length_map] at hkl
  exact h1 k q (by omega) hk
 ·exact .inr h1
open Classical in
noncomputable def pfl (g:List Vtx) (u:Vtx):List Bool:=g.map fun v=>decide (Rv g u v)
open Classical in
theorem pfl_at {g:List Vtx} {u v:Vtx} {i:Nat} (h:g[i]? = some v):(pfl g u)[i]? = some (decide (Rv g u v)):=by
 rw [pfl,List.getElem?_map,h];rfl
open Classical in
theorem flg_eq {g:List Vtx} {u:Vtx} {re:List Bool} (hl:re.length = g.length) (h:∀ (i:Nat) (v:Vtx),g[i]? = some v → (re[i]? = some true ↔ Rv g u v)):re = pfl g u:=by
 refine List.ext_getElem? fun i=>?_
 rcases Nat.lt_or_ge i g.length with hi | hi
 ·have hv:=List.getElem?_eq_getElem hi
  have h1:=h i _ hv
  rw [pfl_at hv]
  rw [List.getElem?_eq_getElem (by omega)] at h1 ⊢
  congr 1
  rw [Bool.eq_iff_iff,decide_eq_true_iff,← h1]
  simp
 ·rw [List.getElem?_eq_none (by omega),List.getElem?_eq_none (by simpa [pfl] using hi)]
theorem sph_end {c:List Int} {g:List Vtx} (hg:GraOK c g) {u:Vtx} {st:Nat} (hst:g[st]? = some u) {re:List Bool} (h:Sph g u st 0 re):re = pfl g u:=by
 refine flg_eq h.len fun i v hi=>⟨h.snd i v hi,fun hr=>?_⟩
 refine rv_closed hg (S:=fun k=>re[k]? = some true) (fun k x hk hs q hq=>?_) hr st i hst h.top hi
 rcases h.cls k x hk hs with h1 | h1
 ·omega
 ·exact h1 q hq
open Classical in
theorem dwn_asc (g:List Vtx) (l:List Int) (last:Nat):∀ (x:Nat) (cur:Vtx),(dwn g l last x cur).Pairwise (· < ·) ∧ ∀ w ∈ dwn g l last x cur,last < w ∧ w ≤ x
 | 0,cur=>by simp [dwn]
 | x + 1,cur=>by
  unfold dwn
  by_cases hx:x + 1 ≤ last
  ·rw [if_pos hx];simp
  rw [if_neg hx]
  have st:∀ cur:Vtx,(dwn g l last x cur).Pairwise (· < ·) ∧ ∀ w ∈ dwn g l last x cur,last < w ∧ w ≤ x + 1:=fun cur=>
   ⟨(dwn_asc g l last x cur).1,fun w hw=>⟨((dwn_asc g l last x cur).2 w hw).1,by have:=((dwn_asc g l last x cur).2 w hw).2;omega⟩⟩
  split
  ·rename_i k hk
   split
   ·obtain ⟨h1,h2⟩:=dwn_asc g l last x k
    refine ⟨List.pairwise_append.2 ⟨h1,List.pairwise_singleton _ _,fun a ha b hb=>?_⟩,fun w hw=>?_⟩
    ·obtain rfl:=List.mem_singleton.1 hb
     have:=h2 a ha
     omega
    ·rcases List.mem_append.1 hw with hw | hw
     ·have:=h2 w hw
      omega
     ·obtain rfl:=List.mem_singleton.1 hw
      omega
   ·exact st cur
  ·exact st cur
theorem chn_asc (g:List Vtx) (l:List Int) {w last:Nat} (hw:last < w):(chn g l w last).Pairwise (· < ·) ∧ ∀ x ∈ chn g l w last,last < x ∧ x ≤ w:=by
 unfold chn
 split
 ·rename_i k hk
  obtain ⟨h1,h2⟩:=dwn_asc g l last (w - 1) k
  refine ⟨List.pairwise_append.2 ⟨h1,List.pairwise_singleton _ _,fun a ha b hb=>?_⟩,fun x hx=>?_⟩
  ·obtain rfl:=List.mem_singleton.1 hb
   have:=h2 a ha
   omega
  ·rcases List.mem_append.1 hx with hx | hx
   ·have:=h2 x hx
    omega
   ·obtain rfl:=List.mem_singleton.1 hx
    omega
 ·exact ⟨List.pairwise_singleton _ _,fun x hx=>by obtain rfl:=List.mem_singleton.1 hx;omega⟩
theorem cmt_asc (c:List Int) (g:List Vtx) (l:List Int):∀ n:Nat,(cmt c g l n).2 ≤ n ∧ (cmt c g l n).1.Pairwise (· < ·) ∧ ∀ w ∈ (cmt c g l n).1,w ≤ (cmt c g l n).2
 | 0=>by simp [cmt]
 | n + 1=>by
  obtain ⟨h1,h2,h3⟩:=cmt_asc c g l n
  unfold cmt
  split
  ·obtain ⟨h4,h5⟩:=chn_asc g l (w:=n + 1) (last:=(cmt c g l n).2) (by omega)
   refine ⟨Nat.le_refl _,List.pairwise_append.2 ⟨h2,h4,fun a ha b hb=>?_⟩,fun w hw=>?_⟩
   ·have:=h3 a ha
    have:=(h5 b hb).1
    omega
   ·rcases List.mem_append.1 hw with hw | hw
    ·have:=h3 w hw
     show w ≤ n + 1
     omega
    ·exact (h5 w hw).2
  ·exact ⟨by omega,h2,h3⟩
def inW (g:List Vtx) (l:List Int) (w:Nat) (v:Vtx):Prop:=∃ k,ldr g l w = some k ∧ Rv g k v ∧ 2 * (w:Int) - 7 ≤ v.round
open Classical in
noncomputable def wvk (g:List Vtx) (l:List Int) (ws:List Nat) (v:Vtx):Int:=match ws.find? fun w=>decide (inW g l w v) with
 | some w=>(w:Int)
 | none=>0
open Classical in
theorem wvk_snoc (g:List Vtx) (l:List Int) (ws:List Nat) (w:Nat) (v:Vtx) (hp:∀ w ∈ ws,1 ≤ w):wvk g l (ws ++ [w]) v = if wvk g l ws v = 0 ∧ inW g l w v then (w:Int) else wvk g l ws v:=by
 unfold wvk
 rw [List.find?_append]
 cases h:ws.find? fun w=>decide (inW g l w v) with
 | none=>
  simp only [Option.none_or,List.find?_cons,List.find?_nil,true_and]
  by_cases hi:inW g l w v
  ·simp [hi]
  ·simp [hi]
 | some x=>
  have:=hp x (List.mem_of_find?_eq_some h)
  simp only [Option.some_or]
  rw [if_neg (by omega)]
open Classical in
theorem wvk_zero {g:List Vtx} {l:List Int} {ws:List Nat} {v:Vtx} (hp:∀ w ∈ ws,1 ≤ w):wvk g l ws v = 0 ↔ ∀ w ∈ ws,¬ inW g l w v:=by
 unfold wvk
 cases h:ws.find? fun w=>decide (inW g l w v) with
 | none=>
  have:=List.find?_eq_none.1 h
  simp only [true_iff]
  intro w hw hi
  exact this w hw (decide_eq_true hi)
 | some x=>
  have h1:=hp x (List.mem_of_find?_eq_some h)
  have h2:inW g l x v:=by
   have:=List.find?_some h
   simpa using this
  refine ⟨fun h0=>?_,fun h0=>absurd h2 (h0 x (List.mem_of_find?_eq_some h))⟩
  simp only at h0
  omega
open Classical in
theorem wvk_mem {g:List Vtx} {l:List Int} {ws:List Nat} {v:Vtx} (h:wvk g l ws v ≠ 0):∃ w ∈ ws,wvk g l ws v = (w:Int):=by
 unfold wvk at h ⊢
 cases hf:ws.find? fun w=>decide (inW g l w v) with
 | none=>rw [hf] at h;exact absurd rfl h
 | some x=>exact ⟨x,List.mem_of_find?_eq_some hf,rfl⟩
open Classical in
theorem ordW_mem {g:List Vtx} {l:List Int} {acc:List Vtx} {w:Nat} {v:Vtx}:v ∈ ordW g l acc w ↔ v ∈ g ∧ inW g l w v ∧ v ∉ acc:=by
 unfold ordW inW
 cases h:ldr g l w with
 | none=>simp
 | some k=>
  simp only [List.mem_filter,Bool.and_eq_true,decide_eq_true_eq,Option.some.injEq,exists_eq_left',and_assoc]
open Classical in
theorem ordTo_mem {g:List Vtx} {l:List Int}:∀ {ws:List Nat} {acc:List Vtx} {v:Vtx},v ∈ ordTo g l acc ws ↔ v ∈ acc ∨ (v ∈ g ∧ ∃ w ∈ ws,inW g l w v)
 | [],acc,v=>by simp [ordTo]
 | w :: ws,acc,v=>by
  rw [ordTo_cons,ordTo_mem]
  simp only [List.mem_append,ordW_mem,List.mem_cons,exists_eq_or_imp]
  constructor
  ·rintro ((h | ⟨h1,h2,h3⟩) | ⟨h1,h2⟩)
   ·exact .inl h
   ·exact .inr ⟨h1,.inl h2⟩
   ·exact .inr ⟨h1,.inr h2⟩
  ·rintro (h | ⟨h1,h2 | h2⟩)
   ·exact .inl (.inl h)
   ·by_cases hm:v ∈ acc
    ·exact .inl (.inl hm)
    ·exact .inl (.inr ⟨h1,h2,hm⟩)
   ·exact .inr ⟨h1,h2⟩
open Classical in
theorem ordTo_flat (g:List Vtx) (l:List Int) (ws:List Nat) (hp:∀ w ∈ ws,1 ≤ w) (hn:ws.Pairwise (· < ·)):ordTo g l [] ws = ws.flatMap fun w:Nat=>g.filter fun v=>decide (wvk g l ws v = (w:Int)):=by
 induction ws using snoc_ind with
 | h0=>rfl
 | h ws w ih=>
  have hp':∀ x ∈ ws,1 ≤ x:=fun x hx=>hp x (List.mem_append.2 (.inl hx))
  obtain ⟨hn1,-,hn2⟩:=List.pairwise_append.1 hn
  have hlt:∀ x ∈ ws,x < w:=fun x hx=>hn2 x hx w (by simp)
  have hw1:1 ≤ w:=hp w (by simp)
  rw [ordTo_app,List.flatMap_append,ih hp' hn1]
  have e1:∀ x ∈ ws,(g.filter fun v=>decide (wvk g l (ws ++ [w]) v = (x:Int))) = g.filter fun v=>decide (wvk g l ws v = (x:Int)):=fun x hx=>by
   refine List.filter_congr fun v _=>?_
   rw [wvk_snoc g l ws w v hp']
   have hx1:=hp' x hx
   have hx2:=hlt x hx
   split
   ·rename_i h
    rw [h.1,decide_eq_false (by omega),decide_eq_false (by omega)]
   ·rfl
  rw [show (ws.flatMap fun x:Nat=>g.filter fun v=>decide (wvk g l (ws ++ [w]) v = (x:Int))) = ws.flatMap fun x:Nat=>g.filter fun v=>decide (wvk g l ws v = (x:Int)) from flat_congr e1]
  rw [← ih hp' hn1]
  show ordTo g l [] ws ++ ordW g l (ordTo g l [] ws) w = _
  congr 1
  rw [List.flatMap_cons,List.flatMap_nil,List.append_nil]
  have e2:∀ v,wvk g l (ws ++ [w]) v = (w:Int) ↔ inW g l w v ∧ ∀ x ∈ ws,¬ inW g l x v:=fun v=>by
   rw [wvk_snoc g l ws w v hp']
   constructor
   ·intro h
    split at h
    ·rename_i h2
     exact ⟨h2.2,(wvk_zero hp').1 h2.1⟩
    ·exfalso
     obtain ⟨x,hx,hxe⟩:=wvk_mem (g:=g) (l:=l) (ws:=ws) (v:=v) (by omega)
     have:=hlt x hx
     omega
   ·rintro ⟨h1,h2⟩
    rw [if_pos ⟨(wvk_zero hp').2 h2,h1⟩]
  unfold ordW
  cases hl:ldr g l w with
  | none=>
   symm
   rw [List.filter_eq_nil_iff]
   intro v _ h
   obtain ⟨⟨k,hk,-⟩,-⟩:=(e2 v).1 (of_decide_eq_true h)
   rw [hl] at hk
   cases hk
  | some k=>
   refine List.filter_congr fun v hv=>?_
   rw [Bool.eq_iff_iff]
   simp only [Bool.and_eq_true,decide_eq_true_eq,e2,ordTo_mem,inW,hl,Option.some.injEq,exists_eq_left',List.not_mem_nil,false_or,not_and,not_exists,and_assoc]
   constructor
   ·rintro ⟨h1,h2,h3⟩
    exact ⟨h1,h2,fun x hx k hk hr hd=>h3 hv x hx k hk hr hd⟩
   ·rintro ⟨h1,h2,h3⟩
    exact ⟨h1,h2,fun _ x hx k hk hr hd=>h3 x hx k hk hr hd⟩
where
 flat_congr {α β:Type} {l:List α} {f f':α → List β} (h:∀ x ∈ l,f x = f' x):l.flatMap f = l.flatMap f':=by
  induction l with
  | nil=>rfl
  | cons x l ih=>rw [List.flatMap_cons,List.flatMap_cons,h x (by simp),ih fun y hy=>h y (by simp [hy])]
theorem flat_filter {α β:Type} {f:α → List β} (p:α → Bool):∀ (l:List α),(∀ x ∈ l,p x = false → f x = []) → l.flatMap f = (l.filter p).flatMap f
 | [],_=>rfl
 | x :: l,h=>by
  rw [List.flatMap_cons,flat_filter p l fun y hy=>h y (by simp [hy]),List.filter_cons]
  cases hp:p x
  ·rw [h x (by simp) hp];rfl
  ·rfl
theorem asc_extN {a b:List Nat} (ha:a.Pairwise (· < ·)) (hb:b.Pairwise (· < ·)) (h:∀ x,x ∈ a ↔ x ∈ b):a = b:=by
 induction a generalizing b with
 | nil=>
  cases b with
  | nil=>rfl
  | cons y b=>exact absurd ((h y).2 (by simp)) (by simp)
 | cons x a ih=>
  obtain ⟨a1,a2⟩:=List.pairwise_cons.1 ha
  cases b with
  | nil=>exact absurd ((h x).1 (by simp)) (by simp)
  | cons y b=>
   obtain ⟨b1,b2⟩:=List.pairwise_cons.1 hb
   have e:x = y:=by
    rcases Nat.lt_trichotomy x y with hlt | e | hlt
    ·rcases List.mem_cons.1 ((h x).1 (by simp)) with e | hm
     ·exact e
     ·have:=b1 x hm;omega
    ·exact e
    ·rcases List.mem_cons.1 ((h y).2 (by simp)) with e | hm
     ·exact e.symm
     ·have:=a1 y hm;omega
   subst e
   congr 1
   refine ih a2 b2 fun z=>?_
   have hz:=h z
   simp only [List.mem_cons] at hz
   constructor
   ·intro hm
    have:=a1 z hm
    rcases hz.1 (.inr hm) with e | e
    ·omega
    ·exact e
   ·intro hm
    have:=b1 z hm
    rcases hz.2 (.inr hm) with e | e
    ·omega
    ·exact e
open Classical in
theorem ordG_flat {c:List Int} {g:List Vtx} (hc:comV c = true) (l:List Int):ordG c g l = (List.range' 1 l.length).flatMap fun w:Nat=>g.filter fun v=>decide (wvk g l (cmt c g l l.length).1 v = (w:Int)):=by
 have h1:=cmt_ldr (g:=g) hc l l.length
 obtain ⟨h2,h3,h4⟩:=cmt_asc c g l l.length
 unfold ordG
 rw [ordTo_flat g l _ (fun w hw=>(h1 w hw).1) h3]
 rw [flat_filter (fun w=>decide (w ∈ (cmt c g l l.length).1)) (List.range' 1 l.length)]
 ·congr 1
  refine asc_extN h3 ((List.pairwise_lt_range').filter _) fun w=>?_
  rw [List.mem_filter,List.mem_range'_1,decide_eq_true_iff]
  refine ⟨fun h=>⟨?_,h⟩,fun h=>h.2⟩
  have:=h1 w h
  omega
 ·intro w hw hn
  have hw:=List.mem_range'_1.1 hw
  rw [List.filter_eq_nil_iff]
  intro v _ h
  have h:=of_decide_eq_true h
  obtain ⟨x,hx,hxe⟩:=wvk_mem (g:=g) (l:=l) (ws:=(cmt c g l l.length).1) (v:=v) (by omega)
  have:x = w:=by omega
  subst this
  exact of_decide_eq_false hn hx
def sel (xs:List Int) (w:Int) (n:Nat):List Int:=((List.range n).filter fun i=>xs.getD i 0 == w).map fun i:Nat=>(i:Int)
theorem sel_snoc {xs:List Int} {w x:Int} {n:Nat} (h:xs[n]? = some x):sel xs w (n + 1) = if x = w then sel xs w n ++ [(n:Int)] else sel xs w n:=by
 have e:xs.getD n 0 = x:=by rw [List.getD_eq_getElem?_getD,h];rfl
 simp only [sel,List.range_succ,List.map_append,List.filter_append,List.filter_cons,List.filter_nil,e]
 by_cases hx:x = w
 ·simp [hx]
 ·simp [hx]
def selTo (xs:List Int) (m:Nat):List Int:=(List.range' 1 m).flatMap fun w:Nat=>sel xs (w:Int) xs.length
theorem selTo_snoc (xs:List Int) (m:Nat):selTo xs (m + 1) = selTo xs m ++ sel xs ((m + 1:Nat):Int) xs.length:=by
 unfold selTo
 rw [List.range'_concat,List.flatMap_append,List.flatMap_cons,List.flatMap_nil,List.append_nil,Nat.one_mul,Nat.add_comm 1 m]
def sltOf (v:Vtx):Slt:=⟨v.round,v.author⟩
open Classical in
theorem sel_ord {c:List Int} {g:List Vtx} (hc:comV c = true) (l:List Int):(selTo (g.map (wvk g l (cmt c g l l.length).1)) l.length).map (fun i=>sltOf (g.getD i.toNat v0)) = (ordG c g l).map sltOf:=by
 rw [ordG_flat hc,selTo,List.map_flatMap,List.map_flatMap]
 congr 1
 funext w
 rw [List.length_map,sel,List.map_map]
 conv=>rhs;rw [show g = (List.range g.length).map fun i=>g.getD i v0 from range_get g]
 rw [List.filter_map,List.map_map]
 simp only [← range_get g]
 have e:((List.range g.length).filter fun i=>(g.map (wvk g l (cmt c g l l.length).1)).getD i 0 == (w:Int)) = (List.range g.length).filter ((fun v=>decide (wvk g l (cmt c g l l.length).1 v = (w:Int))) ∘ fun i=>g.getD i v0):=by
  refine List.filter_congr fun i hi=>?_
  have hi:=List.mem_range.1 hi
  rw [Bool.eq_iff_iff]
  simp [List.getD_eq_getElem?_getD,List.getElem?_eq_getElem hi]
 rw [e]
 refine List.map_congr_left fun i _=>?_
 simp
where
 range_get (g:List Vtx):g = (List.range g.length).map fun i=>g.getD i v0:=by
  refine List.ext_getElem (by simp) fun i h1 h2=>?_
  simp [List.getD_eq_getElem?_getD,List.getElem?_eq_getElem h1]
end Go.Proofs.YtjjddgpdoibcoaaGreatDoor.Am
namespace Go.Proofs.YtjjddgpdoibcoaaGreatDoor.Am
open Go
attribute [local irreducible] Mk Need Ari Get Idx Cnd CallM CallA Opt Unch At ConV
set_option maxRecDepth 10000
theorem sup_c (c:List Int) (hc:comV c = true):ConV Tryz.prog 232 [.lst (.int .i64) c] [] (.int .i64 (sup c)) []:=by
 have h1:=tot_bd hc
 have h3:(tot c).tdiv 3 + 1 = sup c:=rfl
 have h2:=sup_pos hc
 refine con_eq Θ_ok Tryz.func232 rfl rfl false 0 4 rfl rfl rfl rfl fun K hK hb1 hb2=>?_;simp only [argsV,enc,Nat.reduceAdd]
 (repeat (any_goals (first | refine st ?_ | (refine go2 fun xe hxe=>?_;conv=>whnf) | ((with_reducible refine cnd_i (fun hq=>?_) fun hq=>?_) <;> (try simp only [hqs] at hq) <;> (first | omega | conv=>whnf)) | refine cr (tot_c _ hc) ?_)))
 exact ⟨rfl,rfl⟩
theorem pix_at {c:List Int} {g:List Vtx} (hg:GraOK c g) {n j:Nat} {v:Vtx} {a:Int} (hv:g[n]? = some v) (hj:v.parents[j]? = some a):∃ q:Nat,(pix g v)[j]? = some (some q) ∧ fndI g (v.round - 1) a = (q:Int) ∧ q < g.length:=by
 have h0:(pix g v)[j]? = some (g.findIdx? (isAt (v.round - 1) a)):=by rw [pix,List.getElem?_map,hj];rfl
 obtain ⟨k,x,e,h1,-,-⟩:=pix_get hg (List.mem_of_getElem? hv) (List.mem_of_getElem? h0)
 refine ⟨k,by rw [h0,e],?_,(List.getElem?_eq_some_iff.1 h1).1⟩
 rw [fndI,e]
theorem past_c (c:List Int) (g:List Vtx) (hg:GraOK c g) (hl:g.length ≤ 1000000) (sa:Nat) (u:Vtx) (hst:g[sa]? = some u):ConV Tryz.prog 217 [.lst .vtx g,.int .i64 (sa:Int)] [] (.lst .bool (pfl g u)) []:=by
 have hsl:=(List.getElem?_eq_some_iff.1 hst).1
 have h7:=(comV_iff.1 hg.com).2
 have h0:=sph_0 hst
 have hrl:(List.replicate g.length false).length = g.length:=by simp
 have hre:(List.replicate g.length false)[sa]? = some false:=by rw [List.getElem?_replicate,if_pos hsl]
 have hre2:(List.replicate ((g.length:Int).toNat) false)[sa]? = some false:=hre
 refine con_eq Θ_ok Tryz.func217 rfl rfl true 0 4 rfl rfl rfl rfl fun K hK hb1 hb2=>?_;simp only [argsV,enc,Nat.reduceAdd]
 clear hb1 hb2
 (repeat (any_goals (first | refine st ?_ | (refine go2 fun xe hxe=>?_;conv=>whnf) | ((with_reducible refine cnd_i (fun hq=>?_) fun hq=>?_) <;> (try simp only [hqs] at hq) <;> (first | omega | conv=>whnf)))))
 refine at_loop hK [] [0,5,6] (fun x:Nat × List Bool=>⟨[(0,.lst .vtx g),(5,.ref 4),(6,.int .i64 ((x.1:Int) - 1))],[(4,.row 4 .bool x.2)],5⟩) (fun x=>Sph g u sa x.1 x.2 ∧ x.1 ≤ sa + 1) (fun x=>x.1) (sa + 1,(List.replicate g.length false).set sa true) ⟨h0,Nat.le_refl _⟩ ?_ ?_
 ·dsimp only
  rw [show (((sa + 1:Nat):Int) - 1) = (sa:Int) by omega]
  rfl
 rintro ⟨m,re⟩ ⟨hS,hm⟩
 dsimp only at hS hm ⊢
 have hrel:=hS.len
 cases m with
 | zero=>
  have he:=sph_end hg hst hS
  (repeat (any_goals (first | refine st ?_ | (refine go2 fun xe hxe=>?_;conv=>whnf) | ((with_reducible refine cnd_i (fun hq=>?_) fun hq=>?_) <;> (try simp only [hqs] at hq) <;> (first | omega | conv=>whnf)))))
  exact ⟨by rw [he],rfl⟩
 | succ m=>
  rw [show (((m + 1:Nat):Int) - 1) = (m:Int) by omega]
  have hI:=spi_of hS
  have hml:m < g.length:=by omega
  have hv:g[m]? = some g[m]:=List.getElem?_eq_getElem hml
  have hvr:=(vtxS_ok (hg.vtx _ (List.mem_of_getElem? hv))).1
  have hpl:=mems_len (vtxS_ok (hg.vtx _ (List.mem_of_getElem? hv))).2.2.1
  generalize g[m] = v at *
  clear hS
  (repeat (any_goals (first | refine st ?_ | (refine go2 fun xe hxe=>?_;conv=>whnf) | ((with_reducible refine cnd_i (fun hq=>?_) fun hq=>?_) <;> (try simp only [hqs] at hq) <;> (first | omega | conv=>whnf)))))
  refine at_loop hK [] [0,5,6,7] (fun y:Nat × List Bool=>⟨[(0,.lst .vtx g),(5,.ref 4),(6,.int .i64 (m:Int)),(7,.int .i64 (y.1:Int))],[(4,.row 4 .bool y.2)],5⟩) (fun y=>Spi g u sa m y.1 y.2 ∧ y.1 ≤ v.parents.length) (fun y=>v.parents.length - y.1) (0,re) ⟨hI,Nat.zero_le _⟩ rfl ?_
  rintro ⟨j,rf⟩ ⟨hJ,hj⟩
  dsimp only at hJ hj ⊢
  have hrl2:=hJ.len
  have hbm:rf[m]? = some rf[m]:=List.getElem?_eq_getElem (by omega)
  by_cases hlt:j < v.parents.length
  ·cases hb:rf[m] with
   | false=>
    rw [hb] at hbm
    have hS2:=sph_off hJ hv (.inl hbm)
    (repeat (any_goals (first | refine st ?_ | (refine go2 fun xe hxe=>?_;conv=>whnf) | ((with_reducible refine cnd_i (fun hq=>?_) fun hq=>?_) <;> (try simp only [hqs] at hq) <;> (first | omega | conv=>whnf)))))
    exact ⟨(m,rf),⟨hS2,by dsimp only;omega⟩,by dsimp only;omega,rfl⟩
   | true=>
    rw [hb] at hbm
    have hxe:v.parents[j]? = some v.parents[j]:=List.getElem?_eq_getElem hlt
    generalize v.parents[j] = a at *
    obtain ⟨q,q1,q2,q3⟩:=pix_at hg hv hxe
    have hF:=find_c g (v.round - 1) a
    rw [q2] at hF
    have hS2:=spi_set hg hJ hv hbm q1
    have hq:rf[q]? = some rf[q]:=List.getElem?_eq_getElem (by omega)
    (repeat (any_goals (first | refine st ?_ | (refine go2 fun xe hxe=>?_;conv=>whnf) | ((with_reducible refine cnd_i (fun hq=>?_) fun hq=>?_) <;> (try simp only [hqs] at hq) <;> (first | omega | conv=>whnf)) | refine cr (hF) ?_)))
    exact ⟨(j + 1,rf.set q true),⟨hS2,by dsimp only;omega⟩,by dsimp only;omega,rfl⟩
  ·have hS2:=sph_off hJ hv (.inr (by omega))
   cases hb:rf[m] with
   | false=>
    rw [hb] at hbm
    (repeat (any_goals (first | refine st ?_ | (refine go2 fun xe hxe=>?_;conv=>whnf) | ((with_reducible refine cnd_i (fun hq=>?_) fun hq=>?_) <;> (try simp only [hqs] at hq) <;> (first | omega | conv=>whnf)))))
    exact ⟨(m,rf),⟨hS2,by dsimp only;omega⟩,by dsimp only;omega,rfl⟩
   | true=>
    rw [hb] at hbm
    (repeat (any_goals (first | refine st ?_ | (refine go2 fun xe hxe=>?_;conv=>whnf) | ((with_reducible refine cnd_i (fun hq=>?_) fun hq=>?_) <;> (try simp only [hqs] at hq) <;> (first | omega | conv=>whnf)))))
    exact ⟨(m,rf),⟨hS2,by dsimp only;omega⟩,by dsimp only;omega,rfl⟩
theorem ldrA_at {l:List Int} {w:Nat} (h1:1 ≤ w) (h2:w ≤ l.length):l[((w:Int) - 1).toNat]? = some (ldrA l w):=by
 rw [show ((w:Int) - 1).toNat = w - 1 by omega,ldrA,List.getD_eq_getElem?_getD,List.getElem?_eq_getElem (by omega)]
 rfl
def ldrI (g:List Vtx) (l:List Int) (w:Nat):Int:=fndI g (2 * (w:Int) - 1) (ldrA l w)
theorem ldrI_some {c:List Int} {g:List Vtx} (hg:GraOK c g) {l:List Int} {w:Nat} {k:Vtx} (h:ldr g l w = some k):∃ i:Nat,ldrI g l w = (i:Int) ∧ g[i]? = some k:=by
 obtain ⟨h1,h2,h3⟩:=ldr_some h
 obtain ⟨i,hi⟩:=List.getElem?_of_mem h1
 have:=idx_of hg hi
 rw [h2,h3] at this
 exact ⟨i,by rw [ldrI,fndI,this],hi⟩
theorem ldrI_none {g:List Vtx} {l:List Int} {w:Nat} (h:ldr g l w = none):ldrI g l w = -1:=by
 have:g.findIdx? (isAt (2 * (w:Int) - 1) (ldrA l w)) = none:=by
  rw [List.findIdx?_eq_none_iff]
  intro x hx
  have:=List.find?_eq_none.1 h x hx
  simpa using this
 rw [ldrI,fndI,this]
theorem ldr_c (g:List Vtx) (l:List Int) (w:Nat) (h1:1 ≤ w) (h2:w ≤ l.length) (h3:w ≤ 1000000):ConV Tryz.prog 218 [.lst .vtx g,.lst (.int .i64) l,.int .i64 (w:Int)] [] (.int .i64 (ldrI g l w)) []:=by
 have hx:=ldrA_at h1 h2
 have hF:=find_c g (2 * (w:Int) - 1) (ldrA l w)
 refine con_eq Θ_ok Tryz.func218 rfl rfl false 0 4 rfl rfl rfl rfl fun K hK hb1 hb2=>?_;simp only [argsV,enc,Nat.reduceAdd]
 clear hb1 hb2
 (repeat (any_goals (first | refine st ?_ | (refine go2 fun xe hxe=>?_;conv=>whnf) | ((with_reducible refine cnd_i (fun hq=>?_) fun hq=>?_) <;> (try simp only [hqs] at hq) <;> (first | omega | conv=>whnf)) | refine cr (hF) ?_)))
 exact ⟨rfl,rfl⟩
theorem vtr_snoc {g:List Vtx} {l:List Int} {w i:Nat} {v:Vtx} (h:g[i]? = some v):vtr (g.take (i + 1)) l w = if (v.round == 2 * (w:Int) && v.parents.contains (ldrA l w)) = true then vtr (g.take i) l w ++ [v.author] else vtr (g.take i) l w:=by
 have e:g.take (i + 1) = g.take i ++ [v]:=by
  obtain ⟨hi,rfl⟩:=List.getElem?_eq_some_iff.1 h
  exact List.take_succ_eq_append_getElem hi
 rw [vtr,e,List.filter_append,List.map_append,List.filter_cons,List.filter_nil]
 split
 ·rfl
 ·rw [List.map_nil,List.append_nil];rfl
theorem vtr_len (g:List Vtx) (l:List Int) (w:Nat):(vtr g l w).length ≤ g.length:=by
 unfold vtr
 rw [List.length_map]
 exact List.length_filter_le _ _
theorem vts_c (c:List Int) (g:List Vtx) (l:List Int) (w:Nat) (hg:GraOK c g) (hl:g.length ≤ 1000000) (h1:1 ≤ w) (h2:w ≤ l.length) (h3:w ≤ 1000000):ConV Tryz.prog 231 [.lst (.int .i64) c,.lst .vtx g,.lst (.int .i64) l,.int .i64 (w:Int)] [] (.int .i64 (vts' c g l w)) []:=by
 have hx:=ldrA_at h1 h2
 have hL:=ldr_c g l w h1 h2 h3
 have hcm:=(comV_iff.1 hg.com).1
 refine con_eq Θ_ok Tryz.func231 rfl rfl false 0 4 rfl rfl rfl rfl fun K hK hb1 hb2=>?_;simp only [argsV,enc,Nat.reduceAdd]
 clear hb1 hb2
 (repeat (any_goals (first | refine st ?_ | (refine go2 fun xe hxe=>?_;conv=>whnf) | ((with_reducible refine cnd_i (fun hq=>?_) fun hq=>?_) <;> (try simp only [hqs] at hq) <;> (first | omega | conv=>whnf)))))
 refine at_loop hK [] [0,1,2,3,9,10] (fun i:Nat=>⟨[(0,.lst (.int .i64) c),(1,.lst .vtx g),(2,.lst (.int .i64) l),(3,.int .i64 (w:Int)),(9,.int .i64 (wei c (vtr (g.take i) l w))),(10,.int .i64 (i:Int))],[],4⟩) (fun i=>i ≤ g.length ∧ (0 < i → (ldr g l w).isSome = true)) (fun i=>g.length - i) 0 ⟨Nat.zero_le _,fun h=>absurd h (Nat.lt_irrefl 0)⟩ rfl ?_
 rintro i ⟨hi,hs⟩
 have hwb:=wei_bd (ms:=vtr (g.take i) l w) hg.com
 have hwl:=vtr_len (g.take i) l w
 rw [List.length_take] at hwl
 cases hk:ldr g l w with
 | none=>
  rw [ldrI_none hk] at hL
  have hi0:i = 0:=by
   rcases Nat.eq_zero_or_pos i with h | h
   ·exact h
   ·have:=hs h
    rw [hk] at this
    cases this
  subst hi0
  have he:vts' c g l w = 0:=by rw [vts',hk];rfl
  rw [he]
  have hz:wei c (vtr (g.take 0) l w) = 0:=rfl
  rw [hz]
  by_cases hlt:0 < g.length
  ·(repeat (any_goals (first | refine st ?_ | (refine go2 fun xe hxe=>?_;conv=>whnf) | ((with_reducible refine cnd_i (fun hq=>?_) fun hq=>?_) <;> (try simp only [hqs] at hq) <;> (first | omega | conv=>whnf)) | refine cr (hL) ?_)))
   exact ⟨rfl,rfl⟩
  ·(repeat (any_goals (first | refine st ?_ | (refine go2 fun xe hxe=>?_;conv=>whnf) | ((with_reducible refine cnd_i (fun hq=>?_) fun hq=>?_) <;> (try simp only [hqs] at hq) <;> (first | omega | conv=>whnf)) | refine cr (hL) ?_)))
   exact ⟨rfl,rfl⟩
 | some k=>
  obtain ⟨n,hn,-⟩:=ldrI_some hg hk
  rw [hn] at hL
  have he:vts' c g l w = wei c (vtr g l w):=by rw [vts',hk];rfl
  by_cases hlt:i < g.length
  ·have hxe:g[i]? = some g[i]:=List.getElem?_eq_getElem hlt
   have hsn:=vtr_snoc (l:=l) (w:=w) hxe
   obtain ⟨hvr,hva,-⟩:=vtxS_ok (hg.vtx _ (List.mem_of_getElem? hxe))
   generalize g[i] = v at *
   have hH:=has_c v.parents (ldrA l w)
   cases h4:v.round == 2 * (w:Int)
   ·rw [h4,Bool.false_and,if_neg (by simp)] at hsn
    (repeat (any_goals (first | refine st ?_ | (refine go2 fun xe hxe=>?_;conv=>whnf) | ((with_reducible refine cnd_i (fun hq=>?_) fun hq=>?_) <;> (try simp only [hqs] at hq) <;> (first | omega | conv=>whnf)) | refine cr (hL) ?_ | refine cr (hH) ?_)))
    exact ⟨i + 1,⟨by omega,fun _=>rfl⟩,by omega,by rw [hsn];rfl⟩
   ·cases h5:v.parents.contains (ldrA l w)
    ·rw [h4,h5,if_neg (by simp)] at hsn
     rw [h5] at hH
     (repeat (any_goals (first | refine st ?_ | (refine go2 fun xe hxe=>?_;conv=>whnf) | ((with_reducible refine cnd_i (fun hq=>?_) fun hq=>?_) <;> (try simp only [hqs] at hq) <;> (first | omega | conv=>whnf)) | refine cr (hL) ?_ | refine cr (hH) ?_)))
     exact ⟨i + 1,⟨by omega,fun _=>rfl⟩,by omega,by rw [hsn];rfl⟩
    ·rw [h4,h5,show (true && true) = true from rfl,if_pos rfl] at hsn
     rw [h5] at hH
     have hwn:=wei_snoc c (vtr (g.take i) l w) v.author
     have hca:c[v.author.toNat]? = some (c.getD v.author.toNat 0):=by rw [List.getD_eq_getElem?_getD,List.getElem?_eq_getElem (by omega)];rfl
     have hcb:=hcm _ (List.mem_of_getElem? hca)
     generalize c.getD v.author.toNat 0 = cx at *
     generalize wei c (vtr (g.take i) l w) = wx at *
     (repeat (any_goals (first | refine st ?_ | (refine go2 fun xe hxe=>?_;conv=>whnf) | ((with_reducible refine cnd_i (fun hq=>?_) fun hq=>?_) <;> (try simp only [hqs] at hq) <;> (first | omega | conv=>whnf)) | refine cr (hL) ?_ | refine cr (hH) ?_)))
     exact ⟨i + 1,⟨by omega,fun _=>rfl⟩,by omega,by rw [hsn,hwn];rfl⟩
  ·rw [List.take_of_length_le (by omega)]
   (repeat (any_goals (first | refine st ?_ | (refine go2 fun xe hxe=>?_;conv=>whnf) | ((with_reducible refine cnd_i (fun hq=>?_) fun hq=>?_) <;> (try simp only [hqs] at hq) <;> (first | omega | conv=>whnf)) | refine cr (hL) ?_)))
   exact ⟨by rw [he],rfl⟩
end Go.Proofs.YtjjddgpdoibcoaaGreatDoor.Am
namespace Go.Proofs.YtjjddgpdoibcoaaGreatDoor.Am
open Go
attribute [local irreducible] Mk Need Ari Get Idx Cnd CallM CallA Opt Unch At ConV
set_option maxRecDepth 10000
theorem rng_at {n i:Nat} (h:i < n):((List.range n).map some)[i]? = some (some i):=by
 rw [List.getElem?_map,List.getElem?_range h];rfl
theorem snoc_cases {α:Type} (l:List α):l = [] ∨ ∃ l' x,l = l' ++ [x]:=by
 rcases List.eq_nil_or_concat l with h | ⟨l',x,h⟩
 ·exact .inl h
 ·exact .inr ⟨l',x,by rw [h,List.concat_eq_append]⟩
theorem ipast_c (c:List Int) (g:List Vtx) (hg:GraOK c g) (hl:g.length ≤ 1000000) (sa:Nat) (u:Vtx) (hst:g[sa]? = some u):ConV Tryz.prog 142 [.ptr 4 0,.hpo 0 (some sa)] (gR c (gst g)) (.lst (.int .i64) (pst g u)) (gR c (gst g)):=by
 have hn:=(gst_len g).1
 have hsl:=(List.getElem?_eq_some_iff.1 hst).1
 have h7:=(comV_iff.1 hg.com).2
 obtain ⟨p0,hp0⟩:=gst_node hst
 have hrl:((List.range (gst g).nodes.length).map some).length = g.length:=by simp [hn]
 have h0:=dfs_0 hg hst
 have hre0:(List.replicate g.length false)[sa]? = some false:=by rw [List.getElem?_replicate,if_pos hsl]
 have hr0l:(List.replicate g.length false).length = g.length:=by simp
 have ht0:((List.replicate g.length false).set sa true)[sa]? = some true:=by rw [List.getElem?_set,if_pos rfl,if_pos (by omega)]
 have hix:0 ≤ (sa:Int) ∧ (sa:Int) < ((List.replicate ((((List.range (gst g).nodes.length).map some).length:Int).toNat) false).length:Nat):=by rw [hrl,List.length_replicate];omega
 have hfit:fits 1 (((((List.range (gst g).nodes.length).map some).length:Nat):Int).toNat):=by rw [hrl];unfold fits;omega
 have hre2:(List.replicate ((((List.range (gst g).nodes.length).map some).length:Int).toNat) false)[sa]? = some false:=by rw [hrl];exact hre0
 refine con_eq Θg_ok Tryz.func142 rfl rfl true 2 6 rfl rfl rfl rfl fun K hK hb1 hb2=>?_;simp only [argsV,enc,Nat.reduceAdd]
 clear hb1 hb2
 (repeat (any_goals (first | refine stg ?_ | (refine go2 fun xe hxe=>?_;conv=>whnf) | ((with_reducible refine cnd_i (fun hq=>?_) fun hq=>?_) <;> (try simp only [hqs] at hq) <;> (first | omega | conv=>whnf)))))
 refine at_loop hK [] [5,6] (fun x:List Bool × List (Option Nat)=>⟨[(5,.ref 6),(6,.ref 7)],gRx c (gst g) (.row 4 .bool x.1) ++ [(7,.row 148 (.hp 0) x.2)],8⟩) (fun x=>Dfs g u g.length 0 x.1 x.2 ∧ x.1[sa]? = some true ∧ x.2.length + x.1.count false ≤ g.length + 1) (fun x=>2 * x.1.count false + x.2.length) ((List.replicate g.length false).set sa true,[some sa]) ⟨h0,ht0,?_⟩ (by simp only [hrl];rfl) ?_
 ·have:=cnt_set hre0
  simp only [List.count_replicate_self] at this
  simp only [List.length_singleton]
  omega
 rintro ⟨re,wt⟩ ⟨hD,hS,hc⟩
 dsimp only at hD hS hc ⊢
 have hrel:=hD.len
 rcases snoc_cases wt with rfl | ⟨wt,o,rfl⟩
 ·have hfin:=trues_pst hrel fun i v hi=>dfs_end hg hst hD hS hi
  have hnil:¬ (0:Int) < ((([]:List (Ty.hp 0).den).length:Nat):Int):=by simp
  (repeat (any_goals (first | refine stg ?_ | (refine go2 fun xe hxe=>?_;conv=>whnf) | ((with_reducible refine cnd_i (fun hq=>?_) fun hq=>?_) <;> (try simp only [hqs] at hq) <;> (first | omega | conv=>whnf)))))
  refine at_loop hK [] [10,70,71,72] (fun i:Nat=>⟨[(10,.ref 6),(70,.ref 7),(71,.int .i64 g.length),(72,.int .i64 (i:Int))],gRx c (gst g) (.row 3 (.int .i64) (trues re i)) ++ [(7,.row 4 .bool re)],8⟩) (fun i=>i ≤ g.length) (fun i=>g.length - i) 0 (Nat.zero_le _) (by simp only [hrel];rfl) ?_
  intro i hi
  have htl:=trues_len re i
  by_cases hlt:i < g.length
  ·have hxe:re[i]? = some re[i]:=List.getElem?_eq_getElem (by omega)
   have hsn:=trues_snoc hxe
   cases hb:re[i] with
   | false=>
    rw [hb] at hxe hsn
    rw [if_neg (by simp)] at hsn
    (repeat (any_goals (first | refine stg ?_ | (refine go2 fun xe hxe=>?_;conv=>whnf) | ((with_reducible refine cnd_i (fun hq=>?_) fun hq=>?_) <;> (try simp only [hqs] at hq) <;> (first | omega | conv=>whnf)))))
    exact ⟨i + 1,by omega,by omega,by rw [hsn];rfl⟩
   | true=>
    rw [hb] at hxe hsn
    rw [if_pos rfl] at hsn
    (repeat (any_goals (first | refine stg ?_ | (refine go2 fun xe hxe=>?_;conv=>whnf) | ((with_reducible refine cnd_i (fun hq=>?_) fun hq=>?_) <;> (try simp only [hqs] at hq) <;> (first | omega | conv=>whnf)))))
    exact ⟨i + 1,by omega,by omega,by rw [hsn];rfl⟩
  ·obtain rfl:i = g.length:=by omega
   (repeat (any_goals (first | refine stg ?_ | (refine go2 fun xe hxe=>?_;conv=>whnf) | ((with_reducible refine cnd_i (fun hq=>?_) fun hq=>?_) <;> (try simp only [hqs] at hq) <;> (first | omega | conv=>whnf)))))
   exact ⟨by rw [hfin],rfl⟩
 ·obtain ⟨q,rfl,hq⟩:=hD.wtg o (by simp)
  have hql:q < g.length:=by have:=(List.getElem?_eq_some_iff.1 hq).1;omega
  obtain ⟨v,hv⟩:∃ v,g[q]? = some v:=⟨_,List.getElem?_eq_getElem hql⟩
  obtain ⟨p,hp,hrow⟩:=gst_rows hg hv
  have hD2:=dfs_pop hD (List.getElem?_eq_none (Nat.le_refl _))
  have hwl:(wt ++ [some q]).length = wt.length + 1:=by simp
  have hwx:(wt ++ [some q])[((((wt ++ [some q]).length:Nat):Int) - 1).toNat]? = some (some q):=by
   rw [hwl,show (((wt.length + 1:Nat):Int) - 1).toNat = wt.length by omega];simp
  have hwt:(wt ++ [some q]).take ((((wt ++ [some q]).length:Nat):Int) - 1).toNat = wt:=by
   rw [hwl,show (((wt.length + 1:Nat):Int) - 1).toNat = wt.length by omega];simp
  have hwc:wt.length + 1 + re.count false ≤ g.length + 1:=by rw [hwl] at hc;exact hc
  clear hD hc
  generalize wt ++ [some q] = W at *
  have hcut:cutL W none (some (.int .i64 ((W.length:Int) - 1))) 0 ((W.length:Int) - 1).toNat = wt:=hwt
  rcases hrow with ⟨hpn,rfl⟩ | ⟨r,rfl,hrow⟩
  ·have hnx:=dfs_next hD2 hv (by rw [hpn];simp)
   (repeat (any_goals (first | refine stg ?_ | (refine go2 fun xe hxe=>?_;conv=>whnf) | ((with_reducible refine cnd_i (fun hq=>?_) fun hq=>?_) <;> (try simp only [hqs] at hq) <;> (first | omega | conv=>whnf)))))
   refine at_loop hK [] [5,6,44,45,46] (fun j:Nat=>⟨[(5,.ref 6),(6,.ref 7),(44,.hro 1 none),(45,.int .i64 0),(46,.int .i64 (j:Int))],gRx c (gst g) (.row 4 .bool re) ++ [(7,.row 148 (.hp 0) wt)],8⟩) (fun j=>j = 0) (fun j=>j) 0 rfl (by simp only [hcut];rfl) ?_
   rintro j rfl
   (repeat (any_goals (first | refine stg ?_ | (refine go2 fun xe hxe=>?_;conv=>whnf) | ((with_reducible refine cnd_i (fun hq=>?_) fun hq=>?_) <;> (try simp only [hqs] at hq) <;> (first | omega | conv=>whnf)))))
   exact ⟨(re,wt),⟨hnx,hS,by dsimp only;omega⟩,by dsimp only;omega,rfl⟩
  ·have hpxl:(pix g v).length = v.parents.length:=by simp [pix]
   have hpl:=mems_len (vtxS_ok (hg.vtx v (List.mem_of_getElem? hv))).2.2.1
   (repeat (any_goals (first | refine stg ?_ | (refine go2 fun xe hxe=>?_;conv=>whnf) | ((with_reducible refine cnd_i (fun hq=>?_) fun hq=>?_) <;> (try simp only [hqs] at hq) <;> (first | omega | conv=>whnf)))))
   refine at_loop hK [] [5,6,44,45,46] (fun y:Nat × List Bool × List (Option Nat)=>⟨[(5,.ref 6),(6,.ref 7),(44,.hro 1 (some r)),(45,.int .i64 (pix g v).length),(46,.int .i64 (y.1:Int))],gRx c (gst g) (.row 4 .bool y.2.1) ++ [(7,.row 148 (.hp 0) y.2.2)],8⟩) (fun y=>Dfs g u q y.1 y.2.1 y.2.2 ∧ y.2.1[sa]? = some true ∧ y.1 ≤ (pix g v).length ∧ y.2.2.length + y.2.1.count false = wt.length + re.count false ∧ y.2.1.count false ≤ re.count false) (fun y=>(pix g v).length - y.1) (0,re,wt) ⟨hD2,hS,Nat.zero_le _,rfl,Nat.le_refl _⟩ (by simp only [hcut];rfl) ?_
   rintro ⟨j,rf,wf⟩ ⟨hJ,hJs,hj,hjc,hjm⟩
   dsimp only at hJ hJs hj hjc hjm ⊢
   have hrl2:=hJ.len
   by_cases hlt:j < (pix g v).length
   ·have hxe:(pix g v)[j]? = some (pix g v)[j]:=List.getElem?_eq_getElem hlt
    obtain ⟨q',x',e',hv',-,-⟩:=pix_get hg (List.mem_of_getElem? hv) (List.mem_of_getElem? hxe)
    rw [e'] at hxe
    obtain ⟨p',hp'⟩:=gst_node hv'
    have hq'l:=(List.getElem?_eq_some_iff.1 hv').1
    have hbq:rf[q']? = some rf[q']:=List.getElem?_eq_getElem (by omega)
    have hix2:0 ≤ (q':Int) ∧ (q':Int) < (rf.length:Nat):=by omega
    cases hb:rf[q'] with
    | true=>
     rw [hb] at hbq
     have hsk:=dfs_skip hJ hv hxe hbq
     (repeat (any_goals (first | refine stg ?_ | (refine go2 fun xe hxe=>?_;conv=>whnf) | ((with_reducible refine cnd_i (fun hq=>?_) fun hq=>?_) <;> (try simp only [hqs] at hq) <;> (first | omega | conv=>whnf)))))
     exact ⟨(j + 1,rf,wf),⟨hsk,hJs,by dsimp only;omega,hjc,hjm⟩,by dsimp only;omega,rfl⟩
    | false=>
     rw [hb] at hbq
     have hpu:=dfs_push hg hJ hv hxe hbq
     have hcs:=cnt_set hbq
     (repeat (any_goals (first | refine stg ?_ | (refine go2 fun xe hxe=>?_;conv=>whnf) | ((with_reducible refine cnd_i (fun hq=>?_) fun hq=>?_) <;> (try simp only [hqs] at hq) <;> (first | omega | conv=>whnf)))))
     exact ⟨(j + 1,rf.set q' true,wf ++ [some q']),⟨hpu,set_true hJs,by dsimp only;omega,by dsimp only;rw [List.length_append];simp only [List.length_cons,List.length_nil];omega,by dsimp only;omega⟩,by dsimp only;omega,rfl⟩
   ·have hnx:=dfs_next hJ hv (by omega)
    (repeat (any_goals (first | refine stg ?_ | (refine go2 fun xe hxe=>?_;conv=>whnf) | ((with_reducible refine cnd_i (fun hq=>?_) fun hq=>?_) <;> (try simp only [hqs] at hq) <;> (first | omega | conv=>whnf)))))
    exact ⟨(rf,wf),⟨hnx,hJs,by dsimp only;omega⟩,by dsimp only;omega,rfl⟩
end Go.Proofs.YtjjddgpdoibcoaaGreatDoor.Am
namespace Go.Proofs.YtjjddgpdoibcoaaGreatDoor.Am
open Go Go.RowKit Go.Extern.Stop Go.Stop Go.Extern
set_option maxRecDepth 10000
theorem eisT (v:Value) (w:World):(Extern.ReflectliteType.typeOf #[.iface 248 v]).run Tryz.prog w = .ok (.iface 237 (.agg #[.pointer (some ⟨3,248,none⟩)])) w:=by kernel_rfl
theorem eisC (w : World) : ((Extern.ReflectliteType.method fun t => do Rtype.noPackHeld "Comparable" t; (fun a => Value.bool a.comparable) <$> typeInfo t) #[.agg #[.pointer (some ⟨3, 248, none⟩)]]).run Tryz.prog w = .ok (.bool true) w := by kernel_rfl
theorem eisM (v : Value) (w : World) : (Go.method 383 237 v "Comparable").run Tryz.prog w = .ok (257, v) w := by kernel_rfl
theorem eisI:(Tryz.prog.info? 248).map (·.comparable) = some true:=by kernel_rfl
theorem eisS:(Tryz.prog.info? 272).map (·.size) = some 1:=by kernel_rfl
theorem eis1 (a:Addr) (w:World) :
  Calls Tryz.prog 184 #[.iface 248 (.pointer (some a)),.iface 248 (.pointer (some a))] w fun e w'=>e = .returned (.bool true) ∧ w' = w:=by
 obtain ⟨i,hi,hcmp⟩:=Option.map_eq_some_iff.1 eisI
 obtain ⟨j,hj,hjs⟩:=Option.map_eq_some_iff.1 eisS
 have h8:=@run_callFunc_extern Tryz.prog 212 _ Extern.ReflectliteType.typeOf Tryz.func212 (by kernel_rfl) (by kernel_rfl) (by kernel_rfl) (by kernel_rfl)
 have h32 := @run_callFunc_extern Tryz.prog 257 _ (Extern.ReflectliteType.method fun t => do Rtype.noPackHeld "Comparable" t; pure (.bool (← typeInfo t).comparable)) Tryz.func257 (by kernel_rfl) (by kernel_rfl) (by kernel_rfl) (by kernel_rfl)
 have tT:=eisT
 have cT:=eisC
 have mR:=eisM
 have heq:=run_eql_iface_ptr_same (P:=Tryz.prog) w a Tryz.underlying106 Tryz.underlying248 hi hcmp hj
 go_enter Tryz.func184,Tryz.ntmps184
 go_wp2
 refine wp_loop_rounds 1 ?_
 rw [rounds_succ]
 go_wp2
 go_ret
 exact ⟨rfl,rfl⟩
theorem eis0 (b:Addr) (w:World) :
  Calls Tryz.prog 184 #[.nilIface,.iface 248 (.pointer (some b))] w fun e w'=>e = .returned (.bool false) ∧ w' = w:=by
 have hn:=run_eql_iface_nil_left (P:=Tryz.prog) w 248 (.pointer (some b)) Tryz.underlying106
 go_enter Tryz.func184,Tryz.ntmps184
 go_wp2
 go_ret
 exact ⟨rfl,rfl⟩
theorem gv_is {ρ:Id → Pl} {L:Id → Prop} {ok:Nat → Prop} {w:World} {v:Value} (h:C ρ L ok w (.gv 1) v):∃ ad,v = .iface 248 (.pointer (some ad)) ∧ w.cell? ⟨1,0,none⟩ = some (.iface 248 (.pointer (some ad))):=by
 obtain ⟨x,ad,rfl,hx,-,hc⟩:=h.gv_inv
 obtain rfl:(248,106) = x:=Option.some.inj hx
 exact ⟨ad,rfl,hc⟩
theorem two_args {vs:Array Value} (h:2 = vs.size):∃ v1 v2,vs = #[v1,v2]:=by
 refine ⟨vs[0],vs[1],Array.ext (by simp [← h]) fun i h1 h2=>?_⟩
 have:i = 0 ∨ i = 1:=by simp at h2;omega
 rcases this with rfl | rfl <;> rfl
theorem eisY_c:ConV Tryz.prog 184 [.gv 1,.gv 1] [] (.bool true) []:=by
 unfold ConV
 refine con_below ⟨_,Tryz.func184,rfl,rfl⟩ fun w ok ρ vs hl hc=>?_
 obtain ⟨v1,v2,rfl⟩:=two_args hl
 obtain ⟨ad,rfl,c1⟩:=gv_is (hc 0 (by decide))
 obtain ⟨ad',e2,c2⟩:=gv_is (hc 1 (by decide))
 rw [c1] at c2
 have e:v2 = .iface 248 (.pointer (some ad)):=e2.trans (Option.some.inj c2).symm
 subst e
 refine (eis1 ad w).mono ?_
 rintro e w' ⟨rfl,rfl⟩
 exact ⟨_,rfl,⟨rfl,rfl,rfl,Nat.le_refl _,fun _ _=>rfl⟩,fun ok'=>.bool _⟩
theorem eisN_c:ConV Tryz.prog 184 [.nili,.gv 1] [] (.bool false) []:=by
 unfold ConV
 refine con_below ⟨_,Tryz.func184,rfl,rfl⟩ fun w ok ρ vs hl hc=>?_
 obtain ⟨v1,v2,rfl⟩:=two_args hl
 have e1:C ρ (fun _=>False) ok w .nili v1:=hc 0 (by decide)
 obtain rfl:=e1.nili_inv
 obtain ⟨ad',e2,-⟩:=gv_is (hc 1 (by decide))
 have e2:v2 = .iface 248 (.pointer (some ad')):=e2
 subst e2
 refine (eis0 ad' w).mono ?_
 rintro e w' ⟨rfl,rfl⟩
 exact ⟨_,rfl,⟨rfl,rfl,rfl,Nat.le_refl _,fun _ _=>rfl⟩,fun ok'=>.bool _⟩
end Go.Proofs.YtjjddgpdoibcoaaGreatDoor.Am
namespace Go.Proofs.YtjjddgpdoibcoaaGreatDoor.Am
open Go
attribute [local irreducible] Mk Need Ari Get Idx Cnd CallM CallA Opt Unch At ConV
set_option maxRecDepth 10000
def Θe:TT:=(106,⟨.ifc,1,16,some .nili,none,false⟩) :: Θg
theorem Θe_ok:TT.ok Tryz.prog Θe:=TT.okB_ok (by kernel_rfl)
theorem ste {P Q:Prop} (h:Q) (s:Hid Q → P:=by
  intro h
  (first | (with_reducible first | apply at_seq | apply at_block) | ((first | with_reducible apply at_regS Θe_ok | refine go ?_ | (with_reducible first | apply at_cond | apply at_ret | apply at_exit | apply at_skip | refine at_regD Θe_ok mixed (by kernel_rfl) ?_)) <;> conv=>whnf))
  repeat (first | (with_reducible first | apply at_seq | apply at_block) | ((first | with_reducible apply at_regS Θe_ok | refine go ?_ | (with_reducible first | apply at_cond | apply at_ret | apply at_exit | apply at_skip | refine at_regD Θe_ok mixed (by kernel_rfl) ?_)) <;> conv=>whnf))
  exact h.h):P:=s ⟨h⟩
abbrev famU (c:List Int) (s:GS):VH:=[(1,.frow 148 (.hp 0) s.rows),(0,.fvar 166 (.nod 1) s.nodes)]
abbrev famV (c:List Int) (s:GS):VH:=[(0,.fvar 166 (.nod 1) s.nodes),(1,.frow 148 (.hp 0) s.rows)]
theorem sidx0_c (c:List Int) (s:GS) (k:Nat):ConV Tryz.prog 229 [.hro 1 none,.hpo 0 (some k)] (famU c s) (.int .i64 (-1)) (famV c s):=by
 refine con_eq Θg_ok Tryz.func229 rfl rfl false 0 4 rfl rfl rfl rfl fun K hK hb1 hb2=>?_;simp only [argsV,enc,Nat.reduceAdd]
 clear hb1 hb2
 (repeat (any_goals (first | refine stg ?_ | (refine go2 fun xe hxe=>?_;conv=>whnf) | ((with_reducible refine cnd_i (fun hq=>?_) fun hq=>?_) <;> (try simp only [hqs] at hq) <;> (first | omega | conv=>whnf)))))
 refine at_loop hK [] [0,1,7,8] (fun i:Nat=>⟨[(0,.hro 1 none),(1,.hpo 0 (some k)),(7,.int .i64 0),(8,.int .i64 (i:Int))],famV c s,4⟩) (fun i=>i = 0) (fun i=>i) 0 rfl rfl ?_
 rintro i rfl
 (repeat (any_goals (first | refine stg ?_ | (refine go2 fun xe hxe=>?_;conv=>whnf) | ((with_reducible refine cnd_i (fun hq=>?_) fun hq=>?_) <;> (try simp only [hqs] at hq) <;> (first | omega | conv=>whnf)))))
 exact ⟨rfl,rfl⟩
theorem sidx_c (c:List Int) (s:GS) (r k:Nat) (xs:List (Option Nat)) (hr:s.rows[r]? = some xs) (hxs:∀ o ∈ xs,∃ q,o = some q ∧ q < s.nodes.length) (hk:k < s.nodes.length) (hl:xs.length ≤ 1000000):ConV Tryz.prog 229 [.hro 1 (some r),.hpo 0 (some k)] (famU c s) (.int .i64 (match xs.findIdx? (fun o=>o == some k) with | some i=>(i:Int) | none=>-1)) (famV c s):=by
 have hkx:s.nodes[k]? = some s.nodes[k]:=List.getElem?_eq_getElem hk
 generalize s.nodes[k] = nk at *
 refine con_eq Θg_ok Tryz.func229 rfl rfl false 0 4 rfl rfl rfl rfl fun K hK hb1 hb2=>?_;simp only [argsV,enc,Nat.reduceAdd]
 clear hb1 hb2
 (repeat (any_goals (first | refine stg ?_ | (refine go2 fun xe hxe=>?_;conv=>whnf) | ((with_reducible refine cnd_i (fun hq=>?_) fun hq=>?_) <;> (try simp only [hqs] at hq) <;> (first | omega | conv=>whnf)))))
 refine at_loop hK [] [0,1,7,8] (fun i:Nat=>⟨[(0,.hro 1 (some r)),(1,.hpo 0 (some k)),(7,.int .i64 xs.length),(8,.int .i64 (i:Int))],famV c s,4⟩) (fun i=>i ≤ xs.length ∧ ∀ o ∈ xs.take i,(o == some k) = false) (fun i=>xs.length - i) 0 ⟨by simp,by simp⟩ rfl ?_
 rintro i ⟨hi,hall⟩
 by_cases hlt:i < xs.length
 ·have hxe:xs[i]? = some xs[i]:=List.getElem?_eq_getElem hlt
  have h3:xs.take (i + 1) = xs.take i ++ [xs[i]]:=List.take_succ_eq_append_getElem hlt
  have h4:=find_at (l:=xs) (p:=fun o=>o == some k) hxe hall
  obtain ⟨q,hq,hql⟩:=hxs _ (List.mem_of_getElem? hxe)
  have hqx:s.nodes[q]? = some s.nodes[q]:=List.getElem?_eq_getElem hql
  rw [hq] at hxe h3 h4
  generalize s.nodes[q] = nq at *
  by_cases he:k = q
  ·subst he
   (repeat (any_goals (first | refine stg ?_ | (refine go2 fun xe hxe=>?_;conv=>whnf) | ((with_reducible refine cnd_i (fun hq=>?_) fun hq=>?_) <;> (try simp only [hqs] at hq) <;> (first | omega | conv=>whnf)))))
   refine ⟨?_,rfl⟩
   rw [h4 (by simp)]
  ·(repeat (any_goals (first | refine stg ?_ | (refine go2 fun xe hxe=>?_;conv=>whnf) | ((with_reducible refine cnd_i (fun hq=>?_) fun hq=>?_) <;> (try simp only [hqs] at hq) <;> (first | omega | conv=>whnf)))))
   exact ⟨i + 1,⟨by omega,by rw [h3];exact tk_snoc hall (by simpa using fun h=>he h.symm)⟩,by omega,rfl⟩
 ·(repeat (any_goals (first | refine stg ?_ | (refine go2 fun xe hxe=>?_;conv=>whnf) | ((with_reducible refine cnd_i (fun hq=>?_) fun hq=>?_) <;> (try simp only [hqs] at hq) <;> (first | omega | conv=>whnf)))))
  refine ⟨?_,rfl⟩
  rw [List.take_of_length_le (by omega)] at hall
  rw [List.findIdx?_eq_none_iff.2 hall]
theorem scon0_c (c:List Int) (s:GS) (k:Nat):ConV Tryz.prog 211 [.hro 1 none,.hpo 0 (some k)] (famU c s) (.bool false) (famV c s):=by
 refine con_eq Θg_ok Tryz.func211 rfl rfl false 0 4 rfl rfl rfl rfl fun K hK hb1 hb2=>?_;simp only [argsV,enc,Nat.reduceAdd]
 clear hb1 hb2
 (repeat (any_goals (first | refine stg ?_ | (refine go2 fun xe hxe=>?_;conv=>whnf) | ((with_reducible refine cnd_i (fun hq=>?_) fun hq=>?_) <;> (try simp only [hqs] at hq) <;> (first | omega | conv=>whnf)) | refine co (sidx0_c c s k) ?_)))
 exact ⟨rfl,rfl⟩
theorem scon_c (c:List Int) (s:GS) (r k:Nat) (xs:List (Option Nat)) (hr:s.rows[r]? = some xs) (hxs:∀ o ∈ xs,∃ q,o = some q ∧ q < s.nodes.length) (hk:k < s.nodes.length) (hl:xs.length ≤ 1000000):ConV Tryz.prog 211 [.hro 1 (some r),.hpo 0 (some k)] (famU c s) (.bool (xs.contains (some k))) (famV c s):=by
 have hI:=sidx_c c s r k xs hr hxs hk hl
 refine con_eq Θg_ok Tryz.func211 rfl rfl false 0 4 rfl rfl rfl rfl fun K hK hb1 hb2=>?_;simp only [argsV,enc,Nat.reduceAdd]
 clear hb1 hb2
 cases h:xs.findIdx? (fun o=>o == some k) with
 | none=>
  rw [h] at hI
  have e:xs.contains (some k) = false:=by
   rw [Bool.eq_false_iff]
   intro h2
   have:=List.findIdx?_eq_none_iff.1 h _ (List.contains_iff_mem.1 h2)
   simp at this
  rw [e]
  (repeat (any_goals (first | refine stg ?_ | (refine go2 fun xe hxe=>?_;conv=>whnf) | ((with_reducible refine cnd_i (fun hq=>?_) fun hq=>?_) <;> (try simp only [hqs] at hq) <;> (first | omega | conv=>whnf)) | refine co (hI) ?_)))
  exact ⟨rfl,rfl⟩
 | some i=>
  rw [h] at hI
  obtain ⟨hi,h1,-⟩:=List.findIdx?_eq_some_iff_getElem.1 h
  have e:xs.contains (some k) = true:=List.contains_iff_mem.2 (by rw [← (beq_iff_eq.1 h1)];exact List.getElem_mem hi)
  rw [e]
  (repeat (any_goals (first | refine stg ?_ | (refine go2 fun xe hxe=>?_;conv=>whnf) | ((with_reducible refine cnd_i (fun hq=>?_) fun hq=>?_) <;> (try simp only [hqs] at hq) <;> (first | omega | conv=>whnf)) | refine co (hI) ?_)))
  exact ⟨rfl,rfl⟩
def rvd (xs ys:List Int) (i:Nat):Prop:=ys.length = xs.length ∧ ∀ k,k < xs.length → ys[k]? = if k < i ∨ xs.length - i ≤ k then xs[xs.length - 1 - k]? else xs[k]?
theorem rvd_end {xs ys:List Int} {i:Nat} (h:rvd xs ys i) (hi:xs.length ≤ 2 * i + 1):ys = xs.reverse:=by
 refine List.ext_getElem? fun k=>?_
 rcases Nat.lt_or_ge k xs.length with hk | hk
 ·rw [h.2 k hk,List.getElem?_reverse hk]
  split
  ·rfl
  ·congr 1;omega
 ·rw [List.getElem?_eq_none (by rw [h.1];exact hk),List.getElem?_eq_none (by simpa using hk)]
theorem rvd_step {xs ys:List Int} {i:Nat} {a b:Int} (h:rvd xs ys i) (hi:2 * i + 1 < xs.length) (ha:ys[i]? = some a) (hb:ys[xs.length - 1 - i]? = some b):rvd xs ((ys.set i b).set (xs.length - 1 - i) a) (i + 1):=by
 obtain ⟨h1,h2⟩:=h
 have ea:=h2 i (by omega)
 have eb:=h2 (xs.length - 1 - i) (by omega)
 rw [if_neg (by omega)] at ea eb
 refine ⟨by simp [h1],fun k hk=>?_⟩
 rw [List.getElem?_set,List.getElem?_set,List.length_set]
 by_cases e1:xs.length - 1 - i = k
 ·rw [if_pos e1,if_pos (by omega),if_pos (by omega),← ha,ea]
  congr 1;omega
 ·rw [if_neg e1]
  by_cases e2:i = k
  ·rw [if_pos e2,if_pos (by omega),if_pos (by omega),← hb,eb]
   congr 1;omega
  ·rw [if_neg e2,h2 k hk]
   by_cases e3:k < i ∨ xs.length - i ≤ k
   ·rw [if_pos e3,if_pos (by omega)]
   ·rw [if_neg e3,if_neg (by omega)]
theorem irev_c (xs:List Int) (hl:xs.length ≤ 1000000):ConV Tryz.prog 186 [.ref 4] [(4,.row 3 (.int .i64) xs)] (.tup []) [(4,.row 3 (.int .i64) xs.reverse)]:=by
 refine con_eq Θ_ok Tryz.func186 rfl rfl false 1 5 rfl rfl rfl rfl fun K hK hb1 hb2=>?_;simp only [argsV,enc,Nat.reduceAdd]
 clear hb1 hb2
 (repeat (any_goals (first | refine st ?_ | (refine go2 fun xe hxe=>?_;conv=>whnf) | ((with_reducible refine cnd_i (fun hq=>?_) fun hq=>?_) <;> (try simp only [hqs] at hq) <;> (first | omega | conv=>whnf)))))
 refine at_loop hK [] [0,2,3] (fun x:Nat × List Int=>⟨[(0,.ref 4),(2,.int .i64 (x.1:Int)),(3,.int .i64 ((xs.length:Int) - 1 - x.1))],[(4,.row 3 (.int .i64) x.2)],5⟩) (fun x=>rvd xs x.2 x.1 ∧ 2 * x.1 ≤ xs.length + 1) (fun x=>xs.length - x.1) (0,xs) ⟨⟨rfl,fun k hk=>by rw [if_neg (by omega)]⟩,by simp⟩ (by rw [show ((xs.length:Int) - 1 - ((0:Nat):Int)) = (xs.length:Int) - 1 by omega];rfl) ?_
 rintro ⟨i,ys⟩ ⟨hR,hi⟩
 dsimp only at hR hi ⊢
 have hyl:=hR.1
 by_cases hlt:2 * i + 1 < xs.length
 ·have hxa:ys[i]? = some ys[i]:=List.getElem?_eq_getElem (by omega)
  have hjb:xs.length - 1 - i < ys.length:=by omega
  have hxb:ys[xs.length - 1 - i]? = some ys[xs.length - 1 - i]:=List.getElem?_eq_getElem hjb
  have hst:=rvd_step hR hlt hxa hxb
  generalize hj:xs.length - 1 - i = j at *
  have hje:((xs.length:Int) - 1 - (i:Int)) = (j:Int):=by omega
  rw [hje]
  generalize ys[i] = a at *
  generalize ys[j] = b at *
  have hxc:(ys.set i b)[j]? = some b:=by rw [List.getElem?_set,if_neg (by omega)];exact hxb
  have hsl:(ys.set i b).length = ys.length:=by simp
  (repeat (any_goals (first | refine st ?_ | (refine go2 fun xe hxe=>?_;conv=>whnf) | ((with_reducible refine cnd_i (fun hq=>?_) fun hq=>?_) <;> (try simp only [hqs] at hq) <;> (first | omega | conv=>whnf)))))
  exact ⟨(i + 1,(ys.set i b).set j a),⟨hst,by dsimp only;omega⟩,by dsimp only;omega,by rw [show ((xs.length:Int) - 1 - ((i + 1:Nat):Int)) = (j:Int) - 1 by omega];rfl⟩
 ·have hfin:=rvd_end hR (by omega)
  (repeat (any_goals (first | refine st ?_ | (refine go2 fun xe hxe=>?_;conv=>whnf) | ((with_reducible refine cnd_i (fun hq=>?_) fun hq=>?_) <;> (try simp only [hqs] at hq) <;> (first | omega | conv=>whnf)))))
  exact ⟨rfl,by rw [hfin]⟩
theorem lea_mem {c l:List Int} (hl:leaS c l = true) {w:Nat} (h1:1 ≤ w) (h2:w ≤ l.length):0 ≤ ldrA l w ∧ ldrA l w < c.length:=by
 have hx:=ldrA_at h1 h2
 exact (leaS_iff.1 hl).1 _ (List.mem_of_getElem? hx)
theorem at_ldr {c:List Int} {g:List Vtx} (hg:GraOK c g) {l:List Int} (hl:leaS c l = true) {w:Nat} (h1:1 ≤ w) (h2:w ≤ l.length):(gst g).at (2 * (w:Int) - 1) (ldrA l w) = g.findIdx? (isAt (2 * (w:Int) - 1) (ldrA l w)):=by
 have h7:=(comV_iff.1 hg.com).2
 have hm:=lea_mem hl h1 h2
 have hll:=(leaS_iff.1 hl).2
 exact gst_find hg (by omega) (by omega)
theorem at_ldrY {c:List Int} {g:List Vtx} (hg:GraOK c g) {l:List Int} (hl:leaS c l = true) {w:Nat} (h1:1 ≤ w) (h2:w ≤ l.length) {k:Vtx} (hk:ldr g l w = some k):∃ n:Nat,(gst g).at (2 * (w:Int) - 1) (ldrA l w) = some n ∧ g[n]? = some k:=by
 obtain ⟨a1,a2,a3⟩:=ldr_some hk
 obtain ⟨i,hi⟩:=List.getElem?_of_mem a1
 have:=idx_of hg hi
 rw [a2,a3] at this
 exact ⟨i,by rw [at_ldr hg hl h1 h2,this],hi⟩
theorem at_ldrN {c:List Int} {g:List Vtx} (hg:GraOK c g) {l:List Int} (hl:leaS c l = true) {w:Nat} (h1:1 ≤ w) (h2:w ≤ l.length) (hk:ldr g l w = none):(gst g).at (2 * (w:Int) - 1) (ldrA l w) = none:=by
 rw [at_ldr hg hl h1 h2,List.findIdx?_eq_none_iff]
 intro x hx
 have:=List.find?_eq_none.1 hk x hx
 simpa using this
theorem ildY_c (c:List Int) (g:List Vtx) (l:List Int) (w n:Nat) (hg:GraOK c g) (hl:leaS c l = true) (h1:1 ≤ w) (h2:w ≤ l.length) (ha:(gst g).at (2 * (w:Int) - 1) (ldrA l w) = some n):ConV Tryz.prog 141 [.agg [.ptr 4 0,.lst (.int .i64) l],.int .i64 (w:Int)] (gR c (gst g)) (.tup [.hpo 0 (some n),.nili]) (gR c (gst g)):=by
 have h7:=(comV_iff.1 hg.com).2
 have hx:=ldrA_at h1 h2
 have hll:=(leaS_iff.1 hl).2
 have hA:=aty_cR c (gst g) (2 * (w:Int) - 1) (ldrA l w) (gst_len g).2 h7.2 (vIn_iff.2 (by omega)) (vIn_iff.2 (by have:=lea_mem hl h1 h2;omega))
 rw [ha] at hA
 have hin1:(none:Option Nat).isNone = true:=rfl
 have hin2:(some n:Option Nat).isNone = false:=rfl
 refine con_eq Θe_ok Tryz.func141 rfl rfl false 2 6 rfl rfl rfl rfl fun K hK hb1 hb2=>?_;simp only [argsV,enc,Nat.reduceAdd]
 clear hb1 hb2
 (repeat (any_goals (first | refine ste ?_ | (refine go2 fun xe hxe=>?_;conv=>whnf) | ((with_reducible refine cnd_i (fun hq=>?_) fun hq=>?_) <;> (try simp only [hqs] at hq) <;> (first | omega | conv=>whnf)) | refine co (hA) ?_)))
 exact ⟨rfl,rfl⟩
theorem ildN_c (c:List Int) (g:List Vtx) (l:List Int) (w:Nat) (hg:GraOK c g) (hl:leaS c l = true) (h1:1 ≤ w) (h2:w ≤ l.length) (ha:(gst g).at (2 * (w:Int) - 1) (ldrA l w) = none):ConV Tryz.prog 141 [.agg [.ptr 4 0,.lst (.int .i64) l],.int .i64 (w:Int)] (gR c (gst g)) (.tup [.nilp,.gv 1]) (gR c (gst g)):=by
 have h7:=(comV_iff.1 hg.com).2
 have hx:=ldrA_at h1 h2
 have hll:=(leaS_iff.1 hl).2
 have hA:=aty_cR c (gst g) (2 * (w:Int) - 1) (ldrA l w) (gst_len g).2 h7.2 (vIn_iff.2 (by omega)) (vIn_iff.2 (by have:=lea_mem hl h1 h2;omega))
 rw [ha] at hA
 have hin1:(none:Option Nat).isNone = true:=rfl
 refine con_eq Θe_ok Tryz.func141 rfl rfl false 2 6 rfl rfl rfl rfl fun K hK hb1 hb2=>?_;simp only [argsV,enc,Nat.reduceAdd]
 clear hb1 hb2
 (repeat (any_goals (first | refine ste ?_ | (refine go2 fun xe hxe=>?_;conv=>whnf) | ((with_reducible refine cnd_i (fun hq=>?_) fun hq=>?_) <;> (try simp only [hqs] at hq) <;> (first | omega | conv=>whnf)) | refine co (hA) ?_)))
 exact ⟨rfl,rfl⟩
theorem ildZ_c (c:List Int) (l:List Int) (w:Nat) (hc:comV c = true) (hl:leaS c l = true) (h1:1 ≤ w) (h2:w ≤ l.length):ConV Tryz.prog 141 [.agg [.ptr 4 0,.lst (.int .i64) l],.int .i64 (w:Int)] (gZ c gs0) (.tup [.nilp,.gv 1]) (gZ c gs0):=by
 have h7:=(comV_iff.1 hc).2
 have hx:=ldrA_at h1 h2
 have hll:=(leaS_iff.1 hl).2
 have hA:=aty_cZ c gs0 (2 * (w:Int) - 1) (ldrA l w) List.length_replicate h7.2 (vIn_iff.2 (by omega)) (vIn_iff.2 (by have:=lea_mem hl h1 h2;omega))
 rw [gs0_at] at hA
 have hin1:(none:Option Nat).isNone = true:=rfl
 refine con_eq Θe_ok Tryz.func141 rfl rfl false 1 5 rfl rfl rfl rfl fun K hK hb1 hb2=>?_;simp only [argsV,enc,Nat.reduceAdd]
 clear hb1 hb2
 (repeat (any_goals (first | refine ste ?_ | (refine go2 fun xe hxe=>?_;conv=>whnf) | ((with_reducible refine cnd_i (fun hq=>?_) fun hq=>?_) <;> (try simp only [hqs] at hq) <;> (first | omega | conv=>whnf)) | refine co (hA) ?_)))
 exact ⟨rfl,rfl⟩
def vtb (g:List Vtx) (l:List Int) (w:Nat) (a:Int):Bool:=g.any fun v=>(v.round == 2 * (w:Int) && v.author == a) && v.parents.contains (ldrA l w)
def vti (g:List Vtx) (l:List Int) (w n:Nat):List Int:=((List.range n).filter fun a:Nat=>vtb g l w (a:Int)).map fun a:Nat=>(a:Int)
theorem vti_snoc (g:List Vtx) (l:List Int) (w n:Nat):vti g l w (n + 1) = if vtb g l w (n:Int) = true then vti g l w n ++ [(n:Int)] else vti g l w n:=by
 simp only [vti,List.range_succ,List.filter_append,List.map_append,List.filter_cons,List.filter_nil]
 split <;> simp
theorem vti_len (g:List Vtx) (l:List Int) (w n:Nat):(vti g l w n).length ≤ n:=by
 unfold vti
 rw [List.length_map]
 exact Nat.le_trans (List.length_filter_le _ _) (by simp)
theorem vti_eq {c:List Int} {g:List Vtx} (hg:GraOK c g) (l:List Int) (w:Nat):vti g l w c.length = vtr g l w:=by
 refine asc_ext ?_ (vtr_asc hg.pw l w) fun a=>?_
 ·unfold vti
  rw [List.pairwise_map]
  exact (List.Pairwise.filter _ List.pairwise_lt_range).imp fun h=>by omega
 ·rw [vtr_mem,vti,List.mem_map]
  simp only [List.mem_filter,List.mem_range,vtb,List.any_eq_true,Bool.and_eq_true,beq_iff_eq,List.contains_iff_mem]
  constructor
  ·rintro ⟨n,⟨hn,v,hv,⟨h1,h2⟩,h3⟩,rfl⟩
   exact ⟨v,hv,h1,h3,h2⟩
  ·rintro ⟨v,hv,h1,h2,rfl⟩
   have:=(vtxS_ok (hg.vtx v hv)).2.1
   exact ⟨v.author.toNat,⟨by omega,v,hv,⟨h1,by omega⟩,h2⟩,by omega⟩
theorem vtb_none {g:List Vtx} {l:List Int} {w:Nat} {a:Int} (h:g.findIdx? (isAt (2 * (w:Int)) a) = none):vtb g l w a = false:=by
 rw [Bool.eq_false_iff]
 intro h2
 obtain ⟨v,hv,h3⟩:=List.any_eq_true.1 h2
 simp only [Bool.and_eq_true] at h3
 have:=List.findIdx?_eq_none_iff.1 h v hv
 rw [show isAt (2 * (w:Int)) a v = true by simp only [isAt,Bool.and_eq_true];exact h3.1] at this
 cases this
theorem vtb_some {c:List Int} {g:List Vtx} (hg:GraOK c g) {l:List Int} {w n q:Nat} {a:Int} {v:Vtx} (hq:g.findIdx? (isAt (2 * (w:Int)) a) = some q) (hv:g[q]? = some v) (hn:g.findIdx? (isAt (2 * (w:Int) - 1) (ldrA l w)) = some n):vtb g l w a = (pix g v).contains (some n):=by
 obtain ⟨x,x1,x2,x3⟩:=idx_some hq
 rw [hv] at x1
 obtain rfl:=Option.some.inj x1
 obtain ⟨k,k1,k2,k3⟩:=idx_some hn
 rw [Bool.eq_iff_iff,List.contains_iff_mem]
 constructor
 ·intro h
  obtain ⟨u,hu,h3⟩:=List.any_eq_true.1 h
  simp only [Bool.and_eq_true,beq_iff_eq,List.contains_iff_mem] at h3
  obtain ⟨⟨h4,h5⟩,h6⟩:=h3
  have e:=pw_uniq hg.pw hu (List.mem_of_getElem? hv) (by omega) (by omega)
  subst e
  exact List.mem_map.2 ⟨ldrA l w,h6,by rw [x2];exact hn⟩
 ·intro h
  obtain ⟨b,hb,h3⟩:=List.mem_map.1 h
  obtain ⟨y,y1,y2,y3⟩:=idx_some h3
  rw [k1] at y1
  obtain rfl:=Option.some.inj y1
  refine List.any_eq_true.2 ⟨v,List.mem_of_getElem? hv,?_⟩
  simp only [Bool.and_eq_true,beq_iff_eq,List.contains_iff_mem]
  exact ⟨⟨x2,x3⟩,by rw [← k3,y3];exact hb⟩
theorem pix_all {c:List Int} {g:List Vtx} (hg:GraOK c g) {q:Nat} {v:Vtx} (hv:g[q]? = some v):∀ o ∈ pix g v,∃ k,o = some k ∧ k < (gst g).nodes.length:=fun o ho=>by
 obtain ⟨k,x,e,h1,-⟩:=pix_get hg (List.mem_of_getElem? hv) ho
 exact ⟨k,e,by rw [(gst_len g).1];exact (List.getElem?_eq_some_iff.1 h1).1⟩
theorem ivtN_c (c:List Int) (g:List Vtx) (l:List Int) (w:Nat) (hg:GraOK c g) (hl:leaS c l = true) (h1:1 ≤ w) (h2:w ≤ l.length) (ha:(gst g).at (2 * (w:Int) - 1) (ldrA l w) = none):ConV Tryz.prog 183 [.agg [.ptr 4 0,.lst (.int .i64) l],.int .i64 (w:Int)] (gR c (gst g)) (.tup [.int .i64 0,.gv 1]) (gR c (gst g)):=by
 have hL:=ildN_c c g l w hg hl h1 h2 ha
 refine con_eq Θe_ok Tryz.func183 rfl rfl false 2 6 rfl rfl rfl rfl fun K hK hb1 hb2=>?_;simp only [argsV,enc,Nat.reduceAdd]
 clear hb1 hb2
 (repeat (any_goals (first | refine ste ?_ | (refine go2 fun xe hxe=>?_;conv=>whnf) | ((with_reducible refine cnd_i (fun hq=>?_) fun hq=>?_) <;> (try simp only [hqs] at hq) <;> (first | omega | conv=>whnf)) | refine co (hL) ?_)))
 exact ⟨rfl,rfl⟩
theorem ivtZ_c (c:List Int) (l:List Int) (w:Nat) (hc:comV c = true) (hl:leaS c l = true) (h1:1 ≤ w) (h2:w ≤ l.length):ConV Tryz.prog 183 [.agg [.ptr 4 0,.lst (.int .i64) l],.int .i64 (w:Int)] (gZ c gs0) (.tup [.int .i64 0,.gv 1]) (gZ c gs0):=by
 have hL:=ildZ_c c l w hc hl h1 h2
 refine con_eq Θe_ok Tryz.func183 rfl rfl false 1 5 rfl rfl rfl rfl fun K hK hb1 hb2=>?_;simp only [argsV,enc,Nat.reduceAdd]
 clear hb1 hb2
 (repeat (any_goals (first | refine ste ?_ | (refine go2 fun xe hxe=>?_;conv=>whnf) | ((with_reducible refine cnd_i (fun hq=>?_) fun hq=>?_) <;> (try simp only [hqs] at hq) <;> (first | omega | conv=>whnf)) | refine co (hL) ?_)))
 exact ⟨rfl,rfl⟩
theorem ivtY_c (c:List Int) (g:List Vtx) (l:List Int) (w n:Nat) (hg:GraOK c g) (hl:leaS c l = true) (h1:1 ≤ w) (h2:w ≤ l.length) (ha:(gst g).at (2 * (w:Int) - 1) (ldrA l w) = some n):ConV Tryz.prog 183 [.agg [.ptr 4 0,.lst (.int .i64) l],.int .i64 (w:Int)] (gR c (gst g)) (.tup [.int .i64 (wei c (vtr g l w)),.nili]) (gR c (gst g)):=by
 have hL:=ildY_c c g l w n hg hl h1 h2 ha
 have h7:=(comV_iff.1 hg.com).2
 have hcm:=(comV_iff.1 hg.com).1
 have hll:=(leaS_iff.1 hl).2
 have hgn:=(gst_len g).1
 have hfn:=ha
 rw [at_ldr hg hl h1 h2] at hfn
 obtain ⟨k,hk,-,-⟩:=idx_some hfn
 have hnl:n < (gst g).nodes.length:=by rw [hgn];exact (List.getElem?_eq_some_iff.1 hk).1
 have hr:vIn (2 * (w:Int)) 0 30 = true:=vIn_iff.2 (by omega)
 rw [← vti_eq hg l w]
 refine con_eq Θe_ok Tryz.func183 rfl rfl false 2 6 rfl rfl rfl rfl fun K hK hb1 hb2=>?_;simp only [argsV,enc,Nat.reduceAdd]
 clear hb1 hb2
 (repeat (any_goals (first | refine ste ?_ | (refine go2 fun xe hxe=>?_;conv=>whnf) | ((with_reducible refine cnd_i (fun hq=>?_) fun hq=>?_) <;> (try simp only [hqs] at hq) <;> (first | omega | conv=>whnf)) | refine co (hL) ?_)))
 refine at_loop hK [] [1,2,6,8,25,26,27] (fun i:Nat=>⟨[(1,.int .i64 (w:Int)),(2,.ptr 6 0),(6,.hpo 0 (some n)),(8,.int .i64 (wei c (vti g l w i))),(25,.lst (.int .i64) c),(26,.int .i64 c.length),(27,.int .i64 (i:Int))],gRx c (gst g) (.var 104 [.ptr 4 0,.lst (.int .i64) l]),7⟩) (fun i=>i ≤ c.length) (fun i=>c.length - i) 0 (Nat.zero_le _) rfl ?_
 intro i hi
 have hwb:=wei_bd (ms:=vti g l w i) hg.com
 have hwl:=vti_len g l w i
 by_cases hlt:i < c.length
 ·have hm:hasM c i = true:=vIn_iff.2 (by omega)
  have hA:=aty_cR c (gst g) (2 * (w:Int)) (i:Int) (gst_len g).2 h7.2 hr hm
  have hfd:=gst_find hg (vIn_iff.1 hr) (a:=(i:Int)) (by omega)
  have hsn:=vti_snoc g l w i
  have hwn:=wei_snoc c (vti g l w i) (i:Int)
  have hca:c[i]? = some (c.getD i 0):=by rw [List.getD_eq_getElem?_getD,List.getElem?_eq_getElem hlt];rfl
  have hcb:=hcm _ (List.mem_of_getElem? hca)
  rw [show ((i:Int)).toNat = i by omega] at hwn
  cases h3:(gst g).at (2 * (w:Int)) (i:Int) with
  | none=>
   have hin1:(none:Option Nat).isNone = true:=rfl
   rw [h3] at hA
   rw [hfd] at h3
   rw [vtb_none h3,if_neg (by simp)] at hsn
   (repeat (any_goals (first | refine ste ?_ | (refine go2 fun xe hxe=>?_;conv=>whnf) | ((with_reducible refine cnd_i (fun hq=>?_) fun hq=>?_) <;> (try simp only [hqs] at hq) <;> (first | omega | conv=>whnf)) | refine co (hA) ?_)))
   exact ⟨i + 1,by omega,by omega,by rw [hsn];rfl⟩
  | some q=>
   have hin2:(some q:Option Nat).isNone = false:=rfl
   rw [h3] at hA
   rw [hfd] at h3
   obtain ⟨v,hv,-,-⟩:=idx_some h3
   obtain ⟨p,hp,hrow⟩:=gst_rows hg hv
   have hvb:=vtb_some hg (l:=l) h3 hv hfn
   rcases hrow with ⟨hpn,rfl⟩ | ⟨r,rfl,hrow⟩
   ·have hC:=scon0_c c (gst g) n
    have e:(pix g v).contains (some n) = false:=by rw [pix,hpn];rfl
    rw [hvb,e,if_neg (by simp)] at hsn
    (repeat (any_goals (first | refine ste ?_ | (refine go2 fun xe hxe=>?_;conv=>whnf) | ((with_reducible refine cnd_i (fun hq=>?_) fun hq=>?_) <;> (try simp only [hqs] at hq) <;> (first | omega | conv=>whnf)) | refine co (hA) ?_ | refine co (hC) ?_)))
    exact ⟨i + 1,by omega,by omega,by rw [hsn];rfl⟩
   ·have hC:=scon_c c (gst g) r n (pix g v) hrow (pix_all hg hv) hnl (by
     unfold pix
     rw [List.length_map]
     have:=mems_len (vtxS_ok (hg.vtx v (List.mem_of_getElem? hv))).2.2.1
     omega)
    rw [hvb] at hsn
    cases hb:(pix g v).contains (some n)
    ·rw [hb] at hC
     rw [hb,if_neg (by simp)] at hsn
     (repeat (any_goals (first | refine ste ?_ | (refine go2 fun xe hxe=>?_;conv=>whnf) | ((with_reducible refine cnd_i (fun hq=>?_) fun hq=>?_) <;> (try simp only [hqs] at hq) <;> (first | omega | conv=>whnf)) | refine co (hA) ?_ | refine co (hC) ?_)))
     exact ⟨i + 1,by omega,by omega,by rw [hsn];rfl⟩
    ·rw [hb] at hC
     rw [hb,if_pos rfl] at hsn
     generalize c.getD i 0 = cx at *
     generalize wei c (vti g l w i) = wx at *
     (repeat (any_goals (first | refine ste ?_ | (refine go2 fun xe hxe=>?_;conv=>whnf) | ((with_reducible refine cnd_i (fun hq=>?_) fun hq=>?_) <;> (try simp only [hqs] at hq) <;> (first | omega | conv=>whnf)) | refine co (hA) ?_ | refine co (hC) ?_)))
     exact ⟨i + 1,by omega,by omega,by rw [hsn,hwn];rfl⟩
 ·obtain rfl:i = c.length:=by omega
  (repeat (any_goals (first | refine ste ?_ | (refine go2 fun xe hxe=>?_;conv=>whnf) | ((with_reducible refine cnd_i (fun hq=>?_) fun hq=>?_) <;> (try simp only [hqs] at hq) <;> (first | omega | conv=>whnf)))))
  exact ⟨rfl,rfl⟩
theorem isup_c (c:List Int) (hc:comV c = true):ConV Tryz.prog 80 [.lst (.int .i64) c] [] (.int .i64 (sup c)) []:=by
 have h1:=tot_bd hc
 have h3:(tot c).tdiv 3 + 1 = sup c:=rfl
 have h2:=sup_pos hc
 refine con_eq Θ_ok Tryz.func80 rfl rfl false 0 4 rfl rfl rfl rfl fun K hK hb1 hb2=>?_;simp only [argsV,enc,Nat.reduceAdd]
 (repeat (any_goals (first | refine st ?_ | (refine go2 fun xe hxe=>?_;conv=>whnf) | ((with_reducible refine cnd_i (fun hq=>?_) fun hq=>?_) <;> (try simp only [hqs] at hq) <;> (first | omega | conv=>whnf)) | refine cr (itot_c _ hc) ?_)))
 exact ⟨rfl,rfl⟩
theorem idir_c (c:List Int) (g:List Vtx) (l:List Int) (w:Nat) (hg:GraOK c g) (hl:leaS c l = true) (h1:1 ≤ w) (h2:w ≤ l.length):ConV Tryz.prog 129 [.agg [.ptr 4 0,.lst (.int .i64) l],.int .i64 (w:Int)] (gR c (gst g)) (.bool (dir c g l w)) (gR c (gst g)):=by
 have hS:=isup_c c hg.com
 have hsp:=sup_pos hg.com
 cases hk:ldr g l w with
 | none=>
  have hL:=ivtN_c c g l w hg hl h1 h2 (at_ldrN hg hl h1 h2 hk)
  have e:dir c g l w = false:=by
   rw [dir,vts',hk]
   exact decide_eq_false (by simp;omega)
  rw [e]
  refine con_eq Θe_ok Tryz.func129 rfl rfl false 2 6 rfl rfl rfl rfl fun K hK hb1 hb2=>?_;simp only [argsV,enc,Nat.reduceAdd]
  clear hb1 hb2
  (repeat (any_goals (first | refine ste ?_ | (refine go2 fun xe hxe=>?_;conv=>whnf) | ((with_reducible refine cnd_i (fun hq=>?_) fun hq=>?_) <;> (try simp only [hqs] at hq) <;> (first | omega | conv=>whnf)) | refine cr (hS) ?_ | refine co (hL) ?_)))
  exact ⟨rfl,rfl⟩
 | some k=>
  obtain ⟨n,hn,-⟩:=at_ldrY hg hl h1 h2 hk
  have hL:=ivtY_c c g l w n hg hl h1 h2 hn
  have e:dir c g l w = decide (sup c ≤ wei c (vtr g l w)):=by rw [dir,vts',hk];rfl
  rw [e]
  generalize wei c (vtr g l w) = x at *
  by_cases hle:sup c ≤ x
  ·rw [decide_eq_true hle]
   refine con_eq Θe_ok Tryz.func129 rfl rfl false 2 6 rfl rfl rfl rfl fun K hK hb1 hb2=>?_;simp only [argsV,enc,Nat.reduceAdd]
   clear hb1 hb2
   (repeat (any_goals (first | refine ste ?_ | (refine go2 fun xe hxe=>?_;conv=>whnf) | ((with_reducible refine cnd_i (fun hq=>?_) fun hq=>?_) <;> (try simp only [hqs] at hq) <;> (first | omega | conv=>whnf)) | refine cr (hS) ?_ | refine co (hL) ?_)))
   exact ⟨by simp [hle],rfl⟩
  ·rw [decide_eq_false hle]
   refine con_eq Θe_ok Tryz.func129 rfl rfl false 2 6 rfl rfl rfl rfl fun K hK hb1 hb2=>?_;simp only [argsV,enc,Nat.reduceAdd]
   clear hb1 hb2
   (repeat (any_goals (first | refine ste ?_ | (refine go2 fun xe hxe=>?_;conv=>whnf) | ((with_reducible refine cnd_i (fun hq=>?_) fun hq=>?_) <;> (try simp only [hqs] at hq) <;> (first | omega | conv=>whnf)) | refine cr (hS) ?_ | refine co (hL) ?_)))
   exact ⟨by simp [hle],rfl⟩
theorem idirZ_c (c:List Int) (l:List Int) (w:Nat) (hc:comV c = true) (hl:leaS c l = true) (h1:1 ≤ w) (h2:w ≤ l.length):ConV Tryz.prog 129 [.agg [.ptr 4 0,.lst (.int .i64) l],.int .i64 (w:Int)] (gZ c gs0) (.bool false) (gZ c gs0):=by
 have hL:=ivtZ_c c l w hc hl h1 h2
 refine con_eq Θe_ok Tryz.func129 rfl rfl false 1 5 rfl rfl rfl rfl fun K hK hb1 hb2=>?_;simp only [argsV,enc,Nat.reduceAdd]
 clear hb1 hb2
 (repeat (any_goals (first | refine ste ?_ | (refine go2 fun xe hxe=>?_;conv=>whnf) | ((with_reducible refine cnd_i (fun hq=>?_) fun hq=>?_) <;> (try simp only [hqs] at hq) <;> (first | omega | conv=>whnf)) | refine co (hL) ?_)))
 exact ⟨rfl,rfl⟩
end Go.Proofs.YtjjddgpdoibcoaaGreatDoor.Am
namespace Go.Proofs.YtjjddgpdoibcoaaGreatDoor.Am
open Go
theorem bef_iff {a b:Vtx}:bef a b = true ↔ a.round < b.round ∨ (a.round = b.round ∧ a.author < b.author):=by
 simp only [bef,Bool.or_eq_true,Bool.and_eq_true,decide_eq_true_eq]
theorem bef_weak {a b:Vtx} (c:Vtx) (h:bef a b = true):bef a c = true ∨ bef c b = true:=by
 rw [bef_iff] at *
 rw [bef_iff]
 omega
theorem bef_asym {a b:Vtx} (h:bef a b = true):bef b a = false:=by
 rw [Bool.eq_false_iff]
 rw [bef_iff] at h
 intro h2
 rw [bef_iff] at h2
 omega
theorem nbef_trans {a b c:Vtx} (h1:bef a b = false) (h2:bef b c = false):bef a c = false:=by
 rw [Bool.eq_false_iff]
 intro h
 rcases bef_weak b h with h3 | h3
 ·rw [h3] at h1;cases h1
 ·rw [h3] at h2;cases h2
def swp (l:List Vtx) (i j:Nat) (x y:Vtx):List Vtx:=(l.set i y).set j x
theorem swp_len (l:List Vtx) (i j:Nat) (x y:Vtx):(swp l i j x y).length = l.length:=by simp [swp]
theorem swp_at {l:List Vtx} {i j:Nat} {x y:Vtx} (hi:l[i]? = some x) (hj:l[j]? = some y) (k:Nat):(swp l i j x y)[k]? = if k = j then some x else if k = i then some y else l[k]?:=by
 have h1:=(List.getElem?_eq_some_iff.1 hi).1
 have h2:=(List.getElem?_eq_some_iff.1 hj).1
 unfold swp
 rw [List.getElem?_set,List.getElem?_set]
 by_cases e1:k = j
 ·subst e1
  rw [if_pos rfl,if_pos (by rw [List.length_set];exact h2),if_pos rfl]
 ·rw [if_neg (by omega),if_neg e1]
  by_cases e2:k = i
  ·subst e2
   rw [if_pos rfl,if_pos h1,if_pos rfl]
  ·rw [if_neg (by omega),if_neg e2]
theorem swp_perm {l:List Vtx} {i j:Nat} {x y:Vtx} (hi:l[i]? = some x) (hj:l[j]? = some y):(swp l i j x y).Perm l:=by
 obtain ⟨h1,rfl⟩:=List.getElem?_eq_some_iff.1 hi
 obtain ⟨h2,rfl⟩:=List.getElem?_eq_some_iff.1 hj
 exact List.set_set_perm h1 h2
theorem swp_take {l:List Vtx} {i j n:Nat} {x y:Vtx} (hi:i < n) (hj:j < n):(swp l i j x y).take n = swp (l.take n) i j x y:=by
 unfold swp
 rw [List.take_set,List.take_set]
def Heap (l:List Vtx) (n:Nat):Prop:=∀ k x y,0 < k → k < n → l[k]? = some x → l[(k - 1) / 2]? = some y → bef x y = false
theorem heap_root {l:List Vtx} {n:Nat} (h:Heap l n) (hn:n ≤ l.length) {r:Vtx} (hr:l[0]? = some r):∀ (k:Nat) (x:Vtx),k < n → l[k]? = some x → bef x r = false:=by
 intro k
 induction k using Nat.strongRecOn with
 | ind k ih=>
  intro x hk hx
  by_cases h0:k = 0
  ·subst h0
   rw [hr] at hx
   obtain rfl:=Option.some.inj hx
   rw [Bool.eq_false_iff]
   intro h2
   rw [bef_iff] at h2
   omega
  ·have hp:l[(k - 1) / 2]? = some (l[(k - 1) / 2]'(by omega)):=List.getElem?_eq_getElem _
   exact nbef_trans (h k x _ (by omega) hk hx hp) (ih _ (by omega) _ (by omega) hp)
structure Sft (l0 l:List Vtx) (n i:Nat):Prop where
 len:l.length = l0.length
 perm:(l.take n).Perm (l0.take n)
 rest:∀ k,n ≤ k → l[k]? = l0[k]?
 hp:∀ k x y,0 < k → k < n → (k - 1) / 2 ≠ i → l[k]? = some x → l[(k - 1) / 2]? = some y → bef x y = false
 gp:∀ k x y,0 < i → 0 < k → k < n → (k - 1) / 2 = i → l[k]? = some x → l[(i - 1) / 2]? = some y → bef x y = false
theorem sft_0 {l:List Vtx} {n:Nat} (h:∀ k x y,0 < k → k < n → (k - 1) / 2 ≠ 0 → l[k]? = some x → l[(k - 1) / 2]? = some y → bef x y = false):Sft l l n 0:=
 ⟨rfl,List.Perm.refl _,fun _ _=>rfl,h,fun _ _ _ h0=>absurd h0 (Nat.lt_irrefl 0)⟩
theorem sft_step {l0 l:List Vtx} {n i j:Nat} (h:Sft l0 l n i) {x y:Vtx} (hi:l[i]? = some x) (hj:l[j]? = some y) (hjn:j < n) (h0:0 < j) (hij:(j - 1) / 2 = i) (hb:bef y x = true)
  (hs:∀ k z,0 < k → k < n → (k - 1) / 2 = i → l[k]? = some z → bef z y = false):Sft l0 (swp l i j x y) n j:=by
 have hin:i < n:=by omega
 have at':=swp_at hi hj
 refine ⟨by rw [swp_len,h.len],?_,fun k hk=>?_,fun k a b k0 kn kp ha hbb=>?_,fun k a b j0 k0 kn kp ha hbb=>?_⟩
 ·rw [swp_take hin hjn]
  refine (swp_perm ?_ ?_).trans h.perm
  ·rw [List.getElem?_take,if_pos hin];exact hi
  ·rw [List.getElem?_take,if_pos hjn];exact hj
 ·rw [at',if_neg (by omega),if_neg (by omega)]
  exact h.rest k hk
 ·rw [at'] at ha hbb
  rw [if_neg kp] at hbb
  by_cases e1:(k - 1) / 2 = i
  ·rw [if_pos e1] at hbb
   obtain rfl:=Option.some.inj hbb
   by_cases e2:k = j
   ·rw [if_pos e2] at ha
    obtain rfl:=Option.some.inj ha
    exact bef_asym hb
   ·rw [if_neg e2,if_neg (by omega)] at ha
    exact hs k a k0 kn e1 ha
  ·rw [if_neg e1] at hbb
   rw [if_neg (show ¬ k = j by intro e;rw [e] at e1;exact e1 hij)] at ha
   by_cases e2:k = i
   ·subst e2
    rw [if_pos rfl] at ha
    obtain rfl:=Option.some.inj ha
    exact h.gp j y b k0 h0 hjn hij hj hbb
   ·rw [if_neg e2] at ha
    exact h.hp k a b k0 kn e1 ha hbb
 ·rw [at'] at ha hbb
  rw [hij,if_neg (by omega),if_pos rfl] at hbb
  obtain rfl:=Option.some.inj hbb
  rw [if_neg (by omega),if_neg (by omega)] at ha
  exact h.hp k a y k0 kn (by omega) ha (by rw [kp];exact hj)
theorem sft_end {l0 l:List Vtx} {n i:Nat} (h:Sft l0 l n i) {x:Vtx} (hi:l[i]? = some x) (hs:∀ k z,0 < k → k < n → (k - 1) / 2 = i → l[k]? = some z → bef z x = false):Heap l n:=fun k a b k0 kn ha hb=>by
 by_cases e:(k - 1) / 2 = i
 ·rw [e,hi] at hb
  obtain rfl:=Option.some.inj hb
  exact hs k a k0 kn e ha
 ·exact h.hp k a b k0 kn e ha hb
theorem heap_asc {l:List Vtx} (h:l.Pairwise fun a b=>bef a b = true):Heap l l.length:=fun k x y k0 kn hx hy=>by
 have h1:=(List.getElem?_eq_some_iff.1 hx)
 have h2:=(List.getElem?_eq_some_iff.1 hy)
 obtain ⟨a1,rfl⟩:=h1
 obtain ⟨a2,rfl⟩:=h2
 exact bef_asym (List.pairwise_iff_getElem.1 h _ _ a2 a1 (by omega))
theorem heap_next {s l:List Vtx} {x:Vtx} (hs:(x :: s).Pairwise fun a b=>bef a b = true) (hp:l.Perm (x :: s)) (hh:Heap l l.length) {r:Vtx} (hr:l[0]? = some r):r = x:=by
 have hx:x ∈ l:=hp.mem_iff.2 (by simp)
 obtain ⟨k,hk⟩:=List.getElem?_of_mem hx
 have h1:=heap_root hh (Nat.le_refl _) hr k x (List.getElem?_eq_some_iff.1 hk).1 hk
 have h2:r ∈ x :: s:=hp.mem_iff.1 (List.mem_of_getElem? hr)
 rcases List.mem_cons.1 h2 with h2 | h2
 ·exact h2
 ·have:=(List.pairwise_cons.1 hs).1 r h2
  rw [this] at h1
  cases h1
end Go.Proofs.YtjjddgpdoibcoaaGreatDoor.Am
namespace Go.Proofs.YtjjddgpdoibcoaaGreatDoor.Am
open Go
attribute [local irreducible] Mk Need Ari Get Idx Cnd CallM CallA Opt Unch At ConV MethM
set_option maxRecDepth 10000
def Θq:TT:=(113,⟨.slice 116,1,24,some .nils,some (.lst .odd),false⟩) :: (116,⟨.struct [(39,0,4),(3,4,1)],5,56,some (.agg [.int .i64 0,.int .i64 0,.nils,.int .i64 0,.int .i64 0]),some .odd,false⟩) :: (163,⟨.slice 39,1,24,some .nils,some (.lst .vtx),true⟩) :: Θe
theorem Θq_ok:TT.ok Tryz.prog Θq:=TT.okB_ok (by kernel_rfl)
theorem stq {P Q:Prop} (h:Q) (s:Hid Q → P:=by
  intro h
  (first | (with_reducible first | apply at_seq | apply at_block) | ((first | with_reducible apply at_regS Θq_ok | refine go ?_ | (with_reducible first | apply at_cond | apply at_ret | apply at_exit | apply at_skip | refine at_regD Θq_ok mixed (by kernel_rfl) ?_)) <;> conv=>whnf))
  repeat (first | (with_reducible first | apply at_seq | apply at_block) | ((first | with_reducible apply at_regS Θq_ok | refine go ?_ | (with_reducible first | apply at_cond | apply at_ret | apply at_exit | apply at_skip | refine at_regD Θq_ok mixed (by kernel_rfl) ?_)) <;> conv=>whnf))
  exact h.h):P:=s ⟨h⟩
theorem qlen_c (xs:List Vtx):ConV Tryz.prog 192 [.lst .vtx xs] [] (.int .i64 xs.length) []:=by
 refine con_eq Θq_ok Tryz.func192 rfl rfl false 0 4 rfl rfl rfl rfl fun K hK hb1 hb2=>?_;simp only [argsV,enc,Nat.reduceAdd]
 clear hb1 hb2
 (repeat (any_goals (first | refine stq ?_ | (refine go2 fun xe hxe=>?_;conv=>whnf) | ((with_reducible refine cnd_i (fun hq=>?_) fun hq=>?_) <;> (try simp only [hqs] at hq) <;> (first | omega | conv=>whnf)))))
 exact ⟨rfl,rfl⟩
theorem qless_c (xs:List Vtx) (i j:Nat) (x y:Vtx) (hi:xs[i]? = some x) (hj:xs[j]? = some y):ConV Tryz.prog 250 [.lst .vtx xs,.int .i64 (i:Int),.int .i64 (j:Int)] [] (.bool (bef x y)) []:=by
 have hB:=ibef_c x y
 refine con_eq Θq_ok Tryz.func250 rfl rfl false 0 4 rfl rfl rfl rfl fun K hK hb1 hb2=>?_;simp only [argsV,enc,Nat.reduceAdd]
 clear hb1 hb2
 (repeat (any_goals (first | refine stq ?_ | (refine go2 fun xe hxe=>?_;conv=>whnf) | ((with_reducible refine cnd_i (fun hq=>?_) fun hq=>?_) <;> (try simp only [hqs] at hq) <;> (first | omega | conv=>whnf)) | refine cr (hB) ?_)))
 exact ⟨rfl,rfl⟩
theorem qswap_c (xs:List Vtx) (i j:Nat) (x y:Vtx) (hi:xs[i]? = some x) (hj:xs[j]? = some y):ConV Tryz.prog 253 [.ref 4,.int .i64 (i:Int),.int .i64 (j:Int)] [(4,.row 39 .vtx xs)] (.tup []) [(4,.row 39 .vtx (swp xs i j x y))]:=by
 have hxj:(xs.set i y)[j]? = some (if i = j then y else y):=by
  rw [List.getElem?_set]
  have:=(List.getElem?_eq_some_iff.1 hj).1
  by_cases e:i = j
  ·rw [if_pos e,if_pos (by omega),if_pos e]
  ·rw [if_neg e,if_neg e,hj]
 have h1:=(List.getElem?_eq_some_iff.1 hi).1
 have h2:=(List.getElem?_eq_some_iff.1 hj).1
 have h3:(xs.set i y).length = xs.length:=by simp
 refine con_eq Θq_ok Tryz.func253 rfl rfl false 1 5 rfl rfl rfl rfl fun K hK hb1 hb2=>?_;simp only [argsV,enc,Nat.reduceAdd]
 clear hb1 hb2
 (repeat (any_goals (first | refine stq ?_ | (refine go2 fun xe hxe=>?_;conv=>whnf) | ((with_reducible refine cnd_i (fun hq=>?_) fun hq=>?_) <;> (try simp only [hqs] at hq) <;> (first | omega | conv=>whnf)))))
 exact ⟨rfl,rfl⟩
abbrev qB (xs:List Vtx):VH:=[(4,.var 163 [.ref 5]),(5,.row 39 .vtx xs)]
abbrev qG (xs:List Vtx):VH:=[(4,.var 163 [.ref 6]),(5,.gone),(6,.row 39 .vtx xs)]
theorem qpush_c (xs:List Vtx) (v:Vtx) (hl:xs.length ≤ 1000000):ConV Tryz.prog 252 [.ptr 4 0,.ifc 39 (vtxA v)] (qB xs) (.tup []) (qG (xs ++ [v])):=by
 refine con_eq Θq_ok Tryz.func252 rfl rfl false 2 6 rfl rfl rfl rfl fun K hK hb1 hb2=>?_;simp only [argsV,enc,Nat.reduceAdd]
 clear hb1 hb2
 (repeat (any_goals (first | refine stq ?_ | (refine go2 fun xe hxe=>?_;conv=>whnf) | ((with_reducible refine cnd_i (fun hq=>?_) fun hq=>?_) <;> (try simp only [hqs] at hq) <;> (first | omega | conv=>whnf)))))
 exact ⟨rfl,rfl⟩
theorem qpop_c (xs:List Vtx) (n:Nat) (v:Vtx) (hn:xs.length = n + 1) (hl:n ≤ 1000000) (hv:xs[n]? = some v):ConV Tryz.prog 251 [.ptr 4 0] (qB xs) (.ifc 39 (vtxA v)) (qG (xs.take n)):=by
 have e1:((xs.length:Int) - 1).toNat = n:=by omega
 have hx:xs[((xs.length:Int) - 1).toNat]? = some v:=by rw [e1];exact hv
 have hcut:cutL xs none (some (.int .i64 ((xs.length:Int) - 1))) 0 ((xs.length:Int) - 1).toNat = xs.take n:=by rw [e1];rfl
 refine con_eq Θq_ok Tryz.func251 rfl rfl false 2 6 rfl rfl rfl rfl fun K hK hb1 hb2=>?_;simp only [argsV,enc,Nat.reduceAdd]
 clear hb1 hb2
 (repeat (any_goals (first | refine stq ?_ | (refine go2 fun xe hxe=>?_;conv=>whnf) | ((with_reducible refine cnd_i (fun hq=>?_) fun hq=>?_) <;> (try simp only [hqs] at hq) <;> (first | omega | conv=>whnf)))))
 exact ⟨rfl,by rw [← hcut]⟩
theorem hup_c (xs:List Vtx) (j:Nat) (hj:j < xs.length) (hl:xs.length ≤ 1000000) (ha:xs.Pairwise fun a b=>bef a b = true):ConV Tryz.prog 191 [.ifc 162 (.ptr 4 0),.int .i64 (j:Int)] (qB xs) (.tup []) (qB xs):=by
 have hm : methT Tryz.prog 162 "Less" = some (250, false) := by kernel_rfl
 refine con_eq Θq_ok Tryz.func191 rfl rfl false 2 6 rfl rfl rfl rfl fun K hK hb1 hb2=>?_;simp only [argsV,enc,Nat.reduceAdd]
 clear hb1 hb2
 (repeat (any_goals (first | refine stq ?_ | (refine go2 fun xe hxe=>?_;conv=>whnf) | ((with_reducible refine cnd_i (fun hq=>?_) fun hq=>?_) <;> (try simp only [hqs] at hq) <;> (first | omega | conv=>whnf)))))
 refine at_loop hK [] [0,1] (fun _:Unit=>⟨[(0,.ifc 162 (.ptr 4 0)),(1,.int .i64 (j:Int))],qB xs,6⟩) (fun _=>True) (fun _=>0) () trivial rfl ?_
 intro _ _
 cases j with
 | zero=>
  have hq0:(((0:Nat):Int) - 1).tdiv 2 = ((0:Nat):Int):=by decide
  (repeat (any_goals (first | refine stq ?_ | (refine go2 fun xe hxe=>?_;conv=>whnf) | ((with_reducible refine cnd_i (fun hq=>?_) fun hq=>?_) <;> (try simp only [hqs] at hq) <;> (first | omega | conv=>whnf)))))
  (try any_goals (first | exact absurd trivial hq | exact absurd rfl hq | exact absurd hq (by omega) | (exfalso;simp at hq;done)))
  exact ⟨rfl,rfl⟩
 | succ j=>
  have e:(((j + 1:Nat):Int) - 1).tdiv 2 = ((j / 2:Nat):Int):=by
   rw [Int.tdiv_eq_ediv_of_nonneg (by omega)]
   omega
  have hx:xs[j + 1]? = some xs[j + 1]:=List.getElem?_eq_getElem hj
  have hp:j / 2 < xs.length:=by omega
  have hy:xs[j / 2]? = some xs[j / 2]:=List.getElem?_eq_getElem hp
  have hL:=qless_c xs (j + 1) (j / 2) xs[j + 1] xs[j / 2] hx hy
  rw [bef_asym (List.pairwise_iff_getElem.1 ha _ _ hp hj (by omega)),← e] at hL
  have hne:¬ (((j + 1:Nat):Int) - 1).tdiv 2 = ((j + 1:Nat):Int):=by rw [e];omega
  (repeat (any_goals (first | refine stq ?_ | (refine go2 fun xe hxe=>?_;conv=>whnf) | ((with_reducible refine cnd_i (fun hq=>?_) fun hq=>?_) <;> (try simp only [hqs] at hq) <;> (first | omega | conv=>whnf)) | refine cr (hL) ?_)))
  (try any_goals (first | exact absurd trivial hq | exact absurd rfl hq | exact absurd hq (by omega) | (exfalso;simp at hq;done)))
  exact ⟨rfl,rfl⟩
theorem hpush_c (xs:List Vtx) (v:Vtx) (hl:xs.length ≤ 100000) (ha:(xs ++ [v]).Pairwise fun a b=>bef a b = true):ConV Tryz.prog 143 [.ifc 162 (.ptr 4 0),.ifc 39 (vtxA v)] (qB xs) (.tup []) (qG (xs ++ [v])):=by
 have hm : methT Tryz.prog 162 "Push" = some (252, true) := by kernel_rfl
 have hm2 : methT Tryz.prog 162 "Len" = some (192, false) := by kernel_rfl
 have hP:=qpush_c xs v (by omega)
 have hN:=qlen_c (xs ++ [v])
 have hpl:(xs ++ [v]).length = xs.length + 1:=by simp
 have hU:=hup_c (xs ++ [v]) xs.length (by omega) (by omega) ha
 have e:(((xs ++ [v]).length:Nat):Int) - 1 = (xs.length:Int):=by omega
 rw [← e] at hU
 refine con_eq Θq_ok Tryz.func143 rfl rfl false 2 6 rfl rfl rfl rfl fun K hK hb1 hb2=>?_;simp only [argsV,enc,Nat.reduceAdd]
 clear hb1 hb2
 (repeat (any_goals (first | refine stq ?_ | (refine go2 fun xe hxe=>?_;conv=>whnf) | ((with_reducible refine cnd_i (fun hq=>?_) fun hq=>?_) <;> (try simp only [hqs] at hq) <;> (first | omega | conv=>whnf)) | refine cr (hN) ?_ | refine co (hP) ?_ | refine co (hU) ?_)))
 exact ⟨rfl,rfl⟩
end Go.Proofs.YtjjddgpdoibcoaaGreatDoor.Am
namespace Go.Proofs.YtjjddgpdoibcoaaGreatDoor.Am
open Go
attribute [local irreducible] Mk Need Ari Get Idx Cnd CallM CallA Opt Unch At ConV MethM
set_option maxRecDepth 10000
structure SDone (l0 l:List Vtx) (n:Nat):Prop where
 len:l.length = l0.length
 perm:(l.take n).Perm (l0.take n)
 rest:∀ k,n ≤ k → l[k]? = l0[k]?
 heap:Heap l n
theorem sft_leaf {l0 l:List Vtx} {n i:Nat} (h:Sft l0 l n i) (hn:n ≤ 2 * i + 1):SDone l0 l n:=by
 refine ⟨h.len,h.perm,h.rest,?_⟩
 intro k a b k0 kn ha hb
 exact h.hp k a b k0 kn (by omega) ha hb
theorem sft_stop {l0 l:List Vtx} {n i:Nat} (h:Sft l0 l n i) {x y:Vtx} (hi:l[i]? = some x) (hb:bef y x = false) (hs:∀ k z,0 < k → k < n → (k - 1) / 2 = i → l[k]? = some z → bef z y = false):SDone l0 l n:=
 ⟨h.len,h.perm,h.rest,sft_end h hi fun k z k0 kn kp hz=>nbef_trans (hs k z k0 kn kp hz) hb⟩
theorem chd_2 {l:List Vtx} {n i:Nat} {a b:Vtx} (ha:l[2 * i + 1]? = some a) (hb:l[2 * i + 2]? = some b) (h:bef b a = true):∀ k z,0 < k → k < n → (k - 1) / 2 = i → l[k]? = some z → bef z b = false:=fun k z k0 kn kp hz=>by
 rcases (show k = 2 * i + 1 ∨ k = 2 * i + 2 by omega) with rfl | rfl
 ·rw [ha] at hz
  obtain rfl:=Option.some.inj hz
  exact bef_asym h
 ·rw [hb] at hz
  obtain rfl:=Option.some.inj hz
  rw [Bool.eq_false_iff]
  intro h2
  rw [bef_iff] at h2
  omega
theorem chd_1 {l:List Vtx} {n i:Nat} {a:Vtx} (ha:l[2 * i + 1]? = some a) (h:∀ b,2 * i + 2 < n → l[2 * i + 2]? = some b → bef b a = false):∀ k z,0 < k → k < n → (k - 1) / 2 = i → l[k]? = some z → bef z a = false:=fun k z k0 kn kp hz=>by
 rcases (show k = 2 * i + 1 ∨ k = 2 * i + 2 by omega) with rfl | rfl
 ·rw [ha] at hz
  obtain rfl:=Option.some.inj hz
  rw [Bool.eq_false_iff]
  intro h2
  rw [bef_iff] at h2
  omega
 ·exact h z kn hz
theorem sft_ex {l0:List Vtx} {n:Nat} (hn:n ≤ l0.length):∀ (m i:Nat) (l:List Vtx),n - i ≤ m → i < l0.length → Sft l0 l n i → ∃ ys,SDone l0 ys n:=by
 intro m
 induction m with
 | zero=>exact fun i l hm _ h=>⟨l,sft_leaf h (by omega)⟩
 | succ m ih=>
  intro i l hm hil h
  have hlen:=h.len
  by_cases h1:n ≤ 2 * i + 1
  ·exact ⟨l,sft_leaf h h1⟩
  have hx:l[i]? = some (l[i]'(by omega)):=List.getElem?_eq_getElem _
  have ha:l[2 * i + 1]? = some (l[2 * i + 1]'(by omega)):=List.getElem?_eq_getElem _
  generalize l[i]'(by omega) = x at *
  generalize l[2 * i + 1]'(by omega) = a at *
  by_cases h2:2 * i + 2 < n
  ·have hb:l[2 * i + 2]? = some (l[2 * i + 2]'(by omega)):=List.getElem?_eq_getElem _
   generalize l[2 * i + 2]'(by omega) = b at *
   cases h3:bef b a
   ·have hs:=chd_1 (n:=n) ha fun b' _ hb'=>by rw [hb] at hb';obtain rfl:=Option.some.inj hb';exact h3
    cases h4:bef a x
    ·exact ⟨l,sft_stop h hx h4 hs⟩
    ·exact ih _ _ (by omega) (by omega) (sft_step h hx ha (by omega) (by omega) (by omega) h4 hs)
   ·have hs:=chd_2 (n:=n) ha hb h3
    cases h4:bef b x
    ·exact ⟨l,sft_stop h hx h4 hs⟩
    ·exact ih _ _ (by omega) (by omega) (sft_step h hx hb (by omega) (by omega) (by omega) h4 hs)
  ·have hs:=chd_1 (n:=n) ha fun b' h5 _=>absurd h5 h2
   cases h4:bef a x
   ·exact ⟨l,sft_stop h hx h4 hs⟩
   ·exact ih _ _ (by omega) (by omega) (sft_step h hx ha (by omega) (by omega) (by omega) h4 hs)
set_option maxHeartbeats 1000000 in
theorem hdown_c (zs:List Vtx) (n:Nat) (hn:n ≤ zs.length) (h0:0 < zs.length) (hl:zs.length ≤ 100000) (hS:Sft zs zs n 0):∃ x:List Vtx × Bool,SDone zs x.1 n ∧ ConV Tryz.prog 219 [.ifc 162 (.ptr 4 0),.int .i64 0,.int .i64 (n:Int)] (qB zs) (.bool x.2) (qB x.1):=by
 obtain ⟨y0,hy0⟩:=sft_ex hn n 0 zs (by omega) h0 hS
 suffices hs:∃ r hout,(∃ x:List Vtx × Bool,SDone zs x.1 n ∧ r = .bool x.2 ∧ hout = qB x.1) ∧ ConV Tryz.prog 219 [.ifc 162 (.ptr 4 0),.int .i64 0,.int .i64 (n:Int)] (qB zs) r hout by
  obtain ⟨r,hout,⟨v,hv,rfl,rfl⟩,h⟩:=hs
  exact ⟨v,hv,h⟩
 have hm : methT Tryz.prog 162 "Less" = some (250, false) := by kernel_rfl
 have hm2 : methT Tryz.prog 162 "Swap" = some (253, false) := by kernel_rfl
 refine con_ex Θq_ok Tryz.func219 rfl rfl false 2 6 rfl rfl rfl rfl (R:=fun r hout=>∃ x:List Vtx × Bool,SDone zs x.1 n ∧ r = .bool x.2 ∧ hout = qB x.1) (r0:=.bool true) (hout0:=qB y0) (⟨(y0,true),hy0,rfl,rfl⟩) fun K hK hb1 hb2=>?_;simp only [argsV,enc,Nat.reduceAdd]
 clear hb1 hb2
 (repeat (any_goals (first | refine stq ?_ | (refine go2 fun xe hxe=>?_;conv=>whnf) | ((with_reducible refine cnd_i (fun hq=>?_) fun hq=>?_) <;> (try simp only [hqs] at hq) <;> (first | omega | conv=>whnf)))))
 refine at_loop hK [] [0,1,2,7] (fun x:Nat × List Vtx=>⟨[(0,.ifc 162 (.ptr 4 0)),(1,.int .i64 0),(2,.int .i64 (n:Int)),(7,.int .i64 (x.1:Int))],qB x.2,6⟩) (fun x=>Sft zs x.2 n x.1 ∧ x.1 < zs.length) (fun x=>zs.length - x.1) (0,zs) ⟨hS,h0⟩ rfl ?_
 rintro ⟨i,l⟩ ⟨h,hil⟩
 dsimp only at h hil ⊢
 have hlen:=h.len
 by_cases h1:n ≤ 2 * i + 1
 ·have hd:=sft_leaf h h1
  (repeat (any_goals (first | refine stq ?_ | (refine go2 fun xe hxe=>?_;conv=>whnf) | ((with_reducible refine cnd_i (fun hq=>?_) fun hq=>?_) <;> (try simp only [hqs] at hq) <;> (first | omega | conv=>whnf)))))
  (try any_goals (first | exact absurd trivial hq | exact absurd rfl hq | exact absurd hq (by omega) | (exfalso;simp at hq;done)))
  exact ⟨(l,_),hd,rfl,rfl⟩
 have hx:l[i]? = some (l[i]'(by omega)):=List.getElem?_eq_getElem _
 have ha:l[2 * i + 1]? = some (l[2 * i + 1]'(by omega)):=List.getElem?_eq_getElem _
 generalize l[i]'(by omega) = x at *
 generalize l[2 * i + 1]'(by omega) = a at *
 have e1:((2 * i + 1:Nat):Int) = 2 * (i:Int) + 1:=by omega
 have e2:((2 * i + 2:Nat):Int) = 2 * (i:Int) + 1 + 1:=by omega
 have hLa:=qless_c l (2 * i + 1) i a x ha hx
 have hSa:=qswap_c l i (2 * i + 1) x a hx ha
 rw [e1] at hLa hSa
 by_cases h2:2 * i + 2 < n
 ·have hb:l[2 * i + 2]? = some (l[2 * i + 2]'(by omega)):=List.getElem?_eq_getElem _
  generalize l[2 * i + 2]'(by omega) = b at *
  have hLb:=qless_c l (2 * i + 2) (2 * i + 1) b a hb ha
  have hLc:=qless_c l (2 * i + 2) i b x hb hx
  have hSb:=qswap_c l i (2 * i + 2) x b hx hb
  rw [e2,e1] at hLb
  rw [e2] at hLc hSb
  cases h3:bef b a
  ·have hs:=chd_1 (n:=n) ha fun b' _ hb'=>by rw [hb] at hb';obtain rfl:=Option.some.inj hb';exact h3
   rw [h3] at hLb
   cases h4:bef a x
   ·have hd:=sft_stop h hx h4 hs
    rw [h4] at hLa
    (repeat (any_goals (first | refine stq ?_ | (refine go2 fun xe hxe=>?_;conv=>whnf) | ((with_reducible refine cnd_i (fun hq=>?_) fun hq=>?_) <;> (try simp only [hqs] at hq) <;> (first | omega | conv=>whnf)) | refine cr (hLb) ?_ | refine cr (hLa) ?_)))
    (try any_goals (first | exact absurd trivial hq | exact absurd rfl hq | exact absurd hq (by omega) | (exfalso;simp at hq;done)))
    exact ⟨(l,_),hd,rfl,rfl⟩
   ·have hst:=sft_step h hx ha (by omega) (by omega) (by omega) h4 hs
    rw [h4] at hLa
    generalize swp l i (2 * i + 1) x a = l2 at *
    (repeat (any_goals (first | refine stq ?_ | (refine go2 fun xe hxe=>?_;conv=>whnf) | ((with_reducible refine cnd_i (fun hq=>?_) fun hq=>?_) <;> (try simp only [hqs] at hq) <;> (first | omega | conv=>whnf)) | refine cr (hLb) ?_ | refine cr (hLa) ?_ | refine co (hSa) ?_)))
    (try any_goals (first | exact absurd trivial hq | exact absurd rfl hq | exact absurd hq (by omega) | (exfalso;simp at hq;done)))
    exact ⟨(2 * i + 1,l2),⟨hst,by dsimp only;omega⟩,by dsimp only;omega,by dsimp only;rw [e1]⟩
  ·have hs:=chd_2 (n:=n) ha hb h3
   rw [h3] at hLb
   cases h4:bef b x
   ·have hd:=sft_stop h hx h4 hs
    rw [h4] at hLc
    (repeat (any_goals (first | refine stq ?_ | (refine go2 fun xe hxe=>?_;conv=>whnf) | ((with_reducible refine cnd_i (fun hq=>?_) fun hq=>?_) <;> (try simp only [hqs] at hq) <;> (first | omega | conv=>whnf)) | refine cr (hLb) ?_ | refine cr (hLc) ?_)))
    (try any_goals (first | exact absurd trivial hq | exact absurd rfl hq | exact absurd hq (by omega) | (exfalso;simp at hq;done)))
    exact ⟨(l,_),hd,rfl,rfl⟩
   ·have hst:=sft_step h hx hb (by omega) (by omega) (by omega) h4 hs
    rw [h4] at hLc
    generalize swp l i (2 * i + 2) x b = l2 at *
    (repeat (any_goals (first | refine stq ?_ | (refine go2 fun xe hxe=>?_;conv=>whnf) | ((with_reducible refine cnd_i (fun hq=>?_) fun hq=>?_) <;> (try simp only [hqs] at hq) <;> (first | omega | conv=>whnf)) | refine cr (hLb) ?_ | refine cr (hLc) ?_ | refine co (hSb) ?_)))
    (try any_goals (first | exact absurd trivial hq | exact absurd rfl hq | exact absurd hq (by omega) | (exfalso;simp at hq;done)))
    exact ⟨(2 * i + 2,l2),⟨hst,by dsimp only;omega⟩,by dsimp only;omega,by dsimp only;rw [e2]⟩
 ·have hs:=chd_1 (n:=n) ha fun b' h5 _=>absurd h5 h2
  cases h4:bef a x
  ·have hd:=sft_stop h hx h4 hs
   rw [h4] at hLa
   (repeat (any_goals (first | refine stq ?_ | (refine go2 fun xe hxe=>?_;conv=>whnf) | ((with_reducible refine cnd_i (fun hq=>?_) fun hq=>?_) <;> (try simp only [hqs] at hq) <;> (first | omega | conv=>whnf)) | refine cr (hLa) ?_)))
   (try any_goals (first | exact absurd trivial hq | exact absurd rfl hq | exact absurd hq (by omega) | (exfalso;simp at hq;done)))
   exact ⟨(l,_),hd,rfl,rfl⟩
  ·have hst:=sft_step h hx ha (by omega) (by omega) (by omega) h4 hs
   rw [h4] at hLa
   generalize swp l i (2 * i + 1) x a = l2 at *
   (repeat (any_goals (first | refine stq ?_ | (refine go2 fun xe hxe=>?_;conv=>whnf) | ((with_reducible refine cnd_i (fun hq=>?_) fun hq=>?_) <;> (try simp only [hqs] at hq) <;> (first | omega | conv=>whnf)) | refine cr (hLa) ?_ | refine co (hSa) ?_)))
   (try any_goals (first | exact absurd trivial hq | exact absurd rfl hq | exact absurd hq (by omega) | (exfalso;simp at hq;done)))
   exact ⟨(2 * i + 1,l2),⟨hst,by dsimp only;omega⟩,by dsimp only;omega,by dsimp only;rw [e1]⟩
end Go.Proofs.YtjjddgpdoibcoaaGreatDoor.Am
namespace Go.Proofs.YtjjddgpdoibcoaaGreatDoor.Am
open Go
attribute [local irreducible] Mk Need Ari Get Idx Cnd CallM CallA Opt Unch At ConV MethM
set_option maxRecDepth 10000
theorem swp_sft {xs:List Vtx} {n:Nat} {r y:Vtx} (hn:xs.length = n + 1) (hh:Heap xs xs.length) (hr:xs[0]? = some r) (hy:xs[n]? = some y):Sft (swp xs 0 n r y) (swp xs 0 n r y) n 0:=by
 refine sft_0 fun k a b k0 kn kp ha hb=>?_
 rw [swp_at hr hy,if_neg (by omega),if_neg (by omega)] at ha
 rw [swp_at hr hy,if_neg (by omega),if_neg kp] at hb
 exact hh k a b k0 (by omega) ha hb
theorem hpop_c (xs:List Vtx) (n:Nat) (r:Vtx) (hn:xs.length = n + 1) (hl:n ≤ 10000) (hh:Heap xs xs.length) (hr:xs[0]? = some r):∃ ys:List Vtx,(ys.length = n ∧ Heap ys n ∧ (r :: ys).Perm xs) ∧ ConV Tryz.prog 193 [.ifc 162 (.ptr 4 0)] (qB xs) (.ifc 39 (vtxA r)) (qG ys):=by
 have hm : methT Tryz.prog 162 "Pop" = some (251, true) := by kernel_rfl
 have hm2 : methT Tryz.prog 162 "Len" = some (192, false) := by kernel_rfl
 have hm3 : methT Tryz.prog 162 "Swap" = some (253, false) := by kernel_rfl
 have hy:xs[n]? = some (xs[n]'(by omega)):=List.getElem?_eq_getElem _
 generalize xs[n]'(by omega) = y at *
 have hsf:=swp_sft hn hh hr hy
 have hsp:=swp_perm hr hy
 have hsl:=swp_len xs 0 n r y
 have hsn:(swp xs 0 n r y)[n]? = some r:=by rw [swp_at hr hy,if_pos rfl]
 have hS:=qswap_c xs 0 n r y hr hy
 generalize swp xs 0 n r y = zs at *
 obtain ⟨⟨l,b⟩,hd,hD⟩:=hdown_c zs n (by omega) (by omega) (by omega) hsf
 dsimp only at hd hD
 have hll:=hd.len
 have hln:l[n]? = some r:=by rw [hd.rest n (Nat.le_refl _)];exact hsn
 have hP:=qpop_c l n r (by omega) (by omega) hln
 have hN:=qlen_c xs
 have e:((xs.length:Int) - 1) = (n:Int):=by omega
 rw [← e] at hS hD
 have hzt:zs = zs.take n ++ [r]:=by
  have h1:zs = zs.take (n + 1):=(List.take_of_length_le (by omega)).symm
  obtain ⟨h2,h3⟩:=List.getElem?_eq_some_iff.1 hsn
  rw [List.take_succ_eq_append_getElem h2,h3] at h1
  exact h1
 refine ⟨l.take n,⟨by rw [List.length_take];omega,?_,?_⟩,?_⟩
 ·intro k a b' k0 kn ha hb
  rw [List.getElem?_take,if_pos kn] at ha
  rw [List.getElem?_take,if_pos (by omega)] at hb
  exact hd.heap k a b' k0 kn ha hb
 ·have h1:(r :: l.take n).Perm (r :: zs.take n):=List.Perm.cons r hd.perm
  have h2:(r :: zs.take n).Perm (zs.take n ++ [r]):=by
   have:=List.perm_append_comm (l₁:=[r]) (l₂:=zs.take n)
   simpa using this
  rw [← hzt] at h2
  exact h1.trans (h2.trans hsp)
 ·clear hzt
  refine con_eq Θq_ok Tryz.func193 rfl rfl false 2 6 rfl rfl rfl rfl fun K hK hb1 hb2=>?_;simp only [argsV,enc,Nat.reduceAdd]
  clear hb1 hb2
  (repeat (any_goals (first | refine stq ?_ | (refine go2 fun xe hxe=>?_;conv=>whnf) | ((with_reducible refine cnd_i (fun hq=>?_) fun hq=>?_) <;> (try simp only [hqs] at hq) <;> (first | omega | conv=>whnf)) | refine cr (hN) ?_ | refine co (hS) ?_ | refine co (hD) ?_ | refine co (hP) ?_)))
  exact ⟨rfl,rfl⟩
def qMs (w:Int) (m:Nat) (ys:List Vtx) (os:List Odd):VSt:=match m with
 | 0=>⟨[(0,.ptr 4 0),(1,.int .i64 w),(5,.ref 6)],qB ys ++ [(6,.row 116 .odd os)],7⟩
 | _ + 1=>⟨[(0,.ptr 4 0),(1,.int .i64 w),(5,.ref 6)],[(4,.var 163 [.ref 7]),(5,.gone),(6,.row 116 .odd os),(7,.row 39 .vtx ys)],8⟩
def qE (s:List Vtx):VH:=if s = [] then qB [] else qG []
theorem drain_c (s xs:List Vtx) (w:Int) (hl:s.length ≤ 10000) (hs:s.Pairwise fun a b=>bef a b = true) (hp:xs.Perm s) (hh:Heap xs xs.length):ConV Tryz.prog 144 [.ptr 4 0,.int .i64 w] (qB xs) (.lst .odd (s.map fun v=>⟨v,w⟩)) (qE s):=by
 refine con_eq Θq_ok Tryz.func144 rfl rfl true 2 6 rfl rfl rfl rfl fun K hK hb1 hb2=>?_;simp only [argsV,enc,Nat.reduceAdd]
 clear hb1 hb2
 (repeat (any_goals (first | refine stq ?_ | (refine go2 fun xe hxe=>?_;conv=>whnf) | ((with_reducible refine cnd_i (fun hq=>?_) fun hq=>?_) <;> (try simp only [hqs] at hq) <;> (first | omega | conv=>whnf)))))
 refine at_loop hK [] [0,1,5] (fun x:Nat × List Vtx=>qMs w x.1 x.2 ((s.take x.1).map fun v=>⟨v,w⟩)) (fun x=>x.1 ≤ s.length ∧ x.2.Perm (s.drop x.1) ∧ Heap x.2 x.2.length) (fun x=>s.length - x.1) (0,xs) ⟨Nat.zero_le _,by simpa using hp,hh⟩ rfl ?_
 rintro ⟨m,ys⟩ ⟨hm,hpm,hhm⟩
 dsimp only at hm hpm hhm ⊢
 have hyl:ys.length = s.length - m:=by rw [hpm.length_eq,List.length_drop]
 have hN:=qlen_c ys
 by_cases hlt:m < s.length
 ·obtain ⟨v,hv⟩:∃ v,s[m]? = some v:=⟨_,List.getElem?_eq_getElem hlt⟩
  have hvd:s.drop m = v :: s.drop (m + 1):=by
   obtain ⟨h1,h2⟩:=List.getElem?_eq_some_iff.1 hv
   rw [← h2]
   exact List.drop_eq_getElem_cons h1
  have h3:s.take (m + 1) = s.take m ++ [v]:=by
   obtain ⟨h1,h2⟩:=List.getElem?_eq_some_iff.1 hv
   rw [← h2]
   exact List.take_succ_eq_append_getElem h1
  have hr:ys[0]? = some (ys[0]'(by omega)):=List.getElem?_eq_getElem _
  have hrv:ys[0]'(by omega) = v:=heap_next (s:=s.drop (m + 1)) (x:=v) (by rw [← hvd];exact hs.sublist (List.drop_sublist _ _)) (by rw [← hvd];exact hpm) hhm hr
  rw [hrv] at hr
  obtain ⟨zs,⟨z1,z2,z3⟩,hP⟩:=hpop_c ys (ys.length - 1) v (by omega) (by omega) hhm hr
  have hzp:zs.Perm (s.drop (m + 1)):=by
   have:=z3.trans hpm
   rw [hvd] at this
   exact List.Perm.cons_inv this
  have hsn:(s.take (m + 1)).map (fun v=>(⟨v,w⟩:Odd)) = (s.take m).map (fun v=>(⟨v,w⟩:Odd)) ++ [⟨v,w⟩]:=by rw [h3,List.map_append];rfl
  have htl:((s.take m).map (fun v=>(⟨v,w⟩:Odd))).length = m:=by simp;omega
  generalize hA:(s.take m).map (fun v=>(⟨v,w⟩:Odd)) = A at *
  cases m with
  | zero=>
   unfold qMs
   (repeat (any_goals (first | refine stq ?_ | (refine go2 fun xe hxe=>?_;conv=>whnf) | ((with_reducible refine cnd_i (fun hq=>?_) fun hq=>?_) <;> (try simp only [hqs] at hq) <;> (first | omega | conv=>whnf)) | refine cr (hN) ?_ | refine co (hP) ?_)))
   (try any_goals (first | exact absurd trivial hq | exact absurd rfl hq | exact absurd hq (by omega) | (exfalso;simp at hq;done)))
   exact ⟨(0 + 1,zs),⟨by dsimp only;omega,hzp,by dsimp only;rw [z1];exact z2⟩,by dsimp only;omega,by dsimp only;rw [hsn]⟩
  | succ m=>
   unfold qMs
   (repeat (any_goals (first | refine stq ?_ | (refine go2 fun xe hxe=>?_;conv=>whnf) | ((with_reducible refine cnd_i (fun hq=>?_) fun hq=>?_) <;> (try simp only [hqs] at hq) <;> (first | omega | conv=>whnf)) | refine cr (hN) ?_ | refine co (hP) ?_)))
   (try any_goals (first | exact absurd trivial hq | exact absurd rfl hq | exact absurd hq (by omega) | (exfalso;simp at hq;done)))
   exact ⟨(m + 1 + 1,zs),⟨by dsimp only;omega,hzp,by dsimp only;rw [z1];exact z2⟩,by dsimp only;omega,by dsimp only;rw [hsn]⟩
 ·obtain rfl:m = s.length:=by omega
  rw [List.take_length]
  have hy0:ys = []:=List.length_eq_zero_iff.1 (by omega)
  subst hy0
  cases hsc:s with
  | nil=>
   subst hsc
   unfold qMs
   (repeat (any_goals (first | refine stq ?_ | (refine go2 fun xe hxe=>?_;conv=>whnf) | ((with_reducible refine cnd_i (fun hq=>?_) fun hq=>?_) <;> (try simp only [hqs] at hq) <;> (first | omega | conv=>whnf)) | refine cr (hN) ?_)))
   (try any_goals (first | exact absurd trivial hq | exact absurd rfl hq | exact absurd hq (by omega) | (exfalso;simp at hq;done)))
   exact ⟨rfl,rfl⟩
  | cons v s'=>
   have hE:qE (v :: s') = qG []:=by unfold qE;rw [if_neg (by simp)]
   rw [hE]
   generalize (v :: s').map (fun v=>(⟨v,w⟩:Odd)) = A at *
   simp only [List.length_cons]
   unfold qMs
   (repeat (any_goals (first | refine stq ?_ | (refine go2 fun xe hxe=>?_;conv=>whnf) | ((with_reducible refine cnd_i (fun hq=>?_) fun hq=>?_) <;> (try simp only [hqs] at hq) <;> (first | omega | conv=>whnf)) | refine cr (hN) ?_)))
   (try any_goals (first | exact absurd trivial hq | exact absurd rfl hq | exact absurd hq (by omega) | (exfalso;simp at hq;done)))
   exact ⟨rfl,rfl⟩
end Go.Proofs.YtjjddgpdoibcoaaGreatDoor.Am
namespace Go.Proofs.YtjjddgpdoibcoaaGreatDoor.Am
open Go
noncomputable def oddTo (g:List Vtx) (l:List Int):List Odd → List Nat → List Odd
 | os,[]=>os
 | os,w :: ws=>oddTo g l (os ++ (ordW g l (os.map (·.v)) w).map fun v=>⟨v,(w:Int)⟩) ws
theorem oddTo_v (g:List Vtx) (l:List Int):∀ (ws:List Nat) (os:List Odd),(oddTo g l os ws).map (·.v) = ordTo g l (os.map (·.v)) ws
 | [],os=>rfl
 | w :: ws,os=>by
  rw [oddTo,oddTo_v g l ws,ordTo_cons,List.map_append,List.map_map]
  congr 2
  exact List.map_id _
theorem oddTo_app (g:List Vtx) (l:List Int):∀ (ws ws':List Nat) (os:List Odd),oddTo g l os (ws ++ ws') = oddTo g l (oddTo g l os ws) ws'
 | [],_,_=>rfl
 | w :: ws,ws',os=>oddTo_app g l ws ws' _
open Classical in
noncomputable def dnF (g os:List Vtx):List Bool:=g.map fun v=>decide (v ∈ os)
open Classical in
theorem dnF_at {g os:List Vtx} {i:Nat} {v:Vtx} (h:g[i]? = some v):(dnF g os)[i]? = some (decide (v ∈ os)):=by rw [dnF,List.getElem?_map,h];rfl
theorem dnF_len (g os:List Vtx):(dnF g os).length = g.length:=by simp [dnF]
open Classical in
theorem dnF_set {c:List Int} {g:List Vtx} (hg:GraOK c g) {os:List Vtx} {i:Nat} {v:Vtx} (h:g[i]? = some v):(dnF g os).set i true = dnF g (os ++ [v]):=by
 refine List.ext_getElem? fun k=>?_
 rw [List.getElem?_set,dnF_len]
 have hi:=(List.getElem?_eq_some_iff.1 h).1
 by_cases e:i = k
 ·subst e
  rw [if_pos rfl,if_pos hi,dnF_at h,decide_eq_true (by simp)]
 ·rw [if_neg e,dnF,dnF,List.getElem?_map,List.getElem?_map]
  cases hk:g[k]? with
  | none=>rfl
  | some x=>
   simp only [Option.map_some,Option.some.injEq]
   rw [Bool.eq_iff_iff,decide_eq_true_iff,decide_eq_true_iff,List.mem_append,List.mem_singleton]
   refine ⟨.inl,fun hx=>?_⟩
   rcases hx with hx | rfl
   ·exact hx
   ·exact absurd (g_inj hg h hk) e
open Classical in
theorem dnF_0 (g:List Vtx):dnF g [] = List.replicate g.length false:=by
 refine List.ext_getElem (by simp [dnF]) fun k h1 h2=>?_
 simp [dnF]
open Classical in
noncomputable def pvx (g:List Vtx) (k:Vtx):List Vtx:=g.filter fun v=>decide (Rv g k v)
open Classical in
theorem pvx_len (g:List Vtx) (k:Vtx):(pvx g k).length = (pst g k).length:=by
 unfold pvx pst
 rw [List.length_map]
 have e:g = (List.range g.length).map fun i=>g.getD i v0:=by
  refine List.ext_getElem (by simp) fun i h1 h2=>?_
  simp [List.getD_eq_getElem?_getD,List.getElem?_eq_getElem h1]
 conv=>lhs;rw [e]
 rw [List.filter_map,List.length_map]
 simp only [← e]
 rfl
open Classical in
theorem pvx_at {g:List Vtx} {k:Vtx} {j:Nat} {x:Int} (h:(pst g k)[j]? = some x):∃ i:Nat,x = i ∧ ∃ v,g[i]? = some v ∧ (pvx g k)[j]? = some v:=by
 have hm:=pst_mem.1 (List.mem_of_getElem? h)
 obtain ⟨i,hi,v,hv,-⟩:=hm
 refine ⟨i,hi,v,hv,?_⟩
 have e:g = (List.range g.length).map fun i=>g.getD i v0:=by
  refine List.ext_getElem (by simp) fun i h1 h2=>?_
  simp [List.getD_eq_getElem?_getD,List.getElem?_eq_getElem h1]
 have e2:pvx g k = ((List.range g.length).filter fun i=>decide (Rv g k (g.getD i v0))).map fun i=>g.getD i v0:=by
  unfold pvx
  conv=>lhs;rw [e]
  rw [List.filter_map]
  simp only [← e]
  rfl
 have e3:pst g k = ((List.range g.length).filter fun i=>decide (Rv g k (g.getD i v0))).map fun i:Nat=>(i:Int):=rfl
 rw [e3,List.getElem?_map] at h
 rw [e2,List.getElem?_map]
 cases hf:((List.range g.length).filter fun i=>decide (Rv g k (g.getD i v0)))[j]? with
 | none=>rw [hf] at h;cases h
 | some m=>
  rw [hf] at h
  have hm:(m:Int) = x:=Option.some.inj h
  obtain rfl:m = i:=by omega
  simp [List.getD_eq_getElem?_getD,hv]
open Classical in
noncomputable def qvx (g:List Vtx) (k:Vtx) (w:Nat) (os:List Vtx) (j:Nat):List Vtx:=((pvx g k).take j).filter fun v=>decide (2 * (w:Int) - 7 ≤ v.round) && decide (v ∉ os)
open Classical in
theorem qvx_snoc {g:List Vtx} {k v:Vtx} {w:Nat} {os:List Vtx} {j:Nat} (h:(pvx g k)[j]? = some v):qvx g k w os (j + 1) = if 2 * (w:Int) - 7 ≤ v.round ∧ v ∉ os then qvx g k w os j ++ [v] else qvx g k w os j:=by
 obtain ⟨h1,h2⟩:=List.getElem?_eq_some_iff.1 h
 unfold qvx
 rw [List.take_succ_eq_append_getElem h1,h2,List.filter_append,List.filter_cons,List.filter_nil]
 by_cases c1:2 * (w:Int) - 7 ≤ v.round <;> by_cases c2:v ∉ os <;> simp [c1,c2]
open Classical in
theorem qvx_end {g:List Vtx} {l:List Int} {k:Vtx} {w:Nat} {os:List Vtx} (hk:ldr g l w = some k):qvx g k w os (pvx g k).length = ordW g l os w:=by
 unfold qvx ordW
 rw [hk,List.take_length,pvx,List.filter_filter]
 refine List.filter_congr fun v _=>?_
 exact Bool.and_comm _ _
theorem qvx_asc {c:List Int} {g:List Vtx} (hg:GraOK c g) (k:Vtx) (w:Nat) (os:List Vtx) (j:Nat):(qvx g k w os j).Pairwise fun a b=>bef a b = true:=
 hg.pw.sublist (((List.filter_sublist).trans (List.take_sublist _ _)).trans (List.filter_sublist))
theorem qvx_len (g:List Vtx) (k:Vtx) (w:Nat) (os:List Vtx) (j:Nat):(qvx g k w os j).length ≤ g.length:=by
 unfold qvx pvx
 refine Nat.le_trans (List.length_filter_le _ _) ?_
 rw [List.length_take]
 exact Nat.le_trans (Nat.min_le_right _ _) (List.length_filter_le _ _)
theorem qvx_new {c:List Int} {g:List Vtx} (hg:GraOK c g) {k v:Vtx} {w:Nat} {os:List Vtx} {j:Nat} (h:(pvx g k)[j]? = some v):v ∉ qvx g k w os j:=fun hm=>by
 have h1:=(List.mem_filter.1 hm).1
 obtain ⟨i,hi,rfl⟩:=List.getElem_of_mem h1
 rw [List.length_take] at hi
 rw [List.getElem_take] at h
 obtain ⟨h2,h3⟩:=List.getElem?_eq_some_iff.1 h
 have hp:(pvx g k).Pairwise fun a b=>bef a b = true:=hg.pw.sublist List.filter_sublist
 have:=List.pairwise_iff_getElem.1 hp i j (by omega) h2 (by omega)
 rw [h3,bef_iff] at this
 omega
end Go.Proofs.YtjjddgpdoibcoaaGreatDoor.Am
namespace Go.Proofs.YtjjddgpdoibcoaaGreatDoor.Am
open Go
attribute [local irreducible] Mk Need Ari Get Idx Cnd CallM CallA Opt Unch At ConV
set_option maxRecDepth 10000
def intsN (ws:List Nat):List Int:=ws.map fun w:Nat=>(w:Int)
theorem intsN_app (a b:List Nat):intsN (a ++ b) = intsN a ++ intsN b:=by simp [intsN]
theorem intsN_len (a:List Nat):(intsN a).length = a.length:=by simp [intsN]
theorem pst_has {c:List Int} {g:List Vtx} (hg:GraOK c g) {u v:Vtx} {n:Nat} (hv:g[n]? = some v):(pst g u).contains (n:Int) = true ↔ Rv g u v:=by
 rw [List.contains_iff_mem,pst_mem]
 constructor
 ·rintro ⟨i,hi,x,hx,hr⟩
  obtain rfl:n = i:=by omega
  rw [hv] at hx
  obtain rfl:=Option.some.inj hx
  exact hr
 ·intro hr
  exact ⟨n,rfl,v,hv,hr⟩
theorem pst_le (g:List Vtx) (u:Vtx):(pst g u).Pairwise (· ≤ ·):=(pst_asc g u).imp fun h=>Int.le_of_lt h
open Classical in
theorem dwn_stop {g:List Vtx} {l:List Int} {last x:Nat} (h:x ≤ last) (cur:Vtx):dwn g l last x cur = []:=by
 cases x with
 | zero=>rfl
 | succ x=>unfold dwn;rw [if_pos h]
open Classical in
theorem dwn_no {g:List Vtx} {l:List Int} {last x:Nat} (h:last < x + 1) {cur:Vtx} (hk:ldr g l (x + 1) = none):dwn g l last (x + 1) cur = dwn g l last x cur:=by
 conv=>lhs;unfold dwn
 rw [if_neg (by omega),hk]
open Classical in
theorem dwn_skip {g:List Vtx} {l:List Int} {last x:Nat} (h:last < x + 1) {cur k:Vtx} (hk:ldr g l (x + 1) = some k) (hr:¬ Rv g cur k):dwn g l last (x + 1) cur = dwn g l last x cur:=by
 conv=>lhs;unfold dwn
 rw [if_neg (by omega),hk]
 exact if_neg hr
open Classical in
theorem dwn_take {g:List Vtx} {l:List Int} {last x:Nat} (h:last < x + 1) {cur k:Vtx} (hk:ldr g l (x + 1) = some k) (hr:Rv g cur k):dwn g l last (x + 1) cur = dwn g l last x k ++ [x + 1]:=by
 conv=>lhs;unfold dwn
 rw [if_neg (by omega),hk]
 exact if_pos hr
theorem ichn_c (c:List Int) (g:List Vtx) (l:List Int) (w last:Nat) (hg:GraOK c g) (hgl:g.length ≤ 1000000) (hl:leaS c l = true) (h1:1 ≤ w) (h2:w ≤ l.length) (hw:last < w) {k0:Vtx} (hk0:ldr g l w = some k0):ConV Tryz.prog 130 [.agg [.ptr 4 0,.lst (.int .i64) l],.int .i64 (w:Int),.int .i64 (last:Int)] (gR c (gst g)) (.lst (.int .i64) (intsN (chn g l w last))) (gR c (gst g)):=by
 have hll:=(leaS_iff.1 hl).2
 obtain ⟨n0,hn0,hg0⟩:=at_ldrY hg hl h1 h2 hk0
 have hL:=ildY_c c g l w n0 hg hl h1 h2 hn0
 have hP:=ipast_c c g hg hgl n0 k0 hg0
 have hch:chn g l w last = dwn g l last (w - 1) k0 ++ [w]:=by unfold chn;rw [hk0]
 have hpl0:=pst_len g k0
 refine con_eq Θe_ok Tryz.func130 rfl rfl true 2 6 rfl rfl rfl rfl fun K hK hb1 hb2=>?_;simp only [argsV,enc,Nat.reduceAdd]
 clear hb1 hb2
 (repeat (any_goals (first | refine ste ?_ | (refine go2 fun xe hxe=>?_;conv=>whnf) | ((with_reducible refine cnd_i (fun hq=>?_) fun hq=>?_) <;> (try simp only [hqs] at hq) <;> (first | omega | conv=>whnf)) | refine co (hL) ?_ | refine co (hP) ?_)))
 refine at_loop hK [] [2,3,9,10,11] (fun x:Nat × Vtx × List Nat=>⟨[(2,.int .i64 (last:Int)),(3,.ptr 6 0),(9,.ref 7),(10,.lst (.int .i64) (pst g x.2.1)),(11,.int .i64 (x.1:Int))],gRx c (gst g) (.var 104 [.ptr 4 0,.lst (.int .i64) l]) ++ [(7,.row 3 (.int .i64) ((w:Int) :: (intsN x.2.2).reverse))],8⟩) (fun x=>x.2.1 ∈ g ∧ last ≤ x.1 ∧ x.1 < w ∧ x.2.2.length + x.1 ≤ w ∧ dwn g l last (w - 1) k0 = dwn g l last x.1 x.2.1 ++ x.2.2) (fun x=>x.1) (w - 1,k0,[]) ⟨List.mem_of_getElem? hg0,by dsimp only;omega,by dsimp only;omega,by dsimp only;simp only [List.length_nil];omega,by simp⟩ ?_ ?_
 ·dsimp only
  rw [show (((w - 1:Nat):Int)) = (w:Int) - 1 by omega]
  rfl
 rintro ⟨x,cur,acc⟩ ⟨hcur,hx1,hx2,hx3,hdw⟩
 dsimp only at hcur hx1 hx2 hx3 hdw ⊢
 have hil:=intsN_len acc
 have hrl:((w:Int) :: (intsN acc).reverse).length = acc.length + 1:=by simp [hil]
 by_cases hlt:last < x
 ·obtain ⟨y,rfl⟩:∃ y,x = y + 1:=⟨x - 1,by omega⟩
  have e1:((y + 1:Nat):Int) - 1 = (y:Int):=by omega
  cases hk:ldr g l (y + 1) with
  | none=>
   have hL2:=ildN_c c g l (y + 1) hg hl (by omega) (by omega) (at_ldrN hg hl (by omega) (by omega) hk)
   have hE:=eisY_c
   rw [dwn_no (by omega) hk] at hdw
   generalize hrow:((w:Int) :: (intsN acc).reverse) = row at *
   (repeat (any_goals (first | refine ste ?_ | (refine go2 fun xe hxe=>?_;conv=>whnf) | ((with_reducible refine cnd_i (fun hq=>?_) fun hq=>?_) <;> (try simp only [hqs] at hq) <;> (first | omega | conv=>whnf)) | refine cr (hE) ?_ | refine co (hL2) ?_)))
   refine ⟨(y,cur,acc),⟨hcur,by dsimp only;omega,by dsimp only;omega,by dsimp only;omega,hdw⟩,by dsimp only;omega,?_⟩
   rw [e1]
   dsimp only
   rw [hrow]
   rfl
  | some k=>
   obtain ⟨n,hn,hgn⟩:=at_ldrY hg hl (by omega) (by omega) hk
   have hL2:=ildY_c c g l (y + 1) n hg hl (by omega) (by omega) hn
   have hE:=eisN_c
   have hB:=ibs_c (pst g cur) (n:Int) (pst_le g cur) (by have:=pst_len g cur;omega)
   obtain ⟨p,hp⟩:=gst_node hgn
   have hix:=pst_has hg (u:=cur) hgn
   by_cases hr:Rv g cur k
   ·rw [hix.2 hr] at hB
    have hP2:=ipast_c c g hg hgl n k hgn
    rw [dwn_take (by omega) hk hr,List.append_assoc] at hdw
    have hrow2:((w:Int) :: (intsN acc).reverse) ++ [((y + 1:Nat):Int)] = (w:Int) :: (intsN ((y + 1) :: acc)).reverse:=by simp [intsN]
    generalize hrow:((w:Int) :: (intsN acc).reverse) = row at *
    (repeat (any_goals (first | refine ste ?_ | (refine go2 fun xe hxe=>?_;conv=>whnf) | ((with_reducible refine cnd_i (fun hq=>?_) fun hq=>?_) <;> (try simp only [hqs] at hq) <;> (first | omega | conv=>whnf)) | refine cr (hE) ?_ | refine cr (hB) ?_ | refine co (hL2) ?_ | refine co (hP2) ?_)))
    refine ⟨(y,k,(y + 1) :: acc),⟨List.mem_of_getElem? hgn,by dsimp only;omega,by dsimp only;omega,by dsimp only;simp only [List.length_cons];omega,hdw⟩,by dsimp only;omega,?_⟩
    rw [e1]
    dsimp only
    rw [← hrow2]
    rfl
   ·rw [show (pst g cur).contains (n:Int) = false from by rw [Bool.eq_false_iff];exact fun h=>hr (hix.1 h)] at hB
    rw [dwn_skip (by omega) hk hr] at hdw
    generalize hrow:((w:Int) :: (intsN acc).reverse) = row at *
    (repeat (any_goals (first | refine ste ?_ | (refine go2 fun xe hxe=>?_;conv=>whnf) | ((with_reducible refine cnd_i (fun hq=>?_) fun hq=>?_) <;> (try simp only [hqs] at hq) <;> (first | omega | conv=>whnf)) | refine cr (hE) ?_ | refine cr (hB) ?_ | refine co (hL2) ?_)))
    refine ⟨(y,cur,acc),⟨hcur,by dsimp only;omega,by dsimp only;omega,by dsimp only;omega,hdw⟩,by dsimp only;omega,?_⟩
    rw [e1]
    dsimp only
    rw [hrow]
    rfl
 ·rw [dwn_stop (x:=x) (by omega) cur,List.nil_append] at hdw
  have hR:=irev_c ((w:Int) :: (intsN acc).reverse) (by omega)
  have hfin:((w:Int) :: (intsN acc).reverse).reverse = intsN (chn g l w last):=by
   rw [hch,hdw,intsN_app,List.reverse_cons,List.reverse_reverse];rfl
  (repeat (any_goals (first | refine ste ?_ | (refine go2 fun xe hxe=>?_;conv=>whnf) | ((with_reducible refine cnd_i (fun hq=>?_) fun hq=>?_) <;> (try simp only [hqs] at hq) <;> (first | omega | conv=>whnf)) | refine co (hR) ?_)))
  exact ⟨by rw [hfin],rfl⟩
end Go.Proofs.YtjjddgpdoibcoaaGreatDoor.Am
