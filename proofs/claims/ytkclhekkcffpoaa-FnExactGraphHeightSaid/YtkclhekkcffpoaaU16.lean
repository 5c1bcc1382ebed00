/- The plain machine with types: one operation, put together. -/
import Derived.Test.YtkclhekkcffpoaaU15
namespace Go.Proofs.Ytkclhekkcffpoaa.Am
set_option linter.unusedSimpArgs false
set_option linter.unusedVariables false
open Go Go.RowKit

variable {P : Program} {N : Nat} {Θ : TT} {t : VT} {h : VH} {n : Nat}

def nzK (τ : Ty) (z : V) (K : τ.den → Prop) : Prop := decK τ (decs.nzL z) K
theorem nzK_ok {τ : Ty} {z : V} {K : τ.den → Prop} (h : nzK τ z K) : ∃ x, nzE z.toD = encD τ x ∧ K x := by
  obtain ⟨x, h1, h2⟩ := decK_ok h
  exact ⟨x, by rw [← nzL_ok]; exact h1, h2⟩
/-- a call of f -/
def callK (P : Program) (h : VH) (n : Nat) (f : FuncId) (vs : List V) (see : List Nat) (K : V → VH → List Nat → Prop) : Prop := CallM P h n f vs fun r vu gl => K r vu (see ++ gl)
def ptrK (v : V) (K : V → Prop) : Prop :=
  match v with
  | .ptr b o => K (.ptr b o)
  | .eptr b i o => K (.eptr b i o)
  | .aptr b p i => K (.aptr b p i)
  | .iptr t x o => K (.iptr t x o)
  | .box t x => K (.box t x)
  | .fptr k i o => K (.fptr k i o)
  | .feptr k i j o => K (.feptr k i j o)
  | .faptr k i p j => K (.faptr k i p j)
  | .hpo k o => Opt o False fun i => K (.fptr k i 0)
  | .obo t o => Opt o False fun x => K (.box t x)
  | _ => False
theorem ptrK_ok {v : V} {K : V → Prop} (hk : ptrK v K) : ∃ r : V, isPtr v.toD = true ∧ r.toD = v.toD ∧ K r := by
  unfold ptrK at hk
  split at hk <;> try exact ⟨_, rfl, rfl, hk⟩
  · rename_i k o
    cases o with
    | none => exact (hk.1 rfl).elim
    | some i => exact ⟨.fptr k i 0, rfl, rfl, hk.2 i rfl⟩
  · rename_i t o
    cases o with
    | none => exact (hk.1 rfl).elim
    | some x => exact ⟨.box t x, rfl, rfl, hk.2 x rfl⟩
  · exact hk.elim
def ltV (n : Nat) : VH → Bool
  | [] => true
  | (x, _) :: u => Nat.blt x n && ltV n u
theorem ltV_ok : ∀ {u : VH}, ltV n u = true → ∀ k ∈ u.map (·.1), k < n
  | [], _, k, hk => by cases hk
  | (a, b) :: u, h, k, hk => by
    simp only [ltV, Bool.and_eq_true] at h
    rcases List.mem_cons.1 hk with rfl | hk
    · simpa [Nat.blt_eq] using h.1
    · exact ltV_ok h.2 k hk
theorem fresh_upd {u : HL} {vu : VH} (hn : ∀ c : Id, n ≤ c.1 → look (toH h) c = none) (hu : UpdOK h u vu) (hl : ltV n vu = true) : ∀ c : Id, n ≤ c.1 → look (toH (puts vu h)) c = none := by
  intro c hc
  rw [← hu.1, look_puts_other _ _ _ fun x hx e => ?_]
  · exact hn c hc
  · have := ltV_ok hl _ (hu.2 x hx)
    rw [e] at this
    omega
/-- one operation; K: what it gives, which groups it turns, which it looks at -/
def stepK (P : Program) (Θ : TT) (op : Op) (t : VT) (h : VH) (n : Nat) (K : V → VH → List Nat → Prop) : Prop :=
  match op with
  | .move x => evO t x fun v => K v [] []
  | .assign x => evO t x fun v => K v [] []
  | .load T x => evF t h x fun v => lookK Θ T fun ti => loadK ti h v fun r => K r [] (seeVs t h [x])
  | .store T x y => evF t h x fun d => evF t h y fun v => lookK Θ T fun ti => tgtK h d fun tg => (match tg with
    | none => storeRK ti h d v fun r u => K r u (seeVs t h [x, y])
    | some p => fitKs h (p.1.shs.drop p.2) v.cells fun h1 vu g => evF t h1 x fun d => evF t h1 y fun v => storeTK ti h1 d v fun r u => K r (vu ++ u) (g ++ seeVs t h1 [x, y]))
  | .fieldAddr T x f => evO t x fun v => lookK Θ T fun ti => (match ti.k with
    | .struct fs => nthK fs f fun g => Chk (decide (0 < g.2.2)) (faK g v fun r => K r [] [])
    | _ => False)
  | .indexAddr T x i => evF t h x fun v => evO t i fun ix => lookK Θ T fun ti => (match ix with
    | .int _ j => iaK Θ ti h v j fun r => K r [] (seeVs t h [x, i])
    | _ => False)
  | .binOp op T x y _ => evF t h x fun d => evF t h y fun e => lookK Θ T fun ti => binK op ti.k d e fun r => K r [] (seeVs t h [x, y])
  | .unOp op _ x => evO t x fun d => unK op d fun r => K r [] []
  | .call ⟨.builtin b, args, Ts⟩ => (match b with
    | .append => evFs t h args.toList fun vs => (match vs, Ts.toList with
      | [d, e], [T, T'] => Chk (Nat.beq T T') (lookK Θ T fun ti => (match litB h e with
        | none => appendK Θ ti h n d e fun r u => K r u (n :: seeVs t h args.toList)
        | some b => (match ti.k with
          | .slice E => lookK Θ E fun ei => kindK h d ei.ty fun τ => tameLK h b τ fun h1 vu g => Chk (ltV n vu) (evFs t h1 args.toList fun vs => (match vs with
            | [d, e] => appendK Θ ti h1 n d e fun r u => K r (vu ++ u) (g ++ n :: seeVs t h1 args.toList)
            | _ => False))
          | _ => False)))
      | _, _ => False)
    | b => evFs t h args.toList fun vs => builtin0K Θ b vs Ts.toList h fun r u => K r u (seeVs t h args.toList))
  | .call ⟨.value (.func f), args, _⟩ => evFs t h args.toList fun vs => callK P h n f vs (seeVs t h (.func f :: args.toList)) K
  | .call ⟨.value (.tmp k), args, _⟩ => evF t h (.tmp k) fun c => (match c with
    | .clo f cs => evFs t h args.toList fun vs => callK P h n f (vs ++ cs) (seeVs t h (.tmp k :: args.toList)) K
    | _ => False)
  | .pick c x y => evO t c fun b => (match b with
    | .tt => evO t x fun v => K v [] []
    | .ff => evO t y fun v => K v [] []
    | .bool b => Cnd b (evO t x fun v => K v [] []) (evO t y fun v => K v [] [])
    | _ => False)
  | .alloc T => lookK Θ T fun ti => (match ti.z with
    | some z => K (.ptr n 0) [(n, .var T z.cells)] [n]
    | none => False)
  | .box T x => evO t x fun v => Chk v.whole (K (.ptr n 0) [(n, .var T v.cells)] [n])
  | .build T ps => evPs t ps.toList fun vs => lookK Θ T fun ti => (match ti.k, ti.z with
    | .struct fs, some (.agg zs) => fillK fs zs vs fun cs => K (.agg cs) [] []
    | _, _ => False)
  | .buildSlice T len ps => evFPs t h ps.toList fun vs => lookK Θ T fun ti => (match ti.k with
    | .slice E => lookK Θ E fun ei => Chk (ei.z.isSome && decide (0 < ei.sz) && keysB vs 0 && lenK' vs len && decide (len * ei.sz ≤ 16777216)) (buildSK ei E vs n fun r u => K r u (n :: seeVs t h (ps.toList.map (·.2))))
    | _ => False)
  | .nilCheck x => evO t x fun v => ptrK v fun r => K r [] []
  | .convert S T x => evF t h x fun v => lookK Θ T fun ti => lookK Θ S fun si => convK Θ ti si h v fun r => K r [] (seeVs t h [x])
  | .makeInterface T x => evO t x fun v => lookK Θ T fun ti => Chk (solid ti.k) (K (.ifc T v) [] [])
  | .makeFunc (.func f) first captured => Chk (Nat.beq first.size 0) (evOs t captured.toList fun vs => K (.clo f vs) [] [])
  | .typeAssert x _ T ok => evO t x fun v => lookK Θ T fun ti => assertK T ti ok v fun r => K r [] []
  | .makeSlice T l c => evO t l fun a => evO t c fun b => lookK Θ T fun ti => (match ti.k, a, b with
    | .slice E, .int _ a, .int _ b => lookK Θ E fun ei => (match ei.z, ei.ty with
      | some z, some τ => Chk (decide (0 < ei.sz) && τ.sz == ei.sz && z.cells.all V.pure0) (nzK τ z fun x => Need (0 ≤ a ∧ a = b) (Need (fits ei.nb a.toNat) (K (.ref n) [(n, .row E τ (List.replicate a.toNat x))] [n])))
      | _, _ => False)
    | _, _, _ => False)
  | .slice T x lo hi none => evF t h x fun v => evOpt t lo fun l => evOpt t hi fun r => lookK Θ T fun ti => sliceK Θ ti h n v l r fun q r u => (match q with
    | true => K r u (n :: seeG t h op)
    | false => K r u (seeG t h op))
  | .field T x f => evO t x fun v => lookK Θ T fun ti => (match ti.k, v with
    | .struct fs, .agg cs => nthK fs f fun g => lookK Θ g.1 fun gi => takeK gi cs g.2.1 fun r => K r [] []
    | _, _ => False)
  | .index T x i => evO t x fun v => evO t i fun i => lookK Θ T fun ti => (match ti.k, v, i with
    | .str, .str s, .int _ i => Need (0 ≤ i ∧ i < (s.size : Nat)) (K (.int .u8 ((s.data.toList.getD i.toNat 0).toNat : Nat)) [] [])
    | _, _, _ => False)
  | .extract x i => evO t x fun v => (match v with
    | .tup cs => nthK cs i fun r => K r [] []
    | _ => False)
  | _ => False

/-- what stepK is good for -/
def Steps' (P : Program) (N : Nat) (o : Oper) (t : VT) (h : VH) (K : V → VH → List Nat → Prop) : Prop := ∃ r vu gl, StepOK P N o t h r vu gl ∧ K r vu gl
theorem st0 {m : Bool} {o : Oper} {r : V} {u : HL} {vu : VH} {gl : List Nat} {K : V → VH → List Nat → Prop} (hd : ∀ n, aop P m o.op (toT t) (toH h) n = some (r.toD, u)) (hu : UpdOK h u vu) (hg : ∀ k ∈ seeG t h o.op, k ∈ gl) (hk : K r vu gl) : Steps' P N o t h K := ⟨r, vu, gl, step_mono (step0 hd hu) hg, hk⟩
theorem stN {m : Bool} {o : Oper} {r : V} {u : HL} {vu : VH} {gl : List Nat} {K : V → VH → List Nat → Prop} (hn : ∀ c : Id, n ≤ c.1 → look (toH h) c = none) (hd : aop P m o.op (toT t) (toH h) n = some (r.toD, u)) (hu : UpdOK h u vu) (hg : ∀ k ∈ n :: seeG t h o.op, k ∈ gl) (hk : K r vu gl) : Steps' P N o t h K := ⟨r, vu, gl, step_mono (stepN hn hd hu) hg, hk⟩
theorem seeG_l {op : Op} {l : List Operand} (hl : looks op = true) (ho : op.operands.toList = l) : ∀ k ∈ seeG t h op, k ∈ seeVs t h l := by
  intro k hk
  unfold seeG at hk
  rw [hl] at hk
  rw [ho] at hk
  exact hk
theorem seeG_n {op : Op} (hl : looks op = false) (gl : List Nat) : ∀ k ∈ seeG t h op, k ∈ gl := by
  intro k hk
  unfold seeG at hk
  rw [hl] at hk
  cases hk
end Go.Proofs.Ytkclhekkcffpoaa.Am
