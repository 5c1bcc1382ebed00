/- The plain machine: one rule for each kind of operation. -/
import Derived.Test.YtdecnnhcbjhfgaaAm18
namespace Go.Proofs.Ytdecnnhcbjhfgaa.Am
set_option linter.unusedSimpArgs false
set_option linter.unusedVariables false
open Go Go.RowKit

variable {P : Program} {Γ : Env} {t : List (Nat × D)} {h : List (Nat × Blk)} {n : Nat}

theorem op_move {x : Operand} {d : D} (hx : evalD t x = some d) : aop P Γ (.move x) t h n = some (d, []) := by simp [aop, hx]
theorem op_assign {x : Operand} {d : D} (hx : evalD t x = some d) : aop P Γ (.assign x) t h n = some (d, []) := by simp [aop, hx]
theorem op_pickT {c x y : Operand} {d : D} {p : Bool} (hc : evalD t c = some (.bool p)) (hp : p = true) (hx : evalD t x = some d) : aop P Γ (.pick c x y) t h n = some (d, []) := by simp [aop, hc, hx, hp]
theorem op_pickF {c x y : Operand} {d : D} {p : Bool} (hc : evalD t c = some (.bool p)) (hp : p = false) (hx : evalD t y = some d) : aop P Γ (.pick c x y) t h n = some (d, []) := by simp [aop, hc, hx, hp]
theorem op_pickB {c x y : Operand} {b p q : Bool} (hc : evalD t c = some (.bool b)) (hx : evalD t x = some (.bool p)) (hy : evalD t y = some (.bool q)) : aop P Γ (.pick c x y) t h n = some (.bool (if b then p else q), []) := by
  cases b <;> simp [aop, hc, hx, hy]
theorem op_pickI {c x y : Operand} {b : Bool} {k : IntKind} {p q : Int} (hc : evalD t c = some (.bool b)) (hx : evalD t x = some (.int k p)) (hy : evalD t y = some (.int k q)) : aop P Γ (.pick c x y) t h n = some (.int k (if b then p else q), []) := by
  cases b <;> simp [aop, hc, hx, hy]
theorem op_alloc {T : TypeId} {z : D} {cs : List D} (hz : ofZero P T = some z) (hc : z.cells = cs) : aop P Γ (.alloc T) t h n = some (.ptr n 0, [(n, .var T cs)]) := by simp [aop, hz, hc]
theorem op_box {T : TypeId} {x : Operand} {d : D} {cs : List D} (hx : evalD t x = some d) (hw : d.whole = true) (hc : d.cells = cs) : aop P Γ (.box T x) t h n = some (.ptr n 0, [(n, .var T cs)]) := by simp [aop, hx, hw, hc]
theorem evalPs_nil : evalPs t [] = some [] := by simp [evalPs]
theorem evalPs_cons {k : Nat} {x : Operand} {l : List (Nat × Operand)} {d : D} {ds : List (Nat × D)} (hx : evalD t x = some d) (hl : evalPs t l = some ds) : evalPs t ((k, x) :: l) = some ((k, d) :: ds) := by
  simp only [evalPs] at hl ⊢
  simp [hx, hl]
theorem evalDs_nil : evalDs t [] = some [] := by simp [evalDs]
theorem evalDs_cons {x : Operand} {l : List Operand} {d : D} {ds : List D} (hx : evalD t x = some d) (hl : evalDs t l = some ds) : evalDs t (x :: l) = some (d :: ds) := by
  simp only [evalDs] at hl ⊢
  simp [hx, hl]
theorem dfill_nil {place : Nat → Option (Nat × Nat)} {cs : List D} : dfill place cs [] = some cs := rfl
theorem dfill_cons {place : Nat → Option (Nat × Nat)} {cs cs' r : List D} {i off size : Nat} {d : D} {l : List (Nat × D)} (hp : place i = some (off, size)) (hw : d.whole = true) (hs : d.cells.length = size) (hl : off + size ≤ cs.length) (hc : splice cs off d.cells = cs') (hr : dfill place cs' l = some r) : dfill place cs ((i, d) :: l) = some r := by
  subst hs hc
  simp only [dfill, hp]
  rw [if_pos ⟨hw, by simp, hl⟩]
  exact hr
theorem op_build {T : TypeId} {l : List (Nat × Operand)} {ds : List (Nat × D)} {pl : List (Nat × Nat)} {zs cs : List D} (hp : placesT P T = some pl) (hz : ofZero P T = some (.agg zs)) (hds : evalPs t l = some ds) (hf : dfill (pl[·]?) zs ds = some cs) : aop P Γ (.build T l.toArray) t h n = some (.agg cs, []) := by
  simp [aop, hds, aBuild, hp, hz, hf]
theorem op_buildNil {T E : TypeId} {s b : Nat} (hu : P.underlying T = some (.slice E)) (he : elemT P E = some (s, b)) : aop P Γ (.buildSlice T 0 (List.toArray [])) t h n = some (.ref n, [(n, .row E [])]) := by
  simp [aop, evalPs, aBuildSlice, hu, he, frz]
theorem op_buildSlice {T E : TypeId} {len s b : Nat} {l : List (Nat × Operand)} {ds ds' : List (Nat × D)} {u0 : List (Nat × Blk)} {es : List D} (hu : P.underlying T = some (.slice E)) (he : elemT P E = some (s, b)) (hds : evalPs t l = some ds) (hp : (ds.mapM fun x => (pur h x.2).map fun d => (x.1, d)) = some ds') (hf : frz h (ds.flatMap fun x => ids x.2) = u0)
    (hk : ds'.map (·.1) = List.range' 0 len) (hs : len * s ≤ 16777216) (hes : ds'.map (·.2) = es) (hw : es.all (fun e => wfB s e) = true) : aop P Γ (.buildSlice T len l.toArray) t h n = some (.ref n, u0 ++ [(n, .row E es)]) := by
  subst hf hes
  have h1 : aBuildSlice P n T len ds' = some (.ref n, [(n, .row E (ds'.map (·.2)))]) := by
    unfold aBuildSlice
    simp only [hu, he]
    rw [if_pos ⟨hk, hs, hw⟩]
  simp only [aop, hds, Option.bind_some, hp, h1, Option.map_some]
/-- a load -/
theorem op_loadP {T T' : TypeId} {x : Operand} {b o : Nat} {cs : List D} {d : D} (hx : evalD t x = some (.ptr b o)) (hb : look h b = some (.var T' cs)) (hv : takeVal P T cs o = some d) : aop P Γ (.load T x) t h n = some (d, []) := by
  simp [aop, hx, aLoad, hb, hv]
theorem op_loadE {T E : TypeId} {x : Operand} {b i o : Nat} {l : List D} {e d : D} (hx : evalD t x = some (.eptr b i o)) (hb : look h b = some (.row E l)) (he : l[i]? = some e) (hv : takeVal P T e.cells o = some d) : aop P Γ (.load T x) t h n = some (d, []) := by
  simp [aop, hx, aLoad, hb, hv, he]
theorem op_loadI {T : TypeId} {x : Operand} {o : Nat} {e d : D} (hx : evalD t x = some (.iptr e o)) (hv : takeVal P T e.cells o = some d) : aop P Γ (.load T x) t h n = some (d, []) := by
  simp [aop, hx, aLoad, hv]
theorem op_loadB {T : TypeId} {x : Operand} {cs : List D} {d : D} (hx : evalD t x = some (.box cs)) (hv : takeVal P T cs 0 = some d) : aop P Γ (.load T x) t h n = some (d, []) := by
  simp [aop, hx, aLoad, hv]
theorem take1 {T : TypeId} {cs : List D} {o : Nat} {d : D} (ha : isAggT P T = some false) (hd : cs[o]? = some d) : takeVal P T cs o = some d := by simp [takeVal, ha, hd]
theorem takeA {T : TypeId} {cs cs' : List D} {o s : Nat} (ha : isAggT P T = some true) (hs : sizeT P T = some s) (hl : o + s ≤ cs.length) (hd : (cs.drop o).take s = cs') : takeVal P T cs o = some (.agg cs') := by simp [takeVal, ha, hs, hl, hd]
/-- a store -/
theorem op_storeP {T T' : TypeId} {x y : Operand} {b o : Nat} {cs cs' : List D} {e : D} (hx : evalD t x = some (.ptr b o)) (hy : evalD t y = some e) (hb : look h b = some (.var T' cs)) (hw : e.whole = true) (hs : sizeT P T = some e.cells.length) (hl : o + e.cells.length ≤ cs.length) (h1 : e.cells.all D.one = true) (hc : splice cs o e.cells = cs') :
    aop P Γ (.store T x y) t h n = some (.undef, [(b, .var T' cs')]) := by
  have h1' := h1
  rw [List.all_eq_true] at h1'
  simp only [aop, hx, hy, Option.bind_some, aStore, hb]
  rw [if_pos ⟨hw, hs, hl, h1⟩, hc]
  rfl
/-- of a plain value into a row -/
theorem op_storeE {T E : TypeId} {x y : Operand} {b i o : Nat} {l : List D} {e d : D} (hx : evalD t x = some (.eptr b i o)) (hy : evalD t y = some e) (hb : look h b = some (.row E l)) (hp : pur h e = some e) (hi : ids e = []) (hl : l[i]? = some d) (hs : sizeT P T = some e.cells.length) (hle : o + e.cells.length ≤ d.cells.length) (h1 : e.cells.all D.pure0 = true) :
    aop P Γ (.store T x y) t h n = some (.undef, [(b, .row E (l.set i (withCells d (splice d.cells o e.cells))))]) := by
  simp only [aop, hx, hy, Option.bind_some, aStore, hb, hp, hi, frz, List.filterMap_nil, puts, List.foldl_nil, hl]
  rw [if_pos ⟨hs, hle, h1⟩]
  rfl
theorem op_nilCheck {x : Operand} {d : D} (hx : evalD t x = some d) (hp : isPtr d = true) : aop P Γ (.nilCheck x) t h n = some (d, []) := by simp [aop, hx, hp]
theorem op_bin {op : BinOp} {T yT : TypeId} {x y : Operand} {d e r : D} (hx : evalD t x = some d) (hy : evalD t y = some e) (hr : aBin op d e = some r) : aop P Γ (.binOp op T x y yT) t h n = some (r, []) := by simp [aop, hx, hy, hr]
theorem i64in (n : Int) (h : -9223372036854775808 ≤ n ∧ n ≤ 9223372036854775807) : IntKind.i64.wrap n = n := by rw [IntKind.wrap_i64]; omega
theorem op_add {T yT : TypeId} {x y : Operand} {p q : Int} (hx : evalD t x = some (.int .i64 p)) (hy : evalD t y = some (.int .i64 q)) (hb : -9223372036854775808 ≤ p + q ∧ p + q ≤ 9223372036854775807) : aop P Γ (.binOp .add T x y yT) t h n = some (.int .i64 (p + q), []) :=
  op_bin hx hy (by simp only [aBin, if_true]; rw [i64in _ hb])
theorem op_sub {T yT : TypeId} {x y : Operand} {p q : Int} (hx : evalD t x = some (.int .i64 p)) (hy : evalD t y = some (.int .i64 q)) (hb : -9223372036854775808 ≤ p - q ∧ p - q ≤ 9223372036854775807) : aop P Γ (.binOp .sub T x y yT) t h n = some (.int .i64 (p - q), []) :=
  op_bin hx hy (by simp only [aBin, if_true]; rw [i64in _ hb])
theorem op_mul {T yT : TypeId} {x y : Operand} {p q : Int} (hx : evalD t x = some (.int .i64 p)) (hy : evalD t y = some (.int .i64 q)) (hb : -9223372036854775808 ≤ p * q ∧ p * q ≤ 9223372036854775807) : aop P Γ (.binOp .mul T x y yT) t h n = some (.int .i64 (p * q), []) :=
  op_bin hx hy (by simp only [aBin, if_true]; rw [i64in _ hb])
theorem op_binP {op : BinOp} {T yT E : TypeId} {x y : Operand} {d e r : D} (hx : evalD t x = some d) (hy : evalD t y = some e) (hn : aBin op d e = none) (hu : P.underlying T = some (.pointer E)) (hr : aBinP P op T d e = some r) : aop P Γ (.binOp op T x y yT) t h n = some (r, []) := by simp [aop, hx, hy, hr, hn]
theorem op_binB {op : BinOp} {T yT : TypeId} {x y : Operand} {p q : Bool} {r : D} (hx : evalD t x = some (.bool p)) (hy : evalD t y = some (.bool q)) (hu : P.underlying T = some .bool) (hr : aBoolEq op T P (.bool p) (.bool q) = some r) : aop P Γ (.binOp op T x y yT) t h n = some (r, []) := by
  have h1 : aBin op (.bool p) (.bool q) = none := by cases op <;> rfl
  have h2 : aBinP P op T (.bool p) (.bool q) = none := by simp [aBinP, hu]
  simp [aop, hx, hy, h1, h2, hr]
theorem op_un {op : UnOp} {T : TypeId} {x : Operand} {d r : D} (hx : evalD t x = some d) (hr : aUn op d = some r) : aop P Γ (.unOp op T x) t h n = some (r, []) := by simp [aop, hx, hr]
theorem op_convI {S T : TypeId} {x : Operand} {k k' : IntKind} {m : Int} {z : TypeDesc} (hx : evalD t x = some (.int k' m)) (h1 : P.underlying T = some (.int k)) (h2 : P.underlying S = some z) : aop P Γ (.convert S T x) t h n = some (.int k (k.wrap m), []) := by simp [aop, hx, aConv, h1, h2]
theorem op_conv {S T : TypeId} {x : Operand} {d r : D} (hx : evalD t x = some d) (hr : aConv P h S T d = some r) : aop P Γ (.convert S T x) t h n = some (r, []) := by simp [aop, hx, hr]
theorem op_make {T E : TypeId} {x y : Operand} {k k' : IntKind} {l c : Int} {s b : Nat} {z : D} (hx : evalD t x = some (.int k l)) (hy : evalD t y = some (.int k' c)) (hu : P.underlying T = some (.slice E)) (he : elemT P E = some (s, b)) (hz : ofZero P E = some z) (hw : wfB s z = true) (h0 : 0 ≤ l) (hc : l = c) (hf : fits b l.toNat) :
    aop P Γ (.makeSlice T x y) t h n = some (.ref n, [(n, .row E (List.replicate l.toNat (nzE z)))]) := by
  simp only [aop, hx, hy, Option.bind_some, aMake, hu, he, hz]
  rw [if_pos ⟨h0, hc, hf, hw⟩]
theorem op_field {T : TypeId} {x : Operand} {f : Nat} {cs : List D} {E o : Nat} {r : D} (hx : evalD t x = some (.agg cs)) (hf : fieldP P T f = some (E, o)) (hr : takeVal P E cs o = some r) : aop P Γ (.field T x f) t h n = some (r, []) := by simp [aop, hx, aPart, hf, hr]
theorem op_faP {T : TypeId} {x : Operand} {f b o k : Nat} (hx : evalD t x = some (.ptr b o)) (hf : fieldT P T f = some k) : aop P Γ (.fieldAddr T x f) t h n = some (.ptr b (o + k), []) := by simp [aop, hx, aField, hf]
theorem op_faE {T : TypeId} {x : Operand} {f b j o k : Nat} (hx : evalD t x = some (.eptr b j o)) (hf : fieldT P T f = some k) : aop P Γ (.fieldAddr T x f) t h n = some (.eptr b j (o + k), []) := by simp [aop, hx, aField, hf]
theorem op_faI {T : TypeId} {x : Operand} {f o k : Nat} {e : D} (hx : evalD t x = some (.iptr e o)) (hf : fieldT P T f = some k) : aop P Γ (.fieldAddr T x f) t h n = some (.iptr e (o + k), []) := by simp [aop, hx, aField, hf]
theorem op_faB {T : TypeId} {x : Operand} {f k : Nat} {cs : List D} (hx : evalD t x = some (.box cs)) (hf : fieldT P T f = some k) : aop P Γ (.fieldAddr T x f) t h n = some (.iptr (.agg cs) k, []) := by simp [aop, hx, aField, hf]
/-- an element's address: of a row that is written -/
theorem op_iaR {T E E' : TypeId} {x y : Operand} {b s j : Nat} {k : IntKind} {i : Int} {l : List D} (hx : evalD t x = some (.ref b)) (hy : evalD t y = some (.int k i)) (hu : P.underlying T = some (.slice E)) (hs : sizeT P E = some s) (hb : look h b = some (.row E' l)) (hs' : sizeT P E' = some s) (h0 : 0 ≤ i) (hl : i < l.length) (hj : i.toNat = j) :
    aop P Γ (.indexAddr T x y) t h n = some (.eptr b j 0, []) := by
  simp [aop, hx, hy, aIndexAddr, hu, hs, elems, hb, hs', h0, hl, hj]
/-- of a list -/
def iaOk (h : List (Nat × Blk)) : D → Bool
  | .ref b => (match look h b with | some (.froz _) => true | _ => false)
  | .vref .. => false
  | _ => true
theorem op_iaL {T E : TypeId} {x y : Operand} {s : Nat} {k : IntKind} {i : Int} {d e : D} {l : List D} (hx : evalD t x = some d) (hy : evalD t y = some (.int k i)) (hu : P.underlying T = some (.slice E)) (hs : sizeT P E = some s) (he : elems h d = some l) (hd : iaOk h d = true) (h0 : 0 ≤ i) (hl : i < l.length) (hj : l[i.toNat]? = some e) (hz : e.cells.length = s) :
    aop P Γ (.indexAddr T x y) t h n = some (.iptr e 0, []) := by
  have : aIndexAddr P h T d (.int k i) = some (.iptr e 0) := by
    unfold aIndexAddr
    simp only [hu, hs, he]
    rw [if_pos ⟨h0, hl⟩]
    split
    · rename_i b
      simp only [iaOk] at hd
      split at hd
      · rename_i l' hb
        rw [hb]
        simp [hj, hz]
      · cases hd
    · cases hd
    · simp [hj, hz]
  simp [aop, hx, hy, this]
/-- of an array in a variable -/
theorem op_iaA {T E : TypeId} {x y : Operand} {b o s m j : Nat} {k : IntKind} {i : Int} (hx : evalD t x = some (.ptr b o)) (hy : evalD t y = some (.int k i)) (hu : P.underlying T = some (.array m E)) (hs : sizeT P E = some s) (h0 : 0 ≤ i) (hl : i < m) (hj : o + i.toNat * s = j) :
    aop P Γ (.indexAddr T x y) t h n = some (.ptr b j, []) := by
  subst hj
  simp [aop, hx, hy, aIndexAddr, hu, hs, h0, hl]
theorem op_ia {T : TypeId} {x y : Operand} {d e r : D} (hx : evalD t x = some d) (hy : evalD t y = some e) (hr : aIndexAddr P h T d e = some r) : aop P Γ (.indexAddr T x y) t h n = some (r, []) := by simp [aop, hx, hy, hr]
theorem op_index {T : TypeId} {x y : Operand} {d e r : D} (hx : evalD t x = some d) (hy : evalD t y = some e) (hr : aIndex P T d e = some r) : aop P Γ (.index T x y) t h n = some (r, []) := by simp [aop, hx, hy, hr]
theorem op_extract {x : Operand} {i : Nat} {cs : List D} {r : D} (hx : evalD t x = some (.tup cs)) (hr : cs[i]? = some r) : aop P Γ (.extract x i) t h n = some (r, []) := by simp [aop, hx, aExtract, hr]
theorem op_slice {T : TypeId} {x : Operand} {lo hi : Option Operand} {d : D} {l r : Option D} {z : D × List (Nat × Blk)} (hx : evalD t x = some d) (hl : evalO t lo = some l) (hr : evalO t hi = some r) (hz : aSlice P h T d l r = some z) : aop P Γ (.slice T x lo hi none) t h n = some z := by simp [aop, hx, hl, hr, hz]
theorem op_lenS {T E : TypeId} {x : Operand} {d : D} {l : List D} (hx : evalD t x = some d) (hu : P.underlying T = some (.slice E)) (hl : elems h d = some l) : aop P Γ (.call ⟨.builtin .len, List.toArray [x], List.toArray [T]⟩) t h n = some (.int .i64 l.length, []) := by
  simp [aop, aCallOp, evalDs, hx, aBuiltin, aLen, hu, hl]
theorem op_lenT {T : TypeId} {x : Operand} {s : ByteArray} (hx : evalD t x = some (.str s)) (hu : P.underlying T = some .string) : aop P Γ (.call ⟨.builtin .len, List.toArray [x], List.toArray [T]⟩) t h n = some (.int .i64 s.size, []) := by
  simp [aop, aCallOp, evalDs, hx, aBuiltin, aLen, hu]
theorem op_appR {T E : TypeId} {x y : Operand} {b s bytes : Nat} {e : D} {l ys : List D} (hx : evalD t x = some (.ref b)) (hy : evalD t y = some e) (hu : P.underlying T = some (.slice E)) (he : elemT P E = some (s, bytes)) (hys : elems h e = some ys) (hz : szOr s ys = s) (hb : look h b = some (.row E l)) (hf : fits bytes (l.length + ys.length)) :
    aop P Γ (.call ⟨.builtin .append, List.toArray [x, y], List.toArray [T, T]⟩) t h n = some (.ref n, [(b, .gone), (n, .row E (l ++ ys))]) := by
  simp [aop, aCallOp, evalDs, hx, hy, aBuiltin, aAppend, hu, he, hys, hz, hb, hf]
theorem op_appN {T E : TypeId} {x y : Operand} {s bytes : Nat} {e y0 : D} {ys : List D} (hx : evalD t x = some .nils) (hy : evalD t y = some e) (hu : P.underlying T = some (.slice E)) (he : elemT P E = some (s, bytes)) (hys : elems h e = some (y0 :: ys)) (hz : szOr s (y0 :: ys) = s) (hf : fits bytes (ys.length + 1)) :
    aop P Γ (.call ⟨.builtin .append, List.toArray [x, y], List.toArray [T, T]⟩) t h n = some (.ref n, [(n, .row E (y0 :: ys))]) := by
  simp [aop, aCallOp, evalDs, hx, hy, aBuiltin, aAppend, hu, he, hys, hz, hf]
theorem op_copy {T T' T1 E : TypeId} {x y : Operand} {b o m k : Nat} {e : D} {ys cs cs' : List D} (hx : evalD t x = some (.vref b o m)) (hy : evalD t y = some e) (hu : P.underlying T = some (.slice E)) (hs : sizeT P E = some 1) (he : elems h e = some ys) (hb : look h b = some (.var T1 cs)) (hl : o + min ys.length m ≤ cs.length) (hp : ys.all D.pure0 = true) (hk : min ys.length m = k) (hc : splice cs o (ys.take m) = cs') :
    aop P Γ (.call ⟨.builtin .copy, List.toArray [x, y], List.toArray [T, T']⟩) t h n = some (.int .i64 k, [(b, .var T1 cs')]) := by
  subst hk hc
  have : aCopy P h T (.vref b o m) e = some (.int .i64 (min ys.length m : Nat), [(b, .var T1 (splice cs o (ys.take m)))]) := by
    unfold aCopy
    simp only [hu, hs, he, hb]
    rw [if_pos ⟨hl, hp⟩]
  simp only [aop, aCallOp, evalDs, List.mapM_cons, hx, hy, aBuiltin, Option.bind_eq_bind, Option.bind_some, List.mapM_nil, Option.pure_def, this]
theorem op_sliceP {T E : TypeId} {x : Operand} {b o m s : Nat} {T1 : TypeId} {cs : List D} (hx : evalD t x = some (.ptr b o)) (hu : P.underlying T = some (.array m E)) (hs : sizeT P E = some s) (hb : look h b = some (.var T1 cs)) (hm : m ≤ maxLen) : aop P Γ (.slice T x none none none) t h n = some (.vref b o m, []) := by
  simp [aop, hx, evalO, aSlice, hu, hs, hb, hm]
theorem op_min {x y : Operand} {A : Array TypeId} {k : IntKind} {p q : Int} (hx : evalD t x = some (.int k p)) (hy : evalD t y = some (.int k q)) : aop P Γ (.call ⟨.builtin .min, List.toArray [x, y], A⟩) t h n = some (.int k (if q < p then q else p), []) := by
  simp [aop, aCallOp, evalDs, hx, hy, aBuiltin]
theorem op_max {x y : Operand} {A : Array TypeId} {k : IntKind} {p q : Int} (hx : evalD t x = some (.int k p)) (hy : evalD t y = some (.int k q)) : aop P Γ (.call ⟨.builtin .max, List.toArray [x, y], A⟩) t h n = some (.int k (if p < q then q else p), []) := by
  simp [aop, aCallOp, evalDs, hx, hy, aBuiltin]
/-- a call that gives plain data for plain data -/
theorem op_call {f : FuncId} {F : Fn} {l : List Operand} {A : Array TypeId} {ds : List D} {z : D × List (Nat × Blk)} (hF : look Γ f = some F) (hds : evalDs t l = some ds) (hz : aCall F h n ds = some z) : aop P Γ (.call ⟨.value (.func f), l.toArray, A⟩) t h n = some z := by
  simp [aop, aCallOp, aCallF, hF, hds, hz]
/-- no pointers to variables are given, no blocks come back -/
theorem aCall_pure {F : Fn} {ds ds' : List D} {r : D} (hp : ptrsOf ds = []) (ha : ds.mapM (argOf h []) = some ds') (hF : F ds' [] = some (r, [])) (hm : noMem r = true) (hr : renD (nameOf [] n) r = r) : aCall F h n ds = some (r, []) := by
  unfold aCall
  simp [hp, ha, hF, hm, hr, news]

theorem aCall_mem {F : Fn} {ds ds' : List D} {r r' : D} {hout : List Blk} {u : List (Nat × Blk)} (hp : ptrsOf ds = []) (ha : ds.mapM (argOf h []) = some ds') (hF : F ds' [] = some (r, hout)) (hm : (noMem r && hout.all noMemB) = true) (hr : renD (nameOf [] n) r = r') (hn : news [] n hout = u) : aCall F h n ds = some (r', u) := by
  unfold aCall
  simp only [hp, ha, hF, hm, List.mapM_nil, Option.pure_def]
  simp [hr, hn]
theorem aCall_frz {F : Fn} {ds ds' : List D} {r r' : D} {hout : List Blk} {u u0 : List (Nat × Blk)} (hp : ptrsOf ds = []) (ha : ds.mapM (argOf h []) = some ds') (hF : F ds' [] = some (r, hout)) (hm : (noMem r && hout.all noMemB) = false) (hr : renD (nameOf [] n) r = r') (h0 : frz h (ds.flatMap ids) = u0) (hn : news [] n hout = u) : aCall F h n ds = some (r', u0 ++ u) := by
  unfold aCall
  simp only [hp, ha, hF, hm, List.mapM_nil, Option.pure_def]
  simp [hr, hn, h0]
/-- one variable is handed over, and comes back -/
theorem aCall_ptr {F : Fn} {ds ds' : List D} {b : Nat} {x x' y y' : Blk} {r r' : D} (hp : ptrsOf ds = [b]) (hb : look h b = some x) (hx : purB h x = some x') (ha : ds.mapM (argOf h [b]) = some ds') (hF : F ds' [x'] = some (r, [y])) (hm : (noMem r && noMemB y) = true) (hr : renD (nameOf [b] n) r = r') (hn : renB (nameOf [b] n) y = y') :
    aCall F h n ds = some (r', [(b, y')]) := by
  have hm' : (noMem r && [y].all noMemB) = true := by simpa using hm
  unfold aCall
  simp only [hp, ha, List.mapM_cons, List.mapM_nil, hb, Option.bind_some, hx, Option.bind_eq_bind, Option.pure_def, hF, hm']
  simp [hr, hn, news, nameOf]
end Go.Proofs.Ytdecnnhcbjhfgaa.Am
