/- Steps that write or make memory, with what is known behind them told fact by fact; slices that are read; more quiet operations (natural numbers, bytes). -/
import Derived.Test.YtaccklloepfemaaGreatDoorVStep
namespace Go.Proofs.YtaccklloepfemaaGreatDoor
set_option linter.unusedVariables false
set_option linter.unusedSimpArgs false
open Go Go.RowKit
namespace V

section
variable {A A1 A0 : AH} {b b' : Nat} {o : AObj}
theorem ne_new (wf : A.wf) (h : A.get b = some o) (hn : A.n ≤ b') : b ≠ b' := by have := wf b o h; omega
theorem ne_new' (wf : A.wf) (h : A.get b = some o) (hn : A.n ≤ b') : b' ≠ b := (ne_new wf h hn).symm
theorem none_of (wf0 : A0.wf) (h : A0.n ≤ b) : A0.get b = none := by
  cases q : A0.get b with
  | none => rfl
  | some o => have := wf0 b o q; omega
theorem le_store (le : A0.le A) (wf0 : A0.wf) (hb : A0.get b = none) (hn : A1.n = A.n) (k : ∀ b' o, b' ≠ b → A.get b' = some o → A1.get b' = some o) : A0.le A1 :=
  ⟨by rw [hn]; exact le.n, fun c x g => k c x (by rintro rfl; rw [hb] at g; cases g) (le.get c x g)⟩
theorem Own.le {v : Value} {s : Nat} {xs : List Value} (h : Own A v s xs) (le : A.le A1) : Own A1 v s xs := by
  rcases h with h | ⟨b, n, k, r, rcap, h1, h2, h3⟩
  · exact .inl h
  · exact .inr ⟨b, n, k, r, rcap, h1, le.get _ _ h2, h3⟩
theorem Own.keep {v : Value} {s : Nat} {xs : List Value} (h : Own A v s xs) (k : ∀ b' o, b' ≠ b → A.get b' = some o → A1.get b' = some o) (hb : blk v ≠ some b) : Own A1 v s xs := by
  rcases h with h | ⟨b2, n, kk, r, rcap, h1, h2, h3⟩
  · exact .inl h
  · exact .inr ⟨b2, n, kk, r, rcap, h1, k _ _ (by rintro rfl; rw [h1] at hb; exact hb rfl) h2, h3⟩
end

section
variable {P : Program} {nt : Nat} {e : Env} {A : AH} {d t : Nat} {op : Op} {ty : TypeId} {ps : String} {af : Array Edge} {v u : Value} {dst : Option Nat} {K : Value → AH → Prop} {Kp : List PanicEntry → AH → Prop} {g : Option (Nat × Bool)}

/-- A block is new: what is known of the view behind it. -/
structure NewB (A A1 : AH) (b : Nat) (o : AObj) : Prop where
  wf : A1.wf
  le : A.le A1
  get : A1.get b = some o
  lo : A.n ≤ b
  hi : b < A1.n
  n : A1.n = A.n + 1
theorem newB (wf : A.wf) (o : AObj) : NewB A (A.new o) A.n o := ⟨AH.wf_new wf o, AH.le_new (.refl A) wf o, AH.new_get_same _ _, Nat.le_refl _, Nat.lt_succ_self _, rfl⟩

/-- A block is written: what is known of the view behind it. -/
structure SetB (A A1 : AH) (b : Nat) (o : AObj) : Prop where
  wf : A1.wf
  n : A1.n = A.n
  get : A1.get b = some o
  keep : ∀ b' o', b' ≠ b → A.get b' = some o' → A1.get b' = some o'
theorem setB {o' : AObj} {b : Nat} (wf : A.wf) (h : A.get b = some o') (o : AObj) : SetB A (A.set b o) b o := ⟨AH.wf_set wf (wf _ _ h) o, rfl, AH.set_get_same _ _ _, fun _ _ hne h => by rw [AH.set_get_ne _ _ hne]; exact h⟩

theorem walloc {tt : TypeId} {cs : List Value} {z : Value} (wf : A.wf) (hz : zeroOf P tt = some z) (hc : z.cells = cs.toArray) (h : ∀ A1 b, NewB A A1 b (.row true cs cs.length) → K (.pointer (some ⟨b, 0, none⟩)) A1) :
    opV P e A { dst := dst, op := .alloc tt, type := ty, pos := ps, after := af, guard := g } K Kp := valloc hz hc (h _ _ (newB wf _))
theorem wbox {tt : TypeId} {x : Operand} {cs : List Value} (wf : A.wf) (hx : opd e x = some v) (hc : v.cells = cs.toArray) (h : ∀ A1 b, NewB A A1 b (.row true cs cs.length) → K (.pointer (some ⟨b, 0, none⟩)) A1) :
    opV P e A { dst := dst, op := .box tt x, type := ty, pos := ps, after := af, guard := g } K Kp := vbox hx hc (h _ _ (newB wf _))
theorem wbuildSlice {tt : TypeId} {n : Nat} {pp : Array (Nat × Operand)} {l : List (Nat × Value)} {c : List Value} (wf : A.wf) (hl : partsE e pp.toList = some l) (hb : buildSliceV P tt n l = some c)
    (h : ∀ A1 b, NewB A A1 b (.row true c c.length) → K (.slice (some ⟨b, 0, none⟩) n n) A1) : opV P e A { dst := dst, op := .buildSlice tt n pp, type := ty, pos := ps, after := af, guard := g } K Kp := vbuildSlice hl hb (h _ _ (newB wf _))
theorem wmakeMap {tt : TypeId} (wf : A.wf) (h : ∀ A1 b, NewB A A1 b (.obj true (.map #[] 0)) → K (.map (some b)) A1) : opV P e A { dst := dst, op := .makeMap tt none, type := ty, pos := ps, after := af, guard := g } K Kp := h _ _ (newB wf _)
theorem wstore {tt : TypeId} {x y : Operand} {p : Addr} {b off : Nat} {cs c c' : List Value} {cap : Nat} (wf : A.wf) (hx : opd e x = some (.pointer (some p))) (hp : p = ⟨b, off, none⟩) (hy : opd e y = some v) (hc : v.cells = cs.toArray) (hs : szOf P tt = some cs.length)
    (hg : A.get b = some (.row true c cap)) (hl : off + cs.length ≤ c.length) (ho : oneL cs = true) (hc' : setL c off cs = c') (h : ∀ A1, SetB A A1 b (.row true c' cap) → K undef A1) :
    opV P e A { dst := dst, op := .store tt x y, type := ty, pos := ps, after := af, guard := g } K Kp := by
  subst hp; subst hc'
  exact vstore hx hy hc hs rfl hg hl ho (h _ (setB wf hg _))
theorem wmakeSlice {tt el : TypeId} {x y : Operand} {n k s : Nat} {z : Value} {i : TypeInfo} (wf : A.wf) (hx : opd e x = some (num n)) (hy : opd e y = some (num k)) (hu : P.underlying tt = some (.slice el)) (hs : szOf P el = some s) (hz : zeroOf P el = some z) (hi : P.info? el = some i)
    (hzs : z.cells.size = s) (h0 : 0 < s) (hnk : n ≤ k) (hb : i.bytes * k ≤ 281474976710656) (hk : k < 9223372036854775808)
    (h : ∀ A1 b, NewB A A1 b (.row true (repL z.cells.toList k) (repL z.cells.toList k).length) → K (.slice (some ⟨b, 0, none⟩) n k) A1) : opV P e A { dst := dst, op := .makeSlice tt x y, type := ty, pos := ps, after := af, guard := g } K Kp :=
  vmakeSlice hx hy hu hs hz hi hzs h0 hnk hb hk (h _ _ (newB wf _))
theorem wtoBytes {sr dd el : TypeId} {x : Operand} {s : List UInt8} (wf : A.wf) (hx : opd e x = some (str s)) (hs : P.underlying sr = some .string) (hd : P.underlying dd = some (.slice el)) (hu : P.underlying el = some (.int .u8)) (hl : s.length < 2 ^ 63)
    (h : ∀ A1 b k, NewB A A1 b (.row true (byteCells s) k) → s.length ≤ k → K (.slice (some ⟨b, 0, none⟩) s.length k) A1) : opV P e A { dst := dst, op := .convert sr dd x, type := ty, pos := ps, after := af, guard := g } K Kp :=
  vtoBytes hx hs hd hu hl fun k hk => h _ _ k (newB wf _) hk

theorem Own.slice {v : Value} {s : Nat} {xs : List Value} (h : Own A v s xs) : ∃ base l c, v = .slice base l c ∧ l * s = xs.length := by
  rcases h with ⟨rfl, rfl⟩ | ⟨b, n, k, r, rcap, rfl, _, h3, _⟩
  · exact ⟨_, _, _, rfl, by simp⟩
  · exact ⟨_, _, _, rfl, h3.symm⟩

theorem wappend {x y : Operand} {st xt el : TypeId} {size n : Nat} {z s xv : Value} {dd : TypeDesc} {i : TypeInfo} {xs ys : List Value} (hx : opd e x = some s) (hy : opd e y = some xv)
    (hu : P.underlying st = some (.slice el)) (hs : szOf P el = some size) (hi : P.info? el = some i) (hz : zeroOf P el = some z) (hzs : z.cells.size = size) (h0 : 0 < size) (hxt : P.underlying xt = some dd) (hd : ∀ k, dd ≠ .int k)
    (own : Own A s size xs) (hl : listOf A size xv = some (n, ys)) (hys : ys.length = n * size) (ho : oneL ys = true) (hb : (xs.length + ys.length) * i.bytes ≤ 2 ^ 47) (hb' : xs.length + ys.length < 2 ^ 63)
    (h : ∀ A1 v, Appd A s size (xs ++ ys) v A1 → K v A1) : opV P e A { dst := dst, op := .call { callee := .builtin .append, args := #[x, y], argTypes := #[st, xt] }, type := ty, pos := ps, after := af, guard := g } K Kp := by
  obtain ⟨base, l, c, rfl, hll⟩ := own.slice
  have hle : l + n ≤ xs.length + ys.length := by
    have h1 : l ≤ l * size := Nat.le_mul_of_pos_right _ h0
    have h2 : n ≤ n * size := Nat.le_mul_of_pos_right _ h0
    omega
  exact vappend hx hy hu hs hi hz hzs hxt hd (Nat.le_trans (Nat.mul_le_mul_right _ hle) hb) (by omega) own hl hys ho fun v A1 ha => h A1 v ha
end

/-! ### More quiet operations: natural numbers and bytes -/
section
variable {P : Program} {e : Env} {A : AH} {x y : Operand} {t t' : TypeId} {v : Value} {a b : Nat} {c d : UInt8}
theorem qaddN (h : opd e x = some (num (a : Nat))) (h' : opd e y = some (num (b : Nat))) (hr : a + b ≤ 9223372036854775807) : quietV P e A (.binOp .add t x y t') = some (num ((a + b : Nat) : Int), []) := by
  rw [qadd h h' (by omega)]; simp
theorem qsubN (h : opd e x = some (num (a : Nat))) (h' : opd e y = some (num (b : Nat))) (hr : b ≤ a ∧ a ≤ 9223372036854775807) : quietV P e A (.binOp .sub t x y t') = some (num ((a - b : Nat) : Int), []) := by
  rw [qsub h h' (by omega)]; simp; omega
theorem qmulN (h : opd e x = some (num (a : Nat))) (h' : opd e y = some (num (b : Nat))) (hr : a * b ≤ 9223372036854775807) : quietV P e A (.binOp .mul t x y t') = some (num ((a * b : Nat) : Int), []) := by
  have : ((a * b : Nat) : Int) = (a : Int) * b := Int.natCast_mul a b
  rw [qmul h h' (by rw [← this]; omega)]; simp
theorem qquoN (h : opd e x = some (num (a : Nat))) (h' : opd e y = some (num (b : Nat))) (hr : 1 ≤ b ∧ a ≤ 9223372036854775807) : quietV P e A (.binOp .quo t x y t') = some (num ((a / b : Nat) : Int), []) := by
  rw [qquo h h' (by omega)]; simp
theorem qremN (h : opd e x = some (num (a : Nat))) (h' : opd e y = some (num (b : Nat))) (hr : 1 ≤ b) : quietV P e A (.binOp .rem t x y t') = some (num ((a % b : Nat) : Int), []) := by
  rw [qrem h h' (by omega)]; simp
section
variable {k : IntKind}
theorem qeqlN (h : opd e x = some (.int k (a : Nat))) (h' : opd e y = some (.int k (b : Nat))) : quietV P e A (.binOp .eql t x y t') = some (.bool (decide (a = b)), []) := by
  rw [qeql h h']; simp only [Int.natCast_inj]
theorem qneqN (h : opd e x = some (.int k (a : Nat))) (h' : opd e y = some (.int k (b : Nat))) : quietV P e A (.binOp .neq t x y t') = some (.bool (decide (¬ a = b)), []) := by
  rw [qneq h h']; simp only [Int.natCast_inj]
theorem qlssN (h : opd e x = some (.int k (a : Nat))) (h' : opd e y = some (.int k (b : Nat))) : quietV P e A (.binOp .lss t x y t') = some (.bool (decide (a < b)), []) := by
  rw [qlss h h']; simp only [Int.ofNat_lt]
theorem qleqN (h : opd e x = some (.int k (a : Nat))) (h' : opd e y = some (.int k (b : Nat))) : quietV P e A (.binOp .leq t x y t') = some (.bool (decide (a ≤ b)), []) := by
  rw [qleq h h']; simp only [Int.ofNat_le]
theorem qgtrN (h : opd e x = some (.int k (a : Nat))) (h' : opd e y = some (.int k (b : Nat))) : quietV P e A (.binOp .gtr t x y t') = some (.bool (decide (b < a)), []) := by
  rw [qgtr h h']; simp only [Int.ofNat_lt]
theorem qgeqN (h : opd e x = some (.int k (a : Nat))) (h' : opd e y = some (.int k (b : Nat))) : quietV P e A (.binOp .geq t x y t') = some (.bool (decide (b ≤ a)), []) := by
  rw [qgeq h h']; simp only [Int.ofNat_le]
end
theorem u8_inj : (c.toNat : Int) = (d.toNat : Int) ↔ c = d := by rw [Int.natCast_inj]; exact UInt8.toNat_inj
theorem qeqlB (h : opd e x = some (byt c)) (h' : opd e y = some (byt d)) : quietV P e A (.binOp .eql t x y t') = some (.bool (decide (c = d)), []) := by rw [qeql h h']; simp only [u8_inj]
theorem qneqB (h : opd e x = some (byt c)) (h' : opd e y = some (byt d)) : quietV P e A (.binOp .neq t x y t') = some (.bool (decide (¬ c = d)), []) := by rw [qneq h h']; simp only [u8_inj]
theorem qlssB (h : opd e x = some (byt c)) (h' : opd e y = some (byt d)) : quietV P e A (.binOp .lss t x y t') = some (.bool (decide (c < d)), []) := by rw [qlss h h']; simp only [Int.ofNat_lt, UInt8.lt_iff_toNat_lt]
theorem qleqB (h : opd e x = some (byt c)) (h' : opd e y = some (byt d)) : quietV P e A (.binOp .leq t x y t') = some (.bool (decide (c ≤ d)), []) := by rw [qleq h h']; simp only [Int.ofNat_le, UInt8.le_iff_toNat_le]
theorem qgtrB (h : opd e x = some (byt c)) (h' : opd e y = some (byt d)) : quietV P e A (.binOp .gtr t x y t') = some (.bool (decide (d < c)), []) := by rw [qgtr h h']; simp only [Int.ofNat_lt, UInt8.lt_iff_toNat_lt]
theorem qgeqB (h : opd e x = some (byt c)) (h' : opd e y = some (byt d)) : quietV P e A (.binOp .geq t x y t') = some (.bool (decide (d ≤ c)), []) := by rw [qgeq h h']; simp only [Int.ofNat_le, UInt8.le_iff_toNat_le]
theorem u8_xor (c d : UInt8) : bitV .xor .u8 c.toNat d.toNat = some (byt (c ^^^ d)) := by
  have h1 : ∀ c : UInt8, BitVec.ofInt 8 (c.toNat : Int) = c.toBitVec := fun c => by
    rw [BitVec.ofInt_natCast]
    show BitVec.ofNat 8 c.toBitVec.toNat = _
    simp
  show some (Value.int .u8 (IntKind.u8.wrap ((BitVec.ofInt 8 (c.toNat : Int) ^^^ BitVec.ofInt 8 (d.toNat : Int)).toNat : Int))) = _
  rw [h1, h1]
  have h3 : ((c.toBitVec ^^^ d.toBitVec).toNat : Int) = ((c ^^^ d).toNat : Int) := rfl
  rw [h3, IntWalk.u8_in _ (by have := (c ^^^ d).toNat_lt; omega)]
theorem qxorB (h : opd e x = some (byt c)) (h' : opd e y = some (byt d)) : quietV P e A (.binOp .xor t x y t') = some (byt (c ^^^ d), []) :=
  qint (by decide) (by decide) h h' (u8_xor c d)
theorem qsubB (h : opd e x = some (byt c)) (h' : opd e y = some (byt d)) : quietV P e A (.binOp .sub t x y t') = some (byt (c - d), []) := by
  refine qint (by decide) (by decide) h h' ?_
  refine congrArg (fun z => some (Value.int .u8 z)) ?_
  rw [IntKind.wrap_u8, UInt8.toNat_sub]
  have := c.toNat_lt; have := d.toNat_lt
  omega
theorem qaddB (h : opd e x = some (byt c)) (h' : opd e y = some (byt d)) : quietV P e A (.binOp .add t x y t') = some (byt (c + d), []) := by
  refine qint (by decide) (by decide) h h' ?_
  refine congrArg (fun z => some (Value.int .u8 z)) ?_
  rw [IntKind.wrap_u8, UInt8.toNat_add]
  omega
theorem qconvB {k₀ : IntKind} (hs : P.underlying t = some (.int k₀)) (hd : P.underlying t' = some (.int .i64)) (h : opd e x = some (byt c)) : quietV P e A (.convert t t' x) = some (num ((c.toNat : Nat) : Int), []) :=
  qconvI hs hd h (IntWalk.i64_in _ (by have := c.toNat_lt; omega))
theorem qconv8 {k k₀ : IntKind} (hs : P.underlying t = some (.int k₀)) (hd : P.underlying t' = some (.int .u8)) (h : opd e x = some (.int k (a : Nat))) : quietV P e A (.convert t t' x) = some (byt (UInt8.ofNat a), []) := by
  rw [qconv hs hd h]
  refine congrArg (fun z => some (Value.int .u8 z, [])) ?_
  rw [IntKind.wrap_u8]
  simp
theorem qmaxN {ts : Array TypeId} (h : opd e x = some (num (a : Nat))) (h' : opd e y = some (num (b : Nat))) : quietV P e A (.call { callee := .builtin .max, args := #[x, y], argTypes := ts }) = some (num ((max a b : Nat) : Int), []) := by
  rw [qmax h h']; simp only [Nat.max_def, gt_iff_lt, Int.ofNat_lt]; congr 2; split <;> split <;> simp <;> omega
theorem qminN {ts : Array TypeId} (h : opd e x = some (num (a : Nat))) (h' : opd e y = some (num (b : Nat))) : quietV P e A (.call { callee := .builtin .min, args := #[x, y], argTypes := ts }) = some (num ((min a b : Nat) : Int), []) := by
  rw [qmin h h']; simp only [Nat.min_def, Int.ofNat_lt]; congr 2; split <;> split <;> simp <;> omega
section
variable {s r : List UInt8} {i j : Nat}
theorem qsix {k : IntKind} (hu : P.underlying t = some .string) (h : opd e x = some (str s)) (h' : opd e y = some (.int k (i : Nat))) (hn : i < s.length) : quietV P e A (.index t x y) = some (byt (s.getD i 0), []) := by
  rw [qsindex hu h h' hn]; simp [hn]
theorem qsl {lo hi : Operand} (hu : P.underlying t = some .string) (h : opd e x = some (str s)) (hlo : opd e lo = some (num (i : Nat))) (hhi : opd e hi = some (num (j : Nat))) (hij : i ≤ j ∧ j ≤ s.length) : quietV P e A (.slice t x (some lo) (some hi) none) = some (str ((s.take j).drop i), []) :=
  qsslice hu h (by simp [boundV, hhi]) (by simp [boundV, hlo]) hij.1 hij.2
theorem qslLo {lo : Operand} (hu : P.underlying t = some .string) (h : opd e x = some (str s)) (hlo : opd e lo = some (num (i : Nat))) (hij : i ≤ s.length) : quietV P e A (.slice t x (some lo) none none) = some (str (s.drop i), []) := by
  rw [qsslice (j := s.length) hu h (by simp [boundV]) (by simp [boundV, hlo]) hij (Nat.le_refl _)]; simp
theorem qslHi {hi : Operand} (hu : P.underlying t = some .string) (h : opd e x = some (str s)) (hhi : opd e hi = some (num (j : Nat))) (hij : j ≤ s.length) : quietV P e A (.slice t x none (some hi) none) = some (str (s.take j), []) := by
  rw [qsslice (i := 0) hu h (by simp [boundV, hhi]) (by simp [boundV]) (Nat.zero_le _) hij]; simp
end
/-- A load out of a row whose cells are written out. -/
theorem qloadAt {p : Addr} {b off cap : Nat} {rw : Bool} {c : List Value} (ha : aggOf P t = some false) (h : opd e x = some (.pointer (some p))) (hp : p = ⟨b, off, none⟩) (hg : A.get b = some (.row rw c cap)) (hc : c[off]? = some v) :
    quietV P e A (.load t x) = some (v, [(⟨b, off, none⟩, v)]) := by
  subst hp
  have : A.cell ⟨b, off, none⟩ = some v := by simp [AH.cell, hg, hc]
  rw [qload ha h this]
  simp [Addr.add]
theorem qloadAggAt {p : Addr} {b off cap n : Nat} {rw : Bool} {c cs : List Value} (ha : aggOf P t = some true) (hs : szOf P t = some n) (h : opd e x = some (.pointer (some p))) (hp : p = ⟨b, off, none⟩) (hg : A.get b = some (.row rw c cap)) (hc : cellsL c off n = some cs) :
    quietV P e A (.load t x) = some (.agg cs.toArray, heldOf ⟨b, off, none⟩ 0 cs) := by
  subst hp
  exact qloadAgg ha hs h (by simp [AH.cellsAt, hg, hc])

/-- A slice that is read: its cells. -/
def Slc (A : AH) (size : Nat) (v : Value) (xs : List Value) : Prop :=
  ∃ p n c, v = .slice p n c ∧ xs.length = n * size ∧ n ≤ c ∧ (n = 0 ∨ ∃ b off rw r rcap, p = some ⟨b, off, none⟩ ∧ A.get b = some (.row rw r rcap) ∧ (r.drop off).take (n * size) = xs)
theorem Slc.le {A1 : AH} {size : Nat} {v : Value} {xs : List Value} (h : Slc A size v xs) (le : A.le A1) : Slc A1 size v xs := by
  obtain ⟨p, n, c, h1, h2, h3, h4⟩ := h
  refine ⟨p, n, c, h1, h2, h3, h4.imp id ?_⟩
  rintro ⟨b, off, rw, r, rcap, g1, g2, g3⟩
  exact ⟨b, off, rw, r, rcap, g1, le.get _ _ g2, g3⟩
theorem Own.slc {size : Nat} {v : Value} {xs : List Value} (h : Own A v size xs) : Slc A size v xs := by
  rcases h with ⟨rfl, rfl⟩ | ⟨b, n, k, r, rcap, h1, h2, h3, h4, h5, h6⟩
  · exact ⟨none, 0, 0, rfl, by simp, Nat.le_refl _, .inl rfl⟩
  · exact ⟨_, n, k, h1, h3, h5, .inr ⟨b, 0, true, r, rcap, rfl, h2, by simpa using h4⟩⟩
/-- The length of a slice of cells of one each. -/
theorem qlenS {el : TypeId} {size n : Nat} {xs : List Value} (hu : P.underlying t = some (.slice el)) (h : opd e x = some v) (s : Slc A size v xs) (h0 : 0 < size) (hn : xs.length = n * size) : quietV P e A (.call { callee := .builtin .len, args := #[x], argTypes := #[t] }) = some (num (n : Nat), []) := by
  obtain ⟨p, m, c, rfl, h2, _⟩ := s
  have : m = n := Nat.eq_of_mul_eq_mul_right h0 (h2.symm.trans hn)
  subst this
  exact qlen hu h
/-- The address of an element, and what stands there. -/
theorem Slc.at {size i : Nat} {v : Value} {xs : List Value} (s : Slc A size v xs) (hi : (i + 1) * size ≤ xs.length) (h0 : 0 < size) : ∃ b off rw r rcap n c, v = .slice (some ⟨b, off, none⟩) n c ∧ i < n ∧ A.get b = some (.row rw r rcap) ∧ cellsL r (off + i * size) size = some ((xs.drop (i * size)).take size) ∧ (∀ j, j < size → r[off + i * size + j]? = xs[i * size + j]?) := by
  obtain ⟨p, n, c, rfl, h2, h3, h4⟩ := s
  have hin : i < n := by
    rw [h2] at hi
    exact Nat.lt_of_succ_le (Nat.le_of_mul_le_mul_right hi h0)
  have hmul : (i + 1) * size = i * size + size := by rw [Nat.add_mul, Nat.one_mul]
  rcases h4 with h4 | ⟨b, off, rw, r, rcap, rfl, g2, g3⟩
  · omega
  · have hlen : off + n * size ≤ r.length := by
      have := congrArg List.length g3
      rw [List.length_take, List.length_drop] at this
      have : 0 < n * size := Nat.mul_pos (by omega) h0
      omega
    have hle : i * size + size ≤ n * size := by rw [h2] at hi; omega
    refine ⟨b, off, rw, r, rcap, n, c, rfl, hin, g2, ?_, fun j hj => ?_⟩
    · unfold cellsL
      rw [if_pos (by omega), ← g3]
      congr 1
      rw [List.drop_take, List.take_take, List.drop_drop]
      congr 1
      omega
    · rw [← g3, List.getElem?_take_of_lt (by omega), List.getElem?_drop]
      congr 1
      omega
theorem qindexS {el : TypeId} {b off n c i m : Nat} {k : IntKind} (hu : P.underlying t = some (.slice el)) (hs : szOf P el = some m) (h : opd e x = some v) (hv : v = .slice (some ⟨b, off, none⟩) n c) (h' : opd e y = some (.int k (i : Nat))) (hi : i < n) :
    quietV P e A (.indexAddr t x y) = some (.pointer (some ⟨b, off + i * m, none⟩), []) := by
  subst hv
  rw [qindexAddr hu hs h h' hi, add_off _ _ rfl]
end
/-! ### A slice of the call's own, made since the view A0 -/
structure Fresh (A0 A : AH) (v : Value) (size : Nat) (xs : List Value) : Prop where
  own : Own A v size xs
  lo : ∀ b, blk v = some b → A0.get b = none
section
variable {A0 A A1 : AH} {v v' : Value} {size : Nat} {xs ys : List Value}
theorem Fresh.nil (A0 A : AH) (size : Nat) : Fresh A0 A (.slice none 0 0) size [] := ⟨.inl ⟨rfl, rfl⟩, fun _ h => by cases h⟩
theorem Fresh.app (h : Fresh A0 A v size xs) (le : A0.le A) (wf0 : A0.wf) (ap : Appd A v size (xs ++ ys) v' A1) : Fresh A0 A1 v' size (xs ++ ys) ∧ A0.le A1 :=
  ⟨⟨ap.own, fun b hb => (ap.blk b hb).elim (h.lo b) fun q => none_of wf0 (Nat.le_trans le.n q)⟩, ⟨Nat.le_trans le.n ap.n, fun b o g => ap.get b o (le.get b o g) fun q => by rw [h.lo b q] at g; cases g⟩⟩
theorem Fresh.le (h : Fresh A0 A v size xs) (le : A.le A1) : Fresh A0 A1 v size xs := ⟨h.own.le le, h.lo⟩
theorem Fresh.ne {b : Nat} {o : AObj} (h : Fresh A0 A v size xs) (wf0 : A0.wf) (g : A0.get b = some o) : blk v ≠ some b := fun q => by rw [h.lo b q] at g; cases g
theorem Fresh.slc (h : Fresh A0 A v size xs) : Slc A size v xs := h.own.slc
/-- The last elements are let go. -/
theorem Own.take {n k : Nat} {p : Option Addr} {c : Nat} (h : Own A (.slice p n c) size xs) (hk : k ≤ n) : Own A (.slice p k c) size (xs.take (k * size)) := by
  rcases h with ⟨h1, rfl⟩ | ⟨b, n', k', r, rcap, h1, h2, h3, h4, h5, h6⟩
  · cases h1; have : k = 0 := by omega
    subst this; exact .inl ⟨rfl, by simp⟩
  · cases h1
    have hm := Nat.mul_le_mul_right size hk
    refine .inr ⟨b, k, c, r, rcap, rfl, h2, by rw [List.length_take]; omega, ?_, by omega, h6⟩
    rw [← h4, List.take_take, Nat.min_eq_left hm]
theorem Fresh.take {n k : Nat} {p : Option Addr} {c : Nat} (h : Fresh A0 A (.slice p n c) size xs) (hk : k ≤ n) : Fresh A0 A (.slice p k c) size (xs.take (k * size)) :=
  ⟨h.own.take hk, fun b hb => h.lo b (by cases p <;> exact hb)⟩
theorem Fresh.nonnil (h : Fresh A0 A v size xs) (hx : xs ≠ []) : ∃ b n c, v = .slice (some ⟨b, 0, none⟩) n c ∧ n * size = xs.length ∧ n ≤ c := by
  rcases h.own with ⟨_, rfl⟩ | ⟨b, n, k, r, rcap, h1, h2, h3, h4, h5, h6⟩
  · exact absurd rfl hx
  · exact ⟨b, n, k, h1, h3.symm, h5⟩
theorem listOf_row {b n c : Nat} {rw : Bool} {r ys : List Value} {cap : Nat} (h : A.get b = some (.row rw r cap)) (hr : cellsL r 0 (n * size) = some ys) : listOf A size (.slice (some ⟨b, 0, none⟩) n c) = some (n, ys) := by
  simp only [listOf, AH.cellsAt, h, hr]
  split
  · rename_i q; rw [q] at hr; simp [cellsL] at hr; rw [hr]
  · rfl
theorem Slc.listOf {n : Nat} (s : Slc A size v xs) (hn : xs.length = n * size) (h0 : 0 < size) : listOf A size v = some (n, xs) := by
  obtain ⟨p, m, c, rfl, h2, _, h4⟩ := s
  have : m = n := Nat.eq_of_mul_eq_mul_right h0 (h2.symm.trans hn)
  subst this
  rcases h4 with rfl | ⟨b, off, rw, r, rcap, rfl, g2, g3⟩
  · have : xs = [] := List.length_eq_zero_iff.1 (by rw [h2]; simp)
    subst this
    cases p with
    | none => rfl
    | some a => simp [V.listOf]
  · have hlen : m * size ≤ (r.drop off).length := by
      have := congrArg List.length g3
      rw [List.length_take] at this; omega
    rw [List.length_drop] at hlen
    by_cases hm : m * size = 0
    · have : xs = [] := List.length_eq_zero_iff.1 (by rw [h2]; exact hm)
      subst this; simp [V.listOf, hm]
    · have : off + m * size ≤ r.length := by omega
      simp [V.listOf, AH.cellsAt, g2, cellsL, hm, this, g3]
end
/-- A row of a call's own is written: what is known of the slice over it, and of what stood before. -/
theorem Fresh.set {A0 A A1 : AH} {b n c i : Nat} {xs : List Value} {r : List Value} {rcap : Nat} {u : Value} (h : Fresh A0 A (.slice (some ⟨b, 0, none⟩) n c) 1 xs) (g : A.get b = some (.row true r rcap)) (hi : i < n) (sb : SetB A A1 b (.row true (r.set i u) rcap)) (le : A0.le A) (wf0 : A0.wf) :
    Fresh A0 A1 (.slice (some ⟨b, 0, none⟩) n c) 1 (xs.set i u) ∧ A0.le A1 := by
  refine ⟨⟨?_, h.lo⟩, le_store le wf0 (h.lo b rfl) sb.n sb.keep⟩
  rcases h.own with ⟨q, _⟩ | ⟨b', n', k, r', rcap', h1, h2, h3, h4, h5, h6⟩
  · cases q
  · cases h1
    rw [g] at h2; cases h2
    refine .inr ⟨b, n, c, r.set i u, rcap, rfl, sb.get, by simpa using h3, ?_, h5, h6⟩
    rw [List.take_set, h4]
theorem Fresh.row {A0 A : AH} {b n c : Nat} {xs : List Value} {size : Nat} (h : Fresh A0 A (.slice (some ⟨b, 0, none⟩) n c) size xs) : ∃ r rcap, A.get b = some (.row true r rcap) ∧ r.take (n * size) = xs ∧ xs.length = n * size := by
  rcases h.own with ⟨q, _⟩ | ⟨b', n', k, r', rcap', h1, h2, h3, h4, h5, h6⟩
  · cases q
  · cases h1; exact ⟨r', rcap', h2, h4, h3⟩
/-- The cells of strings. -/
def strs (l : List (List UInt8)) : List Value := l.map str
theorem strs_length (l : List (List UInt8)) : (strs l).length = l.length := by simp [strs]
theorem strs_get {l : List (List UInt8)} {i : Nat} (h : i < l.length) : (strs l)[i]? = some (str (l.getD i [])) := by simp [strs, h]
theorem bytes_length (l : List UInt8) : (byteCells l).length = l.length := by simp [byteCells]
theorem bytes_get {l : List UInt8} {i : Nat} (h : i < l.length) : (byteCells l)[i]? = some (byt (l.getD i 0)) := by simp [byteCells, h]
theorem bytes_append (a b : List UInt8) : byteCells a ++ byteCells b = byteCells (a ++ b) := by simp [byteCells]
theorem bytes_take (a : List UInt8) (n : Nat) : (byteCells a).take n = byteCells (a.take n) := by simp [byteCells, List.map_take]
theorem bytes_set (a : List UInt8) (n : Nat) (c : UInt8) : (byteCells a).set n (byt c) = byteCells (a.set n c) := by simp [byteCells, List.map_set]
theorem bytes_one (l : List UInt8) : oneL (byteCells l) = true := by simp [oneL, byteCells, Value.oneCell']
theorem strs_one (l : List (List UInt8)) : oneL (strs l) = true := by simp [oneL, strs, Value.oneCell']

section
variable {P : Program} {e : Env} {A A0 A1 : AH} {x y : Operand} {t t' : TypeId} {v v' u : Value} {size : Nat} {xs ys : List Value}
/-- x[:j] of a slice. -/
theorem qsliceHi {p : Option Addr} {el : TypeId} {n len cap j : Nat} {hi : Operand} (hu : P.underlying t = some (.slice el)) (hs : szOf P el = some n) (h : opd e x = some (.slice p len cap)) (hhi : opd e hi = some (num (j : Nat))) (hj : j ≤ len ∧ len ≤ cap) :
    quietV P e A (.slice t x none (some hi) none) = some (.slice p j cap, []) := by
  have h1 : (0 : Int) ≤ 0 ∧ (0 : Int) ≤ j ∧ (j : Int) ≤ cap ∧ len ≤ cap := ⟨by omega, by omega, by omega, hj.2⟩
  have h2 : ∀ q : Addr, q.add 0 = q := fun q => by simp [Addr.add]
  simp [quietV, pureOp, h, sliceV, hu, hs, boundV, hhi]
  refine ⟨by omega, ?_⟩
  cases p <;> simp [h2]
theorem Own.ne_new {b : Nat} (h : Own A v size xs) (wf : A.wf) (hb : A.n ≤ b) : blk v ≠ some b := by
  rcases h with ⟨rfl, _⟩ | ⟨b', n, k, r, rcap, rfl, h2, _⟩
  · intro q; cases q
  · intro q; simp only [V.blk, Option.some.injEq] at q; subst q; have := wf _ _ h2; omega
theorem Appd.ne {b : Nat} {o : AObj} (ap : Appd A v size xs v' A1) (h : V.blk v ≠ some b) (wf : A.wf) (g : A.get b = some o) : V.blk v' ≠ some b := fun q => by
  rcases ap.blk b q with q | q
  · exact h q
  · have := wf _ _ g; omega
theorem Appd.keep {b : Nat} {o : AObj} (ap : Appd A v size xs v' A1) (h : V.blk v ≠ some b) (g : A.get b = some o) : A1.get b = some o := ap.get b o g h
theorem Slc.keep {b : Nat} (h : Slc A size v xs) (k : ∀ b' o, b' ≠ b → A.get b' = some o → A1.get b' = some o) (hb : V.blk v ≠ some b) : Slc A1 size v xs := by
  obtain ⟨p, n, c, rfl, h2, h3, h4⟩ := h
  refine ⟨p, n, c, rfl, h2, h3, h4.imp id ?_⟩
  rintro ⟨b', off, rw, r, rcap, rfl, g2, g3⟩
  exact ⟨b', off, rw, r, rcap, rfl, k _ _ (by rintro rfl; exact hb rfl) g2, g3⟩
theorem Fresh.keep {b : Nat} (h : Fresh A0 A v size xs) (k : ∀ b' o, b' ≠ b → A.get b' = some o → A1.get b' = some o) (hb : blk v ≠ some b) : Fresh A0 A1 v size xs := ⟨h.own.keep k hb, h.lo⟩
theorem wtoString {sr dd el : TypeId} {s : List UInt8} {K : Value → AH → Prop} {Kp : List PanicEntry → AH → Prop} {g : Option (Nat × Bool)} {dst : Option Nat} {ty : TypeId} {ps : String} {af : Array Edge} (hx : opd e x = some v) (hs : P.underlying sr = some (.slice el)) (hd : P.underlying dd = some .string) (hu : P.underlying el = some (.int .u8))
    (hl : Slc A 1 v (byteCells s)) (h : K (str s) A) : opV P e A { dst := dst, op := .convert sr dd x, type := ty, pos := ps, after := af, guard := g } K Kp := by
  have h2 := hl.listOf (n := s.length) (by simp [byteCells]) (by omega)
  obtain ⟨p, m, c, rfl, h3, _⟩ := hl
  have : m = s.length := by simpa [byteCells] using h3.symm
  subst this
  exact vtoString hx hs hd hu h2 h
theorem repL_one (z : Value) (n : Nat) : repL [z] n = List.replicate n z := by
  induction n with
  | zero => rfl
  | succ n ih => simp [repL, ih, List.replicate_succ]
/-- make of a slice of cells of one each. -/
theorem wmake1 {tt el : TypeId} {n k : Nat} {z : Value} {i : TypeInfo} {K : Value → AH → Prop} {Kp : List PanicEntry → AH → Prop} {g : Option (Nat × Bool)} {dst : Option Nat} {ty : TypeId} {ps : String} {af : Array Edge} (wf : A.wf) (le : A0.le A) (hx : opd e x = some (num (n : Nat))) (hy : opd e y = some (num (k : Nat))) (hu : P.underlying tt = some (.slice el)) (hs : szOf P el = some 1) (hz : zeroOf P el = some z) (hi : P.info? el = some i)
    (hzs : z.cells = #[z]) (hnk : n ≤ k) (hb : i.bytes * k ≤ 281474976710656) (hk : k < 9223372036854775808)
    (h : ∀ A1 b, NewB A A1 b (.row true (List.replicate k z) k) → Fresh A0 A1 (.slice (some ⟨b, 0, none⟩) n k) 1 (List.replicate n z) → K (.slice (some ⟨b, 0, none⟩) n k) A1) : opV P e A { dst := dst, op := .makeSlice tt x y, type := ty, pos := ps, after := af, guard := g } K Kp := by
  refine wmakeSlice wf hx hy hu hs hz hi (by rw [hzs]; rfl) (by omega) hnk hb hk fun A1 b nb => ?_
  have e1 : z.cells.toList = [z] := by rw [hzs]
  rw [e1, repL_one, List.length_replicate] at nb
  refine h A1 b nb ⟨.inr ⟨b, n, k, _, _, rfl, nb.get, by simp, ?_, hnk, by omega⟩, fun b' hb' => ?_⟩
  · rw [List.take_replicate]; congr 1; omega
  · cases hb'
    cases q : A0.get b with
    | none => rfl
    | some o => have := le.get _ _ q; have := wf _ _ this; have := nb.lo; omega
theorem bytes_replicate (n : Nat) : List.replicate n (.int .u8 0) = byteCells (List.replicate n 0) := by simp [byteCells]
theorem qindexBy {l : List UInt8} {i len : Nat} {el : TypeId} {k : IntKind} (hu : P.underlying t = some (.array len el)) (hs : szOf P el = some 1) (ha : aggOf P el = some false) (h : opd e x = some (.agg (byteCells l).toArray)) (h' : opd e y = some (.int k (i : Nat))) (hi : i < len) (hl : l.length = len) :
    quietV P e A (.index t x y) = some (byt (l.getD i 0), []) := by
  refine qindexV hu hs h h' hi ?_
  have : i < l.length := by omega
  simp [partV, ha, byteCells, this]
end

/-! ### Entering a function, and leaving it -/
theorem enterA {P : Program} {g : FuncId} {fn : Func} {c : Code} {rs : Array ResultVar} {nt : Nat} {args : List Value} {a : Array Value} {e : Env} {A : AH} {R : Value → AH → Prop} (he : Enters P g) (hf : P.funcs[g]? = some fn) (hb : fn.body = some c)
    (hr : fn.results = rs) (hnt : fn.ntmps = nt) (ha : args.toArray = a) (hn : Nat.ble args.length nt = true) (hE : argE args 0 = e) (h : A.wf → Run P nt c (bodyQ P rs.toList fun en A' => ∃ v, en = .returned v ∧ R v A') ⟨e, []⟩ A) : RetA P g a A R := by
  subst hr; subst hnt; subst ha; subst hE
  exact CallsA.enter he hf hb (Nat.le_of_ble_eq_true hn) h
theorem retQ {P : Program} {rs : List ResultVar} {R : Value → AH → Prop} {e : Env} {A : AH} {vs : List Value} (hr : resV P e A rs = some vs) (h : R (oneV vs) A) : bodyQ P rs (fun en A' => ∃ v, en = .returned v ∧ R v A') .ret ⟨e, []⟩ A :=
  ⟨rfl, vs, hr, _, rfl, h⟩
theorem retQn {P : Program} {rs : List ResultVar} {R : Value → AH → Prop} {e : Env} {A : AH} {vs : List Value} (hr : resV P e A rs = some vs) (h : R (oneV vs) A) : bodyQ P rs (fun en A' => ∃ v, en = .returned v ∧ R v A') .normal ⟨e, []⟩ A :=
  ⟨rfl, vs, hr, _, rfl, h⟩
theorem qnotP {P : Program} {e : Env} {A : AH} {x : Operand} {t : TypeId} {p : Prop} [Decidable p] (h : opd e x = some (.bool (decide p))) : quietV P e A (.unOp .not t x) = some (.bool (decide (¬ p)), []) := by
  rw [qnot h]; simp
theorem elt0 {r xs : List Value} {o : Nat} {i : Nat} (h : ∀ j, j < 1 → r[o + i * 1 + j]? = xs[i * 1 + j]?) : r[o + i * 1]? = xs[i]? := by
  have := h 0 (by omega); simpa using this
end V
end Go.Proofs.YtaccklloepfemaaGreatDoor
