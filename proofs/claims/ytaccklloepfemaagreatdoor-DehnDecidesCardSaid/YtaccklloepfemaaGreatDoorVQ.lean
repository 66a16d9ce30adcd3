/- The quiet operations one by one, in the forms in which a proof meets them; one step of a region; strings as lists of bytes. -/
import Derived.Test.YtaccklloepfemaaGreatDoorVRules
import Derived.IntWalk
namespace Go.Proofs.YtaccklloepfemaaGreatDoor
set_option linter.unusedVariables false
set_option linter.unusedSimpArgs false
open Go Go.RowKit
namespace V

/-- A string out of its bytes. -/
def bs (l : List UInt8) : ByteArray := ⟨⟨l⟩⟩
abbrev str (l : List UInt8) : Value := .string (bs l)
abbrev num (n : Int) : Value := .int .i64 n
/-- A byte as a value. -/
abbrev byt (b : UInt8) : Value := .int .u8 b.toNat
theorem bs_size (l : List UInt8) : (bs l).size = l.length := rfl
theorem bs_data (l : List UInt8) : (bs l).data.toList = l := rfl
theorem bs_of (s : ByteArray) : bs s.data.toList = s := rfl
theorem bs_append (a b : List UInt8) : bs a ++ bs b = bs (a ++ b) := by
  have : (bs a ++ bs b).data = (bs a).data ++ (bs b).data := by simp
  cases h : bs a ++ bs b with
  | mk d => rw [h] at this; simp only at this; subst this; simp [bs]
theorem bs_inj {a b : List UInt8} : bs a = bs b ↔ a = b := by
  constructor
  · intro h; have := congrArg (fun s : ByteArray => s.data.toList) h; simpa [bs_data] using this
  · rintro rfl; rfl
theorem bs_extract (l : List UInt8) (i j : Nat) : (bs l).extract i j = bs ((l.take j).drop i) := by
  have : ((bs l).extract i j).data = (bs l).data.extract i j := by simp
  cases h : (bs l).extract i j with
  | mk d =>
    rw [h] at this; simp only at this; subst this
    simp only [bs, ByteArray.mk.injEq]
    apply Array.ext'
    simp [List.drop_take]

section
variable {P : Program} {e : Env} {A : AH} {x y z : Operand} {t t' : TypeId} {v : Value} {a b : Int}

theorem qmove (h : opd e x = some v) : quietV P e A (.move x) = some (v, []) := by simp [quietV, pureOp, h]
theorem qassign (h : opd e x = some v) : quietV P e A (.assign x) = some (v, []) := by simp [quietV, pureOp, h]
theorem qpickT (h : opd e x = some (.bool true)) (hy : opd e y = some v) : quietV P e A (.pick x y z) = some (v, []) := by simp [quietV, pureOp, h, hy]
theorem qpickF (h : opd e x = some (.bool false)) (hz : opd e z = some v) : quietV P e A (.pick x y z) = some (v, []) := by simp [quietV, pureOp, h, hz]
theorem qnil {p : Addr} (h : opd e x = some (.pointer (some p))) : quietV P e A (.nilCheck x) = some (.pointer (some p), []) := by simp [quietV, pureOp, h]
theorem qnilF {g : FuncId} {u c : Array Value} (h : opd e x = some (.func (.func g) u c)) : quietV P e A (.nilCheck x) = some (.func (.func g) u c, []) := by simp [quietV, pureOp, h]

theorem i64in {n : Int} (h : -9223372036854775808 ≤ n ∧ n ≤ 9223372036854775807) : IntKind.i64.wrap n = n := IntWalk.i64_in n h

theorem qadd (h : opd e x = some (num a)) (h' : opd e y = some (num b)) (hr : -9223372036854775808 ≤ a + b ∧ a + b ≤ 9223372036854775807) :
    quietV P e A (.binOp .add t x y t') = some (num (a + b), []) := by simp [quietV, pureOp, h, h', binV, intV, i64in hr]
theorem qsub (h : opd e x = some (num a)) (h' : opd e y = some (num b)) (hr : -9223372036854775808 ≤ a - b ∧ a - b ≤ 9223372036854775807) :
    quietV P e A (.binOp .sub t x y t') = some (num (a - b), []) := by simp [quietV, pureOp, h, h', binV, intV, i64in hr]
theorem qmul (h : opd e x = some (num a)) (h' : opd e y = some (num b)) (hr : -9223372036854775808 ≤ a * b ∧ a * b ≤ 9223372036854775807) :
    quietV P e A (.binOp .mul t x y t') = some (num (a * b), []) := by simp [quietV, pureOp, h, h', binV, intV, i64in hr]
theorem qquo (h : opd e x = some (num a)) (h' : opd e y = some (num b)) (hr : 0 ≤ a ∧ a ≤ 9223372036854775807 ∧ 1 ≤ b) :
    quietV P e A (.binOp .quo t x y t') = some (num (a / b), []) := by
  have hb : ¬ b = 0 := by omega
  simp [quietV, pureOp, h, h', binV, intV, hb, IntWalk.i64_quo a b hr]
theorem qrem (h : opd e x = some (num a)) (h' : opd e y = some (num b)) (hr : 0 ≤ a ∧ 1 ≤ b) :
    quietV P e A (.binOp .rem t x y t') = some (num (a % b), []) := by
  have hb : ¬ b = 0 := by omega
  simp [quietV, pureOp, h, h', binV, intV, hb, IntWalk.rem_in a b hr.1]
/-- Arithmetic of whatever kind, as it comes. -/
theorem qint {k : IntKind} {op : BinOp} (hs : op ≠ .shl) (hr : op ≠ .shr) (h : opd e x = some (.int k a)) (h' : opd e y = some (.int k b)) (hv : intV op k a b = some v) :
    quietV P e A (.binOp op t x y t') = some (v, []) := by
  cases op <;> first | exact absurd rfl hs | exact absurd rfl hr | simp [quietV, pureOp, h, h', binV, hv]
theorem qshift {k k' : IntKind} {op : BinOp} (ho : op = .shl ∨ op = .shr) (h : opd e x = some (.int k a)) (h' : opd e y = some (.int k' b)) (hv : shiftV op k a b = some v) :
    quietV P e A (.binOp op t x y t') = some (v, []) := by
  rcases ho with rfl | rfl <;> simp [quietV, pureOp, h, h', binV, hv]
section
variable {k : IntKind}
theorem qeql (h : opd e x = some (.int k a)) (h' : opd e y = some (.int k b)) : quietV P e A (.binOp .eql t x y t') = some (.bool (decide (a = b)), []) := by simp [quietV, pureOp, h, h', binV, intV]
theorem qneq (h : opd e x = some (.int k a)) (h' : opd e y = some (.int k b)) : quietV P e A (.binOp .neq t x y t') = some (.bool (decide (¬ a = b)), []) := by simp [quietV, pureOp, h, h', binV, intV]
theorem qlss (h : opd e x = some (.int k a)) (h' : opd e y = some (.int k b)) : quietV P e A (.binOp .lss t x y t') = some (.bool (decide (a < b)), []) := by simp [quietV, pureOp, h, h', binV, intV]
theorem qleq (h : opd e x = some (.int k a)) (h' : opd e y = some (.int k b)) : quietV P e A (.binOp .leq t x y t') = some (.bool (decide (a ≤ b)), []) := by simp [quietV, pureOp, h, h', binV, intV]
theorem qgtr (h : opd e x = some (.int k a)) (h' : opd e y = some (.int k b)) : quietV P e A (.binOp .gtr t x y t') = some (.bool (decide (b < a)), []) := by simp [quietV, pureOp, h, h', binV, intV]
theorem qgeq (h : opd e x = some (.int k a)) (h' : opd e y = some (.int k b)) : quietV P e A (.binOp .geq t x y t') = some (.bool (decide (b ≤ a)), []) := by simp [quietV, pureOp, h, h', binV, intV]
end
section
variable {s r : List UInt8}
theorem qsadd (h : opd e x = some (str s)) (h' : opd e y = some (str r)) (hr : s.length + r.length < 9223372036854775808) : quietV P e A (.binOp .add t x y t') = some (str (s ++ r), []) := by
  have : (bs s).size + (bs r).size < 2 ^ 63 := hr
  simp [quietV, pureOp, h, h', binV, strV, this, bs_append]
theorem qseql (h : opd e x = some (str s)) (h' : opd e y = some (str r)) : quietV P e A (.binOp .eql t x y t') = some (.bool (decide (s = r)), []) := by simp [quietV, pureOp, h, h', binV, strV, bs_inj]
theorem qsneq (h : opd e x = some (str s)) (h' : opd e y = some (str r)) : quietV P e A (.binOp .neq t x y t') = some (.bool (decide (¬ s = r)), []) := by simp [quietV, pureOp, h, h', binV, strV, bs_inj]
theorem qslss (h : opd e x = some (str s)) (h' : opd e y = some (str r)) : quietV P e A (.binOp .lss t x y t') = some (.bool (Op.bytesLess s r), []) := by simp [quietV, pureOp, h, h', binV, strV, bs_data]
theorem qsgtr (h : opd e x = some (str s)) (h' : opd e y = some (str r)) : quietV P e A (.binOp .gtr t x y t') = some (.bool (!(Op.bytesLess s r || decide (s = r))), []) := by simp [quietV, pureOp, h, h', binV, strV, bs_data, bs_inj]
theorem qsindex {k : IntKind} {n : Nat} (hu : P.underlying t = some .string) (h : opd e x = some (str s)) (h' : opd e y = some (.int k n)) (hn : n < s.length) : quietV P e A (.index t x y) = some (byt s[n], []) := by
  simp [quietV, pureOp, h, h', indexV, hu, bs, hn]
  exact hn
theorem qslen (hu : P.underlying t = some .string) (h : opd e x = some (str s)) : quietV P e A (.call { callee := .builtin .len, args := #[x], argTypes := #[t] }) = some (num s.length, []) := by
  simp [quietV, allV, h, lenV, hu, bs_size]
theorem qsslice {lo hi : Option Operand} {i j : Nat} (hu : P.underlying t = some .string) (h : opd e x = some (str s)) (hi' : boundV (hi.map (opd e)) s.length = some (j : Int)) (hlo : boundV (lo.map (opd e)) 0 = some (i : Int)) (hij : i ≤ j) (hj : j ≤ s.length) :
    quietV P e A (.slice t x lo hi none) = some (str ((s.take j).drop i), []) := by
  have h1 : (0 : Int) ≤ i ∧ (i : Int) ≤ j ∧ (j : Int) ≤ ((bs s).size : Nat) := ⟨by omega, by omega, by rw [bs_size]; omega⟩
  have hi'' : boundV (hi.map (opd e)) (bs s).size = some (j : Int) := hi'
  simp [quietV, pureOp, h, sliceV, hu, hi'', hlo, hij, bs_extract]
  rw [bs_size]; omega
end
theorem qbeql {p q : Bool} (hu : P.underlying t = some .bool) (h : opd e x = some (.bool p)) (h' : opd e y = some (.bool q)) : quietV P e A (.binOp .eql t x y t') = some (.bool (p == q), []) := by simp [quietV, pureOp, h, h', binV, eqV, hu]
theorem qbneq {p q : Bool} (hu : P.underlying t = some .bool) (h : opd e x = some (.bool p)) (h' : opd e y = some (.bool q)) : quietV P e A (.binOp .neq t x y t') = some (.bool (!(p == q)), []) := by simp [quietV, pureOp, h, h', binV, eqV, hu]
/-- Two values, one of them nil. -/
theorem qeqv {u v : Value} {q : Bool} (h : opd e x = some u) (h' : opd e y = some v) (hu : ∀ k n, u ≠ .int k n) (hu' : ∀ s, u ≠ .string s) (hv : eqV P t u v = some q) : quietV P e A (.binOp .eql t x y t') = some (.bool q, []) := by
  simp only [quietV, pureOp, h, h']
  cases u <;> first | exact absurd rfl (hu _ _) | exact absurd rfl (hu' _) | simp [binV, hv]
theorem qnev {u v : Value} {q : Bool} (h : opd e x = some u) (h' : opd e y = some v) (hu : ∀ k n, u ≠ .int k n) (hu' : ∀ s, u ≠ .string s) (hv : eqV P t u v = some q) : quietV P e A (.binOp .neq t x y t') = some (.bool (!q), []) := by
  simp only [quietV, pureOp, h, h']
  cases u <;> first | exact absurd rfl (hu _ _) | exact absurd rfl (hu' _) | simp [binV, hv]
theorem qnot {p : Bool} (h : opd e x = some (.bool p)) : quietV P e A (.unOp .not t x) = some (.bool (!p), []) := by simp [quietV, pureOp, h, unV]
theorem qneg {k : IntKind} (h : opd e x = some (.int k a)) : quietV P e A (.unOp .neg t x) = some (.int k (k.wrap (0 - a)), []) := by simp [quietV, pureOp, h, unV]
theorem qconv {k k' k₀ : IntKind} (hs : P.underlying t = some (.int k₀)) (hd : P.underlying t' = some (.int k)) (h : opd e x = some (.int k' a)) : quietV P e A (.convert t t' x) = some (.int k (k.wrap a), []) := by simp [quietV, pureOp, h, convV, hs, hd]
/-- A byte as an int, or an int as the int that it is. -/
theorem qconvI {k k' k₀ : IntKind} (hs : P.underlying t = some (.int k₀)) (hd : P.underlying t' = some (.int k)) (h : opd e x = some (.int k' a)) (hr : k.wrap a = a) : quietV P e A (.convert t t' x) = some (.int k a, []) := by simp [quietV, pureOp, h, convV, hs, hd, hr]
theorem qconvS {s : ByteArray} (hs : P.underlying t = some .string) (hd : P.underlying t' = some .string) (h : opd e x = some (.string s)) : quietV P e A (.convert t t' x) = some (.string s, []) := by simp [quietV, pureOp, h, convV, hs, hd]
theorem qfunc {fn : Fn} {first captured : Array Operand} {us cs : List Value} (h1 : allV (opd e) first.toList = some us) (h2 : allV (opd e) captured.toList = some cs) : quietV P e A (.makeFunc fn first captured) = some (.func fn us.toArray cs.toArray, []) := by simp [quietV, pureOp, h1, h2]
theorem qfieldAddr {p : Addr} {i off n : Nat} {ft : TypeId} (hf : fldOf P t i = some (ft, off)) (hs : szOf P ft = some n) (hn : n ≠ 0) (h : opd e x = some (.pointer (some p))) : quietV P e A (.fieldAddr t x i) = some (.pointer (some (p.add off)), []) := by
  simp [quietV, pureOp, h, fieldAddrV, hf, hs, hn]
theorem qfield {cs : Array Value} {i off : Nat} {ft : TypeId} (hf : fldOf P t i = some (ft, off)) (h : opd e x = some (.agg cs)) (hp : partV P ft cs off = some v) : quietV P e A (.field t x i) = some (v, []) := by
  simp [quietV, pureOp, h, fieldV, hf, hp]
theorem qindexAddr {p : Addr} {el : TypeId} {n len cap i : Nat} {k : IntKind} (hu : P.underlying t = some (.slice el)) (hs : szOf P el = some n) (h : opd e x = some (.slice (some p) len cap)) (h' : opd e y = some (.int k i)) (hi : i < len) :
    quietV P e A (.indexAddr t x y) = some (.pointer (some (p.add (i * n))), []) := by
  simp [quietV, pureOp, h, h', indexAddrV, hu, hs, hi]
theorem qindexArr {p : Addr} {el : TypeId} {n len i : Nat} {k : IntKind} (hu : P.underlying t = some (.array len el)) (hs : szOf P el = some n) (h : opd e x = some (.pointer (some p))) (h' : opd e y = some (.int k i)) (hi : i < len) :
    quietV P e A (.indexAddr t x y) = some (.pointer (some (p.add (i * n))), []) := by
  simp [quietV, pureOp, h, h', indexAddrV, hu, hs, hi]
theorem qindexV {cs : Array Value} {el : TypeId} {n len i : Nat} {k : IntKind} (hu : P.underlying t = some (.array len el)) (hs : szOf P el = some n) (h : opd e x = some (.agg cs)) (h' : opd e y = some (.int k i)) (hi : i < len) (hp : partV P el cs (i * n) = some v) :
    quietV P e A (.index t x y) = some (v, []) := by
  simp [quietV, pureOp, h, h', indexV, hu, hs, hi, hp]
theorem qextract {vs : Array Value} {i : Nat} (h : opd e x = some (.tuple vs)) (hv : vs[i]? = some v) : quietV P e A (.extract x i) = some (v, []) := by simp [quietV, pureOp, h, extractV, hv]
theorem qlen {p : Option Addr} {n c : Nat} {el : TypeId} (hu : P.underlying t = some (.slice el)) (h : opd e x = some (.slice p n c)) : quietV P e A (.call { callee := .builtin .len, args := #[x], argTypes := #[t] }) = some (num n, []) := by
  simp [quietV, allV, h, lenV, hu]
theorem qmax {ts : Array TypeId} (h : opd e x = some (num a)) (h' : opd e y = some (num b)) : quietV P e A (.call { callee := .builtin .max, args := #[x, y], argTypes := ts }) = some (num (if b > a then b else a), []) := by
  simp [quietV, allV, h, h', maxL]
theorem qmin {ts : Array TypeId} (h : opd e x = some (num a)) (h' : opd e y = some (num b)) : quietV P e A (.call { callee := .builtin .min, args := #[x, y], argTypes := ts }) = some (num (if b < a then b else a), []) := by
  simp [quietV, allV, h, h', minL]
/-- A slice of a slice that starts at the head of a row, or anywhere. -/
theorem qslice {p : Addr} {el : TypeId} {n len cap i j : Nat} {lo hi : Option Operand} (hu : P.underlying t = some (.slice el)) (hs : szOf P el = some n) (h : opd e x = some (.slice (some p) len cap))
    (hi' : boundV (hi.map (opd e)) len = some (j : Int)) (hlo : boundV (lo.map (opd e)) 0 = some (i : Int)) (hij : i ≤ j) (hj : j ≤ cap) (hl : len ≤ cap) :
    quietV P e A (.slice t x lo hi none) = some (.slice (some (if cap = i then p else p.add (i * n))) (j - i) (cap - i), []) := by
  have h1 : (0 : Int) ≤ i ∧ (i : Int) ≤ j ∧ (j : Int) ≤ cap ∧ len ≤ cap := ⟨by omega, by omega, by omega, hl⟩
  simp [quietV, pureOp, h, sliceV, hu, hs, hi', hlo, hij, hj, hl]
  split <;> rfl
theorem qload {p : Addr} (ha : aggOf P t = some false) (h : opd e x = some (.pointer (some p))) (hv : A.cell p = some v) : quietV P e A (.load t x) = some (v, [(p.add 0, v)]) := by
  have hc : cellsOf P t v = [v] := by unfold cellsOf; rw [ha]
  simp [quietV, h, loadV, ha, hv, hc, heldOf]
theorem qloadAgg {p : Addr} {n : Nat} {cs : List Value} (ha : aggOf P t = some true) (hs : szOf P t = some n) (h : opd e x = some (.pointer (some p))) (hv : A.cellsAt p n = some cs) : quietV P e A (.load t x) = some (.agg cs.toArray, heldOf p 0 cs) := by
  have hc : cellsOf P t (.agg cs.toArray) = cs := by simp [cellsOf, ha]
  simp [quietV, h, loadV, ha, hs, hv, hc]
end
end V
end Go.Proofs.YtaccklloepfemaaGreatDoor
