/- The operations that only compute: what they yield, as a function of the known slots; each is shown to run so in every world. -/
import Derived.Test.YtaccklloepfemaaGreatDoorVCore
import Derived.Tactics
import Derived.Laws.Strings
namespace Go.Proofs.YtaccklloepfemaaGreatDoor
set_option linter.unusedVariables false
set_option linter.unusedSimpArgs false
open Go Go.RowKit
namespace V

def bitV (op : BinOp) (k : IntKind) (x y : Int) : Option Value :=
  let a := BitVec.ofInt k.bits x
  let b := BitVec.ofInt k.bits y
  match op with
  | .and => some (.int k (k.wrap (a &&& b).toNat))
  | .or => some (.int k (k.wrap (a ||| b).toNat))
  | .xor => some (.int k (k.wrap (a ^^^ b).toNat))
  | .andNot => some (.int k (k.wrap (a &&& ~~~b).toNat))
  | _ => none

def intV (op : BinOp) (k : IntKind) (a b : Int) : Option Value :=
  match op with
  | .add => some (.int k (k.wrap (a + b)))
  | .sub => some (.int k (k.wrap (a - b)))
  | .mul => some (.int k (k.wrap (a * b)))
  | .quo => if b = 0 then none else some (.int k (k.wrap (a.tdiv b)))
  | .rem => if b = 0 then none else some (.int k (a.tmod b))
  | .eql => some (.bool (decide (a = b)))
  | .neq => some (.bool (!decide (a = b)))
  | .lss => some (.bool (decide (a < b)))
  | .leq => some (.bool (decide (a ≤ b)))
  | .gtr => some (.bool (decide (b < a)))
  | .geq => some (.bool (decide (b ≤ a)))
  | .and | .or | .xor | .andNot => bitV op k a b
  | _ => none

def shiftV (op : BinOp) (k : IntKind) (a b : Int) : Option Value :=
  if b < 0 then none else
  match op with
  | .shl => some (.int k (k.wrap (a * 2 ^ (min b.toNat k.bits))))
  | .shr => some (.int k (a.fdiv (2 ^ (min b.toNat k.bits))))
  | _ => none

def strV (op : BinOp) (a b : ByteArray) : Option Value :=
  match op with
  | .add => if a.size + b.size < 2 ^ 63 then some (.string (a ++ b)) else none
  | .eql => some (.bool (decide (a = b)))
  | .neq => some (.bool (!decide (a = b)))
  | .lss => some (.bool (Op.bytesLess a.data.toList b.data.toList))
  | .leq => some (.bool (Op.bytesLess a.data.toList b.data.toList || decide (a = b)))
  | .gtr => some (.bool (!(Op.bytesLess a.data.toList b.data.toList || decide (a = b))))
  | .geq => some (.bool (!Op.bytesLess a.data.toList b.data.toList))
  | _ => none

/-- '==' of values of other types, where one side is nil or both are bools. -/
def eqV (P : Program) (t : TypeId) (x y : Value) : Option Bool :=
  match P.underlying t, x, y with
  | some .bool, .bool a, .bool b => some (a == b)
  | some (.pointer _), .pointer none, .pointer b => some b.isNone
  | some (.pointer _), .pointer (some _), .pointer none => some false
  | some (.slice _), .slice none _ _, .slice b _ _ => some b.isNone
  | some (.slice _), .slice (some _) _ _, .slice none _ _ => some false
  | some (.map _ _), .map none, .map b => some b.isNone
  | some (.map _ _), .map (some _), .map none => some false
  | some (.func _ _ _), .nilFunc, .nilFunc => some true
  | some (.func _ _ _), .nilFunc, .func _ _ _ => some false
  | some (.func _ _ _), .func _ _ _, .nilFunc => some false
  | _, _, _ => none

def binV (P : Program) (op : BinOp) (t : TypeId) (x y : Value) : Option Value :=
  match x, y with
  | .int k a, .int k' b =>
    match op with
    | .shl | .shr => shiftV op k a b
    | _ => if k = k' then intV op k a b else none
  | .string a, .string b => strV op a b
  | x, y =>
    match op with
    | .eql => (eqV P t x y).map Value.bool
    | .neq => (eqV P t x y).map fun b => Value.bool (!b)
    | _ => none

def unV (op : UnOp) (x : Value) : Option Value :=
  match op, x with
  | .not, .bool b => some (.bool !b)
  | .neg, .int k n => some (.int k (k.wrap (0 - n)))
  | _, _ => none

def convV (P : Program) (src dst : TypeId) (x : Value) : Option Value :=
  match P.underlying src, P.underlying dst, x with
  | some (.int _), some (.int k), .int _ n => some (.int k (k.wrap n))
  | some .string, some .string, .string s => some (.string s)
  | _, _, _ => none

def aggOf (P : Program) (t : TypeId) : Option Bool :=
  (P.underlying t).map fun | .struct _ | .array _ _ => true | _ => false
def szOf (P : Program) (t : TypeId) : Option Nat := (P.info? t).map (·.size)
def zeroOf (P : Program) (t : TypeId) : Option Value := (P.info? t).bind (·.zero)

def partV (P : Program) (t : TypeId) (cs : Array Value) (off : Nat) : Option Value :=
  match aggOf P t with
  | some true => (szOf P t).map fun n => .agg (cs.extract off (off + n))
  | some false => cs[off]?
  | none => none

/-- A field's type and place. -/
def fldOf (P : Program) (s : TypeId) (i : Nat) : Option (TypeId × Nat) :=
  match P.underlying s with
  | some (.struct fs) => (fs[i]?).map fun f => (f.type, f.offset)
  | _ => none

def fieldAddrV (P : Program) (s : TypeId) (x : Value) (i : Nat) : Option Value :=
  match x, fldOf P s i with
  | .pointer (some a), some (t, off) => (szOf P t).bind fun n => if n = 0 then none else some (.pointer (some (a.add off)))
  | _, _ => none

def fieldV (P : Program) (s : TypeId) (x : Value) (i : Nat) : Option Value :=
  match x, fldOf P s i with
  | .agg cs, some (t, off) => partV P t cs off
  | _, _ => none

def indexAddrV (P : Program) (t : TypeId) (x i : Value) : Option Value :=
  match P.underlying t, x, i with
  | some (.slice e), .slice (some a) len _, .int _ i => (szOf P e).bind fun n => if 0 ≤ i ∧ i < len then some (.pointer (some (a.add (i.toNat * n)))) else none
  | some (.array len e), .pointer (some a), .int _ i => (szOf P e).bind fun n => if 0 ≤ i ∧ i < len then some (.pointer (some (a.add (i.toNat * n)))) else none
  | _, _, _ => none

def indexV (P : Program) (t : TypeId) (x i : Value) : Option Value :=
  match P.underlying t, x, i with
  | some .string, .string s, .int _ i => if 0 ≤ i ∧ i < s.size then (s.data[i.toNat]?).map fun b => .int .u8 b.toNat else none
  | some (.array len e), .agg cs, .int _ i => (szOf P e).bind fun n => if 0 ≤ i ∧ i < len then partV P e cs (i.toNat * n) else none
  | _, _, _ => none

def extractV (x : Value) (i : Nat) : Option Value :=
  match x with
  | .tuple vs => vs[i]?
  | _ => none

def boundV (x : Option (Option Value)) (d : Nat) : Option Int :=
  match x with
  | none => some d
  | some (some (.int _ i)) => some i
  | _ => none

def sliceV (P : Program) (t : TypeId) (x : Value) (lo hi : Option (Option Value)) : Option Value :=
  match P.underlying t, x with
  | some .string, .string s =>
    (boundV hi s.size).bind fun h => (boundV lo 0).bind fun l =>
      if 0 ≤ l ∧ l ≤ h ∧ h ≤ s.size then some (.string (s.extract l.toNat h.toNat)) else none
  | some (.slice e), .slice a len cap =>
    (szOf P e).bind fun n => (boundV hi len).bind fun h => (boundV lo 0).bind fun l =>
      if 0 ≤ l ∧ l ≤ h ∧ h ≤ cap ∧ len ≤ cap then some (.slice (if cap = l.toNat then a else a.map (·.add (l.toNat * n))) (h.toNat - l.toNat) (cap - l.toNat)) else none
  | _, _ => none

def allV (ev : Operand → Option Value) : List Operand → Option (List Value)
  | [] => some []
  | x :: xs => match ev x, allV ev xs with
    | some v, some vs => some (v :: vs)
    | _, _ => none

def pureOp (P : Program) (ev : Operand → Option Value) : Op → Option Value
  | .move x | .assign x => ev x
  | .pick c a b => match ev c with
    | some (.bool true) => ev a
    | some (.bool false) => ev b
    | _ => none
  | .nilCheck x => match ev x with
    | some (.pointer (some a)) => some (.pointer (some a))
    | some (.func (.func f) u c) => some (.func (.func f) u c)
    | _ => none
  | .binOp op t x y _ => match ev x, ev y with
    | some a, some b => binV P op t a b
    | _, _ => none
  | .unOp op _ x => (ev x).bind (unV op)
  | .convert s d x => (ev x).bind (convV P s d)
  | .makeFunc fn first captured => match allV ev first.toList, allV ev captured.toList with
    | some u, some c => some (.func fn u.toArray c.toArray)
    | _, _ => none
  | .fieldAddr s x i => (ev x).bind fun v => fieldAddrV P s v i
  | .field s x i => (ev x).bind fun v => fieldV P s v i
  | .indexAddr t x i => match ev x, ev i with
    | some a, some b => indexAddrV P t a b
    | _, _ => none
  | .index t x i => match ev x, ev i with
    | some a, some b => indexV P t a b
    | _, _ => none
  | .extract x i => (ev x).bind fun v => extractV v i
  | .slice t x lo hi none => (ev x).bind fun v => sliceV P t v (lo.map ev) (hi.map ev)
  | _ => none

section
variable {P : Program} {w : World}

theorem run_aggOf {t : TypeId} {b : Bool} (h : aggOf P t = some b) : (isAgg t).run P w = .ok b w := by
  unfold aggOf at h
  cases hu : P.underlying t with
  | none => rw [hu] at h; cases h
  | some d => rw [hu] at h; cases d <;> simp_all [isAgg, underlying]
theorem run_szOf {t : TypeId} {n : Nat} (h : szOf P t = some n) : (sizeOf t).run P w = .ok n w := by
  unfold szOf at h
  cases hu : P.info? t with
  | none => rw [hu] at h; cases h
  | some d => rw [hu] at h; simp_all [sizeOf, typeInfo]
theorem run_zeroOf {t : TypeId} {v : Value} (h : zeroOf P t = some v) : (zeroValue t).run P w = .ok v w := by
  unfold zeroOf at h
  cases hu : P.info? t with
  | none => rw [hu] at h; cases h
  | some d =>
    rw [hu] at h
    simp only [Option.bind_some] at h
    simp [zeroValue, typeInfo, hu, h]
theorem run_und {t : TypeId} {d : TypeDesc} (h : P.underlying t = some d) : (underlying t).run P w = .ok d w := by simp [underlying, h]

theorem run_part {t : TypeId} {cs : Array Value} {off : Nat} {v : Value} (h : partV P t cs off = some v) : (part t cs off).run P w = .ok v w := by
  unfold partV at h
  cases ha : aggOf P t with
  | none => rw [ha] at h; cases h
  | some b =>
    rw [ha] at h
    cases b with
    | true =>
      cases hs : szOf P t with
      | none => simp [hs] at h
      | some n => simp [hs] at h; simp [part, run_aggOf ha, run_szOf hs, h]
    | false => simp only at h; simp [part, run_aggOf ha, h]

theorem str_beq (a b : ByteArray) : (a.toList == b.toList) = decide (a = b) := by
  rw [ByteArray.toList_eq, ByteArray.toList_eq]
  by_cases q : a = b
  · subst q; simp
  · have : a.data.toList ≠ b.data.toList := fun e => q (by cases a; cases b; simp at e; simp [e])
    rw [decide_eq_false q]
    exact beq_eq_false_iff_ne.2 this

theorem run_str {op : BinOp} {a b : ByteArray} {v : Value} (h : strV op a b = some v) : (Op.stringOp op a b).run P w = .ok v w := by
  have e := str_beq a b
  cases op <;> simp only [strV] at h <;> (try (cases h; done))
  case add =>
    split at h
    · cases h
      have hm : ¬ (((a.size + b.size : Nat) : Int) > IntKind.i64.max) := by
        have : IntKind.i64.max = 9223372036854775807 := by decide
        omega
      simp only [Op.stringOp]
      rw [if_neg hm]
      rfl
    · cases h
  all_goals (cases h; simp only [Op.stringOp, e]; simp [ByteArray.toList_eq])

theorem run_int {op : BinOp} {k : IntKind} {a b : Int} {t : TypeId} {v : Value} (hs : op ≠ .shl) (hr : op ≠ .shr) (h : intV op k a b = some v) :
    (binOp op t (.int k a) (.int k b)).run P w = .ok v w := by
  cases op <;> simp only [intV] at h <;> (try (cases h; done)) <;> (try exact absurd rfl hs) <;> (try exact absurd rfl hr)
  case quo => split at h <;> cases h; simp [binOp, Op.intDiv, *]
  case rem => split at h <;> cases h; simp [binOp, Op.intDiv, *]
  case and => cases h; simp [binOp, Op.intBits]
  case or => cases h; simp [binOp, Op.intBits]
  case xor => cases h; simp [binOp, Op.intBits]
  case andNot => cases h; simp [binOp, Op.intBits]
  all_goals (cases h; simp [binOp, Op.intArith, Op.intCmp])
  all_goals rfl

theorem run_shift {op : BinOp} {k k' : IntKind} {a b : Int} {t : TypeId} {v : Value} (h : shiftV op k a b = some v) :
    (binOp op t (.int k a) (.int k' b)).run P w = .ok v w := by
  unfold shiftV at h
  split at h
  · cases h
  · cases op <;> simp only at h <;> cases h <;> simp [binOp, Op.shift, *]

theorem run_eqV {t : TypeId} {x y : Value} {b : Bool} (h : eqV P t x y = some b) : (Op.equal t x y).run P w = .ok b w := by
  have e : Op.equal t x y = Op.equalIn (9999 + 1) t x y := rfl
  rw [e]
  generalize 9999 = d
  unfold eqV at h
  split at h <;> first | (cases h; done) | (rename_i hu; cases h; simp only [Op.equalIn, Sem.run_bind, run_und hu, Result.andThen_ok]; rfl)

theorem run_bin {op : BinOp} {t : TypeId} {x y : Value} {ox oy : Operand} {v : Value} (h : binV P op t x y = some v) :
    (do eqGuard op t ox oy x y; binOp op t x y : Sem Value).run P w = .ok v w := by
  unfold binV at h
  split at h
  · rename_i k a k' b
    have hg : (eqGuard op t ox oy (.int k a) (.int k' b)).run P w = .ok () w := by cases op <;> simp [eqGuard]
    simp only [Sem.run_bind, hg, Result.andThen_ok]
    split at h
    · exact run_shift h
    · exact run_shift h
    · split at h
      · rename_i h1 h2 hk; subst hk; exact run_int h1 h2 h
      · cases h
  · rename_i a b
    have hg : (eqGuard op t ox oy (.string a) (.string b)).run P w = .ok () w := by cases op <;> simp [eqGuard]
    simp only [Sem.run_bind, hg, Result.andThen_ok]
    have : binOp op t (.string a) (.string b) = Op.stringOp op a b := by cases op <;> rfl
    rw [this]; exact run_str h
  · rename_i hx hy
    have hg : ∀ b, eqV P t x y = some b → (eqGuard op t ox oy x y).run P w = .ok () w := fun b hb => by
      unfold eqV at hb
      split at hb <;> first | (cases hb; done) | (cases op <;> simp [eqGuard])
    have hbe : ∀ b, eqV P t x y = some b → binOp .eql t x y = (do pure (.bool (← Op.equal t x y))) ∧ binOp .neq t x y = (do pure (.bool (!(← Op.equal t x y)))) := fun b hb => by
      unfold eqV at hb
      split at hb <;> first | (cases hb; done) | exact ⟨rfl, rfl⟩
    cases op <;> simp only at h <;> (try (cases h; done))
    · cases he : eqV P t x y with
      | none => rw [he] at h; cases h
      | some b => rw [he] at h; cases h; simp [hg b he, (hbe b he).1, run_eqV he]
    · cases he : eqV P t x y with
      | none => rw [he] at h; cases h
      | some b => rw [he] at h; cases h; simp [hg b he, (hbe b he).2, run_eqV he]
end
end V
end Go.Proofs.YtaccklloepfemaaGreatDoor
