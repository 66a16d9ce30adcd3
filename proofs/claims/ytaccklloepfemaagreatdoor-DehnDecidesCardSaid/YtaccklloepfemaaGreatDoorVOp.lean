/- What each operation owes and leaves, over a partial view; a list of operations in the order of the text. -/
import Derived.Test.YtaccklloepfemaaGreatDoorVAppend
namespace Go.Proofs.YtaccklloepfemaaGreatDoor
set_option linter.unusedVariables false
set_option linter.unusedSimpArgs false
open Go Go.RowKit
namespace V

def partsE (e : Env) : List (Nat × Operand) → Option (List (Nat × Value))
  | [] => some []
  | (i, x) :: r => match opd e x, partsE e r with
    | some v, some vs => some ((i, v) :: vs)
    | _, _ => none

/-- The places of a struct's fields, and their sizes. -/
def placesOf (P : Program) : List Field → Option (List (Nat × Nat))
  | [] => some []
  | f :: r => match szOf P f.type, placesOf P r with
    | some n, some l => some ((f.offset, n) :: l)
    | _, _ => none

/-- A literal of a struct or an array. -/
def fillL (place : Nat → Option (Nat × Nat)) : List Value → List (Nat × Value) → Option (List Value)
  | c, [] => some c
  | c, (i, v) :: r => match place i with
    | none => none
    | some (off, n) => if v.cells.size = n ∧ off + n ≤ c.length then fillL place (setL c off v.cells.toList) r else none

def structPlaces (P : Program) (t : TypeId) : Option (List (Nat × Nat)) :=
  match P.underlying t with
  | some (.struct fs) => placesOf P fs.toList
  | _ => none

def buildV (P : Program) (t : TypeId) (ps : List (Nat × Value)) : Option Value :=
  match P.underlying t, zeroOf P t with
  | some (.struct _), some z => (structPlaces P t).bind fun l => (fillL (fun i => l[i]?) z.cells.toList ps).map fun c => .agg c.toArray
  | some (.array _ e), some z => (szOf P e).bind fun n => (fillL (fun i => some (i * n, n)) z.cells.toList ps).map fun c => .agg c.toArray
  | _, _ => none

def repL (z : List Value) : Nat → List Value
  | 0 => []
  | n + 1 => z ++ repL z n

/-- A literal of a slice: its cells. -/
def buildSliceV (P : Program) (t : TypeId) (len : Nat) (ps : List (Nat × Value)) : Option (List Value) :=
  match P.underlying t with
  | some (.slice e) => (szOf P e).bind fun n => (zeroOf P e).bind fun z =>
    if z.cells.size = n ∧ 0 < n ∧ len * n ≤ 2 ^ 24 then fillL (fun i => some (i * n, n)) (repL z.cells.toList len) ps else none
  | _ => none

def natV : Value → Option Nat
  | .int .i64 n => if 0 ≤ n ∧ n < 9223372036854775808 then some n.toNat else none
  | _ => none

/-- make of a slice: length, capacity, cells. -/
def makeSliceV (P : Program) (t : TypeId) (l c : Value) : Option (Nat × Nat × List Value) :=
  match P.underlying t, natV l, natV c with
  | some (.slice e), some l, some c => (szOf P e).bind fun n => (zeroOf P e).bind fun z => (P.info? e).bind fun i =>
    if z.cells.size = n ∧ 0 < n ∧ l ≤ c ∧ i.bytes * c ≤ 281474976710656 then some (l, c, repL z.cells.toList c) else none
  | _, _, _ => none

/-- What an append owes and leaves. -/
def AppendVC (P : Program) (A : AH) (st xt : TypeId) (s x : Value) (K : Value → AH → Prop) : Prop :=
  ∃ elem size n z d i xs ys, P.underlying st = some (.slice elem) ∧ szOf P elem = some size ∧ P.info? elem = some i ∧ zeroOf P elem = some z ∧ z.cells.size = size ∧ P.underlying xt = some d ∧ (∀ k, d ≠ .int k) ∧
    (∃ base l c, s = .slice base l c ∧ (l + n) * i.bytes ≤ 2 ^ 47 ∧ l + n < 2 ^ 63) ∧ Own A s size xs ∧ listOf A size x = some (n, ys) ∧ ys.length = n * size ∧ oneL ys = true ∧
    ∀ v A', Appd A s size (xs ++ ys) v A' → K v A'

def lenV (P : Program) (A : AH) (t : TypeId) (x : Value) : Option Value :=
  match P.underlying t, x with
  | some .string, .string s => some (.int .i64 s.size)
  | some (.slice _), .slice _ n _ => some (.int .i64 n)
  | some (.map _ _), .map none => some (.int .i64 0)
  | some (.map _ _), .map (some b) => match A.get b with
    | some (.obj _ (.map es _)) => some (.int .i64 es.size)
    | _ => none
  | _, _ => none

def maxL (k : IntKind) (x : Int) : List Value → Option Int
  | [] => some x
  | .int k' y :: r => if k = k' then maxL k (if y > x then y else x) r else none
  | _ => none
def minL (k : IntKind) (x : Int) : List Value → Option Int
  | [] => some x
  | .int k' y :: r => if k = k' then minL k (if y < x then y else x) r else none
  | _ => none

def builtinV (P : Program) (A : AH) (b : Builtin) (ts : List TypeId) (args : List Value) (K : Value → AH → Prop) : Prop :=
  match b, ts, args with
  | .len, [t], [x] => ∃ v, lenV P A t x = some v ∧ K v A
  | .append, [st, xt], [s, x] => AppendVC P A st xt s x K
  | .max, _, .int k x :: r => ∃ v, maxL k x r = some v ∧ K (.int k v) A
  | .min, _, .int k x :: r => ∃ v, minL k x r = some v ∧ K (.int k v) A
  | _, _, _ => False

/-- How a call goes on. -/
def endK (K : Value → AH → Prop) (Kp : List PanicEntry → AH → Prop) : Ending → AH → Prop
  | .returned v, A => K v A
  | .panicked ch, A => Kp ch A
  | .outgrown, _ => False

def callV (P : Program) (e : Env) (A : AH) (c : Call) (K : Value → AH → Prop) (Kp : List PanicEntry → AH → Prop) : Prop :=
  match c.callee with
  | .value f => match opd e f, allV (opd e) c.args.toList with
    | some (.func (.func g) first captured), some args => CallsA P g (first ++ args.toArray ++ captured) A (endK K Kp)
    | _, _ => False
  | .builtin b => match allV (opd e) c.args.toList with
    | some args => builtinV P A b c.argTypes.toList args K
    | none => False
  | .invoke _ _ => False

def isU8 (P : Program) (e : TypeId) : Bool := match P.underlying e with | some (.int .u8) => true | _ => false

/-- A string made of bytes, bytes made of a string; other conversions only compute. -/
def convOp (P : Program) (A : AH) (src dst : TypeId) (x : Value) (K : Value → AH → Prop) : Prop :=
  match P.underlying src, P.underlying dst, x with
  | some .string, some (.slice el), .string s => isU8 P el = true ∧ s.size < 2 ^ 63 ∧ ∀ k, s.size ≤ k → K (.slice (some ⟨A.n, 0, none⟩) s.size k) (A.new (.row true (byteCells s.data.toList) k))
  | some (.slice el), some .string, .slice a n c => isU8 P el = true ∧ ∃ l, listOf A 1 (.slice a n c) = some (n, byteCells l) ∧ K (.string ⟨l.toArray⟩) A
  | _, _, _ => ∃ v, convV P src dst x = some v ∧ K v A

/-- A key whose equality is seen at once. -/
def basicKey : TypeDesc → Bool
  | .int _ | .string | .bool => true
  | _ => false

def rangeV (P : Program) (A : AH) (t : TypeId) (v : Value) (K : Value → AH → Prop) : Prop :=
  match P.underlying t, v with
  | some .string, .string s => K (.pointer (some ⟨A.n, 0, none⟩)) (A.new (.obj true (.stringIter s 0)))
  | some (.map _ _), .map none => K (.pointer (some ⟨A.n, 0, none⟩)) (A.new (.obj true (.mapIter none 0 #[] 0)))
  | some (.map _ _), .map (some m) => ∃ rw es clock, A.get m = some (.obj rw (.map es clock)) ∧ K (.pointer (some ⟨A.n, 0, none⟩)) (A.new (.obj true (.mapIter (some m) clock #[] clock)))
  | _, _ => False

/-- The entries of a map that an iterator may still hand out. -/
def leftOf (es : Array MapEntry) (seen : Array Nat) : Array MapEntry := es.filter fun e => !seen.contains e.born

def nextV (A : AH) (v : Value) (isS : Bool) (K : Value → AH → Prop) : Prop :=
  ∃ b, v = .pointer (some ⟨b, 0, none⟩) ∧
    ((isS = true ∧ ∃ s pos, A.get b = some (.obj true (.stringIter s pos)) ∧
        (pos < s.size → K (.tuple #[.bool true, .int .i64 pos, .int .i32 (Utf8.decode s pos).1]) (A.set b (.obj true (.stringIter s (pos + (Utf8.decode s pos).2))))) ∧
        (¬ pos < s.size → K (.tuple #[.bool false]) A)) ∨
     (isS = false ∧ ∃ since seen last, A.get b = some (.obj true (.mapIter none since seen last)) ∧ K (.tuple #[.bool false]) A) ∨
     (isS = false ∧ ∃ m since seen last rw es clock, A.get b = some (.obj true (.mapIter (some m) since seen last)) ∧ A.get m = some (.obj rw (.map es clock)) ∧ m ≠ b ∧ (∀ x ∈ es, x.born < since) ∧ (seen.isEmpty = true ∨ es.isEmpty = true ∨ ¬ (es.all fun x => decide (x.born ≥ last)) = true) ∧
        (∀ x, x ∈ leftOf es seen → K (.tuple #[.bool true, x.key, x.val]) (A.set b (.obj true (.mapIter (some m) since (seen.push x.born) clock)))) ∧
        (leftOf es seen = #[] → K (.tuple #[.bool false]) A)))

def entryV (A : AH) (v : Value) (K : Value → AH → Prop) : Prop :=
  ∃ b m since seen last rw es x, v = .pointer (some ⟨b, 0, none⟩) ∧ A.get b = some (.obj true (.mapIter (some m) since seen last)) ∧ A.get m = some (.obj rw (.map es last)) ∧ m ≠ b ∧
    seen.back? = some x.born ∧ es.find? (fun y => y.born == x.born) = some x ∧ K (.tuple #[x.key, x.val]) A

def lookupV (P : Program) (A : AH) (t : TypeId) (mv kv : Value) (ok : Bool) (K : Value → AH → Prop) : Prop :=
  ∃ kt et kd z es r, P.underlying t = some (.map kt et) ∧ P.underlying kt = some kd ∧ basicKey kd = true ∧ zeroOf P et = some z ∧
    ((mv = .map none ∧ es = #[]) ∨ ∃ m rw clock, mv = .map (some m) ∧ A.get m = some (.obj rw (.map es clock))) ∧
    Instr.findNow kd kv es.toList 0 = some r ∧
    K (let p := match r with | some (_, v) => (v, true) | none => (z, false); if ok then .tuple #[p.1, .bool p.2] else p.1) A

def updateV (P : Program) (A : AH) (t : TypeId) (mv kv v : Value) (K : Value → AH → Prop) : Prop :=
  ∃ kt et kd m es clock r, P.underlying t = some (.map kt et) ∧ P.underlying kt = some kd ∧ basicKey kd = true ∧ mv = .map (some m) ∧ A.get m = some (.obj true (.map es clock)) ∧
    Instr.findNow kd kv es.toList 0 = some r ∧
    (match r with
     | some (i, _) => (∃ x, es[i]? = some x ∧ Instr.sameBits 10000 x.key kv = true) ∧ K undef (A.set m (.obj true (.map (es.modify i fun y => { y with key := kv, val := v }) clock)))
     | none => K undef (A.set m (.obj true (.map (es.push { key := kv, val := v, born := clock }) (clock + 1)))))

def opV (P : Program) (e : Env) (A : AH) (o : Oper) (K : Value → AH → Prop) (Kp : List PanicEntry → AH → Prop) : Prop :=
  match o.op with
  | .alloc t => ∃ z, zeroOf P t = some z ∧ K (.pointer (some ⟨A.n, 0, none⟩)) (A.new (.row true z.cells.toList z.cells.size))
  | .box _ x => ∃ v, opd e x = some v ∧ K (.pointer (some ⟨A.n, 0, none⟩)) (A.new (.row true v.cells.toList v.cells.size))
  | .load t x => ∃ u v, opd e x = some u ∧ loadV P A t u = some v ∧ K v A
  | .store t x y => ∃ u v A', opd e x = some u ∧ opd e y = some v ∧ storeV P A t u v = some A' ∧ K undef A'
  | .build t ps => ∃ l v, partsE e ps.toList = some l ∧ buildV P t l = some v ∧ K v A
  | .buildSlice t n ps => ∃ l c, partsE e ps.toList = some l ∧ buildSliceV P t n l = some c ∧ K (.slice (some ⟨A.n, 0, none⟩) n n) (A.new (.row true c c.length))
  | .convert s d x => ∃ v, opd e x = some v ∧ convOp P A s d v K
  | .makeSlice t l c => ∃ u v n k cs, opd e l = some u ∧ opd e c = some v ∧ makeSliceV P t u v = some (n, k, cs) ∧ K (.slice (some ⟨A.n, 0, none⟩) n k) (A.new (.row true cs cs.length))
  | .makeMap _ none => K (.map (some A.n)) (A.new (.obj true (.map #[] 0)))
  | .call c => callV P e A c K Kp
  | .range t x => ∃ v, opd e x = some v ∧ rangeV P A t v K
  | .next x b => ∃ v, opd e x = some v ∧ nextV A v b K
  | .entry x => ∃ v, opd e x = some v ∧ entryV A v K
  | .lookup t x y b => ∃ u v, opd e x = some u ∧ opd e y = some v ∧ lookupV P A t u v b K
  | .mapUpdate t x y z => ∃ u k v, opd e x = some u ∧ opd e y = some k ∧ opd e z = some v ∧ updateV P A t u k v K
  | .insert t x y z => ∃ u k v, opd e x = some u ∧ opd e y = some k ∧ opd e z = some v ∧ updateV P A t u k v K
  | .move x => ∃ v, pureOp P (opd e) (.move x) = some v ∧ K v A
  | .assign x => ∃ v, pureOp P (opd e) (.assign x) = some v ∧ K v A
  | .pick a b c => ∃ v, pureOp P (opd e) (.pick a b c) = some v ∧ K v A
  | .nilCheck x => ∃ v, pureOp P (opd e) (.nilCheck x) = some v ∧ K v A
  | .binOp a b c d f => ∃ v, pureOp P (opd e) (.binOp a b c d f) = some v ∧ K v A
  | .unOp a b c => ∃ v, pureOp P (opd e) (.unOp a b c) = some v ∧ K v A
  | .makeFunc a b c => ∃ v, pureOp P (opd e) (.makeFunc a b c) = some v ∧ K v A
  | .fieldAddr a b c => ∃ v, pureOp P (opd e) (.fieldAddr a b c) = some v ∧ K v A
  | .field a b c => ∃ v, pureOp P (opd e) (.field a b c) = some v ∧ K v A
  | .indexAddr a b c => ∃ v, pureOp P (opd e) (.indexAddr a b c) = some v ∧ K v A
  | .index a b c => ∃ v, pureOp P (opd e) (.index a b c) = some v ∧ K v A
  | .extract a b => ∃ v, pureOp P (opd e) (.extract a b) = some v ∧ K v A
  | .slice a b c d none => ∃ v, pureOp P (opd e) (.slice a b c d none) = some v ∧ K v A
  | _ => False

section
variable {P : Program} {w : World} {A : AH}

theorem parts_eval {e : Env} {ρ : Operand → Value} (hev : ∀ x v, opd e x = some v → ρ x = v) : ∀ (l : List (Nat × Operand)) (vs : List (Nat × Value)), partsE e l = some vs → l.map (fun p => (p.1, ρ p.2)) = vs := by
  intro l
  induction l with
  | nil => intro vs h; simp [partsE] at h; simp [h]
  | cons p r ih =>
    obtain ⟨i, x⟩ := p
    intro vs h
    simp only [partsE] at h
    split at h
    · rename_i v us h1 h2; cases h; simp [hev x v h1, ih us h2]
    · cases h

theorem setL_fold (c : List Value) (off : Nat) (vs : List Value) :
    ((vs.toArray.zipIdx.foldl (fun (cs : Array Value) (p : Value × Nat) => cs.setIfInBounds (off + p.2) p.1) c.toArray)) = (setL c off vs).toArray := by
  rw [← Array.foldl_toList, Array.toList_zipIdx]
  simp only
  have key : ∀ (vs : List Value) (c : List Value) (i : Nat), (vs.zipIdx i).foldl (fun (cs : Array Value) (p : Value × Nat) => cs.setIfInBounds (off + p.2) p.1) c.toArray = (setL c (off + i) vs).toArray := by
    intro vs
    induction vs with
    | nil => intro c i; simp [setL]
    | cons v vs ih =>
      intro c i
      simp only [List.zipIdx_cons, List.foldl_cons, setL]
      rw [show c.toArray.setIfInBounds (off + i) v = (c.set (off + i) v).toArray by simp]
      exact ih (c.set (off + i) v) (i + 1)
  exact key vs c 0

theorem fill_eq {place : Nat → Option (Nat × Nat)} : ∀ (ps : List (Nat × Value)) (c r : List Value), fillL place c ps = some r → Instr.fill place c.toArray ps = some r.toArray := by
  intro ps
  induction ps with
  | nil => intro c r h; simp [fillL] at h; simp [Instr.fill, h]
  | cons p ps ih =>
    obtain ⟨i, v⟩ := p
    intro c r h
    simp only [fillL] at h
    cases hp : place i with
    | none => simp [hp] at h
    | some q =>
      obtain ⟨off, n⟩ := q
      simp only [hp] at h
      split at h
      · rename_i hq
        have e := setL_fold c off v.cells.toList
        simp only [Array.toArray_toList] at e
        have hn : ¬ ((v.cells.size ≠ n || off + v.cells.size > c.toArray.size) = true) := by simp [hq.1, hq.2]
        simp only [Instr.fill, hp]
        rw [if_neg hn]
        have := ih _ _ h
        rw [← e] at this
        exact this
      · cases h

theorem places_eq {fs : List Field} : ∀ {l : List (Nat × Nat)}, placesOf P fs = some l → (fs.mapM fun f => (do pure (f.offset, ← sizeOf f.type) : Sem (Nat × Nat))).run P w = .ok l w := by
  induction fs with
  | nil => intro l h; simp [placesOf] at h; simp [h]
  | cons f fs ih =>
    intro l h
    simp only [placesOf] at h
    split at h
    · rename_i n r h1 h2; cases h
      simp only [List.mapM_cons, Sem.run_bind, run_szOf h1, Result.andThen_ok, Sem.run_pure, ih h2]
    · cases h

theorem repL_length (z : List Value) (n : Nat) : (repL z n).length = n * z.length := by
  induction n with
  | zero => simp [repL]
  | succ n ih => simp [repL, ih, Nat.add_mul, Nat.add_comm]
theorem repL_get (z : List Value) (n i : Nat) (h : i < n * z.length) : (repL z n)[i]? = z[i % z.length]? := by
  induction n generalizing i with
  | zero => simp at h
  | succ n ih =>
    simp only [repL]
    by_cases q : i < z.length
    · rw [List.getElem?_append_left q, Nat.mod_eq_of_lt q]
    · rw [List.getElem?_append_right (by omega), ih (i - z.length) (by rw [Nat.add_mul] at h; omega)]
      rw [← Nat.mod_eq_sub_mod (by omega)]

theorem rep_eq {z : Array Value} {n k : Nat} (h : z.size = n) (hn : 0 < n) : ((Array.range (k * n)).map (z[· % z.size]!)) = (repL z.toList k).toArray := by
  apply Array.ext'
  apply List.ext_getElem?
  intro i
  by_cases q : i < k * n
  · have hz : i % z.size < z.size := Nat.mod_lt _ (by omega)
    have := repL_get z.toList k i (by simpa [h] using q)
    rw [show ((repL z.toList k).toArray.toList) = repL z.toList k from rfl, this]
    simp [q, hz, List.getElem?_eq_getElem, getElem!_pos]
  · rw [List.getElem?_eq_none (by simp; omega), List.getElem?_eq_none (by simp [repL_length, h]; omega)]
end
end V
end Go.Proofs.YtaccklloepfemaaGreatDoor
