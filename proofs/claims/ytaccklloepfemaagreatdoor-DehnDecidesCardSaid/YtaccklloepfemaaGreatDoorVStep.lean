/- One step of a proof: a rule for each form in which an operation stands in the code. -/
import Derived.Test.YtaccklloepfemaaGreatDoorVQ
namespace Go.Proofs.YtaccklloepfemaaGreatDoor
set_option linter.unusedVariables false
set_option linter.unusedSimpArgs false
open Go Go.RowKit
namespace V

/-- A call that returns. -/
def RetA (P : Program) (g : FuncId) (args : Array Value) (A : AH) (R : Value → AH → Prop) : Prop :=
  CallsA P g args A fun e A' => ∃ v, e = .returned v ∧ R v A'
theorem RetA.mono {P : Program} {g : FuncId} {args : Array Value} {A : AH} {R R' : Value → AH → Prop} (h : RetA P g args A R) (k : ∀ v A', R v A' → R' v A') : RetA P g args A R' :=
  CallsA.mono h fun _ _ ⟨v, e, r⟩ => ⟨v, e, k v _ r⟩

theorem buildV_struct {P : Program} {t : TypeId} {fs : Array Field} {z : Value} {pl : List (Nat × Nat)} {l : List (Nat × Value)} {c : List Value} (hu : P.underlying t = some (.struct fs)) (hz : zeroOf P t = some z) (hp : structPlaces P t = some pl)
    (hf : fillL (fun i => pl[i]?) z.cells.toList l = some c) : buildV P t l = some (.agg c.toArray) := by simp [buildV, hu, hz, hp, hf]

section
variable {P : Program} {nt : Nat} {all ops : Array Oper} {Q : Exit → Fr → AH → Prop} {e : Env} {ds : List Deferred} {A A' : AH} {os : List Oper}
  {d t : Nat} {op : Op} {ty : TypeId} {ps : String} {af : Array Edge} {j : Nat} {want : Bool} {v u : Value} {T : Held} {dst : Option Nat}

theorem qbuild {tt : TypeId} {pp : Array (Nat × Operand)} {l : List (Nat × Value)} (hl : partsE e pp.toList = some l) (hb : buildV P tt l = some v) : quietV P e A (.build tt pp) = some (v, []) := by
  simp [quietV, hl, hb]

/-! ### The order of the text -/
theorem Ops.q (hd : Nat.blt d nt = true) (hv : quietV P e A op = some (v, T)) (h : Ops P nt all os Q ⟨(d, v) :: e, ds⟩ A) :
    Ops P nt all ({ dst := some d, op := op, type := ty, pos := ps, after := af, guard := none } :: os) Q ⟨e, ds⟩ A := by
  intro a w ha hw A₀ w₀ hs
  have := quietV_sound (o := { dst := some d, op := op, type := ty, pos := ps, after := af, guard := none }) hv ha hw
  unfold wpList
  rw [if_pos (by simp [Region.wanted])]
  left
  unfold Oper.wp; rw [this.2 w this.1]
  exact h _ w (ha.put (some d) v (dstOk_spec hd)) hw A₀ w₀ hs

/-- The guard says yes. -/
theorem Ops.on (ht : guardTmp all j = some t) (hb : getE e t = some (.bool want)) (h : Ops P nt all ({ dst := dst, op := op, type := ty, pos := ps, after := af, guard := none } :: os) Q ⟨e, ds⟩ A) :
    Ops P nt all ({ dst := dst, op := op, type := ty, pos := ps, after := af, guard := some (j, want) } :: os) Q ⟨e, ds⟩ A := by
  intro a w ha hw A₀ w₀ hs
  have := h a w ha hw A₀ w₀ hs
  unfold wpList at this ⊢
  rw [if_pos (by simp [Region.wanted])] at this
  rw [if_pos (by simp [Region.wanted, yielded_of ha ht hb])]
  exact this
/-- The guard says no. -/
theorem Ops.off {b : Bool} (ht : guardTmp all j = some t) (hb : getE e t = some (.bool b)) (hne : b = !want) (hd : dstOk nt dst = true) (h : Ops P nt all os Q ⟨putE e dst undef, ds⟩ A) :
    Ops P nt all ({ dst := dst, op := op, type := ty, pos := ps, after := af, guard := some (j, want) } :: os) Q ⟨e, ds⟩ A := by
  intro a w ha hw A₀ w₀ hs
  unfold wpList
  rw [if_neg (by simp [Region.wanted, yielded_of ha ht hb, hne])]
  exact h _ w (ha.put dst undef (dstOk_spec hd)) hw A₀ w₀ hs
/-- The guard has not been carried out itself. -/
theorem Ops.und (ht : guardTmp all j = some t) (hb : getE e t = some undef) (hd : dstOk nt dst = true) (h : Ops P nt all os Q ⟨putE e dst undef, ds⟩ A) :
    Ops P nt all ({ dst := dst, op := op, type := ty, pos := ps, after := af, guard := some (j, want) } :: os) Q ⟨e, ds⟩ A := by
  intro a w ha hw A₀ w₀ hs
  unfold wpList
  rw [if_neg (by simp [Region.wanted, yielded_not ha ht hb (fun _ q => by cases q)])]
  exact h _ w (ha.put dst undef (dstOk_spec hd)) hw A₀ w₀ hs

theorem getE_le (h : getE e t = some v) : EnvLe ((t, v) :: e) e := EnvLe.cons h fun _ _ g => g

theorem Ops.forget {e' : Env} (k : EnvLe e' e) (h : Ops P nt all os Q ⟨e', ds⟩ A) : Ops P nt all os Q ⟨e, ds⟩ A := fun a w ha hw A₀ w₀ hs => h a w (ha.le k) hw A₀ w₀ hs
theorem DOps.forget {e' : Env} {l : Array Bool} {hl : List (Nat × Held)} {C : List Nat} (k : EnvLe e' e) (h : DOps P nt ops Q l hl C ⟨e', ds⟩ A) : DOps P nt ops Q l hl C ⟨e, ds⟩ A :=
  fun hc hn a w ha hw => h hc hn a w (ha.le k) hw

/-- A bool is parted on; its slot is known from then on. -/
theorem Ops.part {p : Prop} [Decidable p] (hb : getE e t = some (.bool (decide p))) (h1 : p → Ops P nt all os Q ⟨(t, .bool true) :: e, ds⟩ A) (h2 : ¬ p → Ops P nt all os Q ⟨(t, .bool false) :: e, ds⟩ A) : Ops P nt all os Q ⟨e, ds⟩ A := by
  by_cases hp : p
  · exact (h1 hp).forget (getE_le (by rw [hb, decide_eq_true hp]))
  · exact (h2 hp).forget (getE_le (by rw [hb, decide_eq_false hp]))
theorem Ops.partB {b : Bool} (hb : getE e t = some (.bool b)) (h1 : b = true → Ops P nt all os Q ⟨(t, .bool true) :: e, ds⟩ A) (h2 : b = false → Ops P nt all os Q ⟨(t, .bool false) :: e, ds⟩ A) : Ops P nt all os Q ⟨e, ds⟩ A := by
  cases b
  · exact (h2 rfl).forget (getE_le hb)
  · exact (h1 rfl).forget (getE_le hb)

/-- Any other operation, by what it owes; K stands for what comes behind it. -/
theorem Ops.l (hd : dstOk nt dst = true) (h : ∀ (K : Value → AH → Prop) (Kp : List PanicEntry → AH → Prop), (∀ v A', Ops P nt all os Q ⟨putE e dst v, ds⟩ A' → K v A') → (∀ ch A', Q (.panic ch) ⟨[], ds⟩ A' → Kp ch A') → opV P e A { dst := dst, op := op, type := ty, pos := ps, after := af, guard := none } K Kp) :
    Ops P nt all ({ dst := dst, op := op, type := ty, pos := ps, after := af, guard := none } :: os) Q ⟨e, ds⟩ A := Ops.cons rfl hd h

/-! ### What the loud operations owe, one by one -/
variable {K : Value → AH → Prop} {Kp : List PanicEntry → AH → Prop} {g : Option (Nat × Bool)}
theorem valloc {tt : TypeId} {cs : List Value} {z : Value} (hz : zeroOf P tt = some z) (hc : z.cells = cs.toArray) (h : K (.pointer (some ⟨A.n, 0, none⟩)) (A.new (.row true cs cs.length))) :
    opV P e A { dst := dst, op := .alloc tt, type := ty, pos := ps, after := af, guard := g } K Kp := ⟨z, hz, by rw [hc]; exact h⟩
theorem vbox {tt : TypeId} {x : Operand} {cs : List Value} (hx : opd e x = some v) (hc : v.cells = cs.toArray) (h : K (.pointer (some ⟨A.n, 0, none⟩)) (A.new (.row true cs cs.length))) :
    opV P e A { dst := dst, op := .box tt x, type := ty, pos := ps, after := af, guard := g } K Kp := ⟨v, hx, by rw [hc]; exact h⟩
theorem vstore {tt : TypeId} {x y : Operand} {p : Addr} {cs c : List Value} {cap : Nat} (hx : opd e x = some (.pointer (some p))) (hy : opd e y = some v) (hc : v.cells = cs.toArray) (hs : szOf P tt = some cs.length) (hsp : p.spot.isSome = false)
    (hg : A.get p.block = some (.row true c cap)) (hl : p.off + cs.length ≤ c.length) (ho : oneL cs = true) (h : K undef (A.set p.block (.row true (setL c p.off cs) cap))) :
    opV P e A { dst := dst, op := .store tt x y, type := ty, pos := ps, after := af, guard := g } K Kp :=
  ⟨_, v, _, hx, hy, by simp [storeV, hsp, hg, hc, hs, hl, ho], h⟩
theorem vbuildSlice {tt : TypeId} {n : Nat} {pp : Array (Nat × Operand)} {l : List (Nat × Value)} {c : List Value} (hl : partsE e pp.toList = some l) (hb : buildSliceV P tt n l = some c)
    (h : K (.slice (some ⟨A.n, 0, none⟩) n n) (A.new (.row true c c.length))) : opV P e A { dst := dst, op := .buildSlice tt n pp, type := ty, pos := ps, after := af, guard := g } K Kp := ⟨l, c, hl, hb, h⟩
theorem buildSliceV_of {tt el : TypeId} {n k : Nat} {z : Value} {l : List (Nat × Value)} {c : List Value} (hu : P.underlying tt = some (.slice el)) (hs : szOf P el = some k) (hz : zeroOf P el = some z) (hk : z.cells.size = k) (h0 : 0 < k) (hn : n * k ≤ 2 ^ 24)
    (hf : fillL (fun i => some (i * k, k)) (repL z.cells.toList n) l = some c) : buildSliceV P tt n l = some c := by
  simp only [buildSliceV, hu, hs, hz, Option.bind_some]; rw [if_pos ⟨hk, h0, hn⟩, hf]
theorem vmakeMap {tt : TypeId} (h : K (.map (some A.n)) (A.new (.obj true (.map #[] 0)))) : opV P e A { dst := dst, op := .makeMap tt none, type := ty, pos := ps, after := af, guard := g } K Kp := h
theorem vmakeSlice {tt el : TypeId} {x y : Operand} {n k s : Nat} {z : Value} {i : TypeInfo} (hx : opd e x = some (num n)) (hy : opd e y = some (num k)) (hu : P.underlying tt = some (.slice el)) (hs : szOf P el = some s) (hz : zeroOf P el = some z) (hi : P.info? el = some i)
    (hzs : z.cells.size = s) (h0 : 0 < s) (hnk : n ≤ k) (hb : i.bytes * k ≤ 281474976710656) (hk : k < 9223372036854775808)
    (h : K (.slice (some ⟨A.n, 0, none⟩) n k) (A.new (.row true (repL z.cells.toList k) (repL z.cells.toList k).length))) : opV P e A { dst := dst, op := .makeSlice tt x y, type := ty, pos := ps, after := af, guard := g } K Kp := by
  have h1 : natV (num n) = some n := by simp only [natV]; rw [if_pos (by omega)]; simp
  have h2 : natV (num k) = some k := by simp only [natV]; rw [if_pos (by omega)]; simp
  refine ⟨_, _, n, k, repL z.cells.toList k, hx, hy, ?_, h⟩
  simp only [makeSliceV, hu, h1, h2, hs, hz, hi, Option.bind_some]
  rw [if_pos ⟨hzs, h0, hnk, hb⟩]
theorem vcall {fo : Operand} {gg : FuncId} {first captured : Array Value} {vs : List Value} {R : Value → AH → Prop} {aa : Array Operand} {tt : Array TypeId} (hf : opd e fo = some (.func (.func gg) first captured)) (ha : allV (opd e) aa.toList = some vs)
    (hc : RetA P gg (first ++ vs.toArray ++ captured) A R) (h : ∀ v A', R v A' → K v A') : opV P e A { dst := dst, op := .call { callee := .value fo, args := aa, argTypes := tt }, type := ty, pos := ps, after := af, guard := g } K Kp := by
  simp only [opV, callV, hf, ha]
  exact CallsA.mono hc fun en A' ⟨v, q, r⟩ => by subst q; exact h v A' r
/-- A call of a function by its name. -/
theorem vcallF {gg : FuncId} {vs : List Value} {R : Value → AH → Prop} {aa : Array Operand} {tt : Array TypeId} (ha : allV (opd e) aa.toList = some vs)
    (hc : RetA P gg vs.toArray A R) (h : ∀ v A', R v A' → K v A') : opV P e A { dst := dst, op := .call { callee := .value (.func gg), args := aa, argTypes := tt }, type := ty, pos := ps, after := af, guard := g } K Kp :=
  vcall rfl ha (by simpa using hc) h
theorem vappend {x y : Operand} {st xt el : TypeId} {size n l c : Nat} {base : Option Addr} {z xv : Value} {dd : TypeDesc} {i : TypeInfo} {xs ys : List Value} (hx : opd e x = some (.slice base l c)) (hy : opd e y = some xv)
    (hu : P.underlying st = some (.slice el)) (hs : szOf P el = some size) (hi : P.info? el = some i) (hz : zeroOf P el = some z) (hzs : z.cells.size = size) (hxt : P.underlying xt = some dd) (hd : ∀ k, dd ≠ .int k)
    (hb : (l + n) * i.bytes ≤ 2 ^ 47) (hb' : l + n < 2 ^ 63) (own : Own A (.slice base l c) size xs) (hl : listOf A size xv = some (n, ys)) (hys : ys.length = n * size) (ho : oneL ys = true)
    (h : ∀ v A', Appd A (.slice base l c) size (xs ++ ys) v A' → K v A') : opV P e A { dst := dst, op := .call { callee := .builtin .append, args := #[x, y], argTypes := #[st, xt] }, type := ty, pos := ps, after := af, guard := g } K Kp := by
  simp only [opV, callV, allV, hx, hy]
  exact ⟨el, size, n, z, dd, i, xs, ys, hu, hs, hi, hz, hzs, hxt, hd, ⟨base, l, c, rfl, hb, hb'⟩, own, hl, hys, ho, h⟩
theorem vtoBytes {sr dd el : TypeId} {x : Operand} {s : List UInt8} (hx : opd e x = some (str s)) (hs : P.underlying sr = some .string) (hd : P.underlying dd = some (.slice el)) (hu : P.underlying el = some (.int .u8)) (hl : s.length < 2 ^ 63)
    (h : ∀ k, s.length ≤ k → K (.slice (some ⟨A.n, 0, none⟩) s.length k) (A.new (.row true (byteCells s) k))) : opV P e A { dst := dst, op := .convert sr dd x, type := ty, pos := ps, after := af, guard := g } K Kp :=
  ⟨_, hx, by simp only [convOp, hs, hd]; exact ⟨by simp [isU8, hu], hl, h⟩⟩
theorem vtoString {sr dd el : TypeId} {x : Operand} {s : List UInt8} {b : Option Addr} {n c : Nat} (hx : opd e x = some (.slice b n c)) (hs : P.underlying sr = some (.slice el)) (hd : P.underlying dd = some .string) (hu : P.underlying el = some (.int .u8))
    (hl : listOf A 1 (.slice b n c) = some (n, byteCells s)) (h : K (str s) A) : opV P e A { dst := dst, op := .convert sr dd x, type := ty, pos := ps, after := af, guard := g } K Kp :=
  ⟨_, hx, by simp only [convOp, hs, hd]; exact ⟨by simp [isU8, hu], s, hl, h⟩⟩

/-! ### Drawn regions -/
variable {listed : Array Bool} {held : List (Nat × Held)} {i : Nat} {C : List Nat}
theorem DOps.q (ho : ops[i]? = some { dst := some d, op := op, type := ty, pos := ps, after := af, guard := none }) (hq : quietOp op = true) (hd : Nat.blt d nt = true) (hv : quietV P e A op = some (v, T))
    (h : DOps P nt ops Q (listed.setIfInBounds i true) ((i, T) :: held) C ⟨(d, v) :: e, ds⟩ A) : DOps P nt ops Q listed held (i :: C) ⟨e, ds⟩ A :=
  DOps.take ho hq hd rfl hv h
theorem DOps.qOn (ho : ops[i]? = some { dst := some d, op := op, type := ty, pos := ps, after := af, guard := some (j, want) }) (hq : quietOp op = true) (hd : Nat.blt d nt = true) (ht : guardTmp ops j = some t) (hb : getE e t = some (.bool want)) (hv : quietV P e A op = some (v, T))
    (h : DOps P nt ops Q (listed.setIfInBounds i true) ((i, T) :: held) C ⟨(d, v) :: e, ds⟩ A) : DOps P nt ops Q listed held (i :: C) ⟨e, ds⟩ A :=
  DOps.takeOn ho hq hd rfl ht hb hv h
theorem DOps.qOff {b : Bool} (ho : ops[i]? = some { dst := some d, op := op, type := ty, pos := ps, after := af, guard := some (j, want) }) (hq : quietOp op = true) (hd : Nat.blt d nt = true) (ht : guardTmp ops j = some t) (hb : getE e t = some (.bool b)) (hne : b = !want)
    (h : DOps P nt ops Q (listed.setIfInBounds i true) ((i, []) :: held) C ⟨(d, undef) :: e, ds⟩ A) : DOps P nt ops Q listed held (i :: C) ⟨e, ds⟩ A :=
  DOps.takeOff ho hq hd rfl ht hb hne h
theorem DOps.qUnd (ho : ops[i]? = some { dst := some d, op := op, type := ty, pos := ps, after := af, guard := some (j, want) }) (hq : quietOp op = true) (hd : Nat.blt d nt = true) (ht : guardTmp ops j = some t) (hb : getE e t = some undef)
    (h : DOps P nt ops Q (listed.setIfInBounds i true) ((i, []) :: held) C ⟨(d, undef) :: e, ds⟩ A) : DOps P nt ops Q listed held (i :: C) ⟨e, ds⟩ A :=
  DOps.takeUndef ho hq hd rfl ht hb h
theorem DOps.part {p : Prop} [Decidable p] (hb : getE e t = some (.bool (decide p))) (h1 : p → DOps P nt ops Q listed held C ⟨(t, .bool true) :: e, ds⟩ A) (h2 : ¬ p → DOps P nt ops Q listed held C ⟨(t, .bool false) :: e, ds⟩ A) : DOps P nt ops Q listed held C ⟨e, ds⟩ A := by
  by_cases hp : p
  · exact (h1 hp).forget (getE_le (by rw [hb, decide_eq_true hp]))
  · exact (h2 hp).forget (getE_le (by rw [hb, decide_eq_false hp]))
theorem DOps.partB {b : Bool} (hb : getE e t = some (.bool b)) (h1 : b = true → DOps P nt ops Q listed held C ⟨(t, .bool true) :: e, ds⟩ A) (h2 : b = false → DOps P nt ops Q listed held C ⟨(t, .bool false) :: e, ds⟩ A) : DOps P nt ops Q listed held C ⟨e, ds⟩ A := by
  cases b
  · exact (h2 rfl).forget (getE_le hb)
  · exact (h1 rfl).forget (getE_le hb)

/-- What is held and does not come before operation i. -/
def HeldNow (ops : Array Oper) (held : List (Nat × Held)) (i : Nat) (A' : AH) : Prop := ∀ w', View A' w' → ∀ p ∈ held, anc ops p.1 ops.size i = false → holds p.2 w'

theorem DOps.l (ho : ops[i]? = some { dst := dst, op := op, type := ty, pos := ps, after := af, guard := none }) (hq : quietOp op = false) (hd : dstOk nt dst = true)
    (h : ∀ (K : Value → AH → Prop) (Kp : List PanicEntry → AH → Prop), (∀ v A', HeldNow ops held i A' → DOps P nt ops Q (listed.setIfInBounds i true) (held.filter fun p => !anc ops p.1 ops.size i) C ⟨putE e dst v, ds⟩ A' → K v A') →
      (∀ ch A', Q (.panic ch) ⟨[], ds⟩ A' → Kp ch A') → opV P e A { dst := dst, op := op, type := ty, pos := ps, after := af, guard := none } K Kp) : DOps P nt ops Q listed held (i :: C) ⟨e, ds⟩ A :=
  DOps.loud ho hq (dstOk_spec hd) (fun a _ => by simp [Region.wanted]) h
theorem DOps.lOn (ho : ops[i]? = some { dst := dst, op := op, type := ty, pos := ps, after := af, guard := some (j, want) }) (hq : quietOp op = false) (hd : dstOk nt dst = true) (ht : guardTmp ops j = some t) (hb : getE e t = some (.bool want))
    (h : ∀ (K : Value → AH → Prop) (Kp : List PanicEntry → AH → Prop), (∀ v A', HeldNow ops held i A' → DOps P nt ops Q (listed.setIfInBounds i true) (held.filter fun p => !anc ops p.1 ops.size i) C ⟨putE e dst v, ds⟩ A' → K v A') →
      (∀ ch A', Q (.panic ch) ⟨[], ds⟩ A' → Kp ch A') → opV P e A { dst := dst, op := op, type := ty, pos := ps, after := af, guard := some (j, want) } K Kp) : DOps P nt ops Q listed held (i :: C) ⟨e, ds⟩ A :=
  DOps.loud ho hq (dstOk_spec hd) (fun a ha => by simp [Region.wanted, yielded_of ha ht hb]) h
theorem DOps.lOff {b : Bool} (ho : ops[i]? = some { dst := dst, op := op, type := ty, pos := ps, after := af, guard := some (j, want) }) (hq : quietOp op = false) (hd : dstOk nt dst = true) (ht : guardTmp ops j = some t) (hb : getE e t = some (.bool b)) (hne : b = !want)
    (h : DOps P nt ops Q (listed.setIfInBounds i true) (held.filter fun p => !anc ops p.1 ops.size i) C ⟨putE e dst undef, ds⟩ A) : DOps P nt ops Q listed held (i :: C) ⟨e, ds⟩ A :=
  DOps.loudOff ho hq (dstOk_spec hd) (fun a ha => by simp [Region.wanted, yielded_of ha ht hb, hne]) h
theorem DOps.lUnd (ho : ops[i]? = some { dst := dst, op := op, type := ty, pos := ps, after := af, guard := some (j, want) }) (hq : quietOp op = false) (hd : dstOk nt dst = true) (ht : guardTmp ops j = some t) (hb : getE e t = some undef)
    (h : DOps P nt ops Q (listed.setIfInBounds i true) (held.filter fun p => !anc ops p.1 ops.size i) C ⟨putE e dst undef, ds⟩ A) : DOps P nt ops Q listed held (i :: C) ⟨e, ds⟩ A :=
  DOps.loudOff ho hq (dstOk_spec hd) (fun a ha => by simp [Region.wanted, yielded_not ha ht hb (fun _ q => by cases q)]) h

/-- Nothing is held of what the operation does not wait for: seen by the kernel. -/
theorem HeldNow.none {A' : AH} (h : (held.all fun p => p.2.isEmpty || anc ops p.1 ops.size i) = true) : HeldNow ops held i A' := fun w' _ p hp ha => by
  have := List.all_eq_true.1 h p hp
  rw [ha, Bool.or_false, List.isEmpty_iff] at this
  rw [this]; exact fun q hq => by cases hq
/-- All that is held is known behind the operation. -/
theorem HeldNow.of {A' : AH} (h : ∀ p ∈ held, anc ops p.1 ops.size i = false → ∀ q ∈ p.2, A'.cell q.1 = some q.2) : HeldNow ops held i A' := fun w' hw p hp ha q hq => hw.cell (h p hp ha q hq)

/-! ### Control -/
theorem Run.if {c : Operand} {x y : Code} {p : Prop} [Decidable p] (hc : opd e c = some (.bool (decide p))) (h1 : p → Run P nt x Q ⟨e, ds⟩ A) (h2 : ¬ p → Run P nt y Q ⟨e, ds⟩ A) : Run P nt (.cond c x y) Q ⟨e, ds⟩ A :=
  Run.cond hc (fun h => h1 (of_decide_eq_true h)) (fun h => h2 (of_decide_eq_false h))
theorem Run.ifB {c : Operand} {x y : Code} {b : Bool} (hc : opd e c = some (.bool b)) (h1 : b = true → Run P nt x Q ⟨e, ds⟩ A) (h2 : b = false → Run P nt y Q ⟨e, ds⟩ A) : Run P nt (.cond c x y) Q ⟨e, ds⟩ A := Run.cond hc h1 h2
/-- The ways of the first part meet again. -/
theorem Run.join {x y : Code} (J : Fr → AH → Prop) (h1 : Run P nt x (thenQ J Q) ⟨e, ds⟩ A) (h2 : ∀ f A', J f A' → Run P nt y Q f A') : Run P nt (x.seq y) Q ⟨e, ds⟩ A :=
  Run.seq fun _ hK => h1.mono fun x f A' h => by cases x <;> first | exact hK _ _ (h2 _ _ h) | exact h
end
end V
end Go.Proofs.YtaccklloepfemaaGreatDoor
