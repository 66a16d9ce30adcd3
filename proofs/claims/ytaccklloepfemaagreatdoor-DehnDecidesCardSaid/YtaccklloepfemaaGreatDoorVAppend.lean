/- append over a partial view: what a slice of the call's own holds, and what it holds behind an append; bytes to a string, a string to bytes. -/
import Derived.Test.YtaccklloepfemaaGreatDoorVMem
import Derived.Laws.BytesString
import Derived.Lib.ConvBytes
namespace Go.Proofs.YtaccklloepfemaaGreatDoor
set_option linter.unusedVariables false
set_option linter.unusedSimpArgs false
open Go Go.RowKit
namespace V

/-- A slice that may be appended to and written: nil, or one that starts at the head of a row that may be written; its cells. -/
def Own (A : AH) (v : Value) (size : Nat) (xs : List Value) : Prop :=
  (v = .slice none 0 0 ∧ xs = []) ∨
  ∃ b n k r rcap, v = .slice (some ⟨b, 0, none⟩) n k ∧ A.get b = some (.row true r rcap) ∧ xs.length = n * size ∧ r.take (n * size) = xs ∧ n ≤ k ∧ k * size ≤ rcap

/-- The block in which a slice lies. -/
def blk : Value → Option Nat
  | .slice (some a) _ _ => some a.block
  | _ => none

/-- What is known behind an append. -/
structure Appd (A : AH) (s : Value) (size : Nat) (xs : List Value) (v : Value) (A' : AH) : Prop where
  wf : A'.wf
  own : Own A' v size xs
  n : A.n ≤ A'.n
  get : ∀ b o, A.get b = some o → blk s ≠ some b → A'.get b = some o
  blk : ∀ b, blk v = some b → blk s = some b ∨ A.n ≤ b

/-- How many elements are appended, and their cells. -/
def listOf (A : AH) (size : Nat) : Value → Option (Nat × List Value)
  | .slice (some a) n _ => if n * size = 0 then some (n, []) else (A.cellsAt a (n * size)).map fun l => (n, l)
  | .slice none 0 _ => some (0, [])
  | .string s => if size = 1 then some (s.size, s.data.toList.map fun b => .int .u8 b.toNat) else none
  | _ => none

theorem growBy_le (m : Nat) : ∀ r c, 256 ≤ c → c ≤ 2 * m → Builtin.growBy m r c ≤ 2 * m := by
  intro r
  induction r with
  | zero => intro c _ h; exact h
  | succ r ih =>
    intro c h1 h2
    simp only [Builtin.growBy]
    split
    · exact h2
    · exact ih _ (by omega) (by omega)
theorem nextslicecap_le (m k : Nat) (h : k < m) : Builtin.nextslicecap m k ≤ 2 * m := by
  unfold Builtin.nextslicecap
  split
  · omega
  · split
    · omega
    · exact growBy_le _ _ _ (by omega) (by omega)

section
variable {P : Program} {w : World} {A : AH}

theorem run_listOf {size n : Nat} {x : Value} {ys : List Value} (h : View A w) (g : listOf A size x = some (n, ys)) :
    (Builtin.lenOf x).run P w = .ok n w ∧ (Builtin.firstCells size n x).run P w = .ok ys.toArray w := by
  unfold listOf at g
  split at g
  · rename_i a m k
    split at g
    · rename_i h0
      simp at g; obtain ⟨rfl, rfl⟩ := g
      refine ⟨rfl, ?_⟩
      simp only [Builtin.firstCells, h0, loadCells, loadCellsFrom]; rfl
    · cases hc : A.cellsAt a (m * size) with
      | none => simp [hc] at g
      | some l => simp [hc] at g; obtain ⟨rfl, rfl⟩ := g; simp [Builtin.lenOf, Builtin.firstCells, run_loadCells h hc]
  · simp at g; obtain ⟨rfl, rfl⟩ := g; simp [Builtin.lenOf, Builtin.firstCells]
  · rename_i s
    split at g
    · simp at g; obtain ⟨rfl, rfl⟩ := g
      have : s.extract 0 s.size = s := by simp
      simp only [Builtin.lenOf, Builtin.firstCells, this]
      refine ⟨rfl, ?_⟩
      have e : s.data.map (fun b => Value.int .u8 (b.toNat : Int)) = (List.map (fun b : UInt8 => Value.int .u8 (b.toNat : Int)) s.data.toList).toArray := by
        apply Array.ext'; simp
      rw [← e]; rfl
    · cases g
  · cases g

theorem zeroCells_size (z : Array Value) (n : Nat) : (Builtin.zeroCells z n).size = n * z.size := by simp [Builtin.zeroCells]

theorem view_kill {b : Nat} (h : View A w) : View (A.kill b) w ∧ Step A w (A.kill b) w :=
  ⟨⟨h.size, fun k o hk => by simp only [AH.kill_get] at hk; split at hk; cases hk; exact h.fits k o hk⟩,
   ⟨rfl, rfl, ⟨rfl, Nat.le_refl _⟩, Nat.le_refl _, fun _ _ _ => rfl, fun k hk => by
    left; simp only [AH.rw, AH.kill_get] at hk ⊢
    split at hk
    · rename_i o ho; split at ho
      · cases ho
      · simp [ho, hk]
    · cases hk⟩⟩

/-- append, of cells to a slice of the call's own. -/
theorem run_append {st xt : TypeId} {elem t : TypeId} {size bytes n sLen sCap : Nat} {base : Option Addr} {x z : Value} {d : TypeDesc} {i : TypeInfo} {xs ys : List Value}
    (h : View A w) (hu : P.underlying st = some (.slice elem)) (hsz : szOf P elem = some size) (hi : P.info? elem = some i) (hby : i.bytes = bytes) (hz : zeroOf P elem = some z) (hzs : z.cells.size = size)
    (hxt : P.underlying xt = some d) (hd : ∀ k, d ≠ .int k) (own : Own A (.slice base sLen sCap) size xs) (hx : listOf A size x = some (n, ys)) (hy : ys.length = n * size) (ho : oneL ys = true)
    (hlen : (sLen + n) * bytes ≤ 2 ^ 47) (hlen' : sLen + n < 2 ^ 63) :
    ∃ v w' A', (Builtin.append_ #[st, xt] t #[.slice base sLen sCap, x]).run P w = .ok v w' ∧ View A' w' ∧ Step A w A' w' ∧ Appd A (.slice base sLen sCap) size (xs ++ ys) v A' := by
  obtain ⟨r1, r2⟩ := run_listOf (P := P) h hx
  have hnz : (match d with | .int _ => true | _ => false) = false := by
    cases d <;> first | rfl | exact absurd rfl (hd _)
  have hold : (Builtin.firstCells size sLen (.slice base sLen sCap)).run P w = .ok xs.toArray w := by
    rcases own with ⟨hv, rfl⟩ | ⟨b, n', k, r, rcap, hv, hg, hl, hr, hk, hc⟩
    · cases hv; simp [Builtin.firstCells]
    · cases hv
      have : A.cellsAt ⟨b, 0, none⟩ (sLen * size) = some xs := by
        have : sLen * size ≤ r.length := by rw [← hr] at hl; simp at hl; omega
        simp [AH.cellsAt, hg, cellsL, this, hr]
      simp [Builtin.firstCells, run_loadCells h this]
  unfold Builtin.append_
  by_cases hfit : sLen + n ≤ sCap
  · -- in place
    rcases own with ⟨hv, rfl⟩ | ⟨b, n', k, r₀, rcap, hv, hg, hl, hr, hk, hc⟩
    · cases hv
      have hn : n = 0 := by omega
      subst hn
      have : ys = [] := List.length_eq_zero_iff.1 (by simpa using hy)
      subst this
      refine ⟨.slice none 0 0, w, A, ?_, h, .refl _ _, ⟨h.wf, .inl ⟨rfl, rfl⟩, Nat.le_refl _, fun _ _ hb _ => hb, fun _ hb => by cases hb⟩⟩
      simp [run_und hu, run_szOf hsz, run_und hxt, hnz, r1, r2]
    · cases hv
      obtain ⟨cs, e, fr, h1, h0, h2, h3, h4⟩ := h.row hg
      have hsz' : (sLen + n) * size ≤ rcap := Nat.le_trans (Nat.mul_le_mul_right _ hfit) hc
      have hadd : (⟨b, 0, none⟩ : Addr).add (sLen * size) = ⟨b, sLen * size, none⟩ := by rw [add_off _ _ rfl]; simp
      have hmul : (sLen + n) * size = sLen * size + n * size := Nat.add_mul _ _ _
      obtain ⟨w', cs', r, g1, g2, g3, g4, g5, g6, g7, g8⟩ := run_storeRaw (P := P) ys cs ⟨b, sLen * size, none⟩ 0 w h1 rfl rfl ho (by simp only; omega) (fun k _ hk => h4 rfl k (by simp only at hk; omega))
      have hxl : xs.length = sLen * size := hl
      have hrl : sLen * size ≤ r₀.length := by rw [← hr] at hl; simp at hl; omega
      refine ⟨.slice (some ⟨b, 0, none⟩) (sLen + n) sCap, w', A.set b (.row true (xs ++ ys) rcap), ?_, h.setRow g7 g8 ⟨cs', e, fr, g1, by simp; omega, by omega, fun i hi => ?_, h4⟩, Step.row hg g4 g5 g6 g7 g8,
        ⟨AH.wf_set h.wf (h.wf _ _ hg) _, .inr ⟨b, sLen + n, sCap, xs ++ ys, rcap, rfl, AH.set_get_same _ _ _, by simp; omega, by rw [List.take_of_length_le (by simp; omega)], hfit, hc⟩, Nat.le_refl _, fun k o hk hne => by rw [AH.set_get_ne]; exact hk; rintro rfl; exact hne rfl, fun k hk => .inl hk⟩⟩
      · simp [run_und hu, run_szOf hsz, run_und hxt, hnz, r1, r2, hfit, hadd, r]
      · simp only [List.length_append] at hi
        rw [g3 i]
        simp only [Nat.add_zero]
        by_cases q : sLen * size ≤ i
        · rw [if_pos (by omega), List.getElem?_append_right (by omega), hxl]
        · rw [if_neg (by omega), List.getElem?_append_left (by omega), ← hr, List.getElem?_take_of_lt (by omega)]
          exact h3 i (by omega)
  · -- a new row
    have hcap := nextslicecap_le (sLen + n) sCap (by omega)
    have hb1 : ¬ (Builtin.nextslicecap (sLen + n) sCap * i.bytes > 2 ^ 48) := by
      have := Nat.mul_le_mul_right i.bytes hcap
      rw [hby] at this ⊢
      have : 2 * (sLen + n) * bytes = 2 * ((sLen + n) * bytes) := Nat.mul_assoc _ _ _
      omega
    have hb2 : ¬ ((((sLen + n : Nat) : Int) > IntKind.i64.max) ∧ (False ∨ i.bytes = 0)) := by
      have : IntKind.i64.max = 9223372036854775807 := by decide
      rintro ⟨q, _⟩; omega
    generalize hq : Question.cut (.appendCap (sLen + n) sCap elem) (w.tape w.drawn (.appendCap (sLen + n) sCap elem)) = newCap
    have hnc : sLen + n ≤ newCap := by rw [← hq]; simp only [Question.cut]; omega
    obtain ⟨v1, s1⟩ : View A w.drew ∧ Step A w A w.drew := view_drawn h
    obtain ⟨v2, s2⟩ : View _ (w.drew.alloc (.cells (xs.toArray ++ (ys.toArray ++ Builtin.zeroCells z.cells (newCap - (sLen + n)))) elem)) ∧ Step A w.drew _ (w.drew.alloc (.cells (xs.toArray ++ (ys.toArray ++ Builtin.zeroCells z.cells (newCap - (sLen + n)))) elem)) :=
      view_newRow (c := xs.toArray ++ (ys.toArray ++ Builtin.zeroCells z.cells (newCap - (sLen + n)))) (elem := elem) v1
    have hold' : (Builtin.firstCells size sLen (.slice base sLen sCap)).run P w.drew = .ok xs.toArray w.drew := by
      rcases own with ⟨hv, rfl⟩ | ⟨b, n', k, r, rcap, hv, hg, hl, hr, hk, hc⟩
      · cases hv; simp [Builtin.firstCells]
      · cases hv
        have : A.cellsAt ⟨b, 0, none⟩ (sLen * size) = some xs := by
          have : sLen * size ≤ r.length := by rw [← hr] at hl; simp at hl; omega
          simp [AH.cellsAt, hg, cellsL, this, hr]
        simp [Builtin.firstCells, run_loadCells v1 this]
    have r2' := (run_listOf (P := P) v1 hx).2
    have hb1' : ¬ (281474976710656 < Builtin.nextslicecap (sLen + n) sCap * i.bytes) := by simpa using hb1
    have hb2' : ¬ (9223372036854775807 < (sLen : Int) + (n : Int) ∧ i.bytes = 0) := by rintro ⟨q, _⟩; omega
    have hxl : xs.length = sLen * size := by
      rcases own with ⟨hv, rfl⟩ | ⟨b, n', k, r, rcap, hv, hg, hl, hr, hk, hc⟩
      · cases hv; simp
      · cases hv; exact hl
    refine ⟨.slice (some ⟨w.heap.size, 0, none⟩) (sLen + n) newCap, _, _, ?_, v2, s1.trans s2, ⟨v2.wf, .inr ⟨w.heap.size, sLen + n, newCap, (xs.toArray ++ (ys.toArray ++ Builtin.zeroCells z.cells (newCap - (sLen + n)))).toList, (xs.toArray ++ (ys.toArray ++ Builtin.zeroCells z.cells (newCap - (sLen + n)))).size, rfl, ?_, ?_, ?_, hnc, ?_⟩, Nat.le_succ _, fun k o hk _ => ?_, fun k hk => ?_⟩⟩
    · simp [run_und hu, run_szOf hsz, run_und hxt, hnz, r1, hfit, typeInfo, hi, Question.forced, run_zeroOf hz, newRow]
      rw [if_neg hb2', if_neg hb1', hold']
      simp only [Result.andThen_ok]
      rw [r2']
      simp [hq]
    · rw [h.size]; exact AH.new_get_same _ _
    · simp [hxl, hy, Nat.add_mul]
    · simp only [Array.toList_append, ← List.append_assoc]
      rw [List.take_append_of_le_length (by simp [hxl, hy, Nat.add_mul])]
      rw [List.take_of_length_le (by simp [hxl, hy, Nat.add_mul])]
    · simp only [Array.size_append, zeroCells_size, hzs]
      simp only [List.size_toArray, hxl, hy]
      rw [← Nat.add_assoc, ← Nat.add_mul, ← Nat.add_mul]
      exact Nat.mul_le_mul_right _ (by omega)
    · rw [AH.new_get_ne]; exact hk; have := h.wf k o hk; omega
    · simp only [blk, Option.some.injEq] at hk; right; rw [← hk, h.size]; exact Nat.le_refl _

/-- The cells of a string. -/
def byteCells (s : List UInt8) : List Value := s.map fun b => .int .u8 b.toNat

theorem fold_bytes (s : List UInt8) (acc : ByteArray) :
    (s.map fun b => (b.toNat : Int)).foldl (fun r n => r.push (UInt8.ofNat n.toNat)) acc = ⟨acc.data ++ s.toArray⟩ := by
  induction s generalizing acc with
  | nil => simp
  | cons b s ih =>
    simp only [List.map_cons, List.foldl_cons]
    rw [ih]
    cases acc
    simp [ByteArray.push]

theorem run_bytesToStr {x : Value} {n : Nat} {s : List UInt8} (h : View A w) (hx : listOf A 1 x = some (n, byteCells s)) (hns : ∀ t, x ≠ .string t) : (Conv.bytesToString x).run P w = .ok (.string ⟨s.toArray⟩) w := by
  unfold listOf at hx
  split at hx
  · rename_i a m k
    obtain ⟨hc, rfl⟩ : (loadCells a m).run P w = .ok (byteCells s).toArray w ∧ m = n := by
      split at hx
      · rename_i h0
        have h0' : m = 0 := by omega
        simp only [Option.some.injEq, Prod.mk.injEq] at hx
        obtain ⟨rfl, hs⟩ := hx
        rw [← hs, h0']
        exact ⟨rfl, rfl⟩
      · cases hc : A.cellsAt a (m * 1) with
        | none => rw [hc] at hx; cases hx
        | some l =>
          rw [hc] at hx
          simp only [Option.map_some, Option.some.injEq, Prod.mk.injEq] at hx
          obtain ⟨rfl, rfl⟩ := hx
          rw [Nat.mul_one] at hc
          exact ⟨run_loadCells (P := P) h hc, rfl⟩
    · have e : byteCells s = (s.map fun b => (b.toNat : Int)).map (Value.int .u8) := by simp [byteCells]
      have := hc
      rw [e] at this
      rw [Go.run_bytesToString w a m k _ this, fold_bytes]
      simp [ByteArray.empty, ByteArray.emptyWithCapacity]
      rfl
  · simp at hx
    obtain ⟨rfl, hs⟩ := hx
    cases s with
    | nil => simp [Conv.bytesToString]; rfl
    | cons _ _ => cases hs
  · exact absurd rfl (hns _)
  · cases hx

theorem run_strToBytes {src dst e : TypeId} {s : ByteArray} {u : TypeDesc} (h : View A w) (hs : P.underlying src = some u) (hd : P.underlying dst = some (.slice e)) (he : P.underlying e = some (.int .u8)) (hlen : s.size < 2 ^ 63) :
    ∃ k w', (convert src dst (.string s)).run P w = .ok (.slice (some ⟨A.n, 0, none⟩) s.size k) w' ∧ View (A.new (.row true (byteCells s.data.toList) k)) w' ∧ Step A w (A.new (.row true (byteCells s.data.toList) k)) w' ∧ s.size ≤ k := by
  have hk : s.size ≤ grownCap w s.size 0 e := by unfold grownCap; simp only [Question.cut]; omega
  have hsz : (Lib.bytesCells w e s).size = grownCap w s.size 0 e := by
    have : s.data.size = s.size := rfl
    simp [Lib.bytesCells, this]; omega
  have hos : (Lib.bytesWorld w e s).os = w.os ∧ (Lib.bytesWorld w e s).tape = w.tape ∧ ((Lib.bytesWorld w e s).output = w.output ∧ w.drawn ≤ (Lib.bytesWorld w e s).drawn) := ⟨rfl, rfl, rfl, by show w.drawn ≤ w.drawn + 1; omega⟩
  refine ⟨_, _, by rw [← h.size]; exact Lib.run_convert_string_bytes w src dst e s hs hd he, ⟨by rw [Lib.bytesWorld_size, h.size]; rfl, fun b o hb => ?_⟩, ⟨hos.1, hos.2.1, hos.2.2, by rw [Lib.bytesWorld_size]; omega, fun b hb _ => Lib.bytesWorld_at_old w e s b hb, fun b hb => ?_⟩, hk⟩
  · simp only [AH.new_get] at hb
    split at hb
    · rename_i q; subst q; cases hb
      rw [← h.size, Lib.bytesWorld_at_new]
      refine ⟨_, _, _, rfl, ?_, Nat.le_of_eq hsz.symm, fun i hi => ?_, fun _ i hi => by simp only [hsz]; omega⟩
      · simpa [byteCells] using hk
      · simp only [byteCells, List.length_map] at hi
        have hi' : i < s.data.size := by simpa using hi
        simp only [Lib.bytesCells, byteCells]
        rw [Array.getElem?_append_left (by simpa using hi')]
        simp
    · have := h.wf b o hb
      rw [Lib.bytesWorld_at_old w e s b (by rw [h.size]; exact this)]
      exact h.fits b o hb
  · simp only [AH.rw, AH.new_get] at hb ⊢
    split at hb
    · rename_i y hy
      split at hy
      · right; rw [h.size]; omega
      · left; simp [hy, hb]
    · cases hb
end
end V
end Go.Proofs.YtaccklloepfemaaGreatDoor
