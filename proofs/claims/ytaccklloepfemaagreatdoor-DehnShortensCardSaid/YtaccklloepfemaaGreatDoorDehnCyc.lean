/- Turning a cyclic word, and what is joined: what the functions compute. -/
import Derived.Test.YtaccklloepfemaaGreatDoorDehnRun
namespace Go.Proofs.YtaccklloepfemaaGreatDoor
set_option linter.unusedVariables false
set_option linter.unusedSimpArgs false
open Go Go.RowKit V

theorem rot_at {w : List UInt8} {p i : Nat} (hp : p < w.length) (hi : i < w.length) : (rot w p).getD i 0 = w.getD ((p + i) % w.length) 0 := by
  simp only [rot, List.getD_eq_getElem?_getD]
  by_cases h : p + i < w.length
  · rw [List.getElem?_append_left (by simp; omega), List.getElem?_drop, Nat.mod_eq_of_lt h]
  · rw [List.getElem?_append_right (by simp; omega), List.length_drop, List.getElem?_take_of_lt (by omega), Nat.mod_eq_sub_mod (by omega), Nat.mod_eq_of_lt (by omega)]
    congr 2; omega
theorem rot_end {w : List UInt8} {p i : Nat} (hi : w.length ≤ i) : (rot w p).getD i 0 = 0 ∧ decide (i < (rot w p).length) = false := by
  rw [rot_length]
  refine ⟨?_, decide_eq_false (by omega)⟩
  rw [List.getD_eq_getElem?_getD, List.getElem?_eq_none (by rw [rot_length]; exact hi)]; rfl
def turnA (w : List UInt8) (i n : Nat) : Int := if ((i + n : Nat) : Int) - ((w.length : Nat) : Int) > 0 then ((i + n : Nat) : Int) - ((w.length : Nat) : Int) else 0
def turnU (L : List Rot) (w : List UInt8) : Nat → Int
  | 0 => -1
  | i + 1 => if 0 < (longF L (rot w i)).2 then (if turnU L w i < 0 ∨ turnA w i (longF L (rot w i)).2 < turnU L w i then turnA w i (longF L (rot w i)).2 else turnU L w i) else turnU L w i
theorem turnU_a {L : List Rot} {w : List UInt8} {i : Nat} {c : Int} (hc : c = turnU L w i) (h : (longF L (rot w i)).2 > 0) (h2 : c < 0 ∨ turnA w i (longF L (rot w i)).2 < c) : turnA w i (longF L (rot w i)).2 = turnU L w (i + 1) := by
  subst hc; rw [turnU, if_pos h, if_pos h2]
theorem turnU_b {L : List Rot} {w : List UInt8} {i : Nat} {c : Int} (hc : c = turnU L w i) (h : (longF L (rot w i)).2 > 0) (h2 : ¬ c < 0) (h3 : ¬ turnA w i (longF L (rot w i)).2 < c) : c = turnU L w (i + 1) := by
  subst hc; rw [turnU, if_pos h, if_neg (fun q => q.elim h2 h3)]
theorem turnU_c {L : List Rot} {w : List UInt8} {i : Nat} {c : Int} (hc : c = turnU L w i) (h : ¬ (longF L (rot w i)).2 > 0) : c = turnU L w (i + 1) := by
  subst hc; rw [turnU, if_neg h]
def dturn (L : List Rot) (w : List UInt8) : Int := turnU L w w.length
theorem longU_le (l : List Rot) (s : List UInt8) : ∀ i, (longU l s i).2 ≤ i
  | 0 => Nat.le_refl _
  | i + 1 => by
    have := longU_le l s i
    simp only [longU, longStep]
    split
    · split
      · exact Nat.le_refl _
      · dsimp only; omega
    · omega
theorem longF_le (l : List Rot) (s : List UInt8) : (longF l s).2 ≤ s.length := longU_le l s _
theorem turnU_bound (L : List Rot) (w : List UInt8) : ∀ i, i ≤ w.length → -1 ≤ turnU L w i ∧ turnU L w i < w.length + 1 ∧ (0 ≤ turnU L w i → turnU L w i < w.length)
  | 0, _ => by simp only [turnU]; omega
  | i + 1, hi => by
    have h := turnU_bound L w i (by omega)
    have h2 := longF_le L (rot w i)
    rw [rot_length] at h2
    rw [turnU]
    split
    · split
      · unfold turnA; split <;> omega
      · exact h
    · exact h
/-- Two words, less what cancels between them. -/
def jn : Nat → List UInt8 → List UInt8 → List UInt8 × List UInt8
  | 0, x, y => (x, y)
  | f + 1, x, y => if ¬ x = [] ∧ ¬ y = [] ∧ x.getD (x.length - 1) 0 = y.getD 0 0 ^^^ 32 then jn f (x.take (x.length - 1)) (y.drop 1) else (x, y)
theorem jn_go {f : Nat} {x y : List UInt8} {R : List UInt8 × List UInt8} (hf : x.length < f) (h : ¬ x = [] ∧ ¬ y = [] ∧ x.getD (x.length - 1) 0 = y.getD 0 0 ^^^ 32) (e : jn f x y = R) : jn (f - 1) (x.take (x.length - 1)) (y.drop 1) = R := by
  cases f with
  | zero => omega
  | succ f => rw [jn, if_pos h] at e; exact e
theorem jn_stop {f : Nat} {x y : List UInt8} {R : List UInt8 × List UInt8} (h : ¬ (¬ x = [] ∧ ¬ y = [] ∧ x.getD (x.length - 1) 0 = y.getD 0 0 ^^^ 32)) (e : jn f x y = R) : R = (x, y) := by
  cases f with
  | zero => exact e.symm
  | succ f => rw [jn, if_neg h] at e; exact e.symm
def jnd (x y : List UInt8) : List UInt8 := (jn (x.length + 1) x y).1 ++ (jn (x.length + 1) x y).2
theorem ne_len {x : List UInt8} (h : ¬ x = []) : 0 < x.length := by
  cases x with
  | nil => exact absurd rfl h
  | cons a x => simp
end Go.Proofs.YtaccklloepfemaaGreatDoor
