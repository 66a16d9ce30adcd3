/- Memory: loads, stores, new blocks over a partial view; each law says what the model's run does and what is known behind it. -/
import Derived.Test.YtaccklloepfemaaGreatDoorVRunPure
namespace Go.Proofs.YtaccklloepfemaaGreatDoor
set_option linter.unusedVariables false
set_option linter.unusedSimpArgs false
open Go Go.RowKit
namespace V

/-- A cell that is known. -/
def AH.cell (A : AH) (a : Addr) : Option Value :=
  if a.spot.isSome then none else match A.get a.block with
    | some (.row _ c _) => c[a.off]?
    | _ => none
/-- Known cells of a row. -/
def cellsL (c : List Value) (off n : Nat) : Option (List Value) := if off + n ≤ c.length then some ((c.drop off).take n) else none
def AH.cellsAt (A : AH) (a : Addr) (n : Nat) : Option (List Value) :=
  if a.spot.isSome then none else match A.get a.block with
    | some (.row _ c _) => cellsL c a.off n
    | _ => none

def setL : List Value → Nat → List Value → List Value
  | c, _, [] => c
  | c, i, v :: vs => setL (c.set i v) (i + 1) vs
@[simp] theorem setL_length (c : List Value) (i : Nat) (vs : List Value) : (setL c i vs).length = c.length := by
  induction vs generalizing c i with
  | nil => rfl
  | cons v vs ih => simp [setL, ih]

def loadV (P : Program) (A : AH) (t : TypeId) (x : Value) : Option Value :=
  match x with
  | .pointer (some a) =>
    match aggOf P t with
    | some true => (szOf P t).bind fun n => (A.cellsAt a n).map fun cs => .agg cs.toArray
    | some false => A.cell a
    | none => none
  | _ => none

def oneL (vs : List Value) : Bool := vs.all Value.oneCell'

def storeV (P : Program) (A : AH) (t : TypeId) (x v : Value) : Option AH :=
  match x with
  | .pointer (some a) =>
    if a.spot.isSome then none else
    match A.get a.block with
    | some (.row true c cap) => if szOf P t = some v.cells.size ∧ a.off + v.cells.size ≤ c.length ∧ oneL v.cells.toList then some (A.set a.block (.row true (setL c a.off v.cells.toList) cap)) else none
    | _ => none
  | _ => none

section
variable {P : Program} {w : World} {A : AH}

theorem View.row {rw : Bool} {c : List Value} {cap b : Nat} (h : View A w) (g : A.get b = some (.row rw c cap)) :
    ∃ cs elem fr, w.heap[b]? = some (.cells cs elem fr) ∧ c.length ≤ cap ∧ cap ≤ cs.size ∧ (∀ i, i < c.length → cs[i]? = c[i]?) ∧ (rw = true → ∀ i, i < cap → ¬ (fr.1 ≤ i ∧ i < fr.2)) := h.fits b _ g

theorem View.cell {a : Addr} {v : Value} (h : View A w) (g : A.cell a = some v) : w.cell? a = some v := by
  unfold AH.cell at g
  split at g
  · cases g
  · rename_i hs
    split at g
    · rename_i rw c cap hb
      obtain ⟨cs, e, fr, h1, _, h2, h3, _⟩ := h.row hb
      have hlt : a.off < c.length := (List.getElem?_eq_some_iff.1 g).1
      simp [World.cell?, h1, hs, h3 _ hlt, g]
    · cases g

theorem add_off (a : Addr) (i : Nat) (h : a.spot.isSome = false) : a.add i = ⟨a.block, a.off + i, none⟩ := by
  cases a with
  | mk b o s =>
    cases s with
    | some _ => cases h
    | none => unfold Addr.add; split <;> simp_all

theorem run_loadCellsFrom {a : Addr} {c : List Value} {rw : Bool} {cap : Nat} (h : View A w) (hs : a.spot.isSome = false) (g : A.get a.block = some (.row rw c cap)) :
    ∀ (n i : Nat) (acc : Array Value), a.off + i + n ≤ c.length → (loadCellsFrom a i n acc).run P w = .ok (acc ++ ((c.drop (a.off + i)).take n).toArray) w := by
  intro n
  induction n with
  | zero => intro i acc _; simp [loadCellsFrom]
  | succ n ih =>
    intro i acc hn
    have hlt : a.off + i < c.length := by omega
    have hc : w.cell? (a.add i) = some c[a.off + i] := h.cell (by rw [add_off a i hs]; simp [AH.cell, g, List.getElem?_eq_getElem hlt])
    simp only [loadCellsFrom, Sem.run_bind, run_load, hc, Result.andThen_ok]
    rw [ih (i + 1) _ (by omega)]
    congr 1
    rw [List.drop_eq_getElem_cons hlt]
    simp [Nat.add_assoc]

theorem run_loadCells {a : Addr} {n : Nat} {cs : List Value} (h : View A w) (g : A.cellsAt a n = some cs) : (loadCells a n).run P w = .ok cs.toArray w := by
  unfold AH.cellsAt at g
  split at g
  · cases g
  · rename_i hs
    split at g
    · rename_i rw c cap hb
      unfold cellsL at g
      split at g
      · cases g
        rw [loadCells, run_loadCellsFrom h (by simpa using hs) hb n 0 #[] (by omega)]
        simp
      · cases g
    · cases g

theorem run_loadV {t : TypeId} {x v : Value} (h : View A w) (g : loadV P A t x = some v) : (Instr.loadAt t x).run P w = .ok v w := by
  unfold loadV at g
  split at g
  · rename_i a
    cases ha : aggOf P t with
    | none => simp [ha] at g
    | some b =>
      cases b with
      | true =>
        cases hs : szOf P t with
        | none => simp [ha, hs] at g
        | some n =>
          cases hc : A.cellsAt a n with
          | none => simp [ha, hs, hc] at g
          | some cs => simp [ha, hs, hc] at g; subst g; simp [Instr.loadAt, Instr.sureAddr, loadVar, run_aggOf ha, run_szOf hs, run_loadCells h hc]
      | false => simp only [ha] at g; simp [Instr.loadAt, Instr.sureAddr, loadVar, run_aggOf ha, h.cell g]
  · cases g

/-- A write into a row that may be written. -/
theorem Step.row {b : Nat} {c c' : List Value} {cap cap' : Nat} {w' : World} (g : A.get b = some (.row true c cap)) (os : w'.os = w.os) (tape : w'.tape = w.tape) (output : w'.output = w.output ∧ w.drawn ≤ w'.drawn) (size : w'.heap.size = w.heap.size)
    (kept : ∀ k, k ≠ b → w'.heap[k]? = w.heap[k]?) : Step A w (A.set b (.row true c' cap')) w' := {
  os := os
  tape := tape
  output := output
  size := Nat.le_of_eq size.symm
  kept := fun k _ hr => kept k (by rintro rfl; simp [AH.rw, g, AObj.rw] at hr)
  rw := fun k hk => by
    left
    simp only [AH.rw, AH.set_get] at hk ⊢
    split at hk
    · rename_i x hx
      split at hx
      · rename_i e; subst e; simp [g, AObj.rw]
      · simp [hx, hk]
    · cases hk }

theorem View.setRow {b : Nat} {o : AObj} {w' : World} (h : View A w) (size : w'.heap.size = w.heap.size) (kept : ∀ k, k ≠ b → w'.heap[k]? = w.heap[k]?)
    (fits : o.fits w'.heap[b]?) : View (A.set b o) w' := {
  size := by rw [size, h.size]; rfl
  fits := fun k o hk => by
    simp only [AH.set_get] at hk
    split at hk
    · rename_i e; subst e; cases hk; exact fits
    · rename_i e; rw [kept k e]; exact h.fits k o hk }

/-- Storing a list of cells into a block: what the block holds then. -/
theorem run_storeRaw {b : Nat} {e : TypeId} {fr : Nat × Nat} : ∀ (vs : List Value) (cs : Array Value) (a : Addr) (i : Nat) (w : World), w.heap[b]? = some (.cells cs e fr) → a.block = b → a.spot.isSome = false → oneL vs = true →
    a.off + i + vs.length ≤ cs.size → (∀ k, a.off + i ≤ k → k < a.off + i + vs.length → ¬ (fr.1 ≤ k ∧ k < fr.2)) →
    ∃ w' cs', (storeCells a vs i).run P w = .ok () w' ∧ w'.heap[b]? = some (.cells cs' e fr) ∧ cs'.size = cs.size ∧ (∀ k, cs'[k]? = if a.off + i ≤ k ∧ k < a.off + i + vs.length then vs[k - (a.off + i)]? else cs[k]?) ∧
      w'.os = w.os ∧ w'.tape = w.tape ∧ (w'.output = w.output ∧ w.drawn ≤ w'.drawn) ∧ w'.heap.size = w.heap.size ∧ (∀ k, k ≠ b → w'.heap[k]? = w.heap[k]?) := by
  intro vs
  induction vs with
  | nil =>
    intro cs a i w h _ _ _ _ _
    refine ⟨w, cs, by simp [storeCells], h, rfl, fun k => ?_, rfl, rfl, ⟨rfl, Nat.le_refl _⟩, rfl, fun _ _ => rfl⟩
    rw [if_neg (by simp only [List.length_nil]; omega)]
  | cons v vs ih =>
    intro cs a i w h hb hs ho hl hf
    simp only [oneL, List.all_cons, Bool.and_eq_true] at ho
    simp only [List.length_cons] at hl hf
    have hlt : a.off + i < cs.size := by omega
    have hadd : a.add i = ⟨b, a.off + i, none⟩ := by rw [add_off a i hs, hb]
    have h1 : (w.setCell ⟨b, a.off + i, none⟩ v).heap[b]? = some (.cells (cs.setIfInBounds (a.off + i) v) e fr) := by
      simp only [World.setCell]; rw [Array.getElem?_modify]; simp [h]
    obtain ⟨w', cs', r, g1, g2, g3, g4, g5, g6, g7, g8⟩ := ih (cs.setIfInBounds (a.off + i) v) a (i + 1) _ h1 hb hs ho.2 (by simp; omega) (fun k hk1 hk2 => hf k (by omega) (by omega))
    refine ⟨w', cs', ?_, g1, by simpa using g2, fun k => ?_, g4, g5, g6, by rw [g7]; simp [World.setCell], fun k hk => by rw [g8 k hk]; exact Below.heap_setCell _ _ _ _ hk⟩
    · have hc : w.cell? ⟨b, a.off + i, none⟩ = some cs[a.off + i] := by simp [World.cell?, h, hlt]
      have hz : w.frozen? ⟨b, a.off + i, none⟩ = false := by
        have := hf (a.off + i) (by omega) (by omega)
        obtain ⟨f1, f2⟩ := fr
        simp only [World.frozen?, h]
        simp only at this
        simp only [Bool.and_eq_false_iff, decide_eq_false_iff_not]
        omega
      simp only [storeCells, Sem.run_bind, hadd]
      rw [run_store P w _ v _ ho.1]
      simp [hc, hz, r]
    · rw [g3 k]
      simp only [List.length_cons]
      by_cases q : a.off + i = k
      · subst q
        rw [if_neg (by omega), if_pos (by omega)]
        simp [hlt]
      · by_cases q2 : a.off + i < k ∧ k < a.off + i + (vs.length + 1)
        · rw [if_pos (by omega), if_pos (by omega)]
          have : k - (a.off + i) = (k - (a.off + (i + 1))) + 1 := by omega
          rw [this, List.getElem?_cons_succ]
        · rw [if_neg (by omega), if_neg (by omega), Array.getElem?_setIfInBounds_ne q]

theorem setL_get (c : List Value) (i : Nat) (vs : List Value) (h : i + vs.length ≤ c.length) (k : Nat) : (setL c i vs)[k]? = if i ≤ k ∧ k < i + vs.length then vs[k - i]? else c[k]? := by
  induction vs generalizing c i with
  | nil => rw [if_neg (by simp only [List.length_nil]; omega)]; rfl
  | cons v vs ih =>
    simp only [List.length_cons] at h
    simp only [setL, List.length_cons]
    rw [ih _ _ (by simp; omega)]
    by_cases q : i = k
    · subst q; rw [if_neg (by omega), if_pos (by omega), List.getElem?_set_self (by omega)]; simp
    · by_cases q2 : i < k ∧ k < i + (vs.length + 1)
      · rw [if_pos (by omega), if_pos (by omega)]
        have : k - i = (k - (i + 1)) + 1 := by omega
        rw [this, List.getElem?_cons_succ]
      · rw [if_neg (by omega), if_neg (by omega)]; simp [q]

theorem run_storeV {t : TypeId} {x v : Value} {A' : AH} (h : View A w) (g : storeV P A t x v = some A') :
    ∃ w', (Instr.storeAt t x v).run P w = .ok () w' ∧ View A' w' ∧ Step A w A' w' := by
  unfold storeV at g
  split at g
  · rename_i a
    split at g
    · cases g
    · rename_i hs
      split at g
      · rename_i c cap hb
        split at g
        · rename_i q
          cases g
          obtain ⟨cs, e, fr, h1, h0, h2, h3, h4⟩ := h.row hb
          obtain ⟨q1, q2, q3⟩ := q
          have q2' : a.off + v.cells.toList.length ≤ c.length := by simpa using q2
          obtain ⟨w', cs', r, g1, g2, g3, g4, g5, g6, g7, g8⟩ := run_storeRaw (P := P) v.cells.toList cs a 0 w h1 rfl (by simpa using hs) q3 (by omega) (fun k _ hk => h4 rfl k (by omega))
          refine ⟨w', ?_, h.setRow g7 g8 ⟨cs', e, fr, g1, by simpa using h0, by omega, fun i hi => ?_, h4⟩, Step.row hb g4 g5 g6 g7 g8⟩
          · simp [Instr.storeAt, Instr.sureAddr, storeVar, run_szOf q1, r]
          · rw [setL_length] at hi
            rw [g3 i, setL_get _ _ _ q2', Nat.add_zero]
            split
            · rfl
            · exact h3 i hi
        · cases g
      · cases g
  · cases g

/-- A new block. -/
theorem view_new {o : AObj} {x : Obj} (h : View A w) (f : o.fits (some x)) :
    View (A.new o) { w with heap := w.heap.push x } ∧ Step A w (A.new o) { w with heap := w.heap.push x } := by
  refine ⟨⟨by simp [h.size], fun b y hy => ?_⟩, ⟨rfl, rfl, ⟨rfl, Nat.le_refl _⟩, by simp, fun b hb _ => by simp [Array.getElem?_push, Nat.ne_of_lt hb], fun b hb => ?_⟩⟩
  · simp only [AH.new_get] at hy
    split at hy
    · rename_i e; cases hy; subst e; rw [← h.size]; simpa using f
    · have := h.wf b y hy
      have hne : b ≠ w.heap.size := by rw [h.size]; omega
      simp only [Array.getElem?_push, hne, if_false]
      exact h.fits b y hy
  · simp only [AH.rw, AH.new_get] at hb ⊢
    split at hb
    · rename_i y hy
      split at hy
      · rename_i e; right; rw [h.size]; omega
      · left; simp [hy, hb]
    · cases hb

theorem view_newRow {c : Array Value} {elem : TypeId} (h : View A w) :
    View (A.new (.row true c.toList c.size)) { w with heap := w.heap.push (.cells c elem) } ∧ Step A w (A.new (.row true c.toList c.size)) { w with heap := w.heap.push (.cells c elem) } :=
  view_new h ⟨c, elem, (0, 0), rfl, by simp, Nat.le_refl _, fun i _ => by simp, fun _ i _ => by simp⟩

theorem view_drawn (h : View A w) : View A { w with drawn := w.drawn + 1 } ∧ Step A w A { w with drawn := w.drawn + 1 } :=
  ⟨⟨h.size, h.fits⟩, ⟨rfl, rfl, ⟨rfl, Nat.le_succ _⟩, Nat.le_refl _, fun _ _ _ => rfl, fun _ h => .inl h⟩⟩
end
end V
end Go.Proofs.YtaccklloepfemaaGreatDoor
