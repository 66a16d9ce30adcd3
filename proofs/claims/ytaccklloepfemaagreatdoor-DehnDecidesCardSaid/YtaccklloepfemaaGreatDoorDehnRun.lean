/- What comes of shortening: how large it is; the outcome that a caller sees; the verifying of the rules. -/
import Derived.Test.YtaccklloepfemaaGreatDoorDehnTI
namespace Go.Proofs.YtaccklloepfemaaGreatDoor
set_option linter.unusedVariables false
set_option linter.unusedSimpArgs false
open Go Go.RowKit V

theorem drun_small {L : List Rot} {m : Nat} (hx : ∀ x ∈ L, x.c.length ≤ 1000) : ∀ (f : Nat) (l : List UInt8) (d : List DCell) (p : Nat), l.length ≤ 6000 →
    (drun L m f l d p).1.length ≤ l.length ∧ (drun L m f l d p).2.length + (drun L m f l d p).1.length ≤ d.length + l.length ∧ ∀ c ∈ (drun L m f l d p).2, c ∈ d ∨ c.conj.length ≤ 7000
  | 0, l, d, p, _ => ⟨Nat.le_refl _, Nat.le_refl _, fun c h => .inl h⟩
  | f + 1, l, d, p, hl => by
    rw [drun]
    by_cases hp : p < l.length
    · rw [if_pos hp]
      by_cases h : 0 ≤ (longF L (l.drop p)).1
      · rw [if_pos h]
        have hlt := repl_lt hp h
        obtain ⟨h1, h2, h3⟩ := drun_small (m := m) hx f (repl l p (L.getD (longF L (l.drop p)).1.toNat .zero)).1 (d ++ [repC l p (L.getD (longF L (l.drop p)).1.toNat .zero)]) ((repl l p (L.getD (longF L (l.drop p)).1.toNat .zero)).2 - m) (by omega)
        refine ⟨by omega, by simp only [List.length_append, List.length_cons, List.length_nil] at h2; omega, fun c hc => ?_⟩
        rcases h3 c hc with q | q
        · rcases List.mem_append.1 q with q | q
          · exact .inl q
          · simp only [List.mem_singleton] at q
            subst q
            right
            have e1 := hx _ (getD_mem (d := Rot.zero) (longF_pos h).1)
            have e2 := wReduce_length (l.take p ++ (L.getD (longF L (l.drop p)).1.toNat .zero).c)
            rw [List.length_append, List.length_take] at e2
            show (wReduce _).length ≤ 7000
            omega
        · exact .inr q
      · rw [if_neg h]; exact drun_small (m := m) hx f l d (p + 1) hl
    · rw [if_neg hp]; exact ⟨Nat.le_refl _, Nat.le_refl _, fun c h => .inl h⟩
theorem conjs_le {d : List DCell} {n : Nat} (h : ∀ c ∈ d, c.conj.length ≤ n) : conjs d ≤ d.length * n := by
  induction d with
  | nil => simp [conjs]
  | cons c d ih =>
    have h1 := ih fun c hc => h c (List.mem_cons_of_mem _ hc)
    have h2 := h c List.mem_cons_self
    simp only [conjs, List.map_cons, List.sum_cons, List.length_cons] at h1 ⊢
    rw [Nat.add_mul]; omega
theorem dsh_small {S : RS} (hS : RSok S) {w : List UInt8} (hw : w.length ≤ 6000) : (dsh S w).1.length ≤ 6000 ∧ (dsh S w).2.length ≤ 100000000 ∧ conjs (dsh S w).2 ≤ 100000000 := by
  have hr := red_length w
  obtain ⟨h1, h2, h3⟩ := drun_small (m := S.most) (fun x hx => (hS.isw x hx).2.2) (fuel (red w).length) (red w) [] 0 (by omega)
  have h4 : ∀ c ∈ (dsh S w).2, c.conj.length ≤ 7000 := fun c hc => (h3 c hc).elim (fun q => by cases q) id
  have h5 := conjs_le h4
  change (dsh S w).1.length ≤ _ at h1
  change (dsh S w).2.length + (dsh S w).1.length ≤ _ at h2
  simp only [List.length_nil] at h2
  have : (dsh S w).2.length * 7000 ≤ 6000 * 7000 := Nat.mul_le_mul_right _ (by omega)
  omega
/-- What is so of the rules of a presentation. -/
def SOk (l : List (List UInt8)) (S : RS) : Prop := RSok S ∧ S.list.Perm (allR l) ∧ S.list.Pairwise (fun x y => ¬ cmpw y.w x.w < 0)
def Heavy (d : List DCell) : Prop := 1000000 < conjs d ∨ 100000 < d.length
instance (d : List DCell) : Decidable (Heavy d) := inferInstanceAs (Decidable (_ ∨ _))
def shOf (S : RS) (w : List UInt8) : List UInt8 × List DCell × Nat := if Heavy (dsh S w).2 then ([], [], 2) else ((dsh S w).1, (dsh S w).2, 0)
def ShR (g : Int) (l : List (List UInt8)) (w : List UInt8) (r : List UInt8 × List DCell × Nat) : Prop :=
  if ¬ rasked g l w = 0 then r = ([], [], rasked g l w) else ∃ S, SOk l S ∧ r = shOf S w
theorem ShR.no {g : Int} {l : List (List UInt8)} {w : List UInt8} (h : ¬ rasked g l w = 0) : ShR g l w ([], [], rasked g l w) := by rw [ShR, if_pos h]
theorem ShR.heavy {g : Int} {l : List (List UInt8)} {w : List UInt8} {S : RS} (h : ¬ ¬ rasked g l w = 0) (hS : SOk l S) (hh : Heavy (dsh S w).2) : ShR g l w ([], [], 2) := by rw [ShR, if_neg h]; exact ⟨S, hS, by rw [shOf, if_pos hh]⟩
theorem ShR.ok {g : Int} {l : List (List UInt8)} {w : List UInt8} {S : RS} (h : ¬ ¬ rasked g l w = 0) (hS : SOk l S) (hh : ¬ Heavy (dsh S w).2) : ShR g l w ((dsh S w).1, (dsh S w).2, 0) := by rw [ShR, if_neg h]; exact ⟨S, hS, by rw [shOf, if_neg hh]⟩
def StR (g : Int) (l : List (List UInt8)) (w : List UInt8) (r : Bool × Nat) : Prop :=
  if ¬ rasked g l w = 0 then r = (false, rasked g l w) else if wReduce w = w then ∃ S, SOk l S ∧ r = (decide ((dsh S w).2.length = 0), 0) else r = (false, 0)
theorem StR.no {g : Int} {l : List (List UInt8)} {w : List UInt8} (h : ¬ rasked g l w = 0) : StR g l w (false, rasked g l w) := by rw [StR, if_pos h]
theorem StR.ok {g : Int} {l : List (List UInt8)} {w : List UInt8} {S : RS} (h : ¬ ¬ rasked g l w = 0) (hw : wReduce w = w) (hS : SOk l S) {b : Bool} (hb : b = decide ((dsh S w).2.length = 0)) : StR g l w (b, 0) := by rw [StR, if_neg h, if_pos hw]; exact ⟨S, hS, by rw [hb]⟩
theorem StR.un {g : Int} {l : List (List UInt8)} {w : List UInt8} (h : ¬ ¬ rasked g l w = 0) (hw : ¬ wReduce w = w) : StR g l w (false, 0) := by rw [StR, if_neg h, if_neg hw]
/-- The words in the order of bytes. -/
def srt (d : List (List UInt8)) : List (List UInt8) := d.mergeSort fun x y => decide (x ≤ y)
theorem srt_perm (d : List (List UInt8)) : (srt d).Perm d := List.mergeSort_perm _ _
def badAt (d : List (List UInt8)) (i : Nat) : Prop := (d.getD (i - 1) []).length ≤ 6 * cmn (d.getD (i - 1) []) (d.getD i []) ∨ (d.getD i []).length ≤ 6 * cmn (d.getD (i - 1) []) (d.getD i [])
instance (d : List (List UInt8)) (i : Nat) : Decidable (badAt d i) := inferInstanceAs (Decidable (_ ∨ _))
def dverW (d : List (List UInt8)) : Bool := (List.range d.length).all fun i => decide (i = 0 ∨ ¬ badAt d i)
def dver (S : RS) : Bool := dverW (srt (S.list.map (·.w)))
theorem dverW_no {d : List (List UInt8)} {i : Nat} (h1 : 1 ≤ i) (hi : i < d.length) (h : badAt d i) : dverW d = false := by
  rw [dverW, List.all_eq_false]
  exact ⟨i, by simpa using hi, by rw [decide_eq_true_eq]; rintro (q | q); omega; exact q h⟩
theorem dverW_yes {d : List (List UInt8)} {i : Nat} (hi : d.length ≤ i) (h : ∀ j, 1 ≤ j → j < i → ¬ badAt d j) : dverW d = true := by
  rw [dverW, List.all_eq_true]
  intro j hj
  rw [decide_eq_true_eq]
  by_cases q : j = 0
  · exact .inl q
  · exact .inr (h j (by omega) (by have := List.mem_range.1 hj; omega))
def VeR (g : Int) (l : List (List UInt8)) (c : Nat) : Prop := if ¬ pcheck g l = 0 then c = pcheck g l else ∃ S, SOk l S ∧ c = if dver S = true then 0 else 230
theorem VeR.no {g : Int} {l : List (List UInt8)} (h : ¬ pcheck g l = 0) : VeR g l (pcheck g l) := by rw [VeR, if_pos h]
theorem VeR.ok {g : Int} {l : List (List UInt8)} {S : RS} {c : Nat} (h : ¬ ¬ pcheck g l = 0) (hS : SOk l S) (hc : c = if dver S = true then 0 else 230) : VeR g l c := by rw [VeR, if_neg h]; exact ⟨S, hS, hc⟩
def trOf (S : RS) (w : List UInt8) : Bool × List DCell × Nat := if dver S = true then (if (dsh S w).1 = [] then (if Heavy (dsh S w).2 then (false, [], 2) else (true, (dsh S w).2, 0)) else (false, [], 0)) else (false, [], 230)
def TrR (g : Int) (l : List (List UInt8)) (w : List UInt8) (r : Bool × List DCell × Nat) : Prop :=
  if ¬ rasked g l w = 0 then r = (false, [], rasked g l w) else ∃ S, SOk l S ∧ r = trOf S w
theorem TrR.no {g : Int} {l : List (List UInt8)} {w : List UInt8} (h : ¬ rasked g l w = 0) : TrR g l w (false, [], rasked g l w) := by rw [TrR, if_pos h]
theorem TrR.ok {g : Int} {l : List (List UInt8)} {w : List UInt8} {S : RS} {r : Bool × List DCell × Nat} (h : ¬ ¬ rasked g l w = 0) (hS : SOk l S) (hr : r = trOf S w) : TrR g l w r := by rw [TrR, if_neg h]; exact ⟨S, hS, hr⟩
section
variable {g : Int} {l : List (List UInt8)} {w : List UInt8} {S : RS}
theorem TrR.a (h : ¬ ¬ rasked g l w = 0) (hS : SOk l S) (hv : (!dver S) = true) : TrR g l w (false, [], 230) := TrR.ok h hS (by rw [trOf, if_neg (by intro q; rw [q] at hv; cases hv)])
theorem TrR.b (h : ¬ ¬ rasked g l w = 0) (hS : SOk l S) (hv : (!dver S) = false) (hd : ¬ (dsh S w).1 = []) : TrR g l w (false, [], 0) := TrR.ok h hS (by rw [trOf, if_pos (by simpa using hv), if_neg hd])
theorem TrR.c (h : ¬ ¬ rasked g l w = 0) (hS : SOk l S) (hv : (!dver S) = false) (hd : ¬ ¬ (dsh S w).1 = []) (hh : Heavy (dsh S w).2) : TrR g l w (false, [], 2) := TrR.ok h hS (by rw [trOf, if_pos (by simpa using hv), if_pos (Decidable.not_not.1 hd), if_pos hh])
theorem TrR.d (h : ¬ ¬ rasked g l w = 0) (hS : SOk l S) (hv : (!dver S) = false) (hd : ¬ ¬ (dsh S w).1 = []) (hh : ¬ Heavy (dsh S w).2) : TrR g l w (true, (dsh S w).2, 0) := TrR.ok h hS (by rw [trOf, if_pos (by simpa using hv), if_pos (Decidable.not_not.1 hd), if_neg hh])
end
end Go.Proofs.YtaccklloepfemaaGreatDoor
