/- Turning a cyclic word, and what is joined: what the functions compute. Cyclic words are shortened: each round makes the word shorter; the outcome. -/
import Derived.Test.YtaccklloepfemaaGreatDoorDehnRun
namespace Go.Proofs.YtaccklloepfemaaGreatDoor
set_option linter.unusedVariables false
set_option linter.unusedSimpArgs false
open Go Go.RowKit V

theorem rot_at {w : List UInt8} {p i : Nat} (hp : p < w.length) (hi : i < w.length) : (rot w p).getD i 0 = w.getD ((p + i) % w.length) 0 := by
  simp only [rot, List.getD_eq_getElem?_getD]
  by_cases h : p + i < w.length
  · rw [List.getElem?_append_left (by simp; omega), List.getElem?_drop, Nat.mod_eq_of_lt h]
  · rw [List.getElem?_append_right (by simp; omega), List.length_drop, List.getElem?_take_of_lt (by omega), Nat.mod_eq_sub_mod (by omega), Nat.mod_eq_of_lt (by omega)]
    congr 2; omega
theorem rot_end {w : List UInt8} {p i : Nat} (hi : w.length ≤ i) : (rot w p).getD i 0 = 0 ∧ decide (i < (rot w p).length) = false := by
  rw [rot_length]
  refine ⟨?_, decide_eq_false (by omega)⟩
  rw [List.getD_eq_getElem?_getD, List.getElem?_eq_none (by rw [rot_length]; exact hi)]; rfl
def turnA (w : List UInt8) (i n : Nat) : Int := if ((i + n : Nat) : Int) - ((w.length : Nat) : Int) > 0 then ((i + n : Nat) : Int) - ((w.length : Nat) : Int) else 0
def turnU (L : List Rot) (w : List UInt8) : Nat → Int
  | 0 => -1
  | i + 1 => if 0 < (longF L (rot w i)).2 then (if turnU L w i < 0 ∨ turnA w i (longF L (rot w i)).2 < turnU L w i then turnA w i (longF L (rot w i)).2 else turnU L w i) else turnU L w i
theorem turnU_a {L : List Rot} {w : List UInt8} {i : Nat} {c : Int} (hc : c = turnU L w i) (h : (longF L (rot w i)).2 > 0) (h2 : c < 0 ∨ turnA w i (longF L (rot w i)).2 < c) : turnA w i (longF L (rot w i)).2 = turnU L w (i + 1) := by
  subst hc; rw [turnU, if_pos h, if_pos h2]
theorem turnU_b {L : List Rot} {w : List UInt8} {i : Nat} {c : Int} (hc : c = turnU L w i) (h : (longF L (rot w i)).2 > 0) (h2 : ¬ c < 0) (h3 : ¬ turnA w i (longF L (rot w i)).2 < c) : c = turnU L w (i + 1) := by
  subst hc; rw [turnU, if_pos h, if_neg (fun q => q.elim h2 h3)]
theorem turnU_c {L : List Rot} {w : List UInt8} {i : Nat} {c : Int} (hc : c = turnU L w i) (h : ¬ (longF L (rot w i)).2 > 0) : c = turnU L w (i + 1) := by
  subst hc; rw [turnU, if_neg h]
def dturn (L : List Rot) (w : List UInt8) : Int := turnU L w w.length
theorem longU_le (l : List Rot) (s : List UInt8) : ∀ i, (longU l s i).2 ≤ i
  | 0 => Nat.le_refl _
  | i + 1 => by
    have := longU_le l s i
    simp only [longU, longStep]
    split
    · split
      · exact Nat.le_refl _
      · dsimp only; omega
    · omega
theorem longF_le (l : List Rot) (s : List UInt8) : (longF l s).2 ≤ s.length := longU_le l s _
theorem turnU_bound (L : List Rot) (w : List UInt8) : ∀ i, i ≤ w.length → -1 ≤ turnU L w i ∧ turnU L w i < w.length + 1 ∧ (0 ≤ turnU L w i → turnU L w i < w.length)
  | 0, _ => by simp only [turnU]; omega
  | i + 1, hi => by
    have h := turnU_bound L w i (by omega)
    have h2 := longF_le L (rot w i)
    rw [rot_length] at h2
    rw [turnU]
    split
    · split
      · unfold turnA; split <;> omega
      · exact h
    · exact h
/-- Two words, less what cancels between them. -/
def jn : Nat → List UInt8 → List UInt8 → List UInt8 × List UInt8
  | 0, x, y => (x, y)
  | f + 1, x, y => if ¬ x = [] ∧ ¬ y = [] ∧ x.getD (x.length - 1) 0 = y.getD 0 0 ^^^ 32 then jn f (x.take (x.length - 1)) (y.drop 1) else (x, y)
theorem jn_go {f : Nat} {x y : List UInt8} {R : List UInt8 × List UInt8} (hf : x.length < f) (h : ¬ x = [] ∧ ¬ y = [] ∧ x.getD (x.length - 1) 0 = y.getD 0 0 ^^^ 32) (e : jn f x y = R) : jn (f - 1) (x.take (x.length - 1)) (y.drop 1) = R := by
  cases f with
  | zero => omega
  | succ f => rw [jn, if_pos h] at e; exact e
theorem jn_stop {f : Nat} {x y : List UInt8} {R : List UInt8 × List UInt8} (h : ¬ (¬ x = [] ∧ ¬ y = [] ∧ x.getD (x.length - 1) 0 = y.getD 0 0 ^^^ 32)) (e : jn f x y = R) : R = (x, y) := by
  cases f with
  | zero => exact e.symm
  | succ f => rw [jn, if_neg h] at e; exact e.symm
def jnd (x y : List UInt8) : List UInt8 := (jn (x.length + 1) x y).1 ++ (jn (x.length + 1) x y).2
theorem ne_len {x : List UInt8} (h : ¬ x = []) : 0 < x.length := by
  cases x with
  | nil => exact absurd rfl h
  | cons a x => simp
end Go.Proofs.YtaccklloepfemaaGreatDoor

namespace Go.Proofs.YtaccklloepfemaaGreatDoor
set_option linter.unusedVariables false
set_option linter.unusedSimpArgs false
open Go Go.RowKit V

theorem longU_some {L : List Rot} {s : List UInt8} : ∀ i, i ≤ s.length → 0 < (longU L s i).2 → (longU L s i).2 ≤ i ∧ ∃ x ∈ L, s.take (longU L s i).2 <+: x.w ∧ x.w.length < 2 * (longU L s i).2
  | 0, _, h => by simp [longU] at h
  | i + 1, hi, h => by
    have ih := longU_some (L := L) (s := s) i (by omega)
    simp only [longU, longStep] at h ⊢
    by_cases hb : 0 ≤ bestOf L (s.take (i + 1))
    · rw [if_pos hb] at h ⊢
      by_cases hc : (longU L s i).1 < 0
      · rw [if_pos hc] at h ⊢
        obtain ⟨j, _, h2, h3, h4, _⟩ := bestOf_spec hb
        refine ⟨Nat.le_refl _, _, getD_mem (d := Rot.zero) h2, h3, ?_⟩
        rw [List.length_take] at h4
        show _ < 2 * (i + 1)
        omega
      · rw [if_neg hc] at h ⊢
        dsimp only at h ⊢
        obtain ⟨h1, h2⟩ := ih h
        exact ⟨by omega, h2⟩
    · rw [if_neg hb] at h ⊢
      obtain ⟨h1, h2⟩ := ih h
      exact ⟨by omega, h2⟩
theorem longF_some {L : List Rot} {s : List UInt8} (h : 0 < (longF L s).2) : (longF L s).2 ≤ s.length ∧ ∃ x ∈ L, s.take (longF L s).2 <+: x.w ∧ x.w.length < 2 * (longF L s).2 := longU_some s.length (Nat.le_refl _) h
theorem part_pos {L : List Rot} {s : List UInt8} {x : Rot} {n : Nat} (hx : x ∈ L) (hn : n ≤ s.length) (hp : s.take n <+: x.w) (hl : x.w.length < 2 * n) : 0 ≤ (longF L s).1 := by
  apply Classical.byContradiction
  intro q
  have h1 := longF_neg q x hx
  have h2 := (cmn_prefix s x.w n hn).1 hp
  omega
theorem drun_le {L : List Rot} {m : Nat} : ∀ (f : Nat) (l : List UInt8) (d : List DCell) (p : Nat), (drun L m f l d p).1.length ≤ l.length
  | 0, l, d, p => Nat.le_refl _
  | f + 1, l, d, p => by
    rw [drun]
    by_cases hp : p < l.length
    · rw [if_pos hp]
      by_cases h : 0 ≤ (longF L (l.drop p)).1
      · rw [if_pos h]
        exact Nat.le_trans (drun_le f _ _ _) (Nat.le_of_lt (repl_lt hp h))
      · rw [if_neg h]; exact drun_le f l d (p + 1)
    · rw [if_neg hp]; exact Nat.le_refl _
theorem drun_lt {L : List Rot} {m : Nat} : ∀ (f : Nat) (l : List UInt8) (d : List DCell) (p q : Nat), l.length - p < f → p ≤ q → q < l.length → 0 ≤ (longF L (l.drop q)).1 → (drun L m f l d p).1.length < l.length
  | 0, _, _, _, _, hf, _, _, _ => by omega
  | f + 1, l, d, p, q, hf, hpq, hq, h => by
    rw [drun, if_pos (by omega)]
    by_cases hp : 0 ≤ (longF L (l.drop p)).1
    · rw [if_pos hp]
      have hlt := repl_lt (show p < l.length by omega) hp
      refine Nat.lt_of_le_of_lt ?_ hlt
      exact drun_le f _ _ _
    · rw [if_neg hp]
      exact drun_lt f l d (p + 1) q (by omega) (by rcases Nat.lt_or_eq_of_le hpq with e | e; exact e; subst e; exact absurd h hp) hq h
theorem dsh_le (S : RS) (w : List UInt8) : (dsh S w).1.length ≤ (red w).length := drun_le _ _ _ _
theorem dsh_lt {S : RS} {w : List UInt8} {q : Nat} (hq : q < w.length) (h : 0 ≤ (longF S.list (w.drop q)).1) : (dsh S w).1.length < w.length := by
  have h1 := red_length w
  have h2 := dsh_le S w
  rcases Nat.lt_or_eq_of_le h1 with e | e
  · omega
  · have e2 : red w = w := (red_len_eq w []).2 (by simpa [red] using e)
    unfold dsh
    rw [e2]
    exact drun_lt _ _ _ 0 q (by unfold fuel; omega) (Nat.zero_le _) hq h
theorem turnU_mem {L : List Rot} {w : List UInt8} : ∀ i, i ≤ w.length → 0 ≤ turnU L w i → ∃ j, j < i ∧ 0 < (longF L (rot w j)).2 ∧ turnU L w i = turnA w j (longF L (rot w j)).2
  | 0, _, h => by simp [turnU] at h
  | i + 1, hi, h => by
    rw [turnU] at h ⊢
    by_cases hn : 0 < (longF L (rot w i)).2
    · rw [if_pos hn] at h ⊢
      split at h
      · rename_i hc
        rw [if_pos hc]
        exact ⟨i, by omega, hn, rfl⟩
      · rename_i hc
        rw [if_neg hc]
        obtain ⟨j, h1, h2⟩ := turnU_mem i (by omega) h
        exact ⟨j, by omega, h2⟩
    · rw [if_neg hn] at h ⊢
      obtain ⟨j, h1, h2⟩ := turnU_mem i (by omega) h
      exact ⟨j, by omega, h2⟩
/-- Where a turned word has its part. -/
theorem rot_part {w : List UInt8} {i k n : Nat} (hi : i < w.length) (hk : k ≤ i) (hn : i + n ≤ w.length + k) : ((rot w k).drop (i - k)).take n = (rot w i).take n := by
  have e1 : (rot w k).drop (i - k) = w.drop i ++ w.take k := by
    rw [rot, List.drop_append_of_le_length (by rw [List.length_drop]; omega), List.drop_drop, show k + (i - k) = i by omega]
  rw [e1, rot]
  have e2 : w.take i = w.take k ++ (w.take i).drop k := by
    have := (List.take_append_drop k (w.take i)).symm
    rw [List.take_take, Nat.min_eq_left hk] at this; exact this
  rw [e2, ← List.append_assoc, List.take_append_of_le_length (l₁ := w.drop i ++ w.take k)]
  simp; omega
theorem turn_lt {S : RS} {r : List UInt8} {k : Nat} (hz : ((k : Nat) : Int) = dturn S.list r) : k < r.length ∧ (dsh S (rot r k)).1.length < r.length := by
  have hb := turnU_bound S.list r r.length (Nat.le_refl _)
  unfold dturn at hz
  obtain ⟨j, hj, hn, e⟩ := turnU_mem r.length (Nat.le_refl _) (by omega : 0 ≤ turnU S.list r r.length)
  obtain ⟨h1, x, hx, h2, h3⟩ := longF_some hn
  rw [rot_length] at h1
  rw [e] at hz
  have hk : (k = 0 ∧ j + (longF S.list (rot r j)).2 ≤ r.length) ∨ k + r.length = j + (longF S.list (rot r j)).2 := by
    unfold turnA at hz
    split at hz <;> omega
  have hkj : k ≤ j := by omega
  have hp := rot_part (w := r) (i := j) (k := k) (n := (longF S.list (rot r j)).2) hj hkj (by omega)
  refine ⟨by omega, ?_⟩
  have hlt := dsh_lt (S := S) (w := rot r k) (q := j - k) (by rw [rot_length]; omega) (part_pos hx (by rw [List.length_drop, rot_length]; omega) (by rw [hp]; exact h2) h3)
  rw [rot_length] at hlt
  exact hlt

def cellJ (c1 : List UInt8) (c : DCell) : DCell := ⟨jnd c1 c.conj, c.rel, c.inv⟩
def fitsJ (c1 : List UInt8) (ds : List DCell) : Bool := ds.all fun c => decide ((jnd c1 c.conj).length ≤ 100000)
def cyF (S : RS) : Nat → List UInt8 → List UInt8 → List DCell → List UInt8 × List DCell × List UInt8 × Nat
  | 0, _, _, _ => ([], [], [], 2)
  | f + 1, r, cj, d =>
    if dturn S.list r < 0 then (if Heavy d then ([], [], [], 2) else (r, d, cj, 0))
    else if fitsJ (jnd cj (r.take (dturn S.list r).toNat)) (dsh S (rot r (dturn S.list r).toNat)).2 = false then ([], [], [], 2)
    else if (jnd cj (r.take (dturn S.list r).toNat)).length ≤ 100000 ∧ (jnd (jnd cj (r.take (dturn S.list r).toNat)) (wConj (dsh S (rot r (dturn S.list r).toNat)).1)).length ≤ 100000
      then cyF S f (wCore (dsh S (rot r (dturn S.list r).toNat)).1) (jnd (jnd cj (r.take (dturn S.list r).toNat)) (wConj (dsh S (rot r (dturn S.list r).toNat)).1)) (d ++ (dsh S (rot r (dturn S.list r).toNat)).2.map (cellJ (jnd cj (r.take (dturn S.list r).toNat))))
      else ([], [], [], 2)
section
variable {S : RS} {f k : Nat} {r cj : List UInt8} {d : List DCell} {R : List UInt8 × List DCell × List UInt8 × Nat}
theorem cyF_end (hf : 0 < f) (h : dturn S.list r < 0) (e : cyF S f r cj d = R) : R = if Heavy d then ([], [], [], 2) else (r, d, cj, 0) := by
  cases f with
  | zero => omega
  | succ f => rw [cyF, if_pos h] at e; exact e.symm
theorem fitsJ_no {c1 : List UInt8} {ds : List DCell} {j : Nat} (hj : j < ds.length) (h : ¬ (jnd c1 (ds.getD j .zero).conj).length ≤ 100000) : fitsJ c1 ds = false := by
  rw [fitsJ, List.all_eq_false]
  exact ⟨_, getD_mem hj, by rw [decide_eq_true_eq]; exact h⟩
theorem fitsJ_yes {c1 : List UInt8} {ds : List DCell} {k : Nat} (hk : ds.length ≤ k) (h : ∀ j, j < k → (jnd c1 (ds.getD j .zero).conj).length ≤ 100000) : fitsJ c1 ds = true := by
  rw [fitsJ, List.all_eq_true]
  intro c hc
  obtain ⟨j, hj, rfl⟩ := List.getElem_of_mem hc
  have := h j (by omega)
  rw [decide_eq_true_eq]
  simpa [hj] using this
theorem cyF_no1 (hz : ((k : Nat) : Int) = dturn S.list r) (hf : 0 < f) (e : cyF S f r cj d = R) (h : fitsJ (jnd cj (r.take k)) (dsh S (rot r k)).2 = false) : R = ([], [], [], 2) := by
  cases f with
  | zero => omega
  | succ f => rw [cyF, ← hz, if_neg (by omega), Int.toNat_natCast, if_pos h] at e; exact e.symm
theorem cyF_no2 (hz : ((k : Nat) : Int) = dturn S.list r) (hf : 0 < f) (e : cyF S f r cj d = R) (h0 : fitsJ (jnd cj (r.take k)) (dsh S (rot r k)).2 = true) (h : ¬ ((jnd cj (r.take k)).length ≤ 100000 ∧ (jnd (jnd cj (r.take k)) (wConj (dsh S (rot r k)).1)).length ≤ 100000)) : R = ([], [], [], 2) := by
  cases f with
  | zero => omega
  | succ f => rw [cyF, ← hz, if_neg (by omega), Int.toNat_natCast, if_neg (by rw [h0]; decide), if_neg h] at e; exact e.symm
theorem cyF_go (hz : ((k : Nat) : Int) = dturn S.list r) (hf : 0 < f) (e : cyF S f r cj d = R) (h0 : fitsJ (jnd cj (r.take k)) (dsh S (rot r k)).2 = true) (h : (jnd cj (r.take k)).length ≤ 100000 ∧ (jnd (jnd cj (r.take k)) (wConj (dsh S (rot r k)).1)).length ≤ 100000) :
    cyF S (f - 1) (wCore (dsh S (rot r k)).1) (jnd (jnd cj (r.take k)) (wConj (dsh S (rot r k)).1)) (d ++ (dsh S (rot r k)).2.map (cellJ (jnd cj (r.take k)))) = R := by
  cases f with
  | zero => omega
  | succ f => rw [cyF, ← hz, if_neg (by omega), Int.toNat_natCast, if_neg (by rw [h0]; decide), if_pos h] at e; exact e
end
def cyOf (S : RS) (w : List UInt8) : List UInt8 × List DCell × List UInt8 × Nat := cyF S ((wCore (dsh S w).1).length + 1) (wCore (dsh S w).1) (wConj (dsh S w).1) (dsh S w).2
def CyR (g : Int) (l : List (List UInt8)) (w : List UInt8) (r : List UInt8 × List DCell × List UInt8 × Nat) : Prop :=
  if ¬ rasked g l w = 0 then r = ([], [], [], rasked g l w) else ∃ S, SOk l S ∧ r = cyOf S w
theorem CyR.no {g : Int} {l : List (List UInt8)} {w : List UInt8} (h : ¬ rasked g l w = 0) : CyR g l w ([], [], [], rasked g l w) := by rw [CyR, if_pos h]
theorem CyR.ok {g : Int} {l : List (List UInt8)} {w : List UInt8} {S : RS} {r : List UInt8 × List DCell × List UInt8 × Nat} (h : ¬ ¬ rasked g l w = 0) (hS : SOk l S) (hr : cyOf S w = r) : CyR g l w r := by rw [CyR, if_neg h]; exact ⟨S, hS, hr.symm⟩
theorem jn_len : ∀ (f : Nat) (x y : List UInt8), (jn f x y).1.length + (jn f x y).2.length ≤ x.length + y.length
  | 0, x, y => Nat.le_refl _
  | f + 1, x, y => by
    rw [jn]; split
    · have := jn_len f (x.take (x.length - 1)) (y.drop 1)
      simp only [List.length_take, List.length_drop] at this; omega
    · exact Nat.le_refl _
theorem jnd_len (x y : List UInt8) : (jnd x y).length ≤ x.length + y.length := by rw [jnd, List.length_append]; exact jn_len _ _ _
theorem dsh_all {S : RS} (hS : RSok S) {w : List UInt8} (hw : w.length ≤ 6000) : (dsh S w).1.length ≤ w.length ∧ (dsh S w).2.length + (dsh S w).1.length ≤ w.length ∧ ∀ c ∈ (dsh S w).2, c.conj.length ≤ 7000 := by
  have hr := red_length w
  obtain ⟨h1, h2, h3⟩ := drun_small (m := S.most) (fun x hx => (hS.isw x hx).2.2) (fuel (red w).length) (red w) [] 0 (by omega)
  refine ⟨?_, ?_, fun c hc => (h3 c hc).elim (fun q => by cases q) id⟩
  · show (drun _ _ _ _ _ _).1.length ≤ _; omega
  · show (drun _ _ _ _ _ _).2.length + (drun _ _ _ _ _ _).1.length ≤ _
    simp only [List.length_nil] at h2; omega
theorem getD_conj {d : List DCell} {n : Nat} (h : ∀ c ∈ d, c.conj.length ≤ n) (k : Nat) : (d.getD k .zero).conj.length ≤ n := by
  by_cases q : k < d.length
  · exact h _ (getD_mem q)
  · rw [List.getD_eq_getElem?_getD, List.getElem?_eq_none (by omega)]; simp [DCell.zero]
theorem conj_step {d : List DCell} {ds : List DCell} {k : Nat} {c1 : List UInt8} (hk : k < ds.length) : d ++ (ds.take k).map (cellJ c1) ++ [cellJ c1 (ds.getD k .zero)] = d ++ (ds.take (k + 1)).map (cellJ c1) := by
  rw [List.append_assoc, List.take_add_one, List.getElem?_eq_getElem hk, List.map_append]
  simp [hk]
theorem V.Fresh.sep0 {A B : AH} {v u : Value} {size s2 : Nat} {xs ys : List Value} (h : Fresh A B v size xs) (hu : Own A u s2 ys) : Sep v u := fun c hv hc => by
  obtain ⟨x, hx⟩ := hu.blkget hc
  have := h.lo c hv
  rw [hx] at this; cases this
end Go.Proofs.YtaccklloepfemaaGreatDoor
