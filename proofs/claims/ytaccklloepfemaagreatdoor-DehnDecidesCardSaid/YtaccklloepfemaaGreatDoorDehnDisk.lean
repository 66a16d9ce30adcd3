/- Disks: cells, what the reference of layer 4 computes of them. -/
import Derived.Test.YtaccklloepfemaaGreatDoorDehnRef
namespace Go.Proofs.YtaccklloepfemaaGreatDoor
set_option linter.unusedVariables false
set_option linter.unusedSimpArgs false
open Go V

/-- A cell of a disk. -/
structure DCell where
  conj : List UInt8
  rel : Int
  inv : Bool
def DCell.zero : DCell := ⟨[], 0, false⟩
def dcell (c : DCell) : List Value := [str c.conj, num c.rel, .bool c.inv]
def dcells (l : List DCell) : List Value := l.flatMap dcell
theorem dcells_length (l : List DCell) : (dcells l).length = l.length * 3 := by
  induction l with
  | nil => rfl
  | cons c l ih => simp only [dcells, List.flatMap_cons, List.length_append, List.length_cons] at ih ⊢; rw [ih]; simp [dcell]; omega
theorem dcells_len (l : List DCell) : (dcells l).length = l.length * 3 := dcells_length l
theorem dcells_append (a b : List DCell) : dcells a ++ dcells b = dcells (a ++ b) := by simp [dcells]
theorem dcells_one (l : List DCell) : oneL (dcells l) = true := by
  simp only [oneL, dcells, List.all_eq_true, List.mem_flatMap]
  rintro v ⟨c, _, h⟩
  simp only [dcell, List.mem_cons, List.not_mem_nil, or_false] at h
  rcases h with rfl | rfl | rfl <;> rfl
theorem dcells_drop (l : List DCell) (i : Nat) : (dcells l).drop (i * 3) = dcells (l.drop i) := by
  induction l generalizing i with
  | nil => simp [dcells]
  | cons c l ih =>
    cases i with
    | zero => simp
    | succ i =>
      have : (i + 1) * 3 = (dcell c).length + i * 3 := by simp [dcell]; omega
      show (dcell c ++ dcells l).drop ((i + 1) * 3) = _
      rw [this, ← List.drop_drop, List.drop_left]
      exact ih i
theorem dcells_at {l : List DCell} {i : Nat} (h : i < l.length) : ((dcells l).drop (i * 3)).take 3 = dcell (l.getD i .zero) := by
  rw [dcells_drop, List.drop_eq_getElem_cons h]
  have e : l.getD i .zero = l[i] := by simp [h]
  rw [e]
  show (dcell l[i] ++ dcells (l.drop (i + 1))).take 3 = _
  exact List.take_left' rfl
theorem inv4 : ∀ c : UInt8, 0 ≤ ix c → (97 ≤ c → c - 97 + 65 = c ^^^ 32) ∧ (¬ 97 ≤ c → c - 65 + 97 = c ^^^ 32) := all_u8 (by decide +kernel)
/-- The words of a cell. -/
def crel (l : List (List UInt8)) (c : DCell) : List UInt8 := if c.inv then inv (l.getD c.rel.toNat []) else l.getD c.rel.toNat []
def cword (l : List (List UInt8)) (c : DCell) : List UInt8 := c.conj ++ crel l c ++ inv c.conj
def bndFold (l : List (List UInt8)) (o : List UInt8) (c : DCell) : List UInt8 := (cword l c).foldl push o
def bnds (l : List (List UInt8)) (d : List DCell) : List UInt8 := d.foldl (bndFold l) []
def okCell (g : Int) (l : List (List UInt8)) (c : DCell) : Bool := decide (0 ≤ c.rel) && decide (c.rel < l.length) && decide (wcheck g c.conj = 0)
def conjs (d : List DCell) : Nat := (d.map fun c => c.conj.length).sum
def isDisk (g : Int) (l : List (List UInt8)) (d : List DCell) : Bool := d.all (okCell g l) && decide (d.length ≤ 100000) && decide (conjs d ≤ 1000000)
def chk (g : Int) (l : List (List UInt8)) (ws : List (List UInt8)) (ds : List (List DCell)) : Nat :=
  if ¬ pcheck g l = 0 then 40 else if ws.all (fun w => decide (wcheck g w = 0)) = false then 41 else if ds.all (isDisk g l) = false then 42 else 0
def proves (g : Int) (l : List (List UInt8)) (d : List DCell) (w : List UInt8) : Nat :=
  if ¬ chk g l [w] [d] = 0 then chk g l [w] [d] else if ¬ bnds l d = red w then 5 else 0
theorem pcheck_ne {g : Int} {l : List (List UInt8)} {i : Nat} (hi : i < l.length) (h : 200 < (l.getD i []).length ∨ badRel g (l.getD i []) = true) : ¬ pcheck g l = 0 := fun q => by
  have := (pcheck_zero q).2.2 _ (getD_mem (d := []) hi)
  rcases h with h | h
  · omega
  · rw [h] at this; cases this.2
theorem pcheck_is0 {g : Int} {l : List (List UInt8)} {i : Nat} (hg : ¬ (g < 1 ∨ 8 < g)) (hl : ¬ 60 < l.length) (hi : l.length ≤ i) (h : ∀ j, j < i → (l.getD j []).length ≤ 200 ∧ badRel g (l.getD j []) = false) : pcheck g l = 0 :=
  pcheck_good hg hl (no_long hi fun j hj => (h j hj).1) hi fun j hj => (h j hj).2
theorem badRel_4 {g : Int} {r : List UInt8} (h : ¬ red r = r) : badRel g r = true := by simp [badRel, h]
theorem badRel_is {g : Int} {r : List UInt8} (h1 : ¬ r.length < 1) (h2 : ¬ ¬ wcheck g r = 0) (h3 : ¬ ¬ red r = r) : badRel g r = false := by
  have : r ≠ [] := fun q => by rw [q] at h1; exact h1 (by simp)
  simp only [badRel, decide_eq_false this, decide_eq_true (Decidable.not_not.1 h2), decide_eq_true (Decidable.not_not.1 h3)]; rfl
theorem badRel_len {g : Int} {r : List UInt8} (h : r.length < 1) : badRel g r = true := by
  have : r = [] := List.length_eq_zero_iff.1 (by omega)
  simp [badRel, this]
theorem okl_wcheck {g : Int} {w : List UInt8} (h : ¬ ¬ wcheck g w = 0) : okl w := by
  have h := Decidable.not_not.1 h
  unfold wcheck at h
  split at h
  · cases h
  · split at h
    · cases h
    · split at h
      · rename_i q
        intro c hc
        have := List.all_eq_true.1 q c hc
        simp only [okc, Bool.and_eq_true, decide_eq_true_eq] at this
        exact this.1
      · cases h
theorem wcheck_len {g : Int} {w : List UInt8} (h : wcheck g w = 0) : w.length ≤ 100000 := by
  unfold wcheck at h
  split at h
  · cases h
  · split at h
    · cases h
    · omega
theorem okl_append {a b : List UInt8} (ha : okl a) (hb : okl b) : okl (a ++ b) := fun c hc => (List.mem_append.1 hc).elim (ha c) (hb c)
theorem conjs_drop {d : List DCell} {i : Nat} (h : i < d.length) : conjs (d.drop i) = (d.getD i .zero).conj.length + conjs (d.drop (i + 1)) := by
  have e : d.getD i .zero = d[i] := by simp [h]
  rw [List.drop_eq_getElem_cons h, e, conjs, List.map_cons, List.sum_cons]; rfl
theorem isDisk_bad {g : Int} {l : List (List UInt8)} {d : List DCell} {i : Nat} (hi : i < d.length) (h : okCell g l (d.getD i .zero) = false) : isDisk g l d = false := by
  have : d.all (okCell g l) = false := List.all_eq_false.2 ⟨_, getD_mem (d := .zero) hi, by rw [h]; decide⟩
  simp [isDisk, this]
theorem isDisk_of {g : Int} {l : List (List UInt8)} {d : List DCell} {i n : Nat} (hi : d.length ≤ i) (h : ∀ j, j < i → okCell g l (d.getD j .zero) = true) (hn : n + conjs (d.drop i) = conjs d) : isDisk g l d = (decide (d.length ≤ 100000) && decide (n ≤ 1000000)) := by
  have : d.all (okCell g l) = true := List.all_eq_true.2 fun c hc => by
    obtain ⟨j, hj, rfl⟩ := List.getElem_of_mem hc
    have := h j (by omega)
    simpa [hj] using this
  have e : conjs d = n := by rw [List.drop_eq_nil_of_le hi] at hn; simpa [conjs] using hn.symm
  rw [isDisk, this, Bool.true_and, e]
theorem okCell_1 {g : Int} {l : List (List UInt8)} {c : DCell} (h : c.rel < 0) : okCell g l c = false := by simp [okCell, show ¬ 0 ≤ c.rel by omega]
theorem okCell_2 {g : Int} {l : List (List UInt8)} {c : DCell} (h : (l.length : Int) ≤ c.rel) : okCell g l c = false := by simp [okCell, show ¬ c.rel < l.length by omega]
theorem okCell_3 {g : Int} {l : List (List UInt8)} {c : DCell} (h : ¬ wcheck g c.conj = 0) : okCell g l c = false := by simp [okCell, h]
theorem okCell_is {g : Int} {l : List (List UInt8)} {c : DCell} (h1 : ¬ c.rel < 0) (h2 : ¬ (l.length : Int) ≤ c.rel) (h3 : ¬ ¬ wcheck g c.conj = 0) : okCell g l c = true := by
  simp [okCell, Decidable.not_not.1 h3]; omega
theorem isDisk_cell {g : Int} {l : List (List UInt8)} {d : List DCell} (h : isDisk g l d = true) : ∀ c ∈ d, (0 ≤ c.rel ∧ c.rel < l.length) ∧ wcheck g c.conj = 0 := fun c hc => by
  simp only [isDisk, Bool.and_eq_true, List.all_eq_true] at h
  have := h.1.1 c hc
  simpa [okCell] using this
theorem isDisk_len {g : Int} {l : List (List UInt8)} {d : List DCell} (h : isDisk g l d = true) : d.length ≤ 100000 ∧ conjs d ≤ 1000000 := by
  simp only [isDisk, Bool.and_eq_true, decide_eq_true_eq] at h
  exact ⟨h.1.2, h.2⟩
theorem inv_twice (w : List UInt8) : inv (inv w) = w := by
  simp only [inv, List.map_reverse, List.reverse_reverse, List.map_map]
  have : ((fun x : UInt8 => x ^^^ 32) ∘ fun x => x ^^^ 32) = id := funext fun x => flip_flip x
  rw [this, List.map_id]
theorem dcells_get3 {l : List DCell} {i k : Nat} (h : i < l.length) (hk : k < 3) : (dcells l)[i * 3 + k]? = (dcell (l.getD i .zero))[k]? := by
  rw [← dcells_at h, List.getElem?_take_of_lt hk, List.getElem?_drop]
theorem dcells_f0 {l : List DCell} {i : Nat} (h : i < l.length) : (dcells l)[i * 3 + 0]? = some (str (l.getD i .zero).conj) := dcells_get3 h (by omega)
theorem dcells_f1 {l : List DCell} {i : Nat} (h : i < l.length) : (dcells l)[i * 3 + 1]? = some (num (l.getD i .zero).rel) := dcells_get3 h (by omega)
theorem dcells_f2 {l : List DCell} {i : Nat} (h : i < l.length) : (dcells l)[i * 3 + 2]? = some (.bool (l.getD i .zero).inv) := dcells_get3 h (by omega)
theorem rel_ok {g : Int} {l : List (List UInt8)} {r : Int} (hp : pcheck g l = 0) (h : 0 ≤ r ∧ r < l.length) : okl (l.getD r.toNat []) ∧ (l.getD r.toNat []).length ≤ 200 := by
  have hm : l.getD r.toNat [] ∈ l := getD_mem (by omega)
  have := (pcheck_zero hp).2.2 _ hm
  exact ⟨okl_wcheck (fun q => q (badRel_good this.2).2.1), this.1⟩
theorem bnd_step {l : List (List UInt8)} {o : List UInt8} {c : DCell} : (inv c.conj).foldl push ((if c.inv then inv (l.getD c.rel.toNat []) else l.getD c.rel.toNat []).foldl push (c.conj.foldl push o)) = bndFold l o c := by
  simp only [bndFold, cword, crel, List.foldl_append]
theorem bnd_len {l : List (List UInt8)} {o : List UInt8} {c : DCell} (hc : c.conj.length ≤ 100000) (hr : (l.getD c.rel.toNat []).length ≤ 200) : (bndFold l o c).length ≤ o.length + 200200 := by
  have h1 := foldl_push_length (cword l c) o
  have h2 : (crel l c).length ≤ 200 := by unfold crel; split <;> simp [inv_length] <;> exact hr
  unfold bndFold
  simp only [cword, List.length_append, inv_length] at h1 h2
  simp only [cword]
  omega
def vals (l : List Value) : List Value := l
theorem vals_length (l : List Value) : (vals l).length = l.length := rfl
theorem vals_len (l : List Value) : (vals l).length = l.length * 1 := (Nat.mul_one _).symm
theorem vals_get {l : List Value} {i : Nat} (h : i < l.length) : (vals l)[i]? = some (l.getD i undef) := by simp [vals, h]
theorem one_get {v : Value} {k : Nat} (h : k < 1) : [v].getD k undef = v := by rw [show k = 0 by omega]; rfl
theorem chk_40 {g : Int} {l ws : List (List UInt8)} {ds : List (List DCell)} (h : ¬ pcheck g l = 0) : chk g l ws ds = 40 := by rw [chk, if_pos h]
theorem chk_41 {g : Int} {l ws : List (List UInt8)} {ds : List (List DCell)} {i : Nat} (h : ¬ ¬ pcheck g l = 0) (hi : i < ws.length) (hw : ¬ wcheck g (ws.getD i []) = 0) : chk g l ws ds = 41 := by
  rw [chk, if_neg h, if_pos]
  exact List.all_eq_false.2 ⟨_, getD_mem (d := []) hi, by rw [decide_eq_false hw]; decide⟩
theorem all_w {g : Int} {ws : List (List UInt8)} {i : Nat} (hi : ws.length ≤ i) (h : ∀ j, j < i → wcheck g (ws.getD j []) = 0) : ¬ ws.all (fun w => decide (wcheck g w = 0)) = false := by
  rw [Bool.not_eq_false, List.all_eq_true]
  intro w hw
  obtain ⟨j, hj, rfl⟩ := List.getElem_of_mem hw
  have := h j (by omega)
  simpa [hj] using this
theorem chk_42 {g : Int} {l ws : List (List UInt8)} {d : List DCell} {i : Nat} (h : ¬ ¬ pcheck g l = 0) (hi : ws.length ≤ i) (hw : ∀ j, j < i → wcheck g (ws.getD j []) = 0) (hd : isDisk g l d = false) : chk g l ws [d] = 42 := by
  rw [chk, if_neg h, if_neg (all_w hi hw), if_pos (by simp [hd])]
theorem chk_0 {g : Int} {l ws : List (List UInt8)} {d : List DCell} {i : Nat} (h : ¬ ¬ pcheck g l = 0) (hi : ws.length ≤ i) (hw : ∀ j, j < i → wcheck g (ws.getD j []) = 0) (hd : isDisk g l d = true) : chk g l ws [d] = 0 := by
  rw [chk, if_neg h, if_neg (all_w hi hw), if_neg (by simp [hd])]
theorem chk_spec {g : Int} {l ws : List (List UInt8)} {d : List DCell} (h : ¬ ¬ chk g l ws [d] = 0) : pcheck g l = 0 ∧ (∀ w ∈ ws, wcheck g w = 0) ∧ isDisk g l d = true := by
  have h := Decidable.not_not.1 h
  unfold chk at h
  split at h
  · cases h
  · rename_i h1
    split at h
    · cases h
    · rename_i h2
      split at h
      · cases h
      · rename_i h3
        refine ⟨Decidable.not_not.1 h1, ?_, by simpa using h3⟩
        rw [Bool.not_eq_false, List.all_eq_true] at h2
        intro w hw; simpa using h2 w hw
def bndary (g : Int) (l : List (List UInt8)) (d : List DCell) : List UInt8 × Nat := if ¬ chk g l [] [d] = 0 then ([], chk g l [] [d]) else (bnds l d, 0)
end Go.Proofs.YtaccklloepfemaaGreatDoor
