/- Plain lists of letters. -/
import Derived.Test.YtaccklloepfemaaGreatDoorVMut
namespace Go.Proofs.YtaccklloepfemaaGreatDoor
set_option linter.unusedVariables false
set_option linter.unusedSimpArgs false
open Go V

/-- How many letters two words have in common at the beginning. -/
def cmn : List UInt8 → List UInt8 → Nat
  | a :: x, b :: y => if a = b then cmn x y + 1 else 0
  | _, _ => 0
theorem cmn_le : ∀ x y : List UInt8, cmn x y ≤ x.length ∧ cmn x y ≤ y.length
  | [], _ => by simp [cmn]
  | _ :: _, [] => by simp [cmn]
  | a :: x, b :: y => by
    have := cmn_le x y
    simp only [cmn, List.length_cons]
    split <;> omega
theorem cmn_go : ∀ {x y : List UInt8} {k : Nat}, k ≤ cmn x y → k < x.length ∧ k < y.length ∧ x.getD k 0 = y.getD k 0 → k + 1 ≤ cmn x y
  | [], _, _, _, h => by simp at h
  | _ :: _, [], _, _, h => by simp at h
  | a :: x, b :: y, 0, _, h => by
    simp only [List.getD_cons_zero] at h
    simp [cmn, h.2.2]
  | a :: x, b :: y, k + 1, hk, h => by
    simp only [cmn] at hk ⊢
    split at hk
    · rename_i e
      have := cmn_go (x := x) (y := y) (k := k) (by omega) ⟨by simpa using h.1, by simpa using h.2.1, by simpa using h.2.2⟩
      simp [e]; omega
    · omega
theorem cmn_stop {x y : List UInt8} {k : Nat} (hk : k ≤ cmn x y) (h : ¬ (k < x.length ∧ k < y.length ∧ x.getD k 0 = y.getD k 0)) : k = cmn x y := by
  induction x generalizing y k with
  | nil => simp [cmn] at hk ⊢; omega
  | cons a x ih =>
    cases y with
    | nil => simp [cmn] at hk ⊢; omega
    | cons b y =>
      simp only [cmn] at hk ⊢
      split at hk
      · rename_i e
        cases k with
        | zero => exact absurd ⟨by simp, by simp, by simpa using e⟩ h
        | succ k => rw [ih (y := y) (k := k) (by omega) (fun q => h ⟨by simpa using q.1, by simpa using q.2.1, by simpa using q.2.2⟩), if_pos e]
      · rename_i e; simp [e]; omega

/-! ### Loops that count while something is so -/
/-- The least number at which p does not hold, up to b. -/
def lf (p : Nat → Bool) (b : Nat) : Nat := ((List.range b).find? fun n => !p n).getD b
theorem lf_le (p : Nat → Bool) (b : Nat) : lf p b ≤ b := by
  unfold lf
  cases h : (List.range b).find? fun n => !p n with
  | none => exact Nat.le_refl _
  | some n => have := List.mem_of_find?_eq_some h; simp at this; simp; omega
theorem lf_all {p : Nat → Bool} {b i : Nat} (h : i < lf p b) : p i = true := by
  have hb := lf_le p b
  unfold lf at h hb
  cases q : (List.range b).find? fun n => !p n with
  | none =>
    rw [q] at h; simp only [Option.getD_none] at h
    rw [List.find?_eq_none] at q
    have := q i (by simp; omega)
    simpa using this
  | some n =>
    rw [q] at h; simp only [Option.getD_some] at h
    rw [List.find?_eq_some_iff_getElem] at q
    obtain ⟨_, m, hm, e, hall⟩ := q
    simp at e
    have := hall i (by omega)
    simpa using this
theorem lf_not {p : Nat → Bool} {b : Nat} (h : lf p b < b) : p (lf p b) = false := by
  unfold lf at h ⊢
  cases q : (List.range b).find? fun n => !p n with
  | none => rw [q] at h; simp at h
  | some n =>
    have := List.find?_some q
    simpa using this
theorem lf_go {p : Nat → Bool} {b n : Nat} (h : n ≤ lf p b) (hp : p n = true) (hb : n < b) : n + 1 ≤ lf p b := by
  rcases Nat.lt_or_eq_of_le h with h | h
  · exact h
  · have := lf_not (p := p) (b := b) (by omega)
    rw [← h, hp] at this; cases this
theorem lf_stop {p : Nat → Bool} {b n : Nat} (h : n ≤ lf p b) (hp : p n = false) : n = lf p b := by
  rcases Nat.lt_or_eq_of_le h with h | h
  · have := lf_all h; rw [hp] at this; cases this
  · exact h
theorem lf_end {p : Nat → Bool} {b n : Nat} (h : n ≤ lf p b) (hb : b ≤ n) : n = lf p b := by have := lf_le p b; omega

/-! ### Letters and words -/
def letters : List UInt8 := [97, 65, 98, 66, 99, 67, 100, 68, 101, 69, 102, 70, 103, 71, 104, 72]
/-- The index of a letter; -1 of what is none. -/
def ix (c : UInt8) : Int := match letters.findIdx? (· == c) with | some i => i | none => -1
theorem ix_found {c : UInt8} {k : Nat} (hk : k < 16) (h : ∀ j, j < k → letters.getD j 0 ≠ c) (e : letters.getD k 0 = c) : ix c = k := by
  have : letters.findIdx? (· == c) = some k := by
    rw [List.findIdx?_eq_some_iff_getElem]
    refine ⟨hk, ?_, fun j hj => ?_⟩
    · have := e; simp [List.getD_eq_getElem?_getD, hk, letters] at this ⊢; exact this
    · have := h j hj
      have hj' : j < letters.length := Nat.lt_trans hj hk
      rw [List.getD_eq_getElem?_getD, List.getElem?_eq_getElem hj', Option.getD_some] at this
      simpa using this
  simp [ix, this]
theorem ix_none {c : UInt8} (h : ∀ j, j < 16 → letters.getD j 0 ≠ c) : ix c = -1 := by
  have : letters.findIdx? (· == c) = none := by
    rw [List.findIdx?_eq_none_iff]
    intro x hx
    obtain ⟨j, hj, rfl⟩ := List.getElem_of_mem hx
    have := h j hj
    rw [List.getD_eq_getElem?_getD, List.getElem?_eq_getElem hj, Option.getD_some] at this
    simpa using this
  simp [ix, this]
theorem all_u8 {p : UInt8 → Prop} (h : ∀ n : Fin 256, p (UInt8.ofNat n.1)) (c : UInt8) : p c := by
  have := h ⟨c.toNat, c.toNat_lt⟩
  simpa using this
theorem dle (a b : Int) : decide (b ≤ a) = !decide (a < b) := by rw [← decide_not]; simp
theorem dlt127 (r : Nat) (h : r ≤ 127) : decide (127 < r) = false := by simp; omega
theorem u8_ge {c : UInt8} (h : ¬ c < 128) : 128 ≤ c.toNat := by rw [UInt8.lt_iff_toNat_lt] at h; simpa using h
theorem ix_lt : ∀ c : UInt8, -1 ≤ ix c ∧ ix c < 16 := all_u8 (by decide +kernel)
theorem ix_ascii : ∀ c : UInt8, 0 ≤ ix c → c.toNat ≤ 127 := all_u8 (by decide +kernel)
theorem ix_flip : ∀ c : UInt8, 0 ≤ ix c → 0 ≤ ix (c ^^^ 32) := all_u8 (by decide +kernel)
theorem flip_flip (c : UInt8) : c ^^^ 32 ^^^ 32 = c := by rw [UInt8.xor_assoc]; simp
/-- Is a byte a letter of k generators. -/
def okc (k : Int) (c : UInt8) : Bool := decide (0 ≤ ix c) && decide (ix c < 2 * k)
/-- The inverse of a word. -/
def inv (w : List UInt8) : List UInt8 := (w.map (· ^^^ 32)).reverse
/-- One letter more, behind a reduced word. -/
def push (s : List UInt8) (c : UInt8) : List UInt8 := if 0 < s.length ∧ s.getD (s.length - 1) 0 = c ^^^ 32 then s.take (s.length - 1) else s ++ [c]
def red (w : List UInt8) : List UInt8 := w.foldl push []
/-- What Check says of a word. -/
def wcheck (k : Int) (w : List UInt8) : Nat := if k < 1 ∨ 8 < k then 1 else if 100000 < w.length then 2 else if w.all (okc k) then 0 else 4
def isw (w : List UInt8) : Bool := decide (w.length ≤ 100000) && w.all (okc 8)
theorem wcheck8 (w : List UInt8) : wcheck 8 w = 0 ↔ isw w = true := by
  simp only [wcheck, isw, Bool.and_eq_true, decide_eq_true_eq]
  rw [if_neg (by omega)]
  split
  · simp; omega
  · split <;> rename_i h <;> simp [h] <;> omega
theorem push_length (s : List UInt8) (c : UInt8) : (push s c).length ≤ s.length + 1 := by
  unfold push; split <;> simp <;> omega
theorem foldl_push_length : ∀ (w s : List UInt8), (w.foldl push s).length ≤ s.length + w.length
  | [], s => by simp
  | c :: w, s => by
    have := foldl_push_length w (push s c); have := push_length s c
    simp only [List.foldl_cons, List.length_cons]; omega
theorem red_length (w : List UInt8) : (red w).length ≤ w.length := by have := foldl_push_length w []; simpa [red] using this
theorem inv_length (w : List UInt8) : (inv w).length = w.length := by simp [inv]
theorem drop_cons {w : List UInt8} {i : Nat} (h : i < w.length) : w.drop i = w.getD i 0 :: w.drop (i + 1) := by
  rw [List.drop_eq_getElem_cons h]; simp [h]
theorem drop_consL {l : List (List UInt8)} {i : Nat} (h : i < l.length) : l.drop i = l.getD i [] :: l.drop (i + 1) := by
  rw [List.drop_eq_getElem_cons h]; simp [h]
/-- The core of a word, and its conjugator. -/
def cycN (r : List UInt8) : Nat := lf (fun n => decide (2 * n + 2 ≤ r.length ∧ r.getD n 0 = r.getD (r.length - 1 - n) 0 ^^^ 32)) r.length
def core (w : List UInt8) : List UInt8 := ((red w).take ((red w).length - cycN (red w))).drop (cycN (red w))
def conj (w : List UInt8) : List UInt8 := (red w).take (cycN (red w))
/-- Words in shortlex. -/
def cmpl : List UInt8 → List UInt8 → Int
  | a :: x, b :: y => if ix a < ix b then -1 else if ix b < ix a then 1 else cmpl x y
  | _, _ => 0
def cmpw (u v : List UInt8) : Int := if u.length ≠ v.length then (if u.length < v.length then -1 else 1) else cmpl u v
def wInverse (w : List UInt8) : List UInt8 := if isw w then inv w else []
def wReduce (w : List UInt8) : List UInt8 := if isw w then red w else []
def wCore (w : List UInt8) : List UInt8 := if isw w then core w else []
def wConj (w : List UInt8) : List UInt8 := if isw w then conj w else []
def wCompare (u v : List UInt8) : Int := if isw u ∧ isw v then cmpw u v else 0
/-- The index of the first byte of some kind; -1 if there is none. -/
def ifc (q : Nat → Bool) (s : List UInt8) : Int := match s.findIdx? (fun c => q c.toNat) with | some i => i | none => -1
theorem ifc_found {q : Nat → Bool} {s : List UInt8} {k : Nat} (hk : k < s.length) (h : ∀ j, j < k → q (s.getD j 0).toNat = false) (e : q (s.getD k 0).toNat = true) : ifc q s = k := by
  have : s.findIdx? (fun c => q c.toNat) = some k := by
    rw [List.findIdx?_eq_some_iff_getElem]
    refine ⟨hk, by simpa [hk] using e, fun j hj => ?_⟩
    have := h j hj
    have hj' : j < s.length := Nat.lt_trans hj hk
    simpa [hj'] using this
  simp [ifc, this]
theorem ifc_none {q : Nat → Bool} {s : List UInt8} (h : ∀ j, j < s.length → q (s.getD j 0).toNat = false) : ifc q s = -1 := by
  have : s.findIdx? (fun c => q c.toNat) = none := by
    rw [List.findIdx?_eq_none_iff]
    intro x hx
    obtain ⟨j, hj, rfl⟩ := List.getElem_of_mem hx
    have := h j hj
    simpa [hj] using this
  simp [ifc, this]
theorem ifc_any (q : Nat → Bool) (s : List UInt8) : decide (0 ≤ ifc q s) = s.any (fun c => q c.toNat) := by
  unfold ifc
  cases h : s.findIdx? (fun c => q c.toNat) with
  | none =>
    rw [List.findIdx?_eq_none_iff] at h
    rw [List.any_eq_false.2 (by simpa using h)]; rfl
  | some i =>
    rw [List.findIdx?_eq_some_iff_getElem] at h
    obtain ⟨hi, e, _⟩ := h
    rw [List.any_eq_true.2 ⟨_, List.getElem_mem hi, e⟩]; simp
theorem contains_ok (k : Int) (w : List UInt8) : 0 ≤ ifc (fun r => decide (127 < r) || !okc k (UInt8.ofNat r)) w ↔ w.all (okc k) = false := by
  have h := ifc_any (fun r => decide (127 < r) || !okc k (UInt8.ofNat r)) w
  have e : (w.any fun c => decide (127 < c.toNat) || !okc k (UInt8.ofNat c.toNat)) = !w.all (okc k) := by
    rw [List.not_all_eq_any_not]
    congr 1
    funext c
    rw [UInt8.ofNat_toNat]
    by_cases q : okc k c = true
    · have : 0 ≤ ix c := by simp [okc] at q; exact q.1
      have := ix_ascii c this
      simp [q]; omega
    · simp [q]
  rw [e] at h
  constructor
  · intro q; rw [decide_eq_true q] at h; simpa using h
  · intro q; rw [q] at h; simpa using h
theorem wcheck8d (w : List UInt8) : decide (wcheck 8 w = 0) = isw w := by
  rw [Bool.eq_iff_iff, decide_eq_true_iff]; exact wcheck8 w
theorem push_go {w o R : List UInt8} {i : Nat} (hi : i < w.length) (h : (w.drop i).foldl push o = R) (hc : 0 < o.length ∧ o.getD (o.length - 1) 0 = w.getD i 0 ^^^ 32) : (w.drop (i + 1)).foldl push (o.take (o.length - 1)) = R := by
  rw [drop_cons hi, List.foldl_cons, push, if_pos hc] at h; exact h
theorem push_no {w o R : List UInt8} {i : Nat} (hi : i < w.length) (h : (w.drop i).foldl push o = R) (hc : ¬ (0 < o.length ∧ o.getD (o.length - 1) 0 = w.getD i 0 ^^^ 32)) : (w.drop (i + 1)).foldl push (o ++ [w.getD i 0]) = R := by
  rw [drop_cons hi, List.foldl_cons, push, if_neg hc] at h; exact h
theorem drop_end {w : List UInt8} {i : Nat} (h : w.length ≤ i) : w.drop i = [] := List.drop_eq_nil_of_le h
theorem dropL_end {α : Type} {w : List α} {i : Nat} (h : w.length ≤ i) : w.drop i = [] := List.drop_eq_nil_of_le h
theorem red_outer {l : List (List UInt8)} {k : Nat} {o o2 R : List UInt8} (hk : k < l.length) (h : (l.drop k).flatten.foldl push o = R) (h2 : (l.getD k []).foldl push o = o2) : (l.drop (k + 1)).flatten.foldl push o2 = R := by
  rw [drop_consL hk, List.flatten_cons, List.foldl_append, h2] at h; exact h
theorem flat_drop {l : List (List UInt8)} {k : Nat} (hk : k < l.length) : (l.drop k).flatten.length = (l.getD k []).length + (l.drop (k + 1)).flatten.length := by
  rw [drop_consL hk, List.flatten_cons, List.length_append]
/-- The inverse, as far as it is written. -/
def revbuf (w : List UInt8) (k : Nat) : List UInt8 := List.replicate (w.length - k) 0 ++ ((w.take k).map (· ^^^ 32)).reverse
theorem revbuf_zero (w : List UInt8) : List.replicate w.length 0 = revbuf w 0 := by simp [revbuf]
theorem revbuf_end (w : List UInt8) {k : Nat} (h : w.length ≤ k) : revbuf w k = inv w := by
  simp [revbuf, inv, List.take_of_length_le h, Nat.sub_eq_zero_of_le h]
theorem revbuf_length (w : List UInt8) {k : Nat} (h : k ≤ w.length) : (revbuf w k).length = w.length := by simp [revbuf]; omega
theorem revbuf_set (w : List UInt8) {k : Nat} (h : k < w.length) : (revbuf w k).set (w.length - 1 - k) (w.getD k 0 ^^^ 32) = revbuf w (k + 1) := by
  have e : List.replicate (w.length - k) (0 : UInt8) = List.replicate (w.length - 1 - k) 0 ++ [0] := by
    rw [show w.length - k = (w.length - 1 - k) + 1 by omega, List.replicate_succ']
  have t : w.take (k + 1) = w.take k ++ [w.getD k 0] := by
    rw [List.take_add_one, List.getElem?_eq_getElem h]; simp [h]
  unfold revbuf
  rw [e, List.append_assoc, t, List.map_append, List.reverse_append, show w.length - (k + 1) = w.length - 1 - k by omega]
  rw [List.set_append_right (w.length - 1 - k) _ (by simp)]
  simp
theorem cycN_half (r : List UInt8) : 2 * cycN r ≤ r.length := by
  by_cases h : cycN r = 0
  · omega
  · have := lf_all (p := fun n => decide (2 * n + 2 ≤ r.length ∧ r.getD n 0 = r.getD (r.length - 1 - n) 0 ^^^ 32)) (b := r.length) (i := cycN r - 1) (by unfold cycN at h ⊢; omega)
    simp only [decide_eq_true_eq] at this
    omega
theorem cycN_go {r : List UInt8} {n : Nat} (h : n ≤ cycN r) (hp : 2 * n + 2 ≤ r.length ∧ r.getD n 0 = r.getD (r.length - 1 - n) 0 ^^^ 32) : n + 1 ≤ cycN r := lf_go h (by simpa using hp) (by omega)
theorem cycN_stop {r : List UInt8} {n : Nat} (h : n ≤ cycN r) (hp : ¬ (2 * n + 2 ≤ r.length ∧ r.getD n 0 = r.getD (r.length - 1 - n) 0 ^^^ 32)) : n = cycN r := lf_stop h (by simpa using hp)
theorem cmpl_step {u v : List UInt8} {k : Nat} (hu : k < u.length) (hv : k < v.length) : cmpl (u.drop k) (v.drop k) = if ix (u.getD k 0) < ix (v.getD k 0) then -1 else if ix (v.getD k 0) < ix (u.getD k 0) then 1 else cmpl (u.drop (k + 1)) (v.drop (k + 1)) := by
  rw [drop_cons hu, drop_cons hv, cmpl]
theorem cmpl_end {u v : List UInt8} {k : Nat} (hu : u.length ≤ k) : cmpl (u.drop k) (v.drop k) = 0 := by
  rw [drop_end hu]; rfl
theorem cmpw_eq {u v : List UInt8} (h : ¬ ¬ u.length = v.length) : cmpw u v = cmpl u v := by unfold cmpw; rw [if_neg h]
/-- The index of the first element of some kind; -1 if there is none. -/
def ifl {α : Type} (q : α → Bool) (l : List α) : Int := match l.findIdx? q with | some i => i | none => -1
theorem ifl_found {α : Type} {q : α → Bool} {l : List α} {k : Nat} {d : α} (hk : k < l.length) (h : ∀ j, j < k → q (l.getD j d) = false) (e : q (l.getD k d) = true) : ifl q l = k := by
  have : l.findIdx? q = some k := by
    rw [List.findIdx?_eq_some_iff_getElem]
    refine ⟨hk, by simpa [hk] using e, fun j hj => ?_⟩
    have := h j hj
    have hj' : j < l.length := Nat.lt_trans hj hk
    simpa [hj'] using this
  simp [ifl, this]
theorem ifl_none {α : Type} {q : α → Bool} {l : List α} {d : α} (h : ∀ j, j < l.length → q (l.getD j d) = false) : ifl q l = -1 := by
  have : l.findIdx? q = none := by
    rw [List.findIdx?_eq_none_iff]
    intro x hx
    obtain ⟨j, hj, rfl⟩ := List.getElem_of_mem hx
    have := h j hj
    simpa [hj] using this
  simp [ifl, this]
theorem ifl_any {α : Type} (q : α → Bool) (l : List α) : 0 ≤ ifl q l ↔ l.any q = true := by
  unfold ifl
  cases h : l.findIdx? q with
  | none =>
    rw [List.findIdx?_eq_none_iff] at h
    rw [List.any_eq_false.2 (by simpa using h)]; simp
  | some i =>
    rw [List.findIdx?_eq_some_iff_getElem] at h
    obtain ⟨hi, e, _⟩ := h
    rw [List.any_eq_true.2 ⟨_, List.getElem_mem hi, e⟩]; simp
theorem short {n : Nat} {l : List (List UInt8)} (h : ¬ 0 ≤ ifl (fun r => decide (n < r.length)) l) : ∀ s ∈ l, s.length ≤ n := fun s hs => by
  rw [ifl_any] at h
  simp only [List.any_eq_true, not_exists, decide_eq_true_eq] at h
  have := h s
  simp [hs] at this; exact this
theorem getD_mem {α : Type} {l : List α} {k : Nat} {d : α} (h : k < l.length) : l.getD k d ∈ l := by simp [h]
/-- What is wrong with a presentation. -/
def badRel (g : Int) (r : List UInt8) : Bool := decide (r = []) || !decide (wcheck g r = 0) || !decide (red r = r)
def pcheck (g : Int) (l : List (List UInt8)) : Nat :=
  if g < 1 ∨ 8 < g then 1 else if 60 < l.length ∨ l.any (fun r => decide (200 < r.length)) = true then 2 else if l.any (badRel g) = true then 4 else 0
theorem idx_small : ∀ c : UInt8, 97 ≤ c → c < 105 → ((2 * (c - 97).toNat : Nat) : Int) = ix c := all_u8 (by decide +kernel)
theorem idx_big : ∀ c : UInt8, 65 ≤ c → c < 73 → ((2 * (c - 65).toNat + 1 : Nat) : Int) = ix c := all_u8 (by decide +kernel)
theorem idx_no : ∀ c : UInt8, ¬ (97 ≤ c ∧ c < 105) → ¬ (65 ≤ c ∧ c < 73) → ix c = -1 := all_u8 (by decide +kernel)
def ixn (c : UInt8) : Nat := (ix c).toNat
theorem ixn_lt (c : UInt8) : ixn c < 16 := by have := ix_lt c; unfold ixn; omega
theorem ltr_ixn : ∀ c : UInt8, 0 ≤ ix c → letters.getD (ixn c) 0 = c := all_u8 (by decide +kernel)
theorem ltr_even : ∀ i : Fin 16, i.1 % 2 = 0 → (97 : UInt8) + UInt8.ofNat (i.1 / 2) = letters.getD i.1 0 := by decide +kernel
theorem ltr_odd : ∀ i : Fin 16, ¬ i.1 % 2 = 0 → (65 : UInt8) + UInt8.ofNat (i.1 / 2) = letters.getD i.1 0 := by decide +kernel
theorem red_sub {w : List UInt8} : ∀ c ∈ red w, c ∈ w := by
  have key : ∀ (w s : List UInt8), ∀ c ∈ w.foldl push s, c ∈ s ∨ c ∈ w := by
    intro w
    induction w with
    | nil => intro s c h; exact .inl h
    | cons a w ih =>
      intro s c h
      rcases ih _ c h with q | q
      · unfold push at q
        split at q
        · exact .inl (List.mem_of_mem_take q)
        · rcases List.mem_append.1 q with q | q
          · exact .inl q
          · exact .inr (by simp at q; simp [q])
      · exact .inr (List.mem_cons_of_mem _ q)
  intro c h
  rcases key w [] c h with q | q
  · cases q
  · exact q
/-- Words of letters. -/
def okl (w : List UInt8) : Prop := ∀ c ∈ w, 0 ≤ ix c
theorem okl_get {w : List UInt8} (h : okl w) {k : Nat} (hk : k < w.length) : 0 ≤ ix (w.getD k 0) := h _ (getD_mem hk)
theorem okl_red {w : List UInt8} (h : okl w) : okl (red w) := fun c hc => h c (red_sub c hc)
theorem okl_is {w : List UInt8} (h : isw w = true) : okl w := fun c hc => by
  simp only [isw, Bool.and_eq_true, List.all_eq_true] at h
  have := h.2 c hc
  simp [okc] at this; exact this.1
theorem okl_inv {w : List UInt8} (h : okl w) : okl (inv w) := fun c hc => by
  simp only [inv, List.mem_reverse, List.mem_map] at hc
  obtain ⟨d, hd, rfl⟩ := hc
  exact ix_flip d (h d hd)
theorem inv_step {w : List UInt8} {j : Nat} (hj : 1 ≤ j) (hw : j ≤ w.length) : ((w.drop j).map (· ^^^ 32)).reverse ++ [w.getD (j - 1) 0 ^^^ 32] = ((w.drop (j - 1)).map (· ^^^ 32)).reverse := by
  rw [drop_cons (w := w) (i := j - 1) (by omega), show j - 1 + 1 = j by omega]
  simp
theorem natI {a : Int} (h : 0 ≤ a) : some (num a) = some (num ((a.toNat : Nat) : Int)) := by rw [Int.toNat_of_nonneg h]
theorem ix_xor (c : UInt8) (h : 0 ≤ ix c) : intV .xor .i64 (ix c) 1 = some (num ((ixn (c ^^^ 32) : Nat) : Int)) := by
  have key : ∀ k : Fin 16, IntKind.i64.wrap ((BitVec.ofInt 64 (k.1 : Int) ^^^ BitVec.ofInt 64 1).toNat : Int) = (k.1 ^^^ 1 : Nat) := by decide +kernel
  have h2 : ∀ c : UInt8, 0 ≤ ix c → (ixn c) ^^^ 1 = ixn (c ^^^ 32) := all_u8 (by decide +kernel)
  have h3 := key ⟨ixn c, ixn_lt c⟩
  have e : ix c = ((ixn c : Nat) : Int) := by unfold ixn; omega
  rw [← h2 c h, ← h3, e]
  rfl
theorem cyc_sym {a b : UInt8} : a = b ^^^ 32 ↔ b = a ^^^ 32 := by
  constructor <;> (rintro rfl; rw [flip_flip])
theorem wcheck_bad {k : Int} {w : List UInt8} {i : Nat} (hk : ¬ (k < 1 ∨ 8 < k)) (hw : ¬ 100000 < w.length) (hi : i < w.length) (h : ix (w.getD i 0) < 0 ∨ 2 * k ≤ ix (w.getD i 0)) : wcheck k w = 4 := by
  have : w.all (okc k) = false := by
    rw [List.all_eq_false]
    exact ⟨_, getD_mem (d := 0) hi, by intro q; simp only [okc, Bool.and_eq_true, decide_eq_true_eq] at q; omega⟩
  simp [wcheck, hk, hw, this]
theorem wcheck_good {k : Int} {w : List UInt8} {i : Nat} (hk : ¬ (k < 1 ∨ 8 < k)) (hw : ¬ 100000 < w.length) (hi : w.length ≤ i) (h : ∀ j, j < i → 0 ≤ ix (w.getD j 0) ∧ ix (w.getD j 0) < 2 * k) : wcheck k w = 0 := by
  have : w.all (okc k) = true := by
    rw [List.all_eq_true]
    intro c hc
    obtain ⟨j, hj, rfl⟩ := List.getElem_of_mem hc
    have := h j (by omega)
    simp [hj] at this
    simp [okc]; exact this
  simp [wcheck, hk, hw, this]
/-- The letters' table in memory. -/
def Lets (A : AH) : Prop := ∃ rw cap, A.get 0 = some (.row rw (byteCells letters) cap)
theorem Lets.le {A B : AH} (h : Lets A) (le : A.le B) : Lets B := by obtain ⟨r, c, h⟩ := h; exact ⟨r, c, le.get _ _ h⟩
end Go.Proofs.YtaccklloepfemaaGreatDoor
