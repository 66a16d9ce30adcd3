/- The rules of Dehn's algorithm: their words, their trie, what is found in it; the shortening of a word. -/
import Derived.Test.YtaccklloepfemaaGreatDoorDehnDisk
namespace Go.Proofs.YtaccklloepfemaaGreatDoor
set_option linter.unusedVariables false
set_option linter.unusedSimpArgs false
open Go Go.RowKit V

/-- A word of the closure: it is conj r conj^-1 for a relator or its inverse. -/
structure Rot where
  w : List UInt8
  c : List UInt8
  r : Nat
  i : Bool
def Rot.zero : Rot := ⟨[], [], 0, false⟩
def rcell (x : Rot) : List Value := [str x.w, str x.c, num ((x.r : Nat) : Int), .bool x.i]
def rcells (l : List Rot) : List Value := l.flatMap rcell
theorem rcells_length (l : List Rot) : (rcells l).length = l.length * 4 := by
  induction l with
  | nil => rfl
  | cons c l ih => simp only [rcells, List.flatMap_cons, List.length_append, List.length_cons] at ih ⊢; rw [ih]; simp [rcell]; omega
theorem rcells_len (l : List Rot) : (rcells l).length = l.length * 4 := rcells_length l
theorem rcells_append (a b : List Rot) : rcells a ++ rcells b = rcells (a ++ b) := by simp [rcells]
theorem rcells_one (l : List Rot) : oneL (rcells l) = true := by
  simp only [oneL, rcells, List.all_eq_true, List.mem_flatMap]
  rintro v ⟨c, _, h⟩
  simp only [rcell, List.mem_cons, List.not_mem_nil, or_false] at h
  rcases h with rfl | rfl | rfl | rfl <;> rfl
theorem rcells_drop (l : List Rot) (i : Nat) : (rcells l).drop (i * 4) = rcells (l.drop i) := by
  induction l generalizing i with
  | nil => simp [rcells]
  | cons c l ih =>
    cases i with
    | zero => simp
    | succ i =>
      have : (i + 1) * 4 = (rcell c).length + i * 4 := by simp [rcell]; omega
      show (rcell c ++ rcells l).drop ((i + 1) * 4) = _
      rw [this, ← List.drop_drop, List.drop_left]
      exact ih i
theorem rcells_at {l : List Rot} {i : Nat} (h : i < l.length) : ((rcells l).drop (i * 4)).take 4 = rcell (l.getD i .zero) := by
  rw [rcells_drop, List.drop_eq_getElem_cons h]
  have e : l.getD i .zero = l[i] := by simp [h]
  rw [e]
  show (rcell l[i] ++ rcells (l.drop (i + 1))).take 4 = _
  exact List.take_left' rfl
def ncell (p : Nat × Int) : List Value := [.map (some p.1), num p.2]
def ncells (l : List (Nat × Int)) : List Value := l.flatMap ncell
theorem ncells_length (l : List (Nat × Int)) : (ncells l).length = l.length * 2 := by
  induction l with
  | nil => rfl
  | cons c l ih => simp only [ncells, List.flatMap_cons, List.length_append, List.length_cons] at ih ⊢; rw [ih]; simp [ncell]; omega
theorem ncells_len (l : List (Nat × Int)) : (ncells l).length = l.length * 2 := ncells_length l
theorem ncells_append (a b : List (Nat × Int)) : ncells a ++ ncells b = ncells (a ++ b) := by simp [ncells]
theorem ncells_one (l : List (Nat × Int)) : oneL (ncells l) = true := by
  simp only [oneL, ncells, List.all_eq_true, List.mem_flatMap]
  rintro v ⟨c, _, h⟩
  simp only [ncell, List.mem_cons, List.not_mem_nil, or_false] at h
  rcases h with rfl | rfl <;> rfl
theorem ncells_drop (l : List (Nat × Int)) (i : Nat) : (ncells l).drop (i * 2) = ncells (l.drop i) := by
  induction l generalizing i with
  | nil => simp [ncells]
  | cons c l ih =>
    cases i with
    | zero => simp
    | succ i =>
      have : (i + 1) * 2 = (ncell c).length + i * 2 := by simp [ncell]; omega
      show (ncell c ++ ncells l).drop ((i + 1) * 2) = _
      rw [this, ← List.drop_drop, List.drop_left]
      exact ih i
theorem ncells_get2 {l : List (Nat × Int)} {i k : Nat} (h : i < l.length) (hk : k < 2) : (ncells l)[i * 2 + k]? = (ncell (l.getD i (0, 0)))[k]? := by
  have e1 : (ncells l)[i * 2 + k]? = ((ncells l).drop (i * 2))[k]? := by rw [List.getElem?_drop]
  rw [e1, ncells_drop, List.drop_eq_getElem_cons h]
  have e : l.getD i (0, 0) = l[i] := by simp [h]
  rw [e]
  show (ncell l[i] ++ ncells (l.drop (i + 1)))[k]? = _
  exact List.getElem?_append_left (by simpa [ncell] using hk)
theorem ncells_f0 {l : List (Nat × Int)} {i : Nat} (h : i < l.length) : (ncells l)[i * 2 + 0]? = some (.map (some (l.getD i (0, 0)).1)) := ncells_get2 h (by omega)
theorem ncells_f1 {l : List (Nat × Int)} {i : Nat} (h : i < l.length) : (ncells l)[i * 2 + 1]? = some (num (l.getD i (0, 0)).2) := ncells_get2 h (by omega)

/-! ### What is found -/
/-- The first word of which a path is a prefix and more than half. -/
def bestOf (l : List Rot) (p : List UInt8) : Int := ifl (fun x : Rot => p.isPrefixOf x.w && decide (x.w.length < 2 * p.length)) l
def longStep (l : List Rot) (s : List UInt8) (i : Nat) (t : Int × Nat) : Int × Nat :=
  let b := bestOf l (s.take (i + 1))
  if 0 ≤ b then (if t.1 < 0 then (b, i + 1) else (if b < t.1 then b else t.1, t.2)) else t
def longU (l : List Rot) (s : List UInt8) : Nat → Int × Nat
  | 0 => (-1, 0)
  | i + 1 => longStep l s i (longU l s i)
def longF (l : List Rot) (s : List UInt8) : Int × Nat := longU l s s.length

structure RS where
  list : List Rot
  most : Nat
  pf : List (List UInt8)
  best : List Int
/-- The entries of a node's map: where letters lead. -/
def Ents (pf : List (List UInt8)) (p : List UInt8) (es : Array MapEntry) : Prop :=
  ∃ l : List (UInt8 × Nat × Nat), es.toList = l.map (fun x => { key := byt x.1, val := num ((x.2.1 : Nat) : Int), born := x.2.2 }) ∧ ∀ c, (l.find? fun x => x.1 == c).map (fun x => x.2.1) = if p ++ [c] ∈ pf then some (pf.idxOf (p ++ [c])) else none
def Nodes (A : AH) (S : RS) (bl : List Nat) : Prop :=
  bl.length = S.pf.length ∧ S.best.length = S.pf.length ∧ ∀ j, j < S.pf.length → ∃ rw es clock, A.get (bl.getD j 0) = some (.obj rw (.map es clock)) ∧ Ents S.pf (S.pf.getD j []) es
/-- The rules in memory. -/
def Rules (A : AH) (br : Nat) (S : RS) : Prop :=
  ∃ rw cap lsv nv bl, A.get br = some (.row rw [lsv, nv, num ((S.most : Nat) : Int)] cap) ∧ Slc A 4 lsv (rcells S.list) ∧ Slc A 2 nv (ncells (bl.zip S.best)) ∧ Nodes A S bl
theorem Rules.le {A B : AH} {br : Nat} {S : RS} (h : Rules A br S) (le : A.le B) : Rules B br S := by
  obtain ⟨rw, cap, lsv, nv, bl, h1, h2, h3, h4, h5, h6⟩ := h
  refine ⟨rw, cap, lsv, nv, bl, le.get _ _ h1, h2.le le, h3.le le, h4, h5, fun j hj => ?_⟩
  obtain ⟨r, es, k, g1, g2⟩ := h6 j hj
  exact ⟨r, es, k, le.get _ _ g1, g2⟩
/-- What is so of rules: the trie is that of the words. -/
structure RSok (S : RS) : Prop where
  root : S.pf.getD 0 [] = [] ∧ 0 < S.pf.length
  nodup : S.pf.Nodup
  mem : ∀ p, p ∈ S.pf ↔ p = [] ∨ ∃ x ∈ S.list, p <+: x.w
  best : ∀ j, j < S.pf.length → S.best.getD j 0 = bestOf S.list (S.pf.getD j [])
  most : ∀ x ∈ S.list, x.w.length ≤ S.most
  small : S.most ≤ 200 ∧ S.list.length ≤ 30000
  isw : ∀ x ∈ S.list, isw x.w = true ∧ isw x.c = true ∧ x.c.length ≤ 1000
theorem take_next {s : List UInt8} {i : Nat} (h : i < s.length) : s.take i ++ [s.getD i 0] = s.take (i + 1) := by
  rw [List.take_add_one, List.getElem?_eq_getElem h]; simp [h]
theorem idxOf_lt {l : List (List UInt8)} {p : List UInt8} (h : p ∈ l) : l.idxOf p < l.length := List.idxOf_lt_length_of_mem h
theorem getD_idxOf {l : List (List UInt8)} {p : List UInt8} (h : p ∈ l) : l.getD (l.idxOf p) [] = p := by
  have := idxOf_lt h
  rw [List.getD_eq_getElem?_getD, List.getElem?_eq_getElem this]
  simp
theorem RSok.best_at {S : RS} (h : RSok S) {bl : List Nat} (hb : bl.length = S.pf.length ∧ S.best.length = S.pf.length) {p : List UInt8} (hp : p ∈ S.pf) : ((bl.zip S.best).getD (S.pf.idxOf p) (0, 0)).2 = bestOf S.list p := by
  have hi := idxOf_lt hp
  have h1 := h.best _ hi
  rw [getD_idxOf hp] at h1
  rw [← h1]
  have hz : S.pf.idxOf p < (bl.zip S.best).length := by simp; omega
  have h2 : S.pf.idxOf p < S.best.length := by omega
  have h3 : S.pf.idxOf p < bl.length := by omega
  rw [List.getD_eq_getElem?_getD, List.getElem?_eq_getElem hz, Option.getD_some, List.getElem_zip, List.getD_eq_getElem?_getD, List.getElem?_eq_getElem h2, Option.getD_some]
theorem RSok.blk_at {S : RS} {bl : List Nat} (hb : bl.length = S.pf.length ∧ S.best.length = S.pf.length) {j : Nat} (hj : j < S.pf.length) : ((bl.zip S.best).getD j (0, 0)).1 = bl.getD j 0 := by
  have hz : j < (bl.zip S.best).length := by simp; omega
  have h2 : j < bl.length := by omega
  rw [List.getD_eq_getElem?_getD, List.getElem?_eq_getElem hz, Option.getD_some, List.getElem_zip, List.getD_eq_getElem?_getD, List.getElem?_eq_getElem h2, Option.getD_some]
theorem bestOf_none {l : List Rot} {p : List UInt8} (h : ∀ x ∈ l, ¬ p <+: x.w) : bestOf l p = -1 := by
  unfold bestOf
  refine ifl_none (d := .zero) fun j hj => ?_
  have := h _ (getD_mem (d := .zero) hj)
  simp only [Bool.and_eq_false_iff]
  left
  rw [← Bool.not_eq_true, List.isPrefixOf_iff_prefix]; exact this
theorem longU_stop {S : RS} (h : RSok S) {s : List UInt8} {i : Nat} (hi : i < s.length) (hn : ¬ s.take (i + 1) ∈ S.pf) : longU S.list s i = longF S.list s := by
  have key : ∀ n, i ≤ n → n ≤ s.length → longU S.list s n = longU S.list s i := by
    intro n
    induction n with
    | zero => intro h1 _; rw [show i = 0 by omega]
    | succ n ih =>
      intro h1 h2
      rcases Nat.lt_or_eq_of_le h1 with q | q
      · have e := ih (by omega) (by omega)
        have hb : bestOf S.list (s.take (n + 1)) = -1 := bestOf_none fun x hx hp => hn ((h.mem _).2 (.inr ⟨x, hx, by
          refine List.IsPrefix.trans ?_ hp
          exact List.take_prefix_take_left (by omega)⟩))
        rw [longU, longStep, hb, if_neg (by decide), e]
      · rw [q]
  exact (key s.length (by omega) (Nat.le_refl _)).symm
theorem same_byt (a c : UInt8) : Instr.sameNow (.int .u8) (byt a) (byt c) = some (decide (a = c)) := by
  have : decide ((a.toNat : Int) = (c.toNat : Int)) = decide (a = c) := by simp only [u8_inj]
  simp only [Instr.sameNow]
  rw [← this]
  rfl
theorem find_key (c : UInt8) : ∀ (l : List (UInt8 × Nat × Nat)) (n : Nat), ∃ r, Instr.findNow (.int .u8) (byt c) (l.map fun x => { key := byt x.1, val := num ((x.2.1 : Nat) : Int), born := x.2.2 }) n = some r ∧ r.map (fun p => p.2) = (l.find? fun x => x.1 == c).map fun x => num ((x.2.1 : Nat) : Int) := by
  intro l
  induction l with
  | nil => intro n; exact ⟨none, rfl, rfl⟩
  | cons x l ih =>
    intro n
    by_cases q : c = x.1
    · refine ⟨some (n, num ((x.2.1 : Nat) : Int)), ?_, by simp [q]⟩
      simp only [List.map_cons, Instr.findNow, same_byt, decide_eq_true q]
    · obtain ⟨r, h1, h2⟩ := ih (n + 1)
      refine ⟨r, ?_, ?_⟩
      · simp only [List.map_cons, Instr.findNow, same_byt, decide_eq_false q]; exact h1
      · rw [h2, List.find?_cons_of_neg]
        simp only [beq_iff_eq]; exact fun h => q h.symm
theorem wlookupB {P : Program} {e : Env} {A : AH} {x y : Operand} {t kt et : TypeId} {ty : TypeId} {ps : String} {af : Array Edge} {dst : Option Nat} {K : Value → AH → Prop} {Kp : List PanicEntry → AH → Prop} {g : Option (Nat × Bool)} {m clock : Nat} {rw : Bool} {es : Array MapEntry} {pf : List (List UInt8)} {p q : List UInt8} {c : UInt8}
    (hx : opd e x = some (.map (some m))) (hy : opd e y = some (byt c)) (hu : P.underlying t = some (.map kt et)) (hk : P.underlying kt = some (.int .u8)) (hz : zeroOf P et = some (num 0)) (hg : A.get m = some (.obj rw (.map es clock))) (hE : Ents pf p es) (hq : p ++ [c] = q)
    (h1 : q ∈ pf → K (.tuple #[num ((pf.idxOf q : Nat) : Int), .bool true]) A) (h2 : ¬ q ∈ pf → K (.tuple #[num ((0 : Nat) : Int), .bool false]) A) : opV P e A { dst := dst, op := .lookup t x y true, type := ty, pos := ps, after := af, guard := g } K Kp := by
  subst hq
  obtain ⟨l, hl, hf⟩ := hE
  obtain ⟨r, g1, g2⟩ := find_key c l 0
  refine ⟨_, _, hx, hy, kt, et, .int .u8, num 0, es, r, hu, hk, rfl, hz, .inr ⟨m, rw, clock, rfl, hg⟩, by rw [hl]; exact g1, ?_⟩
  have hf := hf c
  by_cases hp : p ++ [c] ∈ pf
  · rw [if_pos hp] at hf
    cases hfind : l.find? fun x => x.1 == c with
    | none => rw [hfind] at hf; cases hf
    | some z =>
      rw [hfind] at hf g2
      simp only [Option.map_some, Option.some.injEq] at hf g2
      cases r with
      | none => cases g2
      | some w =>
        simp only [Option.map_some, Option.some.injEq] at g2
        have := h1 hp
        rw [← hf] at this
        obtain ⟨w1, w2⟩ := w
        simp only at g2
        subst g2
        exact this
  · rw [if_neg hp] at hf
    cases hfind : l.find? fun x => x.1 == c with
    | some z => rw [hfind] at hf; cases hf
    | none =>
      rw [hfind] at g2
      cases r with
      | some w => cases g2
      | none => exact h2 hp

/-! ### Replacing -/
/-- Letters are put onto a reduced word; how short it has been. -/
def putF (t : List UInt8 × Nat) (w : List UInt8) : List UInt8 × Nat := w.foldl (fun t c => (push t.1 c, min t.2 (push t.1 c).length)) t
def repN (l : List UInt8) (p : Nat) (x : Rot) : Nat := cmn (l.drop p) x.w
def repl (l : List UInt8) (p : Nat) (x : Rot) : List UInt8 × Nat := putF (putF (l.take p, p) (wInverse (x.w.drop (repN l p x)))) (l.drop (p + repN l p x))
def repC (l : List UInt8) (p : Nat) (x : Rot) : DCell := ⟨wReduce (l.take p ++ x.c), ((x.r : Nat) : Int), x.i⟩
def drun (L : List Rot) (most : Nat) : Nat → List UInt8 → List DCell → Nat → List UInt8 × List DCell
  | 0, l, d, _ => (l, d)
  | f + 1, l, d, p => if p < l.length then
      (if 0 ≤ (longF L (l.drop p)).1 then drun L most f (repl l p (L.getD (longF L (l.drop p)).1.toNat .zero)).1 (d ++ [repC l p (L.getD (longF L (l.drop p)).1.toNat .zero)]) ((repl l p (L.getD (longF L (l.drop p)).1.toNat .zero)).2 - most)
       else drun L most f l d (p + 1))
    else (l, d)
theorem at_none {l : List UInt8} {p i : Nat} (h : l.length ≤ p + i) : (l.drop p).getD i 0 = 0 ∧ decide (i < (l.drop p).length) = false := by
  refine ⟨?_, decide_eq_false (by rw [List.length_drop]; omega)⟩
  rw [List.getD_eq_getElem?_getD, List.getElem?_drop, List.getElem?_eq_none (by omega)]; rfl
theorem at_some {l : List UInt8} {p i : Nat} (h : ¬ l.length ≤ p + i) : (l.drop p).getD i 0 = l.getD (p + i) 0 ∧ decide (i < (l.drop p).length) = true := by
  refine ⟨?_, decide_eq_true (by rw [List.length_drop]; omega)⟩
  rw [List.getD_eq_getElem?_getD, List.getElem?_drop, List.getD_eq_getElem?_getD]
theorem letter_of {w : List UInt8} {k : Nat} (h : k < w.length) : (w.take (k + 1)).drop k = [w.getD k 0] := by
  rw [← take_next h, List.drop_left' (by simp; omega)]
theorem putF_fst (w : List UInt8) : ∀ t : List UInt8 × Nat, (putF t w).1 = w.foldl push t.1 := by
  induction w with
  | nil => intro t; rfl
  | cons c w ih => intro t; exact ih _
theorem putF_step {w : List UInt8} {t R : List UInt8 × Nat} {k : Nat} (h : k < w.length) (e : putF t (w.drop k) = R) : putF (push t.1 (w.getD k 0), min t.2 (push t.1 (w.getD k 0)).length) (w.drop (k + 1)) = R := by
  rw [drop_cons h] at e; exact e
theorem putF_end {w : List UInt8} {t R : List UInt8 × Nat} {k : Nat} (h : w.length ≤ k) (e : putF t (w.drop k) = R) : R = t := by
  rw [drop_end h] at e; exact e.symm
theorem ifl_le {α : Type} (q : α → Bool) (l : List α) : -1 ≤ ifl q l ∧ ifl q l < l.length := by
  unfold ifl
  split
  · rename_i i h; rw [List.findIdx?_eq_some_iff_getElem] at h; obtain ⟨h, _⟩ := h; omega
  · omega
theorem longU_bound (l : List Rot) (s : List UInt8) (i : Nat) : -1 ≤ (longU l s i).1 ∧ (longU l s i).1 < l.length := by
  induction i with
  | zero => simp [longU]; omega
  | succ i ih =>
    have hb : -1 ≤ bestOf l (s.take (i + 1)) ∧ bestOf l (s.take (i + 1)) < l.length := ifl_le _ _
    rw [longU, longStep]
    generalize bestOf l (s.take (i + 1)) = b at hb ⊢
    split
    · split
      · exact hb
      · dsimp only; split <;> omega
    · exact ih
theorem longF_bound (l : List Rot) (s : List UInt8) : -1 ≤ (longF l s).1 ∧ (longF l s).1 < l.length := longU_bound l s _
theorem repN_go {l : List UInt8} {p n : Nat} {x : Rot} (h : n ≤ repN l p x) (hc : n < x.w.length ∧ p + n < l.length ∧ l.getD (p + n) 0 = x.w.getD n 0) : n + 1 ≤ repN l p x :=
  cmn_go h ⟨by rw [List.length_drop]; omega, hc.1, by rw [(at_some (l := l) (p := p) (i := n) (by omega)).1]; exact hc.2.2⟩
theorem repN_stop {l : List UInt8} {p n : Nat} {x : Rot} (h : n ≤ repN l p x) (hc : ¬ (n < x.w.length ∧ p + n < l.length ∧ l.getD (p + n) 0 = x.w.getD n 0)) : n = repN l p x :=
  cmn_stop h fun q => hc ⟨q.2.1, by have := q.1; rw [List.length_drop] at this; omega, by rw [← (at_some (l := l) (p := p) (i := n) (by have := q.1; rw [List.length_drop] at this; omega)).1]; exact q.2.2⟩
theorem repN_le (l : List UInt8) (p : Nat) (x : Rot) : repN l p x ≤ l.length - p ∧ repN l p x ≤ x.w.length := by
  have := cmn_le (l.drop p) x.w
  rw [List.length_drop] at this; exact this
theorem putF_len (t : List UInt8 × Nat) (w : List UInt8) : (putF t w).1.length ≤ t.1.length + w.length := by rw [putF_fst]; exact foldl_push_length w t.1
theorem repl_len (l : List UInt8) (p : Nat) (x : Rot) : (repl l p x).1.length + repN l p x ≤ min p l.length + (x.w.length - repN l p x) + (l.length - p) := by
  have h1 := putF_len (putF (l.take p, p) (wInverse (x.w.drop (repN l p x)))) (l.drop (p + repN l p x))
  have h2 := putF_len (l.take p, p) (wInverse (x.w.drop (repN l p x)))
  have h3 := wInverse_length (x.w.drop (repN l p x))
  have h4 := repN_le l p x
  simp only [List.length_drop, List.length_take] at h1 h2 h3
  unfold repl
  omega
/-- A prefix that is more than half of a word is one that is found. -/
theorem cmn_prefix : ∀ (s x : List UInt8) (k : Nat), k ≤ s.length → (s.take k <+: x ↔ k ≤ cmn s x)
  | s, x, 0, _ => by simp
  | [], x, k + 1, h => by simp at h
  | a :: s, [], k + 1, _ => by simp [cmn]
  | a :: s, b :: x, k + 1, h => by
    simp only [List.take_succ_cons, List.cons_prefix_cons, cmn]
    have := cmn_prefix s x k (by simpa using h)
    split
    · rename_i q; subst q; rw [this]; simp
    · rename_i q; simp [q]
theorem bestOf_spec {l : List Rot} {p : List UInt8} (h : 0 ≤ bestOf l p) : ∃ i, bestOf l p = ((i : Nat) : Int) ∧ i < l.length ∧ p <+: (l.getD i .zero).w ∧ (l.getD i .zero).w.length < 2 * p.length ∧ ∀ j, j < i → ¬ (p <+: (l.getD j .zero).w ∧ (l.getD j .zero).w.length < 2 * p.length) := by
  unfold bestOf ifl at h ⊢
  cases hf : l.findIdx? (fun x : Rot => p.isPrefixOf x.w && decide (x.w.length < 2 * p.length)) with
  | none => rw [hf] at h; simp at h
  | some i =>
    rw [List.findIdx?_eq_some_iff_getElem] at hf
    obtain ⟨hi, h1, h2⟩ := hf
    simp only [Bool.and_eq_true, List.isPrefixOf_iff_prefix, decide_eq_true_eq] at h1
    refine ⟨i, rfl, hi, by simpa [hi] using h1.1, by simpa [hi] using h1.2, fun j hj => ?_⟩
    have := h2 j hj
    have hjl : j < l.length := by omega
    simpa [hjl] using this
theorem bestOf_neg {l : List Rot} {p : List UInt8} (h : ¬ 0 ≤ bestOf l p) : ∀ x ∈ l, ¬ (p <+: x.w ∧ x.w.length < 2 * p.length) := by
  intro x hx q
  have : 0 ≤ bestOf l p := (ifl_any _ _).2 (List.any_eq_true.2 ⟨x, hx, by simp [q.1, q.2]⟩)
  exact h this
def partB (s x : List UInt8) : Bool := partOf s x
/-- What is found is the first word with a long part at the beginning. -/
theorem longU_spec (l : List Rot) (s : List UInt8) : ∀ n, n ≤ s.length →
    ((longU l s n).1 = -1 ∧ (longU l s n).2 = 0 ∧ ∀ k, 1 ≤ k → k ≤ n → ¬ 0 ≤ bestOf l (s.take k)) ∨
    (∃ i : Nat, (longU l s n).1 = i ∧ (∃ k, 1 ≤ k ∧ k ≤ n ∧ bestOf l (s.take k) = i) ∧ (∀ k, 1 ≤ k → k ≤ n → 0 ≤ bestOf l (s.take k) → (i : Int) ≤ bestOf l (s.take k)) ∧
      1 ≤ (longU l s n).2 ∧ (longU l s n).2 ≤ n ∧ 0 ≤ bestOf l (s.take (longU l s n).2) ∧ ∀ k, 1 ≤ k → k < (longU l s n).2 → ¬ 0 ≤ bestOf l (s.take k)) := by
  intro n
  induction n with
  | zero => intro _; left; exact ⟨rfl, rfl, fun k h1 h2 => by omega⟩
  | succ n ih =>
    intro hn
    have ih := ih (by omega)
    rw [longU, longStep]
    by_cases hb : 0 ≤ bestOf l (s.take (n + 1))
    · simp only [hb, if_true]
      rcases ih with ⟨h1, h2, h3⟩ | ⟨i, h1, h2, h3, h4, h5, h6, h7⟩
      · rw [h1, if_pos (by decide)]
        right
        obtain ⟨i, e, _⟩ := bestOf_spec hb
        refine ⟨i, e, ⟨n + 1, by omega, by omega, e⟩, fun k k1 k2 k3 => ?_, by simp, by simp, hb, fun k k1 k2 => h3 k k1 (by simp at k2; omega)⟩
        rcases Nat.lt_or_eq_of_le k2 with q | q
        · exact absurd k3 (h3 k k1 (by omega))
        · rw [q]; omega
      · rw [if_neg (by omega)]
        right
        obtain ⟨j, e, _⟩ := bestOf_spec hb
        by_cases hlt : bestOf l (s.take (n + 1)) < (longU l s n).1
        · refine ⟨j, by show (if _ then _ else _) = _; rw [if_pos hlt]; exact e, ⟨n + 1, by omega, by omega, e⟩, fun k k1 k2 k3 => ?_, h4, by simp only; omega, h6, h7⟩
          rcases Nat.lt_or_eq_of_le k2 with q | q
          · have := h3 k k1 (by omega) k3; omega
          · rw [q]; omega
        · refine ⟨i, by show (if _ then _ else _) = _; rw [if_neg hlt]; exact h1, ?_, fun k k1 k2 k3 => ?_, h4, by simp only; omega, h6, h7⟩
          · obtain ⟨k, k1, k2, k3⟩ := h2; exact ⟨k, k1, by omega, k3⟩
          · rcases Nat.lt_or_eq_of_le k2 with q | q
            · exact h3 k k1 (by omega) k3
            · rw [q]; omega
    · simp only [hb, if_false]
      rcases ih with ⟨h1, h2, h3⟩ | ⟨i, h1, h2, h3, h4, h5, h6, h7⟩
      · left
        refine ⟨h1, h2, fun k k1 k2 => ?_⟩
        rcases Nat.lt_or_eq_of_le k2 with q | q
        · exact h3 k k1 (by omega)
        · rw [q]; exact hb
      · right
        refine ⟨i, h1, ?_, fun k k1 k2 k3 => ?_, h4, by omega, h6, h7⟩
        · obtain ⟨k, k1, k2, k3⟩ := h2; exact ⟨k, k1, by omega, k3⟩
        · rcases Nat.lt_or_eq_of_le k2 with q | q
          · exact h3 k k1 (by omega) k3
          · rw [q] at k3; exact absurd k3 hb
theorem longF_neg {l : List Rot} {s : List UInt8} (h : ¬ 0 ≤ (longF l s).1) : ∀ x ∈ l, ¬ x.w.length < 2 * cmn s x.w := by
  rcases longU_spec l s s.length (Nat.le_refl _) with ⟨h1, h2, h3⟩ | ⟨i, h1, _⟩
  · intro x hx q
    have hc := cmn_le s x.w
    exact bestOf_neg (h3 (cmn s x.w) (by omega) hc.1) x hx ⟨(cmn_prefix s x.w _ hc.1).2 (Nat.le_refl _), by rw [List.length_take, Nat.min_eq_left hc.1]; exact q⟩
  · exact absurd (show 0 ≤ (longF l s).1 by unfold longF; omega) h
theorem longF_pos {l : List Rot} {s : List UInt8} (h : 0 ≤ (longF l s).1) : (longF l s).1.toNat < l.length ∧ (l.getD (longF l s).1.toNat .zero).w.length < 2 * cmn s (l.getD (longF l s).1.toNat .zero).w ∧ ∀ j, j < (longF l s).1.toNat → ¬ (l.getD j .zero).w.length < 2 * cmn s (l.getD j .zero).w := by
  rcases longU_spec l s s.length (Nat.le_refl _) with ⟨h1, h2, h3⟩ | ⟨i, h1, ⟨k, k1, k2, k3⟩, h3, _⟩
  · unfold longF at h; omega
  · have e : (longF l s).1 = (i : Int) := h1
    rw [e, Int.toNat_natCast]
    obtain ⟨i', e', g1, g2, g3, g4⟩ := bestOf_spec (l := l) (p := s.take k) (by omega)
    have : i' = i := by omega
    subst this
    rw [List.length_take, Nat.min_eq_left k2] at g3
    have hk := (cmn_prefix s _ k k2).1 g2
    refine ⟨g1, by omega, fun j hj q => ?_⟩
    have hc := cmn_le s (l.getD j .zero).w
    have hjl : j < l.length := by omega
    have hb : 0 ≤ bestOf l (s.take (cmn s (l.getD j .zero).w)) := by
      refine (ifl_any _ _).2 (List.any_eq_true.2 ⟨_, getD_mem (d := .zero) hjl, ?_⟩)
      simp only [Bool.and_eq_true, List.isPrefixOf_iff_prefix, decide_eq_true_eq]
      exact ⟨(cmn_prefix s _ _ hc.1).2 (Nat.le_refl _), by rw [List.length_take, Nat.min_eq_left hc.1]; exact q⟩
    have h5 := h3 _ (by omega) hc.1 hb
    obtain ⟨i2, e2, q1, q2, q3, q4⟩ := bestOf_spec hb
    have : i2 ≤ j := by
      rcases Nat.lt_or_ge j i2 with z | z
      · exact absurd ⟨(cmn_prefix s _ _ hc.1).2 (Nat.le_refl _), by rw [List.length_take, Nat.min_eq_left hc.1]; exact q⟩ (q4 j z)
      · exact z
    omega
theorem drun_go {L : List Rot} {m f p : Nat} {l : List UInt8} {d : List DCell} {R : List UInt8 × List DCell} (hf : 0 < f) (hp : p < l.length) (h : 0 ≤ (longF L (l.drop p)).1) (e : drun L m f l d p = R) :
    drun L m (f - 1) (repl l p (L.getD (longF L (l.drop p)).1.toNat .zero)).1 (d ++ [repC l p (L.getD (longF L (l.drop p)).1.toNat .zero)]) ((repl l p (L.getD (longF L (l.drop p)).1.toNat .zero)).2 - m) = R := by
  cases f with
  | zero => omega
  | succ f => rw [drun, if_pos hp, if_pos h] at e; exact e
theorem drun_no {L : List Rot} {m f p : Nat} {l : List UInt8} {d : List DCell} {R : List UInt8 × List DCell} (hf : 0 < f) (hp : p < l.length) (h : ¬ 0 ≤ (longF L (l.drop p)).1) (e : drun L m f l d p = R) : drun L m (f - 1) l d (p + 1) = R := by
  cases f with
  | zero => omega
  | succ f => rw [drun, if_pos hp, if_neg h] at e; exact e
theorem drun_end {L : List Rot} {m f p : Nat} {l : List UInt8} {d : List DCell} {R : List UInt8 × List DCell} (hp : ¬ p < l.length) (e : drun L m f l d p = R) : R = (l, d) := by
  cases f with
  | zero => exact e.symm
  | succ f => rw [drun, if_neg hp] at e; exact e.symm
theorem repl_lt {L : List Rot} {l : List UInt8} {p : Nat} (hp : p < l.length) (h : 0 ≤ (longF L (l.drop p)).1) : (repl l p (L.getD (longF L (l.drop p)).1.toNat .zero)).1.length < l.length := by
  have h1 := longF_pos h
  have h2 := repl_len l p (L.getD (longF L (l.drop p)).1.toNat .zero)
  have h3 := repN_le l p (L.getD (longF L (l.drop p)).1.toNat .zero)
  have h4 : (L.getD (longF L (l.drop p)).1.toNat .zero).w.length < 2 * repN l p (L.getD (longF L (l.drop p)).1.toNat .zero) := h1.2.1
  omega
theorem putF_snd (w : List UInt8) : ∀ t : List UInt8 × Nat, (putF t w).2 ≤ t.2 := by
  induction w with
  | nil => intro t; exact Nat.le_refl _
  | cons c w ih => intro t; exact Nat.le_trans (ih _) (Nat.min_le_left _ _)
theorem repl_low (l : List UInt8) (p : Nat) (x : Rot) : (repl l p x).2 ≤ p := Nat.le_trans (putF_snd _ _) (putF_snd _ _)
def fuel (n : Nat) : Nat := 100001 * n + n + 1
def dsh (S : RS) (w : List UInt8) : List UInt8 × List DCell := drun S.list S.most (fuel (red w).length) (red w) [] 0
end Go.Proofs.YtaccklloepfemaaGreatDoor
