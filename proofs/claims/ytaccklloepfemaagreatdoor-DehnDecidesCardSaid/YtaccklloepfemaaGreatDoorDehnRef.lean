/- What the reference of the layer computes, in plain lists. -/
import Derived.Test.YtaccklloepfemaaGreatDoorDehnWords
namespace Go.Proofs.YtaccklloepfemaaGreatDoor
set_option linter.unusedVariables false
set_option linter.unusedSimpArgs false
open Go V

theorem pcheck_arg {g : Int} {l : List (List UInt8)} (h : g < 1 ∨ 8 < g) : pcheck g l = 1 := by rw [pcheck, if_pos h]
theorem pcheck_many {g : Int} {l : List (List UInt8)} (h : ¬ (g < 1 ∨ 8 < g)) (h2 : 60 < l.length) : pcheck g l = 2 := by rw [pcheck, if_neg h, if_pos (.inl h2)]
theorem pcheck_long {g : Int} {l : List (List UInt8)} {i : Nat} (h : ¬ (g < 1 ∨ 8 < g)) (hi : i < l.length) (h2 : 200 < (l.getD i []).length) : pcheck g l = 2 := by
  rw [pcheck, if_neg h, if_pos (.inr (List.any_eq_true.2 ⟨_, getD_mem hi, decide_eq_true h2⟩))]
theorem no_long {l : List (List UInt8)} {i n : Nat} (hi : l.length ≤ i) (h : ∀ j, j < i → (l.getD j []).length ≤ n) : ∀ s ∈ l, s.length ≤ n := fun s hs => by
  obtain ⟨j, hj, rfl⟩ := List.getElem_of_mem hs
  have := h j (by omega)
  simpa [hj] using this
theorem any_long {l : List (List UInt8)} (h : ∀ s ∈ l, s.length ≤ 200) : ¬ l.any (fun r => decide (200 < r.length)) = true := fun q => by
  obtain ⟨s, hs, e⟩ := List.any_eq_true.1 q
  have := h s hs; have := of_decide_eq_true e; omega
theorem pcheck_bad {g : Int} {l : List (List UInt8)} {i : Nat} (h : ¬ (g < 1 ∨ 8 < g)) (h2 : ¬ 60 < l.length) (h3 : ∀ s ∈ l, s.length ≤ 200) (hi : i < l.length) (hb : badRel g (l.getD i []) = true) : pcheck g l = 4 := by
  rw [pcheck, if_neg h, if_neg (fun q => q.elim h2 (any_long h3)), if_pos (List.any_eq_true.2 ⟨_, getD_mem hi, hb⟩)]
theorem pcheck_good {g : Int} {l : List (List UInt8)} {i : Nat} (h : ¬ (g < 1 ∨ 8 < g)) (h2 : ¬ 60 < l.length) (h3 : ∀ s ∈ l, s.length ≤ 200) (hi : l.length ≤ i) (hb : ∀ j, j < i → badRel g (l.getD j []) = false) : pcheck g l = 0 := by
  rw [pcheck, if_neg h, if_neg (fun q => q.elim h2 (any_long h3)), if_neg]
  intro q
  obtain ⟨s, hs, e⟩ := List.any_eq_true.1 q
  obtain ⟨j, hj, rfl⟩ := List.getElem_of_mem hs
  have := hb j (by omega)
  simp [hj, e] at this
theorem isw_of {g : Int} {r : List UInt8} (hg : g ≤ 8) (h : wcheck g r = 0) : isw r = true := by
  unfold wcheck at h
  split at h
  · cases h
  · split at h
    · cases h
    · split at h
      · rename_i h1 h2 h3
        simp only [isw, Bool.and_eq_true, decide_eq_true_eq, List.all_eq_true] at h3 ⊢
        refine ⟨by omega, fun c hc => ?_⟩
        have := h3 c hc
        simp only [okc, Bool.and_eq_true, decide_eq_true_eq] at this ⊢
        omega
      · cases h
theorem wReduce_of {w : List UInt8} (h : isw w = true) : wReduce w = red w := by rw [wReduce, if_pos h]

theorem pcheck_zero {g : Int} {l : List (List UInt8)} (h : pcheck g l = 0) : (1 ≤ g ∧ g ≤ 8) ∧ l.length ≤ 60 ∧ ∀ r ∈ l, r.length ≤ 200 ∧ badRel g r = false := by
  unfold pcheck at h
  split at h
  · cases h
  · split at h
    · cases h
    · split at h
      · cases h
      · rename_i h1 h2 h3
        refine ⟨by omega, by omega, fun r hr => ⟨?_, ?_⟩⟩
        · have : ¬ l.any (fun r => decide (200 < r.length)) = true := fun q => h2 (.inr q)
          rw [Bool.not_eq_true, List.any_eq_false] at this
          have := this r hr
          simpa using this
        · rw [Bool.not_eq_true, List.any_eq_false] at h3
          have := h3 r hr
          simpa using this
theorem badRel_good {g : Int} {r : List UInt8} (h : badRel g r = false) : r ≠ [] ∧ wcheck g r = 0 ∧ red r = r := by
  simpa [badRel, and_assoc] using h
theorem badRel_1 {g : Int} {r : List UInt8} (h : r = []) : badRel g r = true := by simp [badRel, h]
theorem badRel_2 {g : Int} {r : List UInt8} (h : ¬ wcheck g r = 0) : badRel g r = true := by simp [badRel, h]
theorem badRel_3 {g : Int} {r : List UInt8} (h2 : ¬ ¬ wcheck g r = 0) (hg : g ≤ 8) (h3 : ¬ wReduce r = r) : badRel g r = true := by
  rw [wReduce_of (isw_of hg (Decidable.not_not.1 h2))] at h3; simp [badRel, h3]
theorem badRel_no {g : Int} {r : List UInt8} (h1 : ¬ r = []) (h2 : ¬ ¬ wcheck g r = 0) (hg : g ≤ 8) (h3 : ¬ ¬ wReduce r = r) : badRel g r = false := by
  rw [wReduce_of (isw_of hg (Decidable.not_not.1 h2))] at h3
  simp only [badRel, decide_eq_false h1, decide_eq_true (Decidable.not_not.1 h2), decide_eq_true (Decidable.not_not.1 h3)]; rfl
theorem wCompare_x {x y : List UInt8} (h : (!isw x) = true) : wCompare x y = 0 := by rw [wCompare, if_neg]; intro q; rw [q.1] at h; cases h
theorem wCompare_y {x y : List UInt8} (h : (!isw y) = true) : wCompare x y = 0 := by rw [wCompare, if_neg]; intro q; rw [q.2] at h; cases h
theorem wCompare_of {x y : List UInt8} (hx : (!isw x) = false) (hy : (!isw y) = false) : wCompare x y = cmpw x y := by
  rw [wCompare, if_pos ⟨by simpa using hx, by simpa using hy⟩]
/-! ### The closure -/
def addStep (w : List UInt8) (s : List (List UInt8) × Bool) (x : List UInt8) : List (List UInt8) × Bool :=
  let c := wCompare x w
  let d := s.2 || decide (c = 0)
  if 0 < c ∧ d = false then (s.1 ++ [w] ++ [x], true) else (s.1 ++ [x], d)
def addw (l : List (List UInt8)) (w : List UInt8) : List (List UInt8) :=
  let s := l.foldl (addStep w) ([], false)
  if s.2 then s.1 else s.1 ++ [w]
theorem addStep_zero {w x : List UInt8} {o : List (List UInt8)} {d : Bool} (h : wCompare x w = 0) : addStep w (o, d) x = (o ++ [x], true) := by simp [addStep, h]
theorem addStep_in {w x : List UInt8} {o : List (List UInt8)} {d : Bool} (h0 : ¬ wCompare x w = 0) (h : 0 < wCompare x w) (hd : d = false) : addStep w (o, d) x = (o ++ [w] ++ [x], true) := by simp [addStep, h0, h, hd]
theorem addStep_out {w x : List UInt8} {o : List (List UInt8)} {d : Bool} (h0 : ¬ wCompare x w = 0) (h : ¬ (0 < wCompare x w ∧ d = false)) : addStep w (o, d) x = (o ++ [x], d) := by simp [addStep, h0]; simpa using h
theorem fold_step {α β : Type} {f : β → α → β} {l : List α} {i : Nat} {d : α} {s s' R : β} (hi : i < l.length) (h : (l.drop i).foldl f s = R) (e : f s (l.getD i d) = s') : (l.drop (i + 1)).foldl f s' = R := by
  rw [List.drop_eq_getElem_cons hi, List.foldl_cons] at h
  have : l.getD i d = l[i] := by simp [hi]
  rw [← e, this]; exact h
theorem addFold_mem (w : List UInt8) : ∀ (l : List (List UInt8)) (s : List (List UInt8) × Bool) (x : List UInt8), x ∈ (l.foldl (addStep w) s).1 → x ∈ s.1 ∨ x ∈ l ∨ x = w
  | [], s, x, h => .inl h
  | a :: l, s, x, h => by
    rcases addFold_mem w l _ x h with q | q | q
    · unfold addStep at q
      dsimp only at q
      split at q
      · simp only [List.append_assoc, List.mem_append, List.mem_cons, List.not_mem_nil, or_false] at q
        rcases q with q | q | q
        · exact .inl q
        · exact .inr (.inr q)
        · exact .inr (.inl (by rw [q]; exact List.mem_cons_self))
      · simp only [List.mem_append, List.mem_cons, List.not_mem_nil, or_false] at q
        rcases q with q | q
        · exact .inl q
        · exact .inr (.inl (by rw [q]; exact List.mem_cons_self))
    · exact .inr (.inl (List.mem_cons_of_mem _ q))
    · exact .inr (.inr q)
theorem addw_mem {l : List (List UInt8)} {w x : List UInt8} (h : x ∈ addw l w) : x ∈ l ∨ x = w := by
  unfold addw at h
  dsimp only at h
  split at h
  · rcases addFold_mem w l _ x h with q | q
    · cases q
    · exact q
  · rcases List.mem_append.1 h with h | h
    · rcases addFold_mem w l _ x h with q | q
      · cases q
      · exact q
    · exact .inr (by simpa using h)
def nz (b : Bool) : Nat := if b then 0 else 1
theorem addStep_len (w : List UInt8) (s : List (List UInt8) × Bool) (x : List UInt8) : (addStep w s x).1.length + nz (addStep w s x).2 ≤ s.1.length + 1 + nz s.2 := by
  unfold addStep
  dsimp only
  split
  · rename_i h
    have : s.2 = false := by have := h.2; simp at this; exact this.1
    simp [this, nz]
  · cases h : s.2 <;> simp [nz] <;> split <;> omega
theorem addFold_len (w : List UInt8) : ∀ (l : List (List UInt8)) (s : List (List UInt8) × Bool), (l.foldl (addStep w) s).1.length + nz (l.foldl (addStep w) s).2 ≤ s.1.length + l.length + nz s.2
  | [], s => by simp
  | a :: l, s => by
    have := addFold_len w l (addStep w s a); have := addStep_len w s a
    simp only [List.foldl_cons, List.length_cons]; omega
theorem addw_len (l : List (List UInt8)) (w : List UInt8) : (addw l w).length ≤ l.length + 1 := by
  have := addFold_len w l ([], false)
  unfold addw
  dsimp only
  split <;> simp_all [nz] <;> omega
theorem addw_yes {l o : List (List UInt8)} {w : List UInt8} {d : Bool} (h : (o, d) = l.foldl (addStep w) ([], false)) (hd : (!d) = false) : o = addw l w := by
  unfold addw; rw [← h]; dsimp only; rw [if_pos (by simpa using hd)]
theorem addw_no {l o : List (List UInt8)} {w : List UInt8} {d : Bool} (h : (o, d) = l.foldl (addStep w) ([], false)) (hd : (!d) = true) : o ++ [w] = addw l w := by
  unfold addw; rw [← h]; dsimp only; rw [if_neg]; intro q; rw [q] at hd; cases hd
def rot (w : List UInt8) (j : Nat) : List UInt8 := w.drop j ++ w.take j
theorem rot_length (w : List UInt8) (j : Nat) : (rot w j).length = w.length := by simp [rot]; omega
def symmOf (c : List UInt8) (a : List (List UInt8)) (j : Nat) : List (List UInt8) := addw (addw a (rot c j)) (rot (wInverse c) j)
def symmStep (a : List (List UInt8)) (r : List UInt8) : List (List UInt8) := (List.range (wCore r).length).foldl (symmOf (wCore r)) a
def symm (l : List (List UInt8)) : List (List UInt8) := l.foldl symmStep []
theorem core_length (w : List UInt8) : (core w).length ≤ w.length := by
  have := red_length w
  simp only [core, List.length_drop, List.length_take]; omega
theorem wCore_length (w : List UInt8) : (wCore w).length ≤ w.length := by
  unfold wCore; split
  · exact core_length w
  · simp
theorem wInverse_length (w : List UInt8) : (wInverse w).length ≤ w.length := by
  unfold wInverse; split
  · rw [inv_length]; exact Nat.le_refl _
  · simp
theorem isw_core {w : List UInt8} (h : isw w = true) : isw (core w) = true := by
  simp only [isw, Bool.and_eq_true, decide_eq_true_eq, List.all_eq_true] at h ⊢
  refine ⟨Nat.le_trans (core_length w) h.1, fun c hc => h.2 c (red_sub c ?_)⟩
  exact List.mem_of_mem_take (List.mem_of_mem_drop hc)
theorem wCore_is (w : List UInt8) : isw (wCore w) = true := by
  unfold wCore; split
  · rename_i h; exact isw_core h
  · rfl
theorem wInv_core (w : List UInt8) : wInverse (wCore w) = inv (wCore w) := by rw [wInverse, if_pos (wCore_is w)]

theorem range_drop {n i : Nat} (h : i < n) : (List.range n).drop i = i :: (List.range n).drop (i + 1) := by
  rw [List.drop_eq_getElem_cons (by simpa using h)]; simp
theorem range_fold {β : Type} {f : β → Nat → β} {n j : Nat} {s R : β} (hj : j < n) (h : ((List.range n).drop j).foldl f s = R) : ((List.range n).drop (j + 1)).foldl f (f s j) = R := by
  rw [range_drop hj, List.foldl_cons] at h; exact h
theorem symm_mem {a : List (List UInt8)} {c x : List UInt8} {j : Nat} (h : x ∈ symmOf c a j) : x ∈ a ∨ x = rot c j ∨ x = rot (wInverse c) j := by
  rcases addw_mem h with q | q
  · rcases addw_mem q with q | q
    · exact .inl q
    · exact .inr (.inl q)
  · exact .inr (.inr q)
theorem symm_short {a : List (List UInt8)} {c : List UInt8} {j : Nat} (hc : c.length ≤ 200) (h : ∀ x ∈ a, x.length ≤ 200) : ∀ x ∈ symmOf c a j, x.length ≤ 200 := fun x hx => by
  have := wInverse_length c
  rcases symm_mem hx with q | q | q
  · exact h x q
  · rw [q, rot_length]; exact hc
  · rw [q, rot_length]; omega
theorem symmOf_len (a : List (List UInt8)) (c : List UInt8) (j : Nat) : (symmOf c a j).length ≤ a.length + 2 := by
  have h1 := addw_len (addw a (rot c j)) (rot (wInverse c) j); have h2 := addw_len a (rot c j)
  unfold symmOf; omega
/-! ### Long parts -/
structure Part where
  pa : Nat
  pn : Nat
  pb : List UInt8
  pi : Bool
def partOf (s x : List UInt8) : Bool := decide (x.length < 2 * cmn s x)
def rlongAt (l : List (List UInt8)) (s : List UInt8) : Option (List UInt8) := l.find? (partOf s)
def rlongFrom (l : List (List UInt8)) (w : List UInt8) : List Nat → Part
  | [] => ⟨0, 0, [], false⟩
  | a :: r => match rlongAt l (w.drop a) with
    | some x => ⟨a, cmn (w.drop a) x, wInverse (x.drop (cmn (w.drop a) x)), true⟩
    | none => rlongFrom l w r
def rlong (l : List (List UInt8)) (w : List UInt8) : Part := rlongFrom l w (List.range w.length)
theorem rlongAt_found {l : List (List UInt8)} {s : List UInt8} {j : Nat} (hj : j < l.length) (h : ∀ k, k < j → partOf s (l.getD k []) = false) (e : (l.getD j []).length < 2 * cmn s (l.getD j [])) : rlongAt l s = some (l.getD j []) := by
  unfold rlongAt
  rw [List.find?_eq_some_iff_getElem]
  refine ⟨decide_eq_true e, j, hj, by simp [hj], fun k hk => ?_⟩
  have := h k hk
  have hk' : k < l.length := Nat.lt_trans hk hj
  simp [hk'] at this
  simp [this]
theorem rlongAt_none {l : List (List UInt8)} {s : List UInt8} {j : Nat} (hj : l.length ≤ j) (h : ∀ k, k < j → partOf s (l.getD k []) = false) : rlongAt l s = none := by
  unfold rlongAt
  rw [List.find?_eq_none]
  intro x hx
  obtain ⟨k, hk, rfl⟩ := List.getElem_of_mem hx
  have := h k (by omega)
  simp [hk] at this
  simp [this]
theorem rlong_here {l : List (List UInt8)} {w x : List UInt8} {i : Nat} (hi : i < w.length) (h : rlongFrom l w ((List.range w.length).drop i) = rlong l w) (e : rlongAt l (w.drop i) = some x) : rlong l w = ⟨i, cmn (w.drop i) x, wInverse (x.drop (cmn (w.drop i) x)), true⟩ := by
  rw [← h, range_drop hi, rlongFrom, e]
theorem rlong_next {l : List (List UInt8)} {w : List UInt8} {i : Nat} (hi : i < w.length) (h : rlongFrom l w ((List.range w.length).drop i) = rlong l w) (e : rlongAt l (w.drop i) = none) : rlongFrom l w ((List.range w.length).drop (i + 1)) = rlong l w := by
  rw [range_drop hi, rlongFrom, e] at h; exact h
theorem rlong_end {l : List (List UInt8)} {w : List UInt8} {i : Nat} (hi : w.length ≤ i) (h : rlongFrom l w ((List.range w.length).drop i) = rlong l w) : rlong l w = ⟨0, 0, [], false⟩ := by
  rw [List.drop_eq_nil_of_le (by simpa using hi)] at h; exact h.symm
theorem rlong_spec (l : List (List UInt8)) (w : List UInt8) (h : (rlong l w).pi = true) : ∃ a x, a < w.length ∧ x ∈ l ∧ rlong l w = ⟨a, cmn (w.drop a) x, wInverse (x.drop (cmn (w.drop a) x)), true⟩ ∧ x.length < 2 * cmn (w.drop a) x := by
  have key : ∀ (r : List Nat), (rlongFrom l w r).pi = true → ∃ a x, a ∈ r ∧ x ∈ l ∧ rlongFrom l w r = ⟨a, cmn (w.drop a) x, wInverse (x.drop (cmn (w.drop a) x)), true⟩ ∧ x.length < 2 * cmn (w.drop a) x := by
    intro r
    induction r with
    | nil => intro h; cases h
    | cons a r ih =>
      intro h
      unfold rlongFrom at h ⊢
      cases e : rlongAt l (w.drop a) with
      | none =>
        rw [e] at h
        obtain ⟨a', x, h1, h2⟩ := ih h
        exact ⟨a', x, List.mem_cons_of_mem _ h1, h2⟩
      | some x =>
        refine ⟨a, x, List.mem_cons_self, List.mem_of_find?_eq_some e, rfl, ?_⟩
        have := List.find?_some e
        simpa [partOf] using this
  obtain ⟨a, x, h1, h2⟩ := key _ h
  exact ⟨a, x, by simpa using h1, h2⟩
/-- One replacement. -/
def rnext (l : List (List UInt8)) (w : List UInt8) : List UInt8 := wReduce (w.take (rlong l w).pa ++ (rlong l w).pb ++ w.drop ((rlong l w).pa + (rlong l w).pn))
def rshort (l : List (List UInt8)) : Nat → List UInt8 → Nat → List UInt8 × Nat
  | 0, w, n => (w, n)
  | f + 1, w, n => if (rlong l w).pi then rshort l f (rnext l w) (n + 1) else (w, n)
def rshorten (l : List (List UInt8)) (w : List UInt8) : List UInt8 × Nat := rshort l ((wReduce w).length + 1) (wReduce w) 0
theorem wReduce_length (w : List UInt8) : (wReduce w).length ≤ w.length := by
  unfold wReduce; split
  · exact red_length w
  · simp
theorem rlong_le {l : List (List UInt8)} {w : List UInt8} (h : (rlong l w).pi = true) : (rlong l w).pa + (rlong l w).pn ≤ w.length ∧ (rlong l w).pb.length < (rlong l w).pn := by
  obtain ⟨a, x, ha, hx, e, hp⟩ := rlong_spec l w h
  rw [e]
  have h1 := (cmn_le (w.drop a) x).1
  have h3 := (cmn_le (w.drop a) x).2
  have h2 := wInverse_length (x.drop (cmn (w.drop a) x))
  rw [List.length_drop] at h1 h2
  refine ⟨by dsimp only; omega, by dsimp only; omega⟩
theorem rnext_length {l : List (List UInt8)} {w : List UInt8} (h : (rlong l w).pi = true) : (rnext l w).length < w.length := by
  have h1 := rlong_le h
  have h2 := wReduce_length (w.take (rlong l w).pa ++ (rlong l w).pb ++ w.drop ((rlong l w).pa + (rlong l w).pn))
  unfold rnext
  simp only [List.length_append, List.length_take, List.length_drop] at h2
  omega
theorem rshort_go {l : List (List UInt8)} {f n : Nat} {x : List UInt8} (hf : x.length < f) (h : (rlong l x).pi = true) : rshort l f x n = rshort l (f - 1) (rnext l x) (n + 1) := by
  cases f with
  | zero => omega
  | succ f => rw [rshort, if_pos h]; rfl
theorem rshort_stop {l : List (List UInt8)} {f n : Nat} {x : List UInt8} (h : (rlong l x).pi = false) : rshort l f x n = (x, n) := by
  cases f with
  | zero => rfl
  | succ f => rw [rshort, if_neg (by rw [h]; decide)]
theorem rshort_le (l : List (List UInt8)) : ∀ (f : Nat) (x : List UInt8) (n : Nat), (rshort l f x n).1.length ≤ x.length ∧ (rshort l f x n).2 + (rshort l f x n).1.length ≤ n + x.length
  | 0, x, n => by simp [rshort]
  | f + 1, x, n => by
    by_cases h : (rlong l x).pi = true
    · have h1 := rnext_length h
      have h2 := rshort_le l f (rnext l x) (n + 1)
      rw [rshort, if_pos h]; omega
    · rw [rshort, if_neg h]; dsimp only; omega
theorem rshorten_le (l : List (List UInt8)) (w : List UInt8) : (rshorten l w).1.length ≤ w.length ∧ (rshorten l w).2 ≤ w.length := by
  have h1 := rshort_le l ((wReduce w).length + 1) (wReduce w) 0
  have h2 := wReduce_length w
  unfold rshorten; omega
/-- Pieces are short. -/
def isDehn (l : List (List UInt8)) : Bool := (List.range l.length).all fun i => (List.range l.length).all fun k => !(decide (i ≠ k) && decide ((l.getD i []).length ≤ 6 * cmn (l.getD i []) (l.getD k [])))
theorem isDehn_false {l : List (List UInt8)} {i k : Nat} (hi : i < l.length) (hk : k < l.length) (hne : ¬ i = k) (h : (l.getD i []).length ≤ 6 * cmn (l.getD i []) (l.getD k [])) : isDehn l = false := by
  unfold isDehn
  rw [List.all_eq_false]
  refine ⟨i, by simpa using hi, ?_⟩
  rw [Bool.not_eq_true, List.all_eq_false]
  exact ⟨k, by simpa using hk, by simp only [decide_eq_true h, ne_eq, hne, not_false_eq_true, decide_true]; decide⟩
theorem isDehn_true {l : List (List UInt8)} {i : Nat} (hi : l.length ≤ i) (h : ∀ a, a < i → ∀ k, k < l.length → ¬ (¬ a = k ∧ (l.getD a []).length ≤ 6 * cmn (l.getD a []) (l.getD k []))) : isDehn l = true := by
  unfold isDehn
  simp only [List.all_eq_true, List.mem_range]
  intro a ha k hk
  have := h a (by omega) k hk
  by_cases q : a = k
  · simp [q]
  · have : ¬ (l.getD a []).length ≤ 6 * cmn (l.getD a []) (l.getD k []) := fun r => this ⟨q, r⟩
    rw [decide_eq_false this, Bool.and_false]; rfl
theorem ix_which : ∀ c : UInt8, 0 ≤ ix c → (97 ≤ c ∧ ix c = ((2 * (c - 97).toNat : Nat) : Int)) ∨ (65 ≤ c ∧ ¬ 97 ≤ c ∧ ix c = ((2 * (c - 65).toNat + 1 : Nat) : Int)) := all_u8 (by decide +kernel)
theorem u8_97 : ∀ c : UInt8, 97 ≤ c → (c - 97).toNat < 8 → c < 105 := all_u8 (by decide +kernel)
theorem u8_65 : ∀ c : UInt8, 65 ≤ c → (c - 65).toNat < 8 → c < 73 := all_u8 (by decide +kernel)
/-- The index of a letter of g generators; -1 of what is none. -/
def ix4 (g : Int) (c : UInt8) : Int := if okc g c then ix c else -1
theorem ix4_small {g : Int} {c : UInt8} (hg : 1 ≤ g ∧ g ≤ 8) (h1 : 97 ≤ c) (h2 : (((c - 97).toNat : Nat) : Int) < g) : ((2 * (c - 97).toNat : Nat) : Int) = ix4 g c := by
  have h := idx_small c h1 (u8_97 c h1 (by omega))
  rw [ix4, if_pos]
  · exact h
  · simp only [okc, Bool.and_eq_true, decide_eq_true_eq]; omega
theorem ix4_big {g : Int} {c : UInt8} (hg : 1 ≤ g ∧ g ≤ 8) (h1 : 65 ≤ c) (h2 : (((c - 65).toNat : Nat) : Int) < g) : ((2 * (c - 65).toNat + 1 : Nat) : Int) = ix4 g c := by
  have h := idx_big c h1 (u8_65 c h1 (by omega))
  rw [ix4, if_pos]
  · exact h
  · simp only [okc, Bool.and_eq_true, decide_eq_true_eq]; omega
theorem ix4_no {g : Int} {c : UInt8} (h1 : ¬ (97 ≤ c ∧ (((c - 97).toNat : Nat) : Int) < g)) (h2 : ¬ (65 ≤ c ∧ (((c - 65).toNat : Nat) : Int) < g)) : ix4 g c = -1 := by
  rw [ix4, if_neg]
  intro q
  simp only [okc, Bool.and_eq_true, decide_eq_true_eq] at q
  rcases ix_which c q.1 with ⟨h, e⟩ | ⟨h, _, e⟩
  · exact h1 ⟨h, by omega⟩
  · exact h2 ⟨h, by omega⟩
theorem ix4_neg {g : Int} {c : UInt8} : ix4 g c < 0 ↔ okc g c = false := by
  unfold ix4
  by_cases h : okc g c = true
  · rw [if_pos h]
    simp only [okc, Bool.and_eq_true, decide_eq_true_eq] at h
    constructor
    · omega
    · intro q; simp [okc, h] at q
  · rw [if_neg h]; simp [Bool.not_eq_true] at h; simp [h]
theorem wcheck_word {g : Int} {w : List UInt8} (hg : 1 ≤ g ∧ g ≤ 8) : wcheck g w = 0 ↔ w.length ≤ 100000 ∧ ∀ c ∈ w, okc g c = true := by
  unfold wcheck
  rw [if_neg (by omega)]
  split
  · constructor
    · intro q; cases q
    · intro q; omega
  · split <;> rename_i h
    · simp only [List.all_eq_true] at h
      exact ⟨fun _ => ⟨by omega, h⟩, fun _ => rfl⟩
    · constructor
      · intro q; cases q
      · intro q; exact absurd (List.all_eq_true.2 q.2) h
theorem isword_bad {g : Int} {w : List UInt8} {i : Nat} (hg : 1 ≤ g ∧ g ≤ 8) (hi : i < w.length) (h : ix4 g (w.getD i 0) < 0) : decide (wcheck g w = 0) = false := by
  rw [decide_eq_false_iff_not, wcheck_word hg]
  intro q
  have := q.2 _ (getD_mem (d := 0) hi)
  rw [ix4_neg] at h; rw [h] at this; cases this
theorem isword_good {g : Int} {w : List UInt8} {i : Nat} (hg : 1 ≤ g ∧ g ≤ 8) (hi : w.length ≤ i) (h : ∀ j, j < i → ¬ ix4 g (w.getD j 0) < 0) : decide (wcheck g w = 0) = decide (w.length ≤ 100000) := by
  rw [decide_eq_decide, wcheck_word hg]
  refine ⟨fun q => q.1, fun q => ⟨q, fun c hc => ?_⟩⟩
  obtain ⟨j, hj, rfl⟩ := List.getElem_of_mem hc
  have := h j (by omega)
  rw [ix4_neg] at this
  simpa [hj] using this

/-! ### The functions of the reference -/
def rasked (g : Int) (l : List (List UInt8)) (w : List UInt8) : Nat := if ¬ pcheck g l = 0 then pcheck g l else if ¬ wcheck g w = 0 then 41 else if 5000 < w.length then 2 else 0
def rS (g : Int) (l : List (List UInt8)) (w : List UInt8) : List UInt8 × Nat × Nat := if ¬ rasked g l w = 0 then ([], 0, rasked g l w) else ((rshorten (symm l) w).1, (rshorten (symm l) w).2, 0)
def rStuck (g : Int) (l : List (List UInt8)) (w : List UInt8) : Bool × Nat := if ¬ rasked g l w = 0 then (false, rasked g l w) else (decide (wReduce w = w) && !(rlong (symm l) w).pi, 0)
def rVerified (g : Int) (l : List (List UInt8)) : Nat := if ¬ pcheck g l = 0 then pcheck g l else if isDehn (symm l) then 0 else 230
def rTrivial (g : Int) (l : List (List UInt8)) (w : List UInt8) : Bool × Nat := if ¬ (rS g l w).2.2 = 0 then (false, (rS g l w).2.2) else if isDehn (symm l) then (decide ((rS g l w).1 = []), 0) else (false, 230)
theorem rasked_pres {g : Int} {l : List (List UInt8)} {w : List UInt8} (h : ¬ ¬ rasked g l w = 0) : pcheck g l = 0 := by
  unfold rasked at h
  split at h
  · rename_i q; exact absurd h (fun r => r q)
  · rename_i q; exact Decidable.not_not.1 q
theorem rasked_word {g : Int} {l : List (List UInt8)} {w : List UInt8} (h : ¬ ¬ rasked g l w = 0) : wcheck g w = 0 ∧ w.length ≤ 5000 := by
  have hp := rasked_pres h
  have h := Decidable.not_not.1 h
  unfold rasked at h
  rw [if_neg (by simp [hp])] at h
  split at h
  · cases h
  · split at h
    · cases h
    · rename_i q r; exact ⟨Decidable.not_not.1 q, by omega⟩
theorem rS_err {g : Int} {l : List (List UInt8)} {w : List UInt8} (h : ¬ ¬ (rS g l w).2.2 = 0) : ¬ ¬ rasked g l w = 0 := fun q => by
  rw [rS, if_pos q] at h; exact h q
theorem rS_ok {g : Int} {l : List (List UInt8)} {w : List UInt8} (h : ¬ ¬ rasked g l w = 0) : rS g l w = ((rshorten (symm l) w).1, (rshorten (symm l) w).2, 0) := by rw [rS, if_neg h]
theorem rS_le (g : Int) (l : List (List UInt8)) (w : List UInt8) : (rS g l w).1.length ≤ w.length ∧ (rS g l w).2.1 ≤ w.length := by
  unfold rS
  split
  · simp
  · exact rshorten_le _ _
/-! ### Words and their rotations -/
theorem push_par (s : List UInt8) (c : UInt8) : (push s c).length = s.length + 1 ∧ push s c = s ++ [c] ∨ (push s c).length + 1 = s.length := by
  unfold push
  split
  · rename_i h; right; simp; omega
  · left; simp
theorem red_len_eq : ∀ (w s : List UInt8), (w.foldl push s).length ≤ s.length + w.length ∧ ((w.foldl push s).length = s.length + w.length → w.foldl push s = s ++ w)
  | [], s => by simp
  | c :: w, s => by
    have h := red_len_eq w (push s c)
    rcases push_par s c with ⟨h1, h2⟩ | h1
    · simp only [List.foldl_cons, List.length_cons]
      refine ⟨by omega, fun q => ?_⟩
      rw [h.2 (by omega), h2]; simp
    · simp only [List.foldl_cons, List.length_cons]
      exact ⟨by omega, fun q => by omega⟩
theorem wReduce_lt {w : List UInt8} (h : wReduce w ≠ w) : (wReduce w).length < w.length := by
  have h1 := wReduce_length w
  rcases Nat.lt_or_eq_of_le h1 with q | q
  · exact q
  · exfalso
    unfold wReduce at h q
    split at h
    · rename_i hw
      rw [if_pos hw] at q
      exact h ((red_len_eq w []).2 (by simpa [red] using q))
    · rename_i hw
      rw [if_neg hw] at q
      have : w = [] := List.length_eq_zero_iff.1 q.symm
      exact h this.symm
theorem rshorten_lt {l : List (List UInt8)} {t : List UInt8} (h : (rlong l t).pi = true) : (rshorten l t).1.length < t.length ∧ (rshorten l t).2 + (rshorten l t).1.length ≤ t.length := by
  by_cases q : wReduce t = t
  · unfold rshorten
    rw [q]
    rw [rshort_go (by omega) h]
    have h1 := rnext_length h
    have h2 := rshort_le l (t.length + 1 - 1) (rnext l t) (0 + 1)
    omega
  · have h1 := wReduce_lt q
    have h2 := rshort_le l ((wReduce t).length + 1) (wReduce t) 0
    unfold rshorten
    omega
def rcycAt (l : List (List UInt8)) (c : List UInt8) : Option Nat := (List.range c.length).find? fun i => (rlong l (rot c i)).pi
def rcyc (l : List (List UInt8)) : Nat → List UInt8 → Nat → List UInt8 × Nat
  | 0, c, n => (c, n)
  | f + 1, c, n => match rcycAt l c with
    | none => (c, n)
    | some i => rcyc l f (wCore (rshorten l (rot c i)).1) (n + (rshorten l (rot c i)).2)
theorem rcycAt_found {l : List (List UInt8)} {c : List UInt8} {i : Nat} (hi : i < c.length) (h : ∀ j, j < i → (rlong l (rot c j)).pi = false) (e : (rlong l (rot c i)).pi = true) : rcycAt l c = some i := by
  unfold rcycAt
  rw [List.find?_eq_some_iff_getElem]
  exact ⟨e, i, by simpa using hi, by simp, fun j hj => by simp [h j hj]⟩
theorem rcycAt_none {l : List (List UInt8)} {c : List UInt8} {i : Nat} (hi : c.length ≤ i) (h : ∀ j, j < i → (rlong l (rot c j)).pi = false) : rcycAt l c = none := by
  unfold rcycAt
  rw [List.find?_eq_none]
  intro j hj
  simp at hj
  simp [h j (by omega)]
theorem rcyc_go {l : List (List UInt8)} {c : List UInt8} {i f n : Nat} (hf : c.length < f) (e : rcycAt l c = some i) : rcyc l f c n = rcyc l (f - 1) (wCore (rshorten l (rot c i)).1) (n + (rshorten l (rot c i)).2) := by
  cases f with
  | zero => omega
  | succ f => rw [rcyc, e]; rfl
theorem rcyc_stop {l : List (List UInt8)} {c : List UInt8} {f n : Nat} (e : rcycAt l c = none) : rcyc l f c n = (c, n) := by
  cases f with
  | zero => rfl
  | succ f => rw [rcyc, e]
def rCyclic (g : Int) (l : List (List UInt8)) (w : List UInt8) : List UInt8 × Nat × Nat := if ¬ (rS g l w).2.2 = 0 then rS g l w else let c := wCore (rS g l w).1; let y := rcyc (symm l) (c.length + 1) c (rS g l w).2.1; (y.1, y.2, 0)
end Go.Proofs.YtaccklloepfemaaGreatDoor
