/- The rules' words are the reference's: sorted, the rotations of the relators and their inverses. Shortening on a stack is the reference's shortening. -/
import Derived.Test.YtaccklloepfemaaGreatDoorDehnCyc2
namespace Go.Proofs.YtaccklloepfemaaGreatDoor
set_option linter.unusedVariables false
set_option linter.unusedSimpArgs false
open Go Go.RowKit V

/-! ### Reduced words -/
def NC (w : List UInt8) : Prop := ∀ i, i + 1 < w.length → w.getD (i + 1) 0 ≠ w.getD i 0 ^^^ 32
theorem getD_left {a b : List UInt8} {i : Nat} (h : i < a.length) : (a ++ b).getD i 0 = a.getD i 0 := by
  rw [List.getD_eq_getElem?_getD, List.getElem?_append_left h, ← List.getD_eq_getElem?_getD]
theorem getD_right {a b : List UInt8} {i : Nat} (h : a.length ≤ i) : (a ++ b).getD i 0 = b.getD (i - a.length) 0 := by
  rw [List.getD_eq_getElem?_getD, List.getElem?_append_right h, ← List.getD_eq_getElem?_getD]
theorem getD_take {a : List UInt8} {i n : Nat} (h : i < n) : (a.take n).getD i 0 = a.getD i 0 := by
  rw [List.getD_eq_getElem?_getD, List.getElem?_take_of_lt h, ← List.getD_eq_getElem?_getD]
theorem getD_drop {a : List UInt8} {i n : Nat} : (a.drop n).getD i 0 = a.getD (n + i) 0 := by
  rw [List.getD_eq_getElem?_getD, List.getElem?_drop, ← List.getD_eq_getElem?_getD]
theorem flip_ne {a b : UInt8} (h : a ≠ b ^^^ 32) : b ≠ a ^^^ 32 := fun q => h (by rw [q, flip_flip])
theorem NC.left {a b : List UInt8} (h : NC (a ++ b)) : NC a := fun i hi => by
  have := h i (by rw [List.length_append]; omega)
  rwa [getD_left (by omega), getD_left (by omega)] at this
theorem NC.take {a : List UInt8} (h : NC a) (n : Nat) : NC (a.take n) := NC.left (b := a.drop n) (by rw [List.take_append_drop]; exact h)
theorem NC.drop {a : List UInt8} (h : NC a) (n : Nat) : NC (a.drop n) := fun i hi => by
  rw [List.length_drop] at hi
  have := h (n + i) (by omega)
  rw [getD_drop, getD_drop]; exact this
theorem NC.fold : ∀ (w s : List UInt8), NC (s ++ w) → w.foldl push s = s ++ w
  | [], s, _ => by simp
  | c :: w, s, h => by
    have hp : push s c = s ++ [c] := by
      unfold push
      rw [if_neg]
      rintro ⟨q1, q2⟩
      have := h (s.length - 1) (by simp; omega)
      rw [show s.length - 1 + 1 = s.length by omega, getD_right (Nat.le_refl _), getD_left (by omega), q2, flip_flip] at this
      simp at this
    rw [List.foldl_cons, hp, NC.fold w (s ++ [c]) (by simpa using h)]
    simp
theorem NC.isRed {w : List UInt8} (h : NC w) : red w = w := NC.fold w [] (by simpa using h)
theorem NC.pushC {s : List UInt8} (h : NC s) (c : UInt8) : NC (push s c) := by
  unfold push
  split
  · exact h.take _
  · rename_i q
    intro i hi
    simp only [List.length_append, List.length_cons, List.length_nil] at hi
    by_cases e : i + 1 < s.length
    · rw [getD_left e, getD_left (by omega)]; exact h i e
    · have e2 : i + 1 = s.length := by omega
      rw [getD_right (by omega), getD_left (by omega), show i + 1 - s.length = 0 by omega]
      have e3 : i = s.length - 1 := by omega
      intro r
      refine q ⟨by omega, ?_⟩
      rw [← e3]
      have r : c = s.getD i 0 ^^^ 32 := r
      rw [r, flip_flip]
theorem NC.ofFold : ∀ (w s : List UInt8), NC s → NC (w.foldl push s)
  | [], _, h => h
  | c :: w, s, h => NC.ofFold w _ (h.pushC c)
theorem NC.ofRed (w : List UInt8) : NC (red w) := NC.ofFold w [] fun i hi => by simp at hi
theorem NC.iff (w : List UInt8) : NC w ↔ red w = w := ⟨NC.isRed, fun h => h ▸ NC.ofRed w⟩
theorem inv_get {w : List UInt8} {i : Nat} (h : i < w.length) : (inv w).getD i 0 = w.getD (w.length - 1 - i) 0 ^^^ 32 := by
  have h2 : w.length - 1 - i < w.length := by omega
  simp only [inv, List.getD_eq_getElem?_getD]
  rw [List.getElem?_reverse (by simpa using h)]
  simp [h2]
theorem NC.ofInv {w : List UInt8} (h : NC w) : NC (inv w) := fun i hi => by
  rw [inv_length] at hi
  rw [inv_get hi, inv_get (by omega), flip_flip]
  have := h (w.length - 1 - (i + 1)) (by omega)
  rw [show w.length - 1 - (i + 1) + 1 = w.length - 1 - i by omega] at this
  exact fun q => this q.symm
theorem lf_congr {p q : Nat → Bool} {b : Nat} (h : ∀ n, n < b → p n = q n) : lf p b = lf q b := by
  unfold lf
  have : ∀ l : List Nat, (∀ n ∈ l, n < b) → l.find? (fun n => !p n) = l.find? (fun n => !q n) := by
    intro l
    induction l with
    | nil => intro _; rfl
    | cons a l ih =>
      intro hl
      rw [List.find?_cons, List.find?_cons, h a (hl a List.mem_cons_self), ih fun n hn => hl n (List.mem_cons_of_mem _ hn)]
  rw [this _ fun n hn => List.mem_range.1 hn]
theorem cycN_inv (r : List UInt8) : cycN (inv r) = cycN r := by
  unfold cycN
  rw [inv_length]
  refine lf_congr fun n hn => ?_
  congr 1
  refine propext ⟨fun ⟨h1, h2⟩ => ⟨h1, ?_⟩, fun ⟨h1, h2⟩ => ⟨h1, ?_⟩⟩
  · rw [inv_get hn, inv_get (by omega), flip_flip, show r.length - 1 - (r.length - 1 - n) = n by omega] at h2
    rw [← h2]
  · rw [inv_get hn, inv_get (by omega), flip_flip, show r.length - 1 - (r.length - 1 - n) = n by omega, ← h2]
theorem mid_rev {α : Type} (l : List α) (c : Nat) : (l.reverse.take (l.length - c)).drop c = ((l.take (l.length - c)).drop c).reverse := by
  apply List.ext_getElem
  · simp
  · intro i h1 h2
    simp only [List.length_drop, List.length_take, List.length_reverse] at h1 h2
    simp only [List.getElem_drop, List.getElem_take, List.getElem_reverse, List.length_drop, List.length_take]
    congr 1; omega
theorem core_inv {r : List UInt8} (h : red r = r) : core (inv r) = inv (core r) := by
  have h2 : red (inv r) = inv r := (((NC.iff r).2 h).ofInv).isRed
  unfold core
  rw [h2, h, cycN_inv, inv_length]
  have e : ∀ l : List UInt8, inv l = (l.map (· ^^^ 32)).reverse := fun _ => rfl
  rw [e r, e (List.drop _ _)]
  have := mid_rev (r.map (· ^^^ 32)) (cycN r)
  rw [List.length_map] at this
  rw [this, List.map_drop, List.map_take]

/-! ### Shortlex -/
theorem ix_letter : ∀ c : UInt8, 0 ≤ ix c → letters.getD (ix c).toNat 0 = c := all_u8 (by decide +kernel)
theorem ix_inj {a b : UInt8} (ha : 0 ≤ ix a) (hb : 0 ≤ ix b) (h : ix a = ix b) : a = b := by
  rw [← ix_letter a ha, ← ix_letter b hb, h]
theorem cmpl_anti : ∀ a b : List UInt8, cmpl b a = - cmpl a b
  | [], [] => rfl
  | [], _ :: _ => rfl
  | _ :: _, [] => rfl
  | a :: x, b :: y => by
    have := cmpl_anti x y
    simp only [cmpl]
    split
    · rw [if_neg (by omega)]
    · split
      · rfl
      · exact this
theorem cmpw_anti (a b : List UInt8) : cmpw b a = - cmpw a b := by
  unfold cmpw
  by_cases h : a.length = b.length
  · rw [if_neg (by omega), if_neg (by omega)]; exact cmpl_anti a b
  · rw [if_pos (by omega), if_pos h]; split <;> split <;> omega
theorem cmpl_zero : ∀ a b : List UInt8, okl a → okl b → a.length = b.length → cmpl a b = 0 → a = b
  | [], [], _, _, _, _ => rfl
  | [], _ :: _, _, _, h, _ => by simp at h
  | _ :: _, [], _, _, h, _ => by simp at h
  | a :: x, b :: y, ha, hb, hl, h => by
    simp only [cmpl] at h
    split at h
    · omega
    · split at h
      · omega
      · rw [ix_inj (ha a List.mem_cons_self) (hb b List.mem_cons_self) (by omega), cmpl_zero x y (fun c hc => ha c (List.mem_cons_of_mem _ hc)) (fun c hc => hb c (List.mem_cons_of_mem _ hc)) (by simpa using hl) h]
theorem cmpw_zero {a b : List UInt8} (ha : okl a) (hb : okl b) (h : cmpw a b = 0) : a = b := by
  unfold cmpw at h
  split at h
  · split at h <;> omega
  · rename_i q; exact cmpl_zero a b ha hb (by omega) h
def SS (l : List (List UInt8)) : Prop := l.Pairwise fun x y => cmpw x y < 0
theorem SS.unique : ∀ (a b : List (List UInt8)), SS a → SS b → (∀ x, x ∈ a ↔ x ∈ b) → a = b
  | [], [], _, _, _ => rfl
  | [], y :: b, _, _, h => by have := (h y).2 List.mem_cons_self; cases this
  | x :: a, [], _, _, h => by have := (h x).1 List.mem_cons_self; cases this
  | x :: a, y :: b, ha, hb, h => by
    obtain ⟨ha1, ha2⟩ := List.pairwise_cons.1 ha
    obtain ⟨hb1, hb2⟩ := List.pairwise_cons.1 hb
    have e : x = y := by
      rcases List.mem_cons.1 ((h x).1 List.mem_cons_self) with q | q
      · exact q
      · rcases List.mem_cons.1 ((h y).2 List.mem_cons_self) with r | r
        · exact r.symm
        · have := cmpw_trans (hb1 x q) (ha1 y r)
          rw [cmpw_self] at this; omega
    subst e
    rw [SS.unique a b ha2 hb2 fun z => ⟨fun hz => ?_, fun hz => ?_⟩]
    · rcases List.mem_cons.1 ((h z).1 (List.mem_cons_of_mem _ hz)) with q | q
      · subst q; have := ha1 z hz; rw [cmpw_self] at this; omega
      · exact q
    · rcases List.mem_cons.1 ((h z).2 (List.mem_cons_of_mem _ hz)) with q | q
      · subst q; have := hb1 z hz; rw [cmpw_self] at this; omega
      · exact q

/-! ### The reference's list -/
def insw (w : List UInt8) : List (List UInt8) → List (List UInt8)
  | [] => [w]
  | x :: t => if wCompare x w = 0 then x :: t else if 0 < wCompare x w then w :: x :: t else x :: insw w t
theorem addFold_true (w : List UInt8) : ∀ (l o : List (List UInt8)), l.foldl (addStep w) (o, true) = (o ++ l, true)
  | [], o => by simp
  | x :: l, o => by
    have : addStep w (o, true) x = (o ++ [x], true) := by simp [addStep]
    rw [List.foldl_cons, this, addFold_true w l]; simp
theorem addFold_false (w : List UInt8) : ∀ (l o : List (List UInt8)), (let s := l.foldl (addStep w) (o, false); if s.2 then s.1 else s.1 ++ [w]) = o ++ insw w l
  | [], o => by simp [insw]
  | x :: l, o => by
    rw [List.foldl_cons, insw]
    by_cases h : wCompare x w = 0
    · have : addStep w (o, false) x = (o ++ [x], true) := by simp [addStep, h]
      rw [this, addFold_true, if_pos h]; simp
    · rw [if_neg h]
      by_cases h2 : 0 < wCompare x w
      · have : addStep w (o, false) x = (o ++ [w] ++ [x], true) := by simp [addStep, h, h2]
        rw [this, addFold_true, if_pos h2]; simp
      · have : addStep w (o, false) x = (o ++ [x], false) := by simp [addStep, h, h2]
        rw [this, if_neg h2]
        have ih := addFold_false w l (o ++ [x])
        simp only at ih ⊢
        rw [ih]; simp
theorem addw_ins (l : List (List UInt8)) (w : List UInt8) : addw l w = insw w l := by
  have := addFold_false w l []
  simpa [addw] using this
theorem wCompare_is {u v : List UInt8} (hu : isw u = true) (hv : isw v = true) : wCompare u v = cmpw u v := by rw [wCompare, if_pos ⟨hu, hv⟩]
def Ws (l : List (List UInt8)) : Prop := ∀ x ∈ l, isw x = true
theorem insw_spec {w : List UInt8} (hw : isw w = true) : ∀ l : List (List UInt8), Ws l → SS l → (∀ x, x ∈ insw w l ↔ x = w ∨ x ∈ l) ∧ SS (insw w l)
  | [], _, _ => by simp [insw, SS]
  | x :: t, hl, hs => by
    obtain ⟨h1, h2⟩ := List.pairwise_cons.1 hs
    have hx := hl x List.mem_cons_self
    obtain ⟨ih1, ih2⟩ := insw_spec hw t (fun y hy => hl y (List.mem_cons_of_mem _ hy)) h2
    rw [insw, wCompare_is hx hw]
    split
    · rename_i h
      have e := cmpw_zero (okl_is hx) (okl_is hw) h
      subst e
      exact ⟨fun z => ⟨.inr, fun q => q.elim (fun q => q ▸ List.mem_cons_self) id⟩, hs⟩
    · rename_i h
      split
      · rename_i h3
        refine ⟨fun z => by simp, List.pairwise_cons.2 ⟨fun z hz => ?_, hs⟩⟩
        have hwx : cmpw w x < 0 := by rw [cmpw_anti x w]; omega
        rcases List.mem_cons.1 hz with rfl | hz
        · exact hwx
        · exact cmpw_trans hwx (h1 z hz)
      · rename_i h3
        refine ⟨fun z => by simp only [List.mem_cons, ih1]; exact ⟨fun q => by rcases q with q | q | q <;> simp [q], fun q => by rcases q with q | q | q <;> simp [q]⟩, List.pairwise_cons.2 ⟨fun z hz => ?_, ih2⟩⟩
        rcases (ih1 z).1 hz with rfl | hz
        · omega
        · exact h1 z hz
theorem addw_spec {w : List UInt8} {l : List (List UInt8)} (hw : isw w = true) (hl : Ws l) (hs : SS l) : (∀ x, x ∈ addw l w ↔ x = w ∨ x ∈ l) ∧ SS (addw l w) ∧ Ws (addw l w) := by
  rw [addw_ins]
  obtain ⟨h1, h2⟩ := insw_spec hw l hl hs
  exact ⟨h1, h2, fun x hx => ((h1 x).1 hx).elim (fun q => q ▸ hw) (hl x)⟩
theorem rot_is {c : List UInt8} (h : isw c = true) (j : Nat) : isw (rot c j) = true :=
  isw_sub h (fun x hx => (List.mem_append.1 hx).elim List.mem_of_mem_drop List.mem_of_mem_take) (by rw [rot_length]; exact Nat.le_refl _)
theorem symmOf_spec {c : List UInt8} {a : List (List UInt8)} {j : Nat} (hc : isw c = true) (ha : Ws a) (hs : SS a) : (∀ x, x ∈ symmOf c a j ↔ x = rot c j ∨ x = rot (wInverse c) j ∨ x ∈ a) ∧ SS (symmOf c a j) ∧ Ws (symmOf c a j) := by
  obtain ⟨h1, h2, h3⟩ := addw_spec (rot_is hc j) ha hs
  obtain ⟨g1, g2, g3⟩ := addw_spec (rot_is (wInverse_is c) j) h3 h2
  refine ⟨fun x => ?_, g2, g3⟩
  unfold symmOf
  rw [g1, h1]
  exact ⟨fun q => by rcases q with q | q | q <;> simp [q], fun q => by rcases q with q | q | q <;> simp [q]⟩
theorem symmStep_spec {r : List UInt8} {a : List (List UInt8)} (ha : Ws a) (hs : SS a) : ∀ n, (∀ x, x ∈ (List.range n).foldl (symmOf (wCore r)) a ↔ (∃ j, j < n ∧ (x = rot (wCore r) j ∨ x = rot (wInverse (wCore r)) j)) ∨ x ∈ a) ∧ SS ((List.range n).foldl (symmOf (wCore r)) a) ∧ Ws ((List.range n).foldl (symmOf (wCore r)) a)
  | 0 => ⟨fun x => by simp, hs, ha⟩
  | n + 1 => by
    obtain ⟨h1, h2, h3⟩ := symmStep_spec (r := r) ha hs n
    rw [List.range_succ, List.foldl_append]
    obtain ⟨g1, g2, g3⟩ := symmOf_spec (j := n) (wCore_is r) h3 h2
    refine ⟨fun x => ?_, g2, g3⟩
    show x ∈ symmOf _ _ n ↔ _
    rw [g1, h1]
    constructor
    · rintro (q | q | ⟨j, hj, q⟩ | q)
      · exact .inl ⟨n, by omega, .inl q⟩
      · exact .inl ⟨n, by omega, .inr q⟩
      · exact .inl ⟨j, by omega, q⟩
      · exact .inr q
    · rintro (⟨j, hj, q⟩ | q)
      · by_cases e : j = n
        · subst e; exact q.elim .inl (fun q => .inr (.inl q))
        · exact .inr (.inr (.inl ⟨j, by omega, q⟩))
      · exact .inr (.inr (.inr q))
theorem symm_fold : ∀ (l a : List (List UInt8)), Ws a → SS a → (∀ x, x ∈ l.foldl symmStep a ↔ (∃ r ∈ l, ∃ j, j < (wCore r).length ∧ (x = rot (wCore r) j ∨ x = rot (wInverse (wCore r)) j)) ∨ x ∈ a) ∧ SS (l.foldl symmStep a) ∧ Ws (l.foldl symmStep a)
  | [], a, ha, hs => ⟨fun x => by simp, hs, ha⟩
  | r :: l, a, ha, hs => by
    obtain ⟨h1, h2, h3⟩ := symmStep_spec (r := r) ha hs (wCore r).length
    obtain ⟨g1, g2, g3⟩ := symm_fold l (symmStep a r) h3 h2
    refine ⟨fun x => ?_, g2, g3⟩
    rw [List.foldl_cons, g1]
    unfold symmStep
    rw [h1]
    constructor
    · rintro (⟨s, hs, q⟩ | q | q)
      · exact .inl ⟨s, List.mem_cons_of_mem _ hs, q⟩
      · exact .inl ⟨r, List.mem_cons_self, q⟩
      · exact .inr q
    · rintro (⟨s, hs, q⟩ | q)
      · rcases List.mem_cons.1 hs with rfl | hs
        · exact .inr (.inl q)
        · exact .inl ⟨s, hs, q⟩
      · exact .inr (.inr q)
theorem symm_spec (l : List (List UInt8)) : (∀ x, x ∈ symm l ↔ ∃ r ∈ l, ∃ j, j < (wCore r).length ∧ (x = rot (wCore r) j ∨ x = rot (inv (wCore r)) j)) ∧ SS (symm l) ∧ Ws (symm l) := by
  obtain ⟨h1, h2, h3⟩ := symm_fold l [] (fun x h => by cases h) List.Pairwise.nil
  refine ⟨fun x => ?_, h2, h3⟩
  unfold symm
  rw [h1]
  simp only [wInv_core, List.not_mem_nil, or_false]

/-! ### The program's list -/
theorem addE_words (E : List Rot) (x : Rot) : (∀ y, (∃ z ∈ addE E x, z.w = y) ↔ y = x.w ∨ ∃ z ∈ E, z.w = y) ∧ ((E.map (·.w)).Nodup → ((addE E x).map (·.w)).Nodup) := by
  unfold addE
  split
  · rename_i h
    obtain ⟨z, hz, e⟩ := List.any_eq_true.1 h
    have e : z.w = x.w := by simpa using e
    exact ⟨fun y => ⟨.inr, fun q => q.elim (fun q => ⟨z, hz, by rw [q, e]⟩) id⟩, id⟩
  · rename_i h
    refine ⟨fun y => ?_, fun hn => ?_⟩
    · constructor
      · rintro ⟨z, hz, rfl⟩
        rcases List.mem_append.1 hz with q | q
        · exact .inr ⟨z, q, rfl⟩
        · simp at q; rw [q]; exact .inl rfl
      · rintro (q | ⟨z, hz, q⟩)
        · exact ⟨x, by simp, q.symm⟩
        · exact ⟨z, List.mem_append_left _ hz, q⟩
    · rw [List.map_append]
      refine List.nodup_append.2 ⟨hn, by simp, fun a ha b hb => ?_⟩
      obtain ⟨z, hz, rfl⟩ := List.mem_map.1 ha
      simp at hb
      rw [hb]
      exact fun q => h (List.any_eq_true.2 ⟨z, hz, by simpa using q⟩)
theorem addJ_words (i : Nat) (iv : Bool) (core cj : List UInt8) (E : List Rot) : ∀ n, (∀ y, (∃ z ∈ addJ i iv core cj E n, z.w = y) ↔ (∃ j, j < n ∧ y = rot core j) ∨ ∃ z ∈ E, z.w = y) ∧ ((E.map (·.w)).Nodup → ((addJ i iv core cj E n).map (·.w)).Nodup)
  | 0 => ⟨fun y => by simp [addJ], fun h => h⟩
  | n + 1 => by
    obtain ⟨h1, h2⟩ := addJ_words i iv core cj E n
    rw [addJ_succ]
    obtain ⟨g1, g2⟩ := addE_words (addJ i iv core cj E n) (mkR i iv core cj n)
    refine ⟨fun y => ?_, fun hn => g2 (h2 hn)⟩
    rw [g1, h1]
    have e : (mkR i iv core cj n).w = rot core n := rfl
    rw [e]
    constructor
    · rintro (q | ⟨j, hj, q⟩ | q)
      · exact .inl ⟨n, by omega, q⟩
      · exact .inl ⟨j, by omega, q⟩
      · exact .inr q
    · rintro (⟨j, hj, q⟩ | q)
      · by_cases r : j = n
        · subst r; exact .inl q
        · exact .inr (.inl ⟨j, by omega, q⟩)
      · exact .inr (.inr q)
theorem addR_words {g : Int} {l : List (List UInt8)} (hp : pcheck g l = 0) {k : Nat} (hk : k < l.length) (E : List Rot) : (∀ y, (∃ z ∈ addR l E k, z.w = y) ↔ (∃ j, j < (wCore (l.getD k [])).length ∧ (y = rot (wCore (l.getD k [])) j ∨ y = rot (inv (wCore (l.getD k []))) j)) ∨ ∃ z ∈ E, z.w = y) ∧ ((E.map (·.w)).Nodup → ((addR l E k).map (·.w)).Nodup) := by
  have hz := pcheck_zero hp
  obtain ⟨_, hb⟩ := hz.2.2 _ (getD_mem (d := []) hk)
  obtain ⟨_, b2, b3⟩ := badRel_good hb
  have hi := isw_of hz.1.2 b2
  have e1 : wOf (l.getD k []) false = l.getD k [] := rfl
  have e2 : wOf (l.getD k []) true = inv (l.getD k []) := by rw [wOf, if_pos rfl, wInverse, if_pos hi]
  have e3 : wCore (inv (l.getD k [])) = inv (wCore (l.getD k [])) := by
    rw [wCore, if_pos (isw_inv hi), wCore, if_pos hi, core_inv b3]
  unfold addR addV
  rw [e1, e2, e3, inv_length]
  obtain ⟨h1, h2⟩ := addJ_words k false (wCore (l.getD k [])) (wConj (l.getD k [])) E (wCore (l.getD k [])).length
  obtain ⟨g1, g2⟩ := addJ_words k true (inv (wCore (l.getD k []))) (wConj (inv (l.getD k []))) (addJ k false (wCore (l.getD k [])) (wConj (l.getD k [])) E (wCore (l.getD k [])).length) (wCore (l.getD k [])).length
  refine ⟨fun y => ?_, fun hn => g2 (h2 hn)⟩
  rw [g1, h1]
  constructor
  · rintro (⟨j, hj, q⟩ | ⟨j, hj, q⟩ | q)
    · exact .inl ⟨j, hj, .inr q⟩
    · exact .inl ⟨j, hj, .inl q⟩
    · exact .inr q
  · rintro (⟨j, hj, q | q⟩ | q)
    · exact .inr (.inl ⟨j, hj, q⟩)
    · exact .inl ⟨j, hj, q⟩
    · exact .inr (.inr q)
theorem allR_words {g : Int} {l : List (List UInt8)} (hp : pcheck g l = 0) : ∀ n, n ≤ l.length → (∀ y, (∃ z ∈ (List.range n).foldl (addR l) [], z.w = y) ↔ ∃ k, k < n ∧ ∃ j, j < (wCore (l.getD k [])).length ∧ (y = rot (wCore (l.getD k [])) j ∨ y = rot (inv (wCore (l.getD k []))) j)) ∧ (((List.range n).foldl (addR l) []).map (·.w)).Nodup
  | 0, _ => by simp
  | n + 1, hn => by
    obtain ⟨h1, h2⟩ := allR_words hp n (by omega)
    rw [List.range_succ, List.foldl_append]
    obtain ⟨g1, g2⟩ := addR_words hp (show n < l.length by omega) ((List.range n).foldl (addR l) [])
    refine ⟨fun y => ?_, g2 h2⟩
    show (∃ z ∈ addR l _ n, z.w = y) ↔ _
    rw [g1, h1]
    constructor
    · rintro (q | ⟨k, hk, q⟩)
      · exact ⟨n, by omega, q⟩
      · exact ⟨k, by omega, q⟩
    · rintro ⟨k, hk, q⟩
      by_cases e : k = n
      · subst e; exact .inl q
      · exact .inr ⟨k, by omega, q⟩
/-- The words of the rules are the reference's. -/
theorem words_symm {g : Int} {l : List (List UInt8)} (hp : pcheck g l = 0) {S : RS} (hS : SOk l S) : S.list.map (·.w) = symm l := by
  obtain ⟨h1, h2, h3⟩ := symm_spec l
  obtain ⟨g1, g2⟩ := allR_words hp l.length (Nat.le_refl _)
  obtain ⟨hR, hP, hW⟩ := hS
  have hn : (S.list.map (·.w)).Nodup := ((hP.map (·.w)).nodup_iff).2 g2
  refine SS.unique _ _ ?_ h2 fun x => ?_
  · rw [SS, List.pairwise_map]
    have hn2 := List.pairwise_map.1 hn
    rw [List.pairwise_iff_getElem] at hn2 hW ⊢
    intro i j hi hj hij
    have a := hn2 i j hi hj hij
    have b := hW i j hi hj hij
    have c := cmpw_anti S.list[i].w S.list[j].w
    have d : cmpw S.list[i].w S.list[j].w ≠ 0 := fun q => a (cmpw_zero (okl_is (hR.isw _ (List.getElem_mem hi)).1) (okl_is (hR.isw _ (List.getElem_mem hj)).1) q)
    omega
  · rw [h1, List.mem_map]
    have e : (∃ a ∈ S.list, a.w = x) ↔ ∃ z ∈ allR l, z.w = x := ⟨fun ⟨a, ha, q⟩ => ⟨a, hP.mem_iff.1 ha, q⟩, fun ⟨a, ha, q⟩ => ⟨a, hP.mem_iff.2 ha, q⟩⟩
    rw [e]
    unfold allR
    rw [g1]
    constructor
    · rintro ⟨k, hk, q⟩; exact ⟨_, getD_mem hk, q⟩
    · rintro ⟨r, hr, q⟩
      obtain ⟨k, hk, rfl⟩ := List.getElem_of_mem hr
      refine ⟨k, hk, ?_⟩
      have : l.getD k [] = l[k] := by simp [hk]
      rw [this]; exact q
end Go.Proofs.YtaccklloepfemaaGreatDoor

namespace Go.Proofs.YtaccklloepfemaaGreatDoor
set_option linter.unusedVariables false
set_option linter.unusedSimpArgs false
open Go Go.RowKit V

theorem map_getD (L : List Rot) (j : Nat) : (L.map (·.w)).getD j [] = (L.getD j .zero).w := by
  by_cases h : j < L.length
  · simp [h]
  · simp [h, Rot.zero]
theorem at_pos {L : List Rot} {s : List UInt8} (h : 0 ≤ (longF L s).1) : rlongAt (L.map (·.w)) s = some (L.getD (longF L s).1.toNat .zero).w := by
  obtain ⟨h1, h2, h3⟩ := longF_pos h
  rw [← map_getD]
  refine rlongAt_found (by simpa using h1) (fun k hk => ?_) (by rw [map_getD]; exact h2)
  rw [map_getD, partOf, decide_eq_false_iff_not]
  exact h3 k hk
theorem at_neg {L : List Rot} {s : List UInt8} (h : ¬ 0 ≤ (longF L s).1) : rlongAt (L.map (·.w)) s = none := by
  refine rlongAt_none (Nat.le_refl _) fun k hk => ?_
  rw [map_getD, partOf, decide_eq_false_iff_not]
  exact longF_neg h _ (getD_mem (by simpa using hk))
theorem rlong_skip {l : List (List UInt8)} {w : List UInt8} : ∀ p, p ≤ w.length → (∀ q, q < p → rlongAt l (w.drop q) = none) → rlongFrom l w ((List.range w.length).drop p) = rlong l w
  | 0, _, _ => rfl
  | p + 1, hp, h => rlong_next (by omega) (rlong_skip p (by omega) fun q hq => h q (by omega)) (h p (by omega))
theorem putF_low : ∀ (w : List UInt8) (t : List UInt8 × Nat), t.2 ≤ t.1.length → (putF t w).1.take (putF t w).2 = t.1.take (putF t w).2 ∧ (putF t w).2 ≤ (putF t w).1.length
  | [], t, h => ⟨rfl, h⟩
  | c :: w, t, h => by
    have hm : min t.2 (push t.1 c).length ≤ (push t.1 c).length := Nat.min_le_right _ _
    obtain ⟨h1, h2⟩ := putF_low w (push t.1 c, min t.2 (push t.1 c).length) hm
    have e : putF t (c :: w) = putF (push t.1 c, min t.2 (push t.1 c).length) w := rfl
    rw [e]
    refine ⟨?_, h2⟩
    have hs := putF_snd w (push t.1 c, min t.2 (push t.1 c).length)
    simp only at hs h1
    generalize (putF (push t.1 c, min t.2 (push t.1 c).length) w).2 = m at h1 hs ⊢
    rw [h1]
    unfold push at hs ⊢
    split
    · rename_i q
      rw [if_pos q, List.length_take] at hs
      rw [List.take_take]; congr 1; omega
    · rename_i q
      rw [if_neg q, List.length_append] at hs
      rw [List.take_append_of_le_length (by omega)]
theorem NC.takeFold {l : List UInt8} (h : NC l) (p : Nat) : (l.take p).foldl push [] = l.take p := (h.take p).isRed
theorem part_take {x s : List UInt8} : s.take (cmn s x) <+: x := (cmn_prefix s x _ (cmn_le s x).1).2 (Nat.le_refl _)
section
variable {L : List Rot} {m : Nat}
theorem repl_rnext (hw : ∀ x ∈ L, isw x.w = true ∧ x.w.length ≤ m) (hm : m ≤ 200) {l : List UInt8} {p : Nat} (hl : l.length ≤ 6000) (hi : isw l = true) (hn : NC l) (hp : p < l.length) (h : 0 ≤ (longF L (l.drop p)).1) (e : rlong (L.map (·.w)) l = ⟨p, repN l p (L.getD (longF L (l.drop p)).1.toNat .zero), wInverse ((L.getD (longF L (l.drop p)).1.toNat .zero).w.drop (repN l p (L.getD (longF L (l.drop p)).1.toNat .zero))), true⟩) :
    (repl l p (L.getD (longF L (l.drop p)).1.toNat .zero)).1 = rnext (L.map (·.w)) l := by
  have hx := hw _ (getD_mem (d := Rot.zero) (longF_pos h).1)
  generalize L.getD (longF L (l.drop p)).1.toNat .zero = x at e hx
  have hs := repN_le l p x
  have h3 := wInverse_length (x.w.drop (repN l p x))
  rw [List.length_drop] at h3
  have hisw : isw (l.take p ++ wInverse (x.w.drop (repN l p x)) ++ l.drop (p + repN l p x)) = true :=
    isw_app (isw_app (isw_sub hi (fun c hc => List.mem_of_mem_take hc) (by rw [List.length_take]; omega)) (wInverse_is _) (by rw [List.length_take]; omega)) (isw_sub hi (fun c hc => List.mem_of_mem_drop hc) (by rw [List.length_drop]; omega)) (by rw [List.length_append, List.length_take, List.length_drop]; omega)
  unfold rnext
  rw [e]
  dsimp only
  rw [wReduce, if_pos hisw, red, List.foldl_append, List.foldl_append, hn.takeFold]
  unfold repl
  rw [putF_fst, putF_fst]
theorem drun_rshort (hw : ∀ x ∈ L, isw x.w = true ∧ x.w.length ≤ m) (hm : m ≤ 200) : ∀ (f : Nat) (l : List UInt8) (d : List DCell) (p F n : Nat), 100001 * l.length + (l.length - p) < f → l.length ≤ 6000 → isw l = true → NC l → p ≤ l.length → (∀ q, q < p → ¬ 0 ≤ (longF L (l.drop q)).1) → l.length < F →
    (drun L m f l d p).1 = (rshort (L.map (·.w)) F l n).1 ∧ (drun L m f l d p).2.length + n = d.length + (rshort (L.map (·.w)) F l n).2
  | 0, _, _, _, _, _, h, _, _, _, _, _, _ => by omega
  | f + 1, l, d, p, F, n, hf, hl, hi, hn, hpl, hinv, hF => by
    have hskip := rlong_skip (l := L.map (·.w)) (w := l) p hpl fun q hq => at_neg (hinv q hq)
    rw [drun]
    by_cases hp : p < l.length
    · rw [if_pos hp]
      by_cases h : 0 ≤ (longF L (l.drop p)).1
      · rw [if_pos h]
        have e := rlong_here hp hskip (at_pos h)
        have hr := repl_rnext hw hm hl hi hn hp h e
        have hlt := repl_lt hp h
        have hpi : (rlong (L.map (·.w)) l).pi = true := by rw [e]
        rw [rshort_go hF hpi, ← hr]
        have hxw := hw _ (getD_mem (d := Rot.zero) (longF_pos h).1)
        generalize hx : L.getD (longF L (l.drop p)).1.toNat .zero = x at hr hlt hxw ⊢
        have hlow := repl_low l p x
        have hlk := putF_low (l.drop (p + repN l p x)) (putF (l.take p, p) (wInverse (x.w.drop (repN l p x)))) (putF_low _ (l.take p, p) (by simp; omega)).2
        have hlk1 := putF_low (wInverse (x.w.drop (repN l p x))) (l.take p, p) (by simp; omega)
        have hle1 := putF_snd (l.drop (p + repN l p x)) (putF (l.take p, p) (wInverse (x.w.drop (repN l p x))))
        have htake : (repl l p x).1.take (repl l p x).2 = l.take (repl l p x).2 := by
          have a : (repl l p x).1.take (repl l p x).2 = (putF (l.take p, p) (wInverse (x.w.drop (repN l p x)))).1.take (repl l p x).2 := hlk.1
          have hle2 : (repl l p x).2 ≤ (putF (l.take p, p) (wInverse (x.w.drop (repN l p x)))).2 := hle1
          rw [a]
          have b : ∀ k, k ≤ (putF (l.take p, p) (wInverse (x.w.drop (repN l p x)))).2 → (putF (l.take p, p) (wInverse (x.w.drop (repN l p x)))).1.take k = (l.take p).take k := fun k hk => by
            have := congrArg (List.take k) hlk1.1
            rw [List.take_take, List.take_take, Nat.min_eq_left hk] at this
            exact this
          rw [b _ hle2, List.take_take, Nat.min_eq_left hlow]
        have hlow2 : (repl l p x).2 ≤ (repl l p x).1.length := hlk.2
        have hNC : NC (repl l p x).1 := by
          unfold repl
          rw [putF_fst, putF_fst]
          exact NC.ofFold _ _ (NC.ofFold _ _ (hn.take p))
        have hI : isw (repl l p x).1 = true := by rw [hr]; exact wReduce_is _
        have ih := drun_rshort hw hm f (repl l p x).1 (d ++ [repC l p x]) ((repl l p x).2 - m) (F - 1) (n + 1) (by omega) (by omega) hI hNC (by omega) (fun q hq h2 => ?_) (by omega)
        · refine ⟨ih.1, ?_⟩
          have := ih.2
          simp only [List.length_append, List.length_cons, List.length_nil] at this
          omega
        · obtain ⟨g1, g2, _⟩ := longF_pos h2
          have hyw := hw _ (getD_mem (d := Rot.zero) g1)
          have hym := getD_mem (d := Rot.zero) g1
          generalize L.getD (longF L ((repl l p x).1.drop q)).1.toNat .zero = y at g2 hyw hym
          have hc := cmn_le ((repl l p x).1.drop q) y.w
          have hpt := part_take (s := (repl l p x).1.drop q) (x := y.w)
          have hk : q + cmn ((repl l p x).1.drop q) y.w ≤ (repl l p x).2 := by omega
          have e2 : ((repl l p x).1.drop q).take (cmn ((repl l p x).1.drop q) y.w) = (l.drop q).take (cmn ((repl l p x).1.drop q) y.w) := by
            have := congrArg (fun z => (z.drop q).take (cmn ((repl l p x).1.drop q) y.w)) htake
            simp only [List.drop_take, List.take_take] at this
            rw [Nat.min_eq_left (by omega)] at this
            exact this
          rw [e2] at hpt
          exact hinv q (by omega) (part_pos hym (by rw [List.length_drop]; omega) hpt g2)
      · rw [if_neg h]
        exact drun_rshort hw hm f l d (p + 1) F n (by omega) hl hi hn (by omega) (fun q hq => by
          by_cases e : q = p
          · subst e; exact h
          · exact hinv q (by omega)) hF
    · rw [if_neg hp]
      have e := rlong_end (l := L.map (·.w)) (w := l) (i := p) (by omega) hskip
      rw [rshort_stop (by rw [e])]
      exact ⟨rfl, by dsimp only⟩
end
/-- What the rules' shortening gives is what the reference's gives. -/
theorem dsh_rshorten {g : Int} {l : List (List UInt8)} (hp : pcheck g l = 0) {S : RS} (hS : SOk l S) {w : List UInt8} (hw : isw w = true) (hl : w.length ≤ 6000) :
    (dsh S w).1 = (rshorten (symm l) w).1 ∧ (dsh S w).2.length = (rshorten (symm l) w).2 := by
  have hr := red_length w
  have hR := hS.1
  have key := drun_rshort (L := S.list) (m := S.most) (fun x hx => ⟨(hR.isw x hx).1, hR.most x hx⟩) hR.small.1 (fuel (red w).length) (red w) [] 0 ((red w).length + 1) 0 (by unfold fuel; omega) (by omega) (isw_sub hw red_sub hr) (NC.ofRed w) (Nat.zero_le _) (fun q h => by omega) (by omega)
  rw [words_symm hp hS] at key
  unfold rshorten
  rw [wReduce, if_pos hw]
  refine ⟨key.1, ?_⟩
  have := key.2
  simp only [List.length_nil] at this
  unfold dsh; omega
theorem rshort_zero {l : List (List UInt8)} {x : List UInt8} {F : Nat} (hF : x.length < F) : (rshort l F x 0).2 = 0 ↔ (rlong l x).pi = false := by
  by_cases h : (rlong l x).pi = true
  · rw [rshort_go hF h, h]
    have mono : ∀ (f : Nat) (y : List UInt8) (n : Nat), n ≤ (rshort l f y n).2 := by
      intro f
      induction f with
      | zero => intro y n; exact Nat.le_refl _
      | succ f ih =>
        intro y n
        rw [rshort]
        split
        · exact Nat.le_trans (Nat.le_succ n) (ih _ _)
        · exact Nat.le_refl _
    have := mono (F - 1) (rnext l x) (0 + 1)
    constructor
    · intro q; omega
    · intro q; cases q
  · have h' : (rlong l x).pi = false := by simpa using h
    rw [rshort_stop h', h']
    simp
end Go.Proofs.YtaccklloepfemaaGreatDoor
