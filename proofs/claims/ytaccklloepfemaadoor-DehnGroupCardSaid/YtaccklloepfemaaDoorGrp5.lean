/- A part of the proof: what the last text needs of the library, the laws and the walks. -/
import Derived.Test.YtaccklloepfemaaDoorGrp4
namespace Go.Proofs.YtaccklloepfemaaDoor
set_option linter.unusedVariables false
set_option linter.unusedSimpArgs false
open Go Go.RowKit V

/-! ### Reduced words -/
def NC (w : List UInt8) : Prop := ∀ i, i + 1 < w.length → w.getD (i + 1) 0 ≠ w.getD i 0 ^^^ 32
theorem getD_left {a b : List UInt8} {i : Nat} (h : i < a.length) : (a ++ b).getD i 0 = a.getD i 0 := by
  rw [List.getD_eq_getElem?_getD, List.getElem?_append_left h, ← List.getD_eq_getElem?_getD]
theorem getD_right {a b : List UInt8} {i : Nat} (h : a.length ≤ i) : (a ++ b).getD i 0 = b.getD (i - a.length) 0 := by
  rw [List.getD_eq_getElem?_getD, List.getElem?_append_right h, ← List.getD_eq_getElem?_getD]
theorem getD_take {a : List UInt8} {i n : Nat} (h : i < n) : (a.take n).getD i 0 = a.getD i 0 := by
  rw [List.getD_eq_getElem?_getD, List.getElem?_take_of_lt h, ← List.getD_eq_getElem?_getD]
theorem getD_drop {a : List UInt8} {i n : Nat} : (a.drop n).getD i 0 = a.getD (n + i) 0 := by
  rw [List.getD_eq_getElem?_getD, List.getElem?_drop, ← List.getD_eq_getElem?_getD]
theorem NC.left {a b : List UInt8} (h : NC (a ++ b)) : NC a := fun i hi => by
  have := h i (by rw [List.length_append]; omega)
  rwa [getD_left (by omega), getD_left (by omega)] at this
theorem NC.take {a : List UInt8} (h : NC a) (n : Nat) : NC (a.take n) := NC.left (b := a.drop n) (by rw [List.take_append_drop]; exact h)
theorem NC.drop {a : List UInt8} (h : NC a) (n : Nat) : NC (a.drop n) := fun i hi => by
  rw [List.length_drop] at hi
  have := h (n + i) (by omega)
  rw [getD_drop, getD_drop]; exact this
theorem NC.fold : ∀ (w s : List UInt8), NC (s ++ w) → w.foldl push s = s ++ w
  | [], s, _ => by simp
  | c :: w, s, h => by
    have hp : push s c = s ++ [c] := by
      unfold push
      rw [if_neg]
      rintro ⟨q1, q2⟩
      have := h (s.length - 1) (by simp; omega)
      rw [show s.length - 1 + 1 = s.length by omega, getD_right (Nat.le_refl _), getD_left (by omega), q2, flip_flip] at this
      simp at this
    rw [List.foldl_cons, hp, NC.fold w (s ++ [c]) (by simpa using h)]
    simp
theorem NC.isRed {w : List UInt8} (h : NC w) : red w = w := NC.fold w [] (by simpa using h)
theorem NC.pushC {s : List UInt8} (h : NC s) (c : UInt8) : NC (push s c) := by
  unfold push
  split
  · exact h.take _
  · rename_i q
    intro i hi
    simp only [List.length_append, List.length_cons, List.length_nil] at hi
    by_cases e : i + 1 < s.length
    · rw [getD_left e, getD_left (by omega)]; exact h i e
    · have e2 : i + 1 = s.length := by omega
      rw [getD_right (by omega), getD_left (by omega), show i + 1 - s.length = 0 by omega]
      have e3 : i = s.length - 1 := by omega
      intro r
      refine q ⟨by omega, ?_⟩
      rw [← e3]
      have r : c = s.getD i 0 ^^^ 32 := r
      rw [r, flip_flip]
theorem NC.ofFold : ∀ (w s : List UInt8), NC s → NC (w.foldl push s)
  | [], _, h => h
  | c :: w, s, h => NC.ofFold w _ (h.pushC c)
theorem NC.ofRed (w : List UInt8) : NC (red w) := NC.ofFold w [] fun i hi => by simp at hi
theorem NC.iff (w : List UInt8) : NC w ↔ red w = w := ⟨NC.isRed, fun h => h ▸ NC.ofRed w⟩
theorem inv_get {w : List UInt8} {i : Nat} (h : i < w.length) : (inv w).getD i 0 = w.getD (w.length - 1 - i) 0 ^^^ 32 := by
  have h2 : w.length - 1 - i < w.length := by omega
  simp only [inv, List.getD_eq_getElem?_getD]
  rw [List.getElem?_reverse (by simpa using h)]
  simp [h2]
theorem NC.ofInv {w : List UInt8} (h : NC w) : NC (inv w) := fun i hi => by
  rw [inv_length] at hi
  rw [inv_get hi, inv_get (by omega), flip_flip]
  have := h (w.length - 1 - (i + 1)) (by omega)
  rw [show w.length - 1 - (i + 1) + 1 = w.length - 1 - i by omega] at this
  exact fun q => this q.symm
theorem lf_congr {p q : Nat → Bool} {b : Nat} (h : ∀ n, n < b → p n = q n) : lf p b = lf q b := by
  unfold lf
  have : ∀ l : List Nat, (∀ n ∈ l, n < b) → l.find? (fun n => !p n) = l.find? (fun n => !q n) := by
    intro l
    induction l with
    | nil => intro _; rfl
    | cons a l ih =>
      intro hl
      rw [List.find?_cons, List.find?_cons, h a (hl a List.mem_cons_self), ih fun n hn => hl n (List.mem_cons_of_mem _ hn)]
  rw [this _ fun n hn => List.mem_range.1 hn]
theorem cycN_inv (r : List UInt8) : cycN (inv r) = cycN r := by
  unfold cycN
  rw [inv_length]
  refine lf_congr fun n hn => ?_
  congr 1
  refine propext ⟨fun ⟨h1, h2⟩ => ⟨h1, ?_⟩, fun ⟨h1, h2⟩ => ⟨h1, ?_⟩⟩
  · rw [inv_get hn, inv_get (by omega), flip_flip, show r.length - 1 - (r.length - 1 - n) = n by omega] at h2
    rw [← h2]
  · rw [inv_get hn, inv_get (by omega), flip_flip, show r.length - 1 - (r.length - 1 - n) = n by omega, ← h2]
theorem mid_rev {α : Type} (l : List α) (c : Nat) : (l.reverse.take (l.length - c)).drop c = ((l.take (l.length - c)).drop c).reverse := by
  apply List.ext_getElem
  · simp
  · intro i h1 h2
    simp only [List.length_drop, List.length_take, List.length_reverse] at h1 h2
    simp only [List.getElem_drop, List.getElem_take, List.getElem_reverse, List.length_drop, List.length_take]
    congr 1; omega
theorem core_inv {r : List UInt8} (h : red r = r) : core (inv r) = inv (core r) := by
  have h2 : red (inv r) = inv r := (((NC.iff r).2 h).ofInv).isRed
  unfold core
  rw [h2, h, cycN_inv, inv_length]
  have e : ∀ l : List UInt8, inv l = (l.map (· ^^^ 32)).reverse := fun _ => rfl
  rw [e r, e (List.drop _ _)]
  have := mid_rev (r.map (· ^^^ 32)) (cycN r)
  rw [List.length_map] at this
  rw [this, List.map_drop, List.map_take]

/-! ### Shortlex -/
theorem ix_letter : ∀ c : UInt8, 0 ≤ ix c → letters.getD (ix c).toNat 0 = c := all_u8 (by decide +kernel)
theorem ix_inj {a b : UInt8} (ha : 0 ≤ ix a) (hb : 0 ≤ ix b) (h : ix a = ix b) : a = b := by
  rw [← ix_letter a ha, ← ix_letter b hb, h]
theorem cmpl_anti : ∀ a b : List UInt8, cmpl b a = - cmpl a b
  | [], [] => rfl
  | [], _ :: _ => rfl
  | _ :: _, [] => rfl
  | a :: x, b :: y => by
    have := cmpl_anti x y
    simp only [cmpl]
    split
    · rw [if_neg (by omega)]
    · split
      · rfl
      · exact this
theorem cmpw_anti (a b : List UInt8) : cmpw b a = - cmpw a b := by
  unfold cmpw
  by_cases h : a.length = b.length
  · rw [if_neg (by omega), if_neg (by omega)]; exact cmpl_anti a b
  · rw [if_pos (by omega), if_pos h]; split <;> split <;> omega
theorem cmpl_zero : ∀ a b : List UInt8, okl a → okl b → a.length = b.length → cmpl a b = 0 → a = b
  | [], [], _, _, _, _ => rfl
  | [], _ :: _, _, _, h, _ => by simp at h
  | _ :: _, [], _, _, h, _ => by simp at h
  | a :: x, b :: y, ha, hb, hl, h => by
    simp only [cmpl] at h
    split at h
    · omega
    · split at h
      · omega
      · rw [ix_inj (ha a List.mem_cons_self) (hb b List.mem_cons_self) (by omega), cmpl_zero x y (fun c hc => ha c (List.mem_cons_of_mem _ hc)) (fun c hc => hb c (List.mem_cons_of_mem _ hc)) (by simpa using hl) h]
theorem cmpw_zero {a b : List UInt8} (ha : okl a) (hb : okl b) (h : cmpw a b = 0) : a = b := by
  unfold cmpw at h
  split at h
  · split at h <;> omega
  · rename_i q; exact cmpl_zero a b ha hb (by omega) h
def SS (l : List (List UInt8)) : Prop := l.Pairwise fun x y => cmpw x y < 0
theorem SS.unique : ∀ (a b : List (List UInt8)), SS a → SS b → (∀ x, x ∈ a ↔ x ∈ b) → a = b
  | [], [], _, _, _ => rfl
  | [], y :: b, _, _, h => by have := (h y).2 List.mem_cons_self; cases this
  | x :: a, [], _, _, h => by have := (h x).1 List.mem_cons_self; cases this
  | x :: a, y :: b, ha, hb, h => by
    obtain ⟨ha1, ha2⟩ := List.pairwise_cons.1 ha
    obtain ⟨hb1, hb2⟩ := List.pairwise_cons.1 hb
    have e : x = y := by
      rcases List.mem_cons.1 ((h x).1 List.mem_cons_self) with q | q
      · exact q
      · rcases List.mem_cons.1 ((h y).2 List.mem_cons_self) with r | r
        · exact r.symm
        · have := cmpw_trans (hb1 x q) (ha1 y r)
          rw [cmpw_self] at this; omega
    subst e
    rw [SS.unique a b ha2 hb2 fun z => ⟨fun hz => ?_, fun hz => ?_⟩]
    · rcases List.mem_cons.1 ((h z).1 (List.mem_cons_of_mem _ hz)) with q | q
      · subst q; have := ha1 z hz; rw [cmpw_self] at this; omega
      · exact q
    · rcases List.mem_cons.1 ((h z).2 (List.mem_cons_of_mem _ hz)) with q | q
      · subst q; have := hb1 z hz; rw [cmpw_self] at this; omega
      · exact q

/-! ### The reference's list -/
def insw (w : List UInt8) : List (List UInt8) → List (List UInt8)
  | [] => [w]
  | x :: t => if wCompare x w = 0 then x :: t else if 0 < wCompare x w then w :: x :: t else x :: insw w t
theorem addFold_true (w : List UInt8) : ∀ (l o : List (List UInt8)), l.foldl (addStep w) (o, true) = (o ++ l, true)
  | [], o => by simp
  | x :: l, o => by
    have : addStep w (o, true) x = (o ++ [x], true) := by simp [addStep]
    rw [List.foldl_cons, this, addFold_true w l]; simp
theorem addFold_false (w : List UInt8) : ∀ (l o : List (List UInt8)), (let s := l.foldl (addStep w) (o, false); if s.2 then s.1 else s.1 ++ [w]) = o ++ insw w l
  | [], o => by simp [insw]
  | x :: l, o => by
    rw [List.foldl_cons, insw]
    by_cases h : wCompare x w = 0
    · have : addStep w (o, false) x = (o ++ [x], true) := by simp [addStep, h]
      rw [this, addFold_true, if_pos h]; simp
    · rw [if_neg h]
      by_cases h2 : 0 < wCompare x w
      · have : addStep w (o, false) x = (o ++ [w] ++ [x], true) := by simp [addStep, h, h2]
        rw [this, addFold_true, if_pos h2]; simp
      · have : addStep w (o, false) x = (o ++ [x], false) := by simp [addStep, h, h2]
        rw [this, if_neg h2]
        have ih := addFold_false w l (o ++ [x])
        simp only at ih ⊢
        rw [ih]; simp
theorem addw_ins (l : List (List UInt8)) (w : List UInt8) : addw l w = insw w l := by
  have := addFold_false w l []
  simpa [addw] using this
theorem wCompare_is {u v : List UInt8} (hu : isw u = true) (hv : isw v = true) : wCompare u v = cmpw u v := by rw [wCompare, if_pos ⟨hu, hv⟩]
def Ws (l : List (List UInt8)) : Prop := ∀ x ∈ l, isw x = true
theorem insw_spec {w : List UInt8} (hw : isw w = true) : ∀ l : List (List UInt8), Ws l → SS l → (∀ x, x ∈ insw w l ↔ x = w ∨ x ∈ l) ∧ SS (insw w l)
  | [], _, _ => by simp [insw, SS]
  | x :: t, hl, hs => by
    obtain ⟨h1, h2⟩ := List.pairwise_cons.1 hs
    have hx := hl x List.mem_cons_self
    obtain ⟨ih1, ih2⟩ := insw_spec hw t (fun y hy => hl y (List.mem_cons_of_mem _ hy)) h2
    rw [insw, wCompare_is hx hw]
    split
    · rename_i h
      have e := cmpw_zero (okl_is hx) (okl_is hw) h
      subst e
      exact ⟨fun z => ⟨.inr, fun q => q.elim (fun q => q ▸ List.mem_cons_self) id⟩, hs⟩
    · rename_i h
      split
      · rename_i h3
        refine ⟨fun z => by simp, List.pairwise_cons.2 ⟨fun z hz => ?_, hs⟩⟩
        have hwx : cmpw w x < 0 := by rw [cmpw_anti x w]; omega
        rcases List.mem_cons.1 hz with rfl | hz
        · exact hwx
        · exact cmpw_trans hwx (h1 z hz)
      · rename_i h3
        refine ⟨fun z => by simp only [List.mem_cons, ih1]; exact ⟨fun q => by rcases q with q | q | q <;> simp [q], fun q => by rcases q with q | q | q <;> simp [q]⟩, List.pairwise_cons.2 ⟨fun z hz => ?_, ih2⟩⟩
        rcases (ih1 z).1 hz with rfl | hz
        · omega
        · exact h1 z hz
theorem addw_spec {w : List UInt8} {l : List (List UInt8)} (hw : isw w = true) (hl : Ws l) (hs : SS l) : (∀ x, x ∈ addw l w ↔ x = w ∨ x ∈ l) ∧ SS (addw l w) ∧ Ws (addw l w) := by
  rw [addw_ins]
  obtain ⟨h1, h2⟩ := insw_spec hw l hl hs
  exact ⟨h1, h2, fun x hx => ((h1 x).1 hx).elim (fun q => q ▸ hw) (hl x)⟩
theorem rot_is {c : List UInt8} (h : isw c = true) (j : Nat) : isw (rot c j) = true :=
  isw_sub h (fun x hx => (List.mem_append.1 hx).elim List.mem_of_mem_drop List.mem_of_mem_take) (by rw [rot_length]; exact Nat.le_refl _)
theorem symmOf_spec {c : List UInt8} {a : List (List UInt8)} {j : Nat} (hc : isw c = true) (ha : Ws a) (hs : SS a) : (∀ x, x ∈ symmOf c a j ↔ x = rot c j ∨ x = rot (wInverse c) j ∨ x ∈ a) ∧ SS (symmOf c a j) ∧ Ws (symmOf c a j) := by
  obtain ⟨h1, h2, h3⟩ := addw_spec (rot_is hc j) ha hs
  obtain ⟨g1, g2, g3⟩ := addw_spec (rot_is (wInverse_is c) j) h3 h2
  refine ⟨fun x => ?_, g2, g3⟩
  unfold symmOf
  rw [g1, h1]
  exact ⟨fun q => by rcases q with q | q | q <;> simp [q], fun q => by rcases q with q | q | q <;> simp [q]⟩
theorem symmStep_spec {r : List UInt8} {a : List (List UInt8)} (ha : Ws a) (hs : SS a) : ∀ n, (∀ x, x ∈ (List.range n).foldl (symmOf (wCore r)) a ↔ (∃ j, j < n ∧ (x = rot (wCore r) j ∨ x = rot (wInverse (wCore r)) j)) ∨ x ∈ a) ∧ SS ((List.range n).foldl (symmOf (wCore r)) a) ∧ Ws ((List.range n).foldl (symmOf (wCore r)) a)
  | 0 => ⟨fun x => by simp, hs, ha⟩
  | n + 1 => by
    obtain ⟨h1, h2, h3⟩ := symmStep_spec (r := r) ha hs n
    rw [List.range_succ, List.foldl_append]
    obtain ⟨g1, g2, g3⟩ := symmOf_spec (j := n) (wCore_is r) h3 h2
    refine ⟨fun x => ?_, g2, g3⟩
    show x ∈ symmOf _ _ n ↔ _
    rw [g1, h1]
    constructor
    · rintro (q | q | ⟨j, hj, q⟩ | q)
      · exact .inl ⟨n, by omega, .inl q⟩
      · exact .inl ⟨n, by omega, .inr q⟩
      · exact .inl ⟨j, by omega, q⟩
      · exact .inr q
    · rintro (⟨j, hj, q⟩ | q)
      · by_cases e : j = n
        · subst e; exact q.elim .inl (fun q => .inr (.inl q))
        · exact .inr (.inr (.inl ⟨j, by omega, q⟩))
      · exact .inr (.inr (.inr q))
theorem symm_fold : ∀ (l a : List (List UInt8)), Ws a → SS a → (∀ x, x ∈ l.foldl symmStep a ↔ (∃ r ∈ l, ∃ j, j < (wCore r).length ∧ (x = rot (wCore r) j ∨ x = rot (wInverse (wCore r)) j)) ∨ x ∈ a) ∧ SS (l.foldl symmStep a) ∧ Ws (l.foldl symmStep a)
  | [], a, ha, hs => ⟨fun x => by simp, hs, ha⟩
  | r :: l, a, ha, hs => by
    obtain ⟨h1, h2, h3⟩ := symmStep_spec (r := r) ha hs (wCore r).length
    obtain ⟨g1, g2, g3⟩ := symm_fold l (symmStep a r) h3 h2
    refine ⟨fun x => ?_, g2, g3⟩
    rw [List.foldl_cons, g1]
    unfold symmStep
    rw [h1]
    constructor
    · rintro (⟨s, hs, q⟩ | q | q)
      · exact .inl ⟨s, List.mem_cons_of_mem _ hs, q⟩
      · exact .inl ⟨r, List.mem_cons_self, q⟩
      · exact .inr q
    · rintro (⟨s, hs, q⟩ | q)
      · rcases List.mem_cons.1 hs with rfl | hs
        · exact .inr (.inl q)
        · exact .inl ⟨s, hs, q⟩
      · exact .inr (.inr q)
theorem symm_spec (l : List (List UInt8)) : (∀ x, x ∈ symm l ↔ ∃ r ∈ l, ∃ j, j < (wCore r).length ∧ (x = rot (wCore r) j ∨ x = rot (inv (wCore r)) j)) ∧ SS (symm l) ∧ Ws (symm l) := by
  obtain ⟨h1, h2, h3⟩ := symm_fold l [] (fun x h => by cases h) List.Pairwise.nil
  refine ⟨fun x => ?_, h2, h3⟩
  unfold symm
  rw [h1]
  simp only [wInv_core, List.not_mem_nil, or_false]

/-! ### The program's list -/
theorem addE_words (E : List Rot) (x : Rot) : (∀ y, (∃ z ∈ addE E x, z.w = y) ↔ y = x.w ∨ ∃ z ∈ E, z.w = y) ∧ ((E.map (·.w)).Nodup → ((addE E x).map (·.w)).Nodup) := by
  unfold addE
  split
  · rename_i h
    obtain ⟨z, hz, e⟩ := List.any_eq_true.1 h
    have e : z.w = x.w := by simpa using e
    exact ⟨fun y => ⟨.inr, fun q => q.elim (fun q => ⟨z, hz, by rw [q, e]⟩) id⟩, id⟩
  · rename_i h
    refine ⟨fun y => ?_, fun hn => ?_⟩
    · constructor
      · rintro ⟨z, hz, rfl⟩
        rcases List.mem_append.1 hz with q | q
        · exact .inr ⟨z, q, rfl⟩
        · simp at q; rw [q]; exact .inl rfl
      · rintro (q | ⟨z, hz, q⟩)
        · exact ⟨x, by simp, q.symm⟩
        · exact ⟨z, List.mem_append_left _ hz, q⟩
    · rw [List.map_append]
      refine List.nodup_append.2 ⟨hn, by simp, fun a ha b hb => ?_⟩
      obtain ⟨z, hz, rfl⟩ := List.mem_map.1 ha
      simp at hb
      rw [hb]
      exact fun q => h (List.any_eq_true.2 ⟨z, hz, by simpa using q⟩)
theorem addJ_words (i : Nat) (iv : Bool) (core cj : List UInt8) (E : List Rot) : ∀ n, (∀ y, (∃ z ∈ addJ i iv core cj E n, z.w = y) ↔ (∃ j, j < n ∧ y = rot core j) ∨ ∃ z ∈ E, z.w = y) ∧ ((E.map (·.w)).Nodup → ((addJ i iv core cj E n).map (·.w)).Nodup)
  | 0 => ⟨fun y => by simp [addJ], fun h => h⟩
  | n + 1 => by
    obtain ⟨h1, h2⟩ := addJ_words i iv core cj E n
    rw [addJ_succ]
    obtain ⟨g1, g2⟩ := addE_words (addJ i iv core cj E n) (mkR i iv core cj n)
    refine ⟨fun y => ?_, fun hn => g2 (h2 hn)⟩
    rw [g1, h1]
    have e : (mkR i iv core cj n).w = rot core n := rfl
    rw [e]
    constructor
    · rintro (q | ⟨j, hj, q⟩ | q)
      · exact .inl ⟨n, by omega, q⟩
      · exact .inl ⟨j, by omega, q⟩
      · exact .inr q
    · rintro (⟨j, hj, q⟩ | q)
      · by_cases r : j = n
        · subst r; exact .inl q
        · exact .inr (.inl ⟨j, by omega, q⟩)
      · exact .inr (.inr q)
theorem addR_words {g : Int} {l : List (List UInt8)} (hp : pcheck g l = 0) {k : Nat} (hk : k < l.length) (E : List Rot) : (∀ y, (∃ z ∈ addR l E k, z.w = y) ↔ (∃ j, j < (wCore (l.getD k [])).length ∧ (y = rot (wCore (l.getD k [])) j ∨ y = rot (inv (wCore (l.getD k []))) j)) ∨ ∃ z ∈ E, z.w = y) ∧ ((E.map (·.w)).Nodup → ((addR l E k).map (·.w)).Nodup) := by
  have hz := pcheck_zero hp
  obtain ⟨_, hb⟩ := hz.2.2 _ (getD_mem (d := []) hk)
  obtain ⟨_, b2, b3⟩ := badRel_good hb
  have hi := isw_of hz.1.2 b2
  have e1 : wOf (l.getD k []) false = l.getD k [] := rfl
  have e2 : wOf (l.getD k []) true = inv (l.getD k []) := by rw [wOf, if_pos rfl, wInverse, if_pos hi]
  have e3 : wCore (inv (l.getD k [])) = inv (wCore (l.getD k [])) := by
    rw [wCore, if_pos (isw_inv hi), wCore, if_pos hi, core_inv b3]
  unfold addR addV
  rw [e1, e2, e3, inv_length]
  obtain ⟨h1, h2⟩ := addJ_words k false (wCore (l.getD k [])) (wConj (l.getD k [])) E (wCore (l.getD k [])).length
  obtain ⟨g1, g2⟩ := addJ_words k true (inv (wCore (l.getD k []))) (wConj (inv (l.getD k []))) (addJ k false (wCore (l.getD k [])) (wConj (l.getD k [])) E (wCore (l.getD k [])).length) (wCore (l.getD k [])).length
  refine ⟨fun y => ?_, fun hn => g2 (h2 hn)⟩
  rw [g1, h1]
  constructor
  · rintro (⟨j, hj, q⟩ | ⟨j, hj, q⟩ | q)
    · exact .inl ⟨j, hj, .inr q⟩
    · exact .inl ⟨j, hj, .inl q⟩
    · exact .inr q
  · rintro (⟨j, hj, q | q⟩ | q)
    · exact .inr (.inl ⟨j, hj, q⟩)
    · exact .inl ⟨j, hj, q⟩
    · exact .inr (.inr q)
theorem allR_words {g : Int} {l : List (List UInt8)} (hp : pcheck g l = 0) : ∀ n, n ≤ l.length → (∀ y, (∃ z ∈ (List.range n).foldl (addR l) [], z.w = y) ↔ ∃ k, k < n ∧ ∃ j, j < (wCore (l.getD k [])).length ∧ (y = rot (wCore (l.getD k [])) j ∨ y = rot (inv (wCore (l.getD k []))) j)) ∧ (((List.range n).foldl (addR l) []).map (·.w)).Nodup
  | 0, _ => by simp
  | n + 1, hn => by
    obtain ⟨h1, h2⟩ := allR_words hp n (by omega)
    rw [List.range_succ, List.foldl_append]
    obtain ⟨g1, g2⟩ := addR_words hp (show n < l.length by omega) ((List.range n).foldl (addR l) [])
    refine ⟨fun y => ?_, g2 h2⟩
    show (∃ z ∈ addR l _ n, z.w = y) ↔ _
    rw [g1, h1]
    constructor
    · rintro (q | ⟨k, hk, q⟩)
      · exact ⟨n, by omega, q⟩
      · exact ⟨k, by omega, q⟩
    · rintro ⟨k, hk, q⟩
      by_cases e : k = n
      · subst e; exact .inl q
      · exact .inr ⟨k, by omega, q⟩
/-- The words of the rules are the reference's. -/
theorem words_symm {g : Int} {l : List (List UInt8)} (hp : pcheck g l = 0) {S : RS} (hS : SOk l S) : S.list.map (·.w) = symm l := by
  obtain ⟨h1, h2, h3⟩ := symm_spec l
  obtain ⟨g1, g2⟩ := allR_words hp l.length (Nat.le_refl _)
  obtain ⟨hR, hP, hW⟩ := hS
  have hn : (S.list.map (·.w)).Nodup := ((hP.map (·.w)).nodup_iff).2 g2
  refine SS.unique _ _ ?_ h2 fun x => ?_
  · rw [SS, List.pairwise_map]
    have hn2 := List.pairwise_map.1 hn
    rw [List.pairwise_iff_getElem] at hn2 hW ⊢
    intro i j hi hj hij
    have a := hn2 i j hi hj hij
    have b := hW i j hi hj hij
    have c := cmpw_anti S.list[i].w S.list[j].w
    have d : cmpw S.list[i].w S.list[j].w ≠ 0 := fun q => a (cmpw_zero (okl_is (hR.isw _ (List.getElem_mem hi)).1) (okl_is (hR.isw _ (List.getElem_mem hj)).1) q)
    omega
  · rw [h1, List.mem_map]
    have e : (∃ a ∈ S.list, a.w = x) ↔ ∃ z ∈ allR l, z.w = x := ⟨fun ⟨a, ha, q⟩ => ⟨a, hP.mem_iff.1 ha, q⟩, fun ⟨a, ha, q⟩ => ⟨a, hP.mem_iff.2 ha, q⟩⟩
    rw [e]
    unfold allR
    rw [g1]
    constructor
    · rintro ⟨k, hk, q⟩; exact ⟨_, getD_mem hk, q⟩
    · rintro ⟨r, hr, q⟩
      obtain ⟨k, hk, rfl⟩ := List.getElem_of_mem hr
      refine ⟨k, hk, ?_⟩
      have : l.getD k [] = l[k] := by simp [hk]
      rw [this]; exact q
end Go.Proofs.YtaccklloepfemaaDoor

namespace Go.Proofs.YtaccklloepfemaaDoor
set_option linter.unusedVariables false
set_option linter.unusedSimpArgs false
open Go Go.RowKit V

theorem map_getD (L : List Rot) (j : Nat) : (L.map (·.w)).getD j [] = (L.getD j .zero).w := by
  by_cases h : j < L.length
  · simp [h]
  · simp [h, Rot.zero]
theorem at_pos {L : List Rot} {s : List UInt8} (h : 0 ≤ (longF L s).1) : rlongAt (L.map (·.w)) s = some (L.getD (longF L s).1.toNat .zero).w := by
  obtain ⟨h1, h2, h3⟩ := longF_pos h
  rw [← map_getD]
  refine rlongAt_found (by simpa using h1) (fun k hk => ?_) (by rw [map_getD]; exact h2)
  rw [map_getD, partOf, decide_eq_false_iff_not]
  exact h3 k hk
theorem at_neg {L : List Rot} {s : List UInt8} (h : ¬ 0 ≤ (longF L s).1) : rlongAt (L.map (·.w)) s = none := by
  refine rlongAt_none (Nat.le_refl _) fun k hk => ?_
  rw [map_getD, partOf, decide_eq_false_iff_not]
  exact longF_neg h _ (getD_mem (by simpa using hk))
theorem rlong_skip {l : List (List UInt8)} {w : List UInt8} : ∀ p, p ≤ w.length → (∀ q, q < p → rlongAt l (w.drop q) = none) → rlongFrom l w ((List.range w.length).drop p) = rlong l w
  | 0, _, _ => rfl
  | p + 1, hp, h => rlong_next (by omega) (rlong_skip p (by omega) fun q hq => h q (by omega)) (h p (by omega))
theorem putF_low : ∀ (w : List UInt8) (t : List UInt8 × Nat), t.2 ≤ t.1.length → (putF t w).1.take (putF t w).2 = t.1.take (putF t w).2 ∧ (putF t w).2 ≤ (putF t w).1.length
  | [], t, h => ⟨rfl, h⟩
  | c :: w, t, h => by
    have hm : min t.2 (push t.1 c).length ≤ (push t.1 c).length := Nat.min_le_right _ _
    obtain ⟨h1, h2⟩ := putF_low w (push t.1 c, min t.2 (push t.1 c).length) hm
    have e : putF t (c :: w) = putF (push t.1 c, min t.2 (push t.1 c).length) w := rfl
    rw [e]
    refine ⟨?_, h2⟩
    have hs := putF_snd w (push t.1 c, min t.2 (push t.1 c).length)
    simp only at hs h1
    generalize (putF (push t.1 c, min t.2 (push t.1 c).length) w).2 = m at h1 hs ⊢
    rw [h1]
    unfold push at hs ⊢
    split
    · rename_i q
      rw [if_pos q, List.length_take] at hs
      rw [List.take_take]; congr 1; omega
    · rename_i q
      rw [if_neg q, List.length_append] at hs
      rw [List.take_append_of_le_length (by omega)]
theorem NC.takeFold {l : List UInt8} (h : NC l) (p : Nat) : (l.take p).foldl push [] = l.take p := (h.take p).isRed
theorem part_take {x s : List UInt8} : s.take (cmn s x) <+: x := (cmn_prefix s x _ (cmn_le s x).1).2 (Nat.le_refl _)
section
variable {L : List Rot} {m : Nat}
theorem repl_rnext (hw : ∀ x ∈ L, isw x.w = true ∧ x.w.length ≤ m) (hm : m ≤ 200) {l : List UInt8} {p : Nat} (hl : l.length ≤ 6000) (hi : isw l = true) (hn : NC l) (hp : p < l.length) (h : 0 ≤ (longF L (l.drop p)).1) (e : rlong (L.map (·.w)) l = ⟨p, repN l p (L.getD (longF L (l.drop p)).1.toNat .zero), wInverse ((L.getD (longF L (l.drop p)).1.toNat .zero).w.drop (repN l p (L.getD (longF L (l.drop p)).1.toNat .zero))), true⟩) :
    (repl l p (L.getD (longF L (l.drop p)).1.toNat .zero)).1 = rnext (L.map (·.w)) l := by
  have hx := hw _ (getD_mem (d := Rot.zero) (longF_pos h).1)
  generalize L.getD (longF L (l.drop p)).1.toNat .zero = x at e hx
  have hs := repN_le l p x
  have h3 := wInverse_length (x.w.drop (repN l p x))
  rw [List.length_drop] at h3
  have hisw : isw (l.take p ++ wInverse (x.w.drop (repN l p x)) ++ l.drop (p + repN l p x)) = true :=
    isw_app (isw_app (isw_sub hi (fun c hc => List.mem_of_mem_take hc) (by rw [List.length_take]; omega)) (wInverse_is _) (by rw [List.length_take]; omega)) (isw_sub hi (fun c hc => List.mem_of_mem_drop hc) (by rw [List.length_drop]; omega)) (by rw [List.length_append, List.length_take, List.length_drop]; omega)
  unfold rnext
  rw [e]
  dsimp only
  rw [wReduce, if_pos hisw, red, List.foldl_append, List.foldl_append, hn.takeFold]
  unfold repl
  rw [putF_fst, putF_fst]
theorem drun_rshort (hw : ∀ x ∈ L, isw x.w = true ∧ x.w.length ≤ m) (hm : m ≤ 200) : ∀ (f : Nat) (l : List UInt8) (d : List DCell) (p F n : Nat), 100001 * l.length + (l.length - p) < f → l.length ≤ 6000 → isw l = true → NC l → p ≤ l.length → (∀ q, q < p → ¬ 0 ≤ (longF L (l.drop q)).1) → l.length < F →
    (drun L m f l d p).1 = (rshort (L.map (·.w)) F l n).1 ∧ (drun L m f l d p).2.length + n = d.length + (rshort (L.map (·.w)) F l n).2
  | 0, _, _, _, _, _, h, _, _, _, _, _, _ => by omega
  | f + 1, l, d, p, F, n, hf, hl, hi, hn, hpl, hinv, hF => by
    have hskip := rlong_skip (l := L.map (·.w)) (w := l) p hpl fun q hq => at_neg (hinv q hq)
    rw [drun]
    by_cases hp : p < l.length
    · rw [if_pos hp]
      by_cases h : 0 ≤ (longF L (l.drop p)).1
      · rw [if_pos h]
        have e := rlong_here hp hskip (at_pos h)
        have hr := repl_rnext hw hm hl hi hn hp h e
        have hlt := repl_lt hp h
        have hpi : (rlong (L.map (·.w)) l).pi = true := by rw [e]
        rw [rshort_go hF hpi, ← hr]
        have hxw := hw _ (getD_mem (d := Rot.zero) (longF_pos h).1)
        generalize hx : L.getD (longF L (l.drop p)).1.toNat .zero = x at hr hlt hxw ⊢
        have hlow := repl_low l p x
        have hlk := putF_low (l.drop (p + repN l p x)) (putF (l.take p, p) (wInverse (x.w.drop (repN l p x)))) (putF_low _ (l.take p, p) (by simp; omega)).2
        have hlk1 := putF_low (wInverse (x.w.drop (repN l p x))) (l.take p, p) (by simp; omega)
        have hle1 := putF_snd (l.drop (p + repN l p x)) (putF (l.take p, p) (wInverse (x.w.drop (repN l p x))))
        have htake : (repl l p x).1.take (repl l p x).2 = l.take (repl l p x).2 := by
          have a : (repl l p x).1.take (repl l p x).2 = (putF (l.take p, p) (wInverse (x.w.drop (repN l p x)))).1.take (repl l p x).2 := hlk.1
          have hle2 : (repl l p x).2 ≤ (putF (l.take p, p) (wInverse (x.w.drop (repN l p x)))).2 := hle1
          rw [a]
          have b : ∀ k, k ≤ (putF (l.take p, p) (wInverse (x.w.drop (repN l p x)))).2 → (putF (l.take p, p) (wInverse (x.w.drop (repN l p x)))).1.take k = (l.take p).take k := fun k hk => by
            have := congrArg (List.take k) hlk1.1
            rw [List.take_take, List.take_take, Nat.min_eq_left hk] at this
            exact this
          rw [b _ hle2, List.take_take, Nat.min_eq_left hlow]
        have hlow2 : (repl l p x).2 ≤ (repl l p x).1.length := hlk.2
        have hNC : NC (repl l p x).1 := by
          unfold repl
          rw [putF_fst, putF_fst]
          exact NC.ofFold _ _ (NC.ofFold _ _ (hn.take p))
        have hI : isw (repl l p x).1 = true := by rw [hr]; exact wReduce_is _
        have ih := drun_rshort hw hm f (repl l p x).1 (d ++ [repC l p x]) ((repl l p x).2 - m) (F - 1) (n + 1) (by omega) (by omega) hI hNC (by omega) (fun q hq h2 => ?_) (by omega)
        · refine ⟨ih.1, ?_⟩
          have := ih.2
          simp only [List.length_append, List.length_cons, List.length_nil] at this
          omega
        · obtain ⟨g1, g2, _⟩ := longF_pos h2
          have hyw := hw _ (getD_mem (d := Rot.zero) g1)
          have hym := getD_mem (d := Rot.zero) g1
          generalize L.getD (longF L ((repl l p x).1.drop q)).1.toNat .zero = y at g2 hyw hym
          have hc := cmn_le ((repl l p x).1.drop q) y.w
          have hpt := part_take (s := (repl l p x).1.drop q) (x := y.w)
          have hk : q + cmn ((repl l p x).1.drop q) y.w ≤ (repl l p x).2 := by omega
          have e2 : ((repl l p x).1.drop q).take (cmn ((repl l p x).1.drop q) y.w) = (l.drop q).take (cmn ((repl l p x).1.drop q) y.w) := by
            have := congrArg (fun z => (z.drop q).take (cmn ((repl l p x).1.drop q) y.w)) htake
            simp only [List.drop_take, List.take_take] at this
            rw [Nat.min_eq_left (by omega)] at this
            exact this
          rw [e2] at hpt
          exact hinv q (by omega) (part_pos hym (by rw [List.length_drop]; omega) hpt g2)
      · rw [if_neg h]
        exact drun_rshort hw hm f l d (p + 1) F n (by omega) hl hi hn (by omega) (fun q hq => by
          by_cases e : q = p
          · subst e; exact h
          · exact hinv q (by omega)) hF
    · rw [if_neg hp]
      have e := rlong_end (l := L.map (·.w)) (w := l) (i := p) (by omega) hskip
      rw [rshort_stop (by rw [e])]
      exact ⟨rfl, by dsimp only⟩
end
/-- What the rules' shortening gives is what the reference's gives. -/
theorem dsh_rshorten {g : Int} {l : List (List UInt8)} (hp : pcheck g l = 0) {S : RS} (hS : SOk l S) {w : List UInt8} (hw : isw w = true) (hl : w.length ≤ 6000) :
    (dsh S w).1 = (rshorten (symm l) w).1 ∧ (dsh S w).2.length = (rshorten (symm l) w).2 := by
  have hr := red_length w
  have hR := hS.1
  have key := drun_rshort (L := S.list) (m := S.most) (fun x hx => ⟨(hR.isw x hx).1, hR.most x hx⟩) hR.small.1 (fuel (red w).length) (red w) [] 0 ((red w).length + 1) 0 (by unfold fuel; omega) (by omega) (isw_sub hw red_sub hr) (NC.ofRed w) (Nat.zero_le _) (fun q h => by omega) (by omega)
  rw [words_symm hp hS] at key
  unfold rshorten
  rw [wReduce, if_pos hw]
  refine ⟨key.1, ?_⟩
  have := key.2
  simp only [List.length_nil] at this
  unfold dsh; omega
theorem rshort_zero {l : List (List UInt8)} {x : List UInt8} {F : Nat} (hF : x.length < F) : (rshort l F x 0).2 = 0 ↔ (rlong l x).pi = false := by
  by_cases h : (rlong l x).pi = true
  · rw [rshort_go hF h, h]
    have mono : ∀ (f : Nat) (y : List UInt8) (n : Nat), n ≤ (rshort l f y n).2 := by
      intro f
      induction f with
      | zero => intro y n; exact Nat.le_refl _
      | succ f ih =>
        intro y n
        rw [rshort]
        split
        · exact Nat.le_trans (Nat.le_succ n) (ih _ _)
        · exact Nat.le_refl _
    have := mono (F - 1) (rnext l x) (0 + 1)
    constructor
    · intro q; omega
    · intro q; cases q
  · have h' : (rlong l x).pi = false := by simpa using h
    rw [rshort_stop h', h']
    simp
end Go.Proofs.YtaccklloepfemaaDoor

namespace Go.Proofs.YtaccklloepfemaaDoor
set_option linter.unusedVariables false
set_option linter.unusedSimpArgs false
open Go Go.RowKit V

/-! ### Pieces -/
theorem cmn_comm : ∀ a b : List UInt8, cmn a b = cmn b a
  | [], [] => rfl
  | [], _ :: _ => rfl
  | _ :: _, [] => rfl
  | a :: x, b :: y => by
    simp only [cmn]
    by_cases h : a = b
    · subst h; simp [cmn_comm x y]
    · rw [if_neg h, if_neg (fun q => h q.symm)]
theorem cons_le {a b : UInt8} {x y : List UInt8} (h : a :: x ≤ b :: y) : ¬ b < a ∧ (a = b → x ≤ y) := by
  have h : ¬ (b :: y < a :: x) := h
  rw [List.cons_lt_cons_iff] at h
  exact ⟨fun q => h (.inl q), fun e q => h (.inr ⟨e.symm, q⟩)⟩
theorem cmn_mid : ∀ a b c : List UInt8, a ≤ b → b ≤ c → cmn a c ≤ cmn a b ∧ cmn a c ≤ cmn b c
  | [], _, c, _, _ => by simp [cmn]
  | _ :: _, _, [], _, _ => by simp [cmn]
  | a :: x, [], c :: z, h, _ => by
    exfalso
    exact h (List.nil_lt_cons _ _)
  | a :: x, b :: y, c :: z, h1, h2 => by
    obtain ⟨p1, p2⟩ := cons_le h1
    obtain ⟨q1, q2⟩ := cons_le h2
    simp only [cmn]
    by_cases e : a = c
    · subst e
      have e2 : a = b := by
        have h1 : ¬ b.toNat < a.toNat := fun r => p1 (UInt8.lt_iff_toNat_lt.2 r)
        have h2 : ¬ a.toNat < b.toNat := fun r => q1 (UInt8.lt_iff_toNat_lt.2 r)
        exact UInt8.toNat_inj.1 (by omega)
      subst e2
      have := cmn_mid x y z (p2 rfl) (q2 rfl)
      simp only [if_pos]
      omega
    · rw [if_neg e]; omega
theorem le_tr : ∀ a b c : List UInt8, a ≤ b → b ≤ c → a ≤ c := fun _ _ _ h1 h2 => List.le_trans h1 h2
theorem le_tot : ∀ a b : List UInt8, a ≤ b ∨ b ≤ a := fun a b => List.le_total a b
theorem srt_sorted (d : List (List UInt8)) : (srt d).Pairwise (· ≤ ·) := by
  have := List.pairwise_mergeSort (le := fun x y : List UInt8 => decide (x ≤ y)) (fun a b c h1 h2 => by
    simp only [decide_eq_true_eq] at h1 h2 ⊢; exact le_tr _ _ _ h1 h2) (fun a b => by
    simp only [Bool.or_eq_true, decide_eq_true_eq]; exact le_tot a b) d
  exact this.imp fun h => by simpa using h
def Small6 (l : List (List UInt8)) : Prop := ∀ x ∈ l, ∀ y ∈ l, x ≠ y → ¬ x.length ≤ 6 * cmn x y
theorem isDehn_iff {l : List (List UInt8)} (hn : l.Nodup) : isDehn l = true ↔ Small6 l := by
  unfold isDehn Small6
  simp only [List.all_eq_true, List.mem_range, Bool.not_eq_true', Bool.and_eq_false_iff, decide_eq_false_iff_not]
  constructor
  · intro h x hx y hy hne hle
    obtain ⟨i, hi, rfl⟩ := List.getElem_of_mem hx
    obtain ⟨k, hk, rfl⟩ := List.getElem_of_mem hy
    have e1 : l.getD i [] = l[i] := by simp [hi]
    have e2 : l.getD k [] = l[k] := by simp [hk]
    rcases h i hi k hk with q | q
    · exact hne (by have : i = k := Classical.byContradiction fun r => q r
                    subst this; rfl)
    · rw [e1, e2] at q; exact q hle
  · intro h i hi k hk
    by_cases e : i = k
    · exact .inl (fun q => q e)
    · refine .inr fun q => h _ (getD_mem hi) _ (getD_mem hk) (fun r => e (nodup_getD hn hi hk r)) q
theorem dver_iff {d : List (List UInt8)} (hn : d.Nodup) (hs : d.Pairwise (· ≤ ·)) : dverW d = true ↔ Small6 d := by
  have hle : ∀ i j, i < j → j < d.length → d.getD i [] ≤ d.getD j [] := fun i j hij hj => by
    have hi : i < d.length := by omega
    have := List.pairwise_iff_getElem.1 hs i j hi hj hij
    simpa [hi, hj] using this
  have hrefl : ∀ a : List UInt8, a ≤ a := fun a => (le_tot a a).elim id id
  have hle2 : ∀ i j, i ≤ j → j < d.length → d.getD i [] ≤ d.getD j [] := fun i j hij hj => by
    rcases Nat.lt_or_eq_of_le hij with q | q
    · exact hle i j q hj
    · subst q; exact hrefl _
  constructor
  · intro h
    have hg : ∀ i, 1 ≤ i → i < d.length → ¬ badAt d i := fun i h1 hi q => by
      rw [dverW_no h1 hi q] at h; cases h
    have key : ∀ i j, i < j → j < d.length → ¬ (d.getD i []).length ≤ 6 * cmn (d.getD i []) (d.getD j []) ∧ ¬ (d.getD j []).length ≤ 6 * cmn (d.getD i []) (d.getD j []) := fun i j hij hj => by
      have c1 := (cmn_mid _ _ _ (hle i (i + 1) (by omega) (by omega)) (hle2 (i + 1) j (by omega) hj)).1
      have c2 := (cmn_mid _ _ _ (hle2 i (j - 1) (by omega) (by omega)) (hle (j - 1) j (by omega) hj)).2
      have b1 := hg (i + 1) (by omega) (by omega)
      have b2 := hg j (by omega) hj
      unfold badAt at b1 b2
      rw [Nat.add_sub_cancel] at b1
      omega
    intro x hx y hy hne hq
    obtain ⟨i, hi, rfl⟩ := List.getElem_of_mem hx
    obtain ⟨k, hk, rfl⟩ := List.getElem_of_mem hy
    have e1 : d.getD i [] = d[i] := by simp [hi]
    have e2 : d.getD k [] = d[k] := by simp [hk]
    rw [← e1, ← e2] at hq
    rcases Nat.lt_trichotomy i k with r | r | r
    · exact (key i k r hk).1 hq
    · subst r; exact hne rfl
    · rw [cmn_comm] at hq; exact (key k i r hi).2 hq
  · intro h
    refine dverW_yes (Nat.le_refl _) fun i h1 hi hb => ?_
    have hne : d.getD (i - 1) [] ≠ d.getD i [] := fun q => by
      have := nodup_getD (d := []) hn (by omega) hi q; omega
    rcases hb with q | q
    · exact h _ (getD_mem (by omega)) _ (getD_mem hi) hne q
    · rw [cmn_comm] at q; exact h _ (getD_mem hi) _ (getD_mem (by omega)) hne.symm q
theorem SS.nodup {l : List (List UInt8)} (h : SS l) : l.Nodup := h.imp fun {a b} q e => by subst e; rw [cmpw_self] at q; omega
theorem dver_isDehn {g : Int} {l : List (List UInt8)} (hp : pcheck g l = 0) {S : RS} (hS : SOk l S) : dver S = isDehn (symm l) := by
  have hn := (symm_spec l).2.1.nodup
  unfold dver
  rw [words_symm hp hS]
  have hpm := srt_perm (symm l)
  have h1 := dver_iff ((hpm.nodup_iff).2 hn) (srt_sorted _)
  have h2 := isDehn_iff hn
  have h3 : Small6 (srt (symm l)) ↔ Small6 (symm l) := by
    unfold Small6
    simp only [hpm.mem_iff]
  rw [Bool.eq_iff_iff, h1, h2, h3]

/-! ### Turning -/
theorem longU_state (L : List Rot) (s : List UInt8) : ∀ i, ((longU L s i).1 < 0 → (longU L s i).2 = 0) ∧ (0 ≤ (longU L s i).1 → 0 < (longU L s i).2)
  | 0 => by simp [longU]
  | i + 1 => by
    have ih := longU_state L s i
    simp only [longU, longStep]
    split
    · split
      · dsimp only; omega
      · dsimp only; split <;> omega
    · exact ih
theorem longU_stay {L : List Rot} {s : List UInt8} {n : Nat} (h : 0 ≤ (longU L s n).1) : ∀ i, 0 ≤ (longU L s (n + i)).1 ∧ (longU L s (n + i)).2 = (longU L s n).2
  | 0 => ⟨h, rfl⟩
  | i + 1 => by
    obtain ⟨h1, h2⟩ := longU_stay h i
    rw [← Nat.add_assoc]
    simp only [longU, longStep]
    split
    · rw [if_neg (by omega)]
      dsimp only
      refine ⟨by split <;> omega, h2⟩
    · exact ⟨h1, h2⟩
theorem longF_min {L : List Rot} {s : List UInt8} {x : Rot} {n : Nat} (hx : x ∈ L) (hn : n ≤ s.length) (h0 : 0 < n) (hp : s.take n <+: x.w) (hl : x.w.length < 2 * n) : 0 < (longF L s).2 ∧ (longF L s).2 ≤ n := by
  have hb : 0 ≤ bestOf L (s.take n) := (ifl_any _ _).2 (List.any_eq_true.2 ⟨x, hx, by
    simp only [Bool.and_eq_true, List.isPrefixOf_iff_prefix, decide_eq_true_eq]
    exact ⟨hp, by rw [List.length_take, Nat.min_eq_left hn]; exact hl⟩⟩)
  have h1 : 0 ≤ (longU L s n).1 ∧ 0 < (longU L s n).2 ∧ (longU L s n).2 ≤ n := by
    cases n with
    | zero => omega
    | succ n =>
      have st := longU_state L s n
      have le := longU_le L s n
      simp only [longU, longStep]
      rw [if_pos hb]
      split
      · exact ⟨hb, by dsimp only; omega, by dsimp only; omega⟩
      · dsimp only
        refine ⟨by split <;> omega, by omega, by omega⟩
  have h2 := (longU_stay h1.1 (s.length - n)).2
  rw [show n + (s.length - n) = s.length by omega] at h2
  unfold longF
  rw [h2]; exact h1.2
theorem turnU_le {L : List Rot} {w : List UInt8} : ∀ i, i ≤ w.length → ∀ j, j < i → 0 < (longF L (rot w j)).2 → 0 ≤ turnU L w i ∧ turnU L w i ≤ turnA w j (longF L (rot w j)).2
  | 0, _, j, hj, _ => by omega
  | i + 1, hi, j, hj, hn => by
    have hA : ∀ k n, 0 ≤ turnA w k n := fun k n => by unfold turnA; split <;> omega
    rw [turnU]
    by_cases e : j = i
    · subst e
      rw [if_pos hn]
      split
      · exact ⟨hA _ _, Int.le_refl _⟩
      · omega
    · obtain ⟨h1, h2⟩ := turnU_le i (by omega) j (by omega) hn
      split
      · split
        · rename_i q; exact ⟨hA _ _, by omega⟩
        · exact ⟨h1, h2⟩
      · exact ⟨h1, h2⟩
theorem pi_iff (L : List Rot) (s : List UInt8) : (rlong (L.map (·.w)) s).pi = true ↔ ∃ q, q < s.length ∧ 0 ≤ (longF L (s.drop q)).1 := by
  constructor
  · intro h
    apply Classical.byContradiction
    intro hn
    have hskip := rlong_skip (l := L.map (·.w)) (w := s) s.length (Nat.le_refl _) fun q hq => at_neg fun r => hn ⟨q, hq, r⟩
    have e := rlong_end (l := L.map (·.w)) (w := s) (i := s.length) (Nat.le_refl _) hskip
    rw [e] at h; cases h
  · rintro ⟨q, hq, h⟩
    apply Classical.byContradiction
    intro hn
    have key : ∀ p, p ≤ s.length → ∀ r, r < p → ¬ 0 ≤ (longF L (s.drop r)).1 := by
      intro p
      induction p with
      | zero => intro _ r hr; omega
      | succ p ih =>
        intro hp r hr
        by_cases e : r = p
        · subst e
          intro hpos
          have hskip := rlong_skip (l := L.map (·.w)) (w := s) r (by omega) fun q hq => at_neg (ih (by omega) q hq)
          have e2 := rlong_here (by omega) hskip (at_pos hpos)
          exact hn (by rw [e2])
        · exact ih (by omega) r (by omega)
    exact key s.length (Nat.le_refl _) q hq h
theorem turn_pi {L : List Rot} {w : List UInt8} {k : Nat} (hk : k < w.length) (h : (rlong (L.map (·.w)) (rot w k)).pi = true) : 0 ≤ dturn L w ∧ dturn L w ≤ k := by
  obtain ⟨q, hq, hpos⟩ := (pi_iff L _).1 h
  rw [rot_length] at hq
  obtain ⟨g1, g2, _⟩ := longF_pos hpos
  have hx := getD_mem (d := Rot.zero) g1
  generalize L.getD (longF L ((rot w k).drop q)).1.toNat .zero = x at g2 hx
  have hc := (cmn_le ((rot w k).drop q) x.w).1
  rw [List.length_drop, rot_length] at hc
  have hpt := part_take (s := (rot w k).drop q) (x := x.w)
  generalize cmn ((rot w k).drop q) x.w = n at g2 hc hpt
  -- the place in w
  obtain ⟨j, hj, e, hb⟩ : ∃ j, j < w.length ∧ ((rot w k).drop q).take n = (rot w j).take n ∧ j + n ≤ w.length + k := by
    by_cases hkq : k + q < w.length
    · refine ⟨k + q, hkq, ?_, by omega⟩
      have := rot_part (w := w) (i := k + q) (k := k) (n := n) hkq (by omega) (by omega)
      rw [show k + q - k = q by omega] at this; exact this
    · refine ⟨k + q - w.length, by omega, ?_, by omega⟩
      have e1 : (rot w k).drop q = (w.take k).drop (k + q - w.length) := by
        rw [rot, List.drop_append, List.drop_eq_nil_of_le (by rw [List.length_drop]; omega), List.nil_append, List.length_drop]
        congr 1; omega
      rw [e1, rot, List.take_append_of_le_length (by rw [List.length_drop]; omega), List.drop_take, List.take_take, Nat.min_eq_left (by omega)]
  rw [e] at hpt
  have hm := longF_min (s := rot w j) hx (by rw [rot_length]; omega) (by omega) hpt g2
  have ht := turnU_le w.length (Nat.le_refl _) j hj hm.1
  unfold dturn
  refine ⟨ht.1, Int.le_trans ht.2 ?_⟩
  unfold turnA
  split <;> omega
theorem pi_turn {L : List Rot} {w : List UInt8} {k : Nat} (hz : ((k : Nat) : Int) = dturn L w) : k < w.length ∧ (rlong (L.map (·.w)) (rot w k)).pi = true := by
  have hb := turnU_bound L w w.length (Nat.le_refl _)
  unfold dturn at hz
  obtain ⟨j, hj, hn, e⟩ := turnU_mem w.length (Nat.le_refl _) (by omega : 0 ≤ turnU L w w.length)
  obtain ⟨h1, x, hx, h2, h3⟩ := longF_some hn
  rw [rot_length] at h1
  rw [e] at hz
  have hk : (k = 0 ∧ j + (longF L (rot w j)).2 ≤ w.length) ∨ k + w.length = j + (longF L (rot w j)).2 := by
    unfold turnA at hz
    split at hz <;> omega
  have hp := rot_part (w := w) (i := j) (k := k) (n := (longF L (rot w j)).2) hj (by omega) (by omega)
  refine ⟨by omega, (pi_iff L _).2 ⟨j - k, by rw [rot_length]; omega, ?_⟩⟩
  exact part_pos hx (by rw [List.length_drop, rot_length]; omega) (by rw [hp]; exact h2) h3
theorem turn_none {L : List Rot} {w : List UInt8} (h : dturn L w < 0) : rcycAt (L.map (·.w)) w = none :=
  rcycAt_none (Nat.le_refl _) fun j hj => by
    cases q : (rlong (L.map (·.w)) (rot w j)).pi with
    | false => rfl
    | true => have := turn_pi hj q; omega
theorem turn_some {L : List Rot} {w : List UInt8} {k : Nat} (hz : ((k : Nat) : Int) = dturn L w) : rcycAt (L.map (·.w)) w = some k := by
  obtain ⟨h1, h2⟩ := pi_turn hz
  refine rcycAt_found h1 (fun j hj => ?_) h2
  cases q : (rlong (L.map (·.w)) (rot w j)).pi with
  | false => rfl
  | true => have := turn_pi (by omega) q; omega
end Go.Proofs.YtaccklloepfemaaDoor

namespace Go.Proofs.YtaccklloepfemaaDoor
set_option linter.unusedVariables false
set_option linter.unusedSimpArgs false
open Go Go.RowKit V

theorem drun_near {L : List Rot} {m N : Nat} (hx : ∀ x ∈ L, x.c.length ≤ 1000) (hN : N ≤ 6000) : ∀ (f : Nat) (l : List UInt8) (d : List DCell) (p : Nat), l.length ≤ N →
    ∀ c ∈ (drun L m f l d p).2, c ∈ d ∨ c.conj.length ≤ N + 1000
  | 0, l, d, p, _ => fun c h => .inl h
  | f + 1, l, d, p, hl => by
    rw [drun]
    by_cases hp : p < l.length
    · rw [if_pos hp]
      by_cases h : 0 ≤ (longF L (l.drop p)).1
      · rw [if_pos h]
        have hlt := repl_lt hp h
        intro c hc
        rcases drun_near (m := m) hx hN f (repl l p (L.getD (longF L (l.drop p)).1.toNat .zero)).1 (d ++ [repC l p (L.getD (longF L (l.drop p)).1.toNat .zero)]) ((repl l p (L.getD (longF L (l.drop p)).1.toNat .zero)).2 - m) (by omega) c hc with q | q
        · rcases List.mem_append.1 q with q | q
          · exact .inl q
          · simp only [List.mem_singleton] at q
            subst q
            right
            have e1 := hx _ (getD_mem (d := Rot.zero) (longF_pos h).1)
            have e2 := wReduce_length (l.take p ++ (L.getD (longF L (l.drop p)).1.toNat .zero).c)
            rw [List.length_append, List.length_take] at e2
            show (wReduce _).length ≤ _
            omega
        · exact .inr q
      · rw [if_neg h]; exact drun_near (m := m) hx hN f l d (p + 1) hl
    · rw [if_neg hp]; exact fun c h => .inl h
theorem light4 {S : RS} (hS : RSok S) {w : List UInt8} (hw : w.length ≤ 400) : ¬ Heavy (dsh S w).2 := by
  obtain ⟨h1, h2, _⟩ := dsh_all hS (w := w) (by omega)
  have hr := red_length w
  have h3 : ∀ c ∈ (dsh S w).2, c.conj.length ≤ 1400 := fun c hc => by
    have := drun_near (m := S.most) (N := 400) (fun x hx => (hS.isw x hx).2.2) (by omega) (fuel (red w).length) (red w) [] 0 (by omega) c hc
    exact this.elim (fun q => by cases q) id
  have h4 := conjs_le h3
  have : (dsh S w).2.length * 1400 ≤ 400 * 1400 := Nat.mul_le_mul_right _ (by omega)
  unfold Heavy; omega
theorem light {S : RS} (hS : RSok S) {w : List UInt8} (hw : w.length ≤ 60) : ¬ Heavy (dsh S w).2 := light4 hS (by omega)
theorem isw_asked {g : Int} {l : List (List UInt8)} {w : List UInt8} (h : ¬ ¬ rasked g l w = 0) : isw w = true := by
  have hp := pcheck_zero (rasked_pres h)
  exact isw_of hp.1.2 (rasked_word h).1
section
variable {g : Int} {l : List (List UInt8)} {w : List UInt8}
theorem sh_eq {W : List UInt8} {d : List DCell} {c : Nat} (h : ShR g l w (W, d, c)) (hw : w.length ≤ 60 ∨ 5000 < w.length) : W = (rS g l w).1 ∧ d.length = (rS g l w).2.1 ∧ c = (rS g l w).2.2 := by
  unfold ShR at h
  by_cases ha : ¬ rasked g l w = 0
  · rw [if_pos ha] at h
    rw [rS, if_pos ha]
    cases h; exact ⟨rfl, rfl, rfl⟩
  · rw [if_neg ha] at h
    obtain ⟨S, hS, h⟩ := h
    have h5 := (rasked_word ha).2
    rw [shOf, if_neg (light hS.1 (by omega))] at h
    have key := dsh_rshorten (rasked_pres ha) hS (isw_asked ha) (by omega)
    rw [rS, if_neg ha]
    cases h
    exact ⟨key.1, key.2, rfl⟩
theorem st_eq {r : Bool × Nat} (h : StR g l w r) : r = rStuck g l w := by
  unfold StR at h
  unfold rStuck
  by_cases ha : ¬ rasked g l w = 0
  · rw [if_pos ha] at h ⊢; exact h
  · rw [if_neg ha] at h ⊢
    by_cases hw : wReduce w = w
    · rw [if_pos hw] at h
      obtain ⟨S, hS, h⟩ := h
      have h5 := (rasked_word ha).2
      have key := dsh_rshorten (rasked_pres ha) hS (isw_asked ha) (by omega)
      rw [h, key.2]
      unfold rshorten
      rw [hw]
      have hz := rshort_zero (l := symm l) (x := w) (F := w.length + 1) (by omega)
      congr 1
      rw [decide_eq_true (rfl : w = w), Bool.true_and, Bool.eq_iff_iff, decide_eq_true_eq, hz]
      simp
    · rw [if_neg hw] at h
      rw [h, decide_eq_false hw]; rfl
theorem ve_eq {c : Nat} (h : VeR g l c) : c = rVerified g l := by
  unfold VeR at h
  unfold rVerified
  by_cases ha : ¬ pcheck g l = 0
  · rw [if_pos ha] at h ⊢; exact h
  · rw [if_neg ha] at h ⊢
    obtain ⟨S, hS, h⟩ := h
    rw [dver_isDehn (Decidable.not_not.1 ha) hS] at h
    exact h
theorem tr_eq {b : Bool} {d : List DCell} {c : Nat} (h : TrR g l w (b, d, c)) (hw : w.length ≤ 60) : (b, c) = rTrivial g l w ∧ d.length = if b = true then (rS g l w).2.1 else 0 := by
  unfold TrR at h
  unfold rTrivial rS
  by_cases ha : ¬ rasked g l w = 0
  · rw [if_pos ha] at h ⊢
    cases h
    dsimp only
    rw [if_pos ha]; exact ⟨rfl, rfl⟩
  · rw [if_neg ha] at h ⊢
    obtain ⟨S, hS, h⟩ := h
    have h5 := (rasked_word ha).2
    have key := dsh_rshorten (rasked_pres ha) hS (isw_asked ha) (by omega)
    dsimp only
    rw [if_neg (by simp)]
    rw [trOf, dver_isDehn (rasked_pres ha) hS] at h
    by_cases hd : isDehn (symm l) = true
    · rw [if_pos hd] at h ⊢
      rw [key.1] at h
      by_cases he : (rshorten (symm l) w).1 = []
      · rw [if_pos he, if_neg (light hS.1 hw)] at h
        cases h
        exact ⟨by rw [decide_eq_true he], key.2⟩
      · rw [if_neg he] at h
        cases h
        exact ⟨by rw [decide_eq_false he], rfl⟩
    · rw [if_neg hd] at h ⊢
      cases h
      exact ⟨rfl, rfl⟩
theorem sq_step {a b : Nat} (h : a < b) : a * (a + 1) + 2 * b ≤ b * (b + 1) := by
  obtain ⟨c, rfl⟩ : ∃ c, b = c + 1 := ⟨b - 1, by omega⟩
  have h1 : a * (a + 1) ≤ c * (c + 1) := Nat.mul_le_mul (by omega) (by omega)
  have h2 : (c + 1) * (c + 1 + 1) = c * (c + 1) + 2 * (c + 1) := by
    rw [Nat.mul_add (c + 1) (c + 1) 1, Nat.add_mul c 1 (c + 1)]; omega
  omega
theorem cy_law {S : RS} (hp : pcheck g l = 0) (hS : SOk l S) : ∀ (f : Nat) (r cj : List UInt8) (d : List DCell) (F : Nat), r.length < f → r.length < F → isw r = true → d.length + r.length ≤ 60 → cj.length + r.length * (r.length + 1) ≤ 7900 → (∀ c ∈ d, c.conj.length ≤ 15000) →
    ∃ W d' cj', cyF S f r cj d = (W, d', cj', 0) ∧ (W, d'.length) = rcyc (symm l) F r d.length
  | 0, _, _, _, _, h, _, _, _, _, _ => by omega
  | f + 1, r, cj, d, F, hf, hF, hi, hd, hc, hcd => by
    have hw := words_symm hp hS
    rw [cyF]
    by_cases ht : dturn S.list r < 0
    · rw [if_pos ht]
      have h4 := conjs_le hcd
      have h5 : d.length * 15000 ≤ 60 * 15000 := Nat.mul_le_mul_right _ (by omega)
      rw [if_neg (by unfold Heavy; omega)]
      refine ⟨r, d, cj, rfl, ?_⟩
      have := turn_none ht
      rw [hw] at this
      rw [rcyc_stop this]
    · rw [if_neg ht]
      obtain ⟨k, hk⟩ : ∃ k : Nat, ((k : Nat) : Int) = dturn S.list r := ⟨(dturn S.list r).toNat, by omega⟩
      rw [← hk, Int.toNat_natCast]
      have hlt := turn_lt hk
      have hsome := turn_some hk
      rw [hw] at hsome
      have hda := dsh_all hS.1 (w := rot r k) (by rw [rot_length]; omega)
      rw [rot_length] at hda
      have key := dsh_rshorten hp hS (rot_is hi k) (by rw [rot_length]; omega)
      have j1 := jnd_len cj (r.take k)
      rw [List.length_take] at j1
      have j2 := jnd_len (jnd cj (r.take k)) (wConj (dsh S (rot r k)).1)
      have j3 := wConj_length (dsh S (rot r k)).1
      have j4 := wCore_length (dsh S (rot r k)).1
      have hsq := sq_step (show (wCore (dsh S (rot r k)).1).length < r.length by omega)
      have hfit : fitsJ (jnd cj (r.take k)) (dsh S (rot r k)).2 = true := by
        rw [fitsJ, List.all_eq_true]
        intro c hc'
        have := jnd_len (jnd cj (r.take k)) c.conj
        have := hda.2.2 c hc'
        rw [decide_eq_true_eq]; omega
      rw [if_neg (by rw [hfit]; decide), if_pos ⟨by omega, by omega⟩]
      obtain ⟨W, d', cj', e1, e2⟩ := cy_law hp hS f (wCore (dsh S (rot r k)).1) (jnd (jnd cj (r.take k)) (wConj (dsh S (rot r k)).1)) (d ++ (dsh S (rot r k)).2.map (cellJ (jnd cj (r.take k)))) (F - 1) (by omega) (by omega) (wCore_is _) (by rw [List.length_append, List.length_map]; omega) (by omega) (fun c hc' => by
        rcases List.mem_append.1 hc' with q | q
        · exact hcd c q
        · obtain ⟨c2, hc2, rfl⟩ := List.mem_map.1 q
          have a1 := jnd_len (jnd cj (r.take k)) c2.conj
          have a2 := hda.2.2 c2 hc2
          show (jnd (jnd cj (r.take k)) c2.conj).length ≤ 15000
          omega)
      refine ⟨W, d', cj', e1, ?_⟩
      rw [e2, rcyc_go hF hsome, key.1, List.length_append, List.length_map, key.2]
theorem cy_eq {W cj : List UInt8} {d : List DCell} {c : Nat} (h : CyR g l w (W, d, cj, c)) (hw : w.length ≤ 60) : (W, d.length, c) = rCyclic g l w := by
  unfold CyR at h
  unfold rCyclic rS
  by_cases ha : ¬ rasked g l w = 0
  · rw [if_pos ha] at h ⊢
    cases h
    dsimp only
    rw [if_pos ha]; rfl
  · rw [if_neg ha] at h ⊢
    obtain ⟨S, hS, h⟩ := h
    have key := dsh_rshorten (rasked_pres ha) hS (isw_asked ha) (by omega)
    have hda := dsh_all hS.1 (w := w) (by omega)
    have j3 := wConj_length (dsh S w).1
    have j4 := wCore_length (dsh S w).1
    dsimp only
    rw [if_neg (by simp)]
    have hsq : (wCore (dsh S w).1).length * ((wCore (dsh S w).1).length + 1) ≤ 60 * 61 := Nat.mul_le_mul (by omega) (by omega)
    obtain ⟨W', d', cj', e1, e2⟩ := cy_law (rasked_pres ha) hS ((wCore (dsh S w).1).length + 1) (wCore (dsh S w).1) (wConj (dsh S w).1) (dsh S w).2 ((wCore (dsh S w).1).length + 1) (by omega) (by omega) (wCore_is _) (by omega) (by omega) (fun c hc => Nat.le_trans (hda.2.2 c hc) (by decide))
    rw [cyOf, e1] at h
    cases h
    rw [key.1, key.2] at e2
    rw [← e2]
end
end Go.Proofs.YtaccklloepfemaaDoor

namespace Go.Proofs.YtaccklloepfemaaDoor
set_option linter.unusedVariables false
set_option linter.unusedSimpArgs false
open Go Go.RowKit V
def sf : List (List UInt8) := [[97, 98, 65, 66, 99, 100, 67, 68]]
theorem sane_1 : rS 4 sf [97, 98, 65, 66, 99] = ([100, 99, 68], 1, 0) := by decide +kernel
theorem sane_2 : rTrivial 4 sf [97, 98, 65, 66, 99, 100, 67, 68] = (true, 0) ∧ (rS 4 sf [97, 98, 65, 66, 99, 100, 67, 68]).2.1 = 1 := by decide +kernel
theorem sane_3 : rTrivial 4 sf [97, 98] = (false, 0) := by decide +kernel
theorem sane_4 : rStuck 4 sf [97, 98, 65, 66] = (true, 0) := by decide +kernel
theorem sane_5 : rCyclic 4 sf [98, 97, 98, 65, 66, 99, 100, 67, 68, 66] = ([], 1, 0) := by decide +kernel
theorem sane_6 : (rS 1 [[97, 97, 97, 97, 97]] [97, 97, 97]).1 = [65, 65] ∧ (rS 1 [[97, 97, 97, 97, 97]] [97, 97, 97]).2.2 = 0 := by decide +kernel
theorem sane_7 : rVerified 4 sf = 0 := by decide +kernel
theorem sane_8 : rVerified 1 [[97, 97, 97, 97, 97]] = 0 := by decide +kernel
theorem sane_9 : rVerified 2 [[97, 98, 65, 66]] = 230 := by decide +kernel
end Go.Proofs.YtaccklloepfemaaDoor

namespace Go.Proofs.YtaccklloepfemaaDoor
open Go Go.RowKit V
set_option maxRecDepth 100000
set_option linter.unusedVariables false
set_option linter.unusedSimpArgs false
theorem pl24 : structPlaces Tryd.prog 24 = some [(0, 1), (1, 1)] := by kernel_rfl
theorem u24 : type_of% @Tryd.underlying24 := @Tryd.underlying24
theorem z24 : zeroOf Tryd.prog 24 = some (.agg #[.int .i64 0, .slice none 0 0]) := by kernel_rfl

theorem s_Sh2 {g : Int} {u : Value} {l : List (List UInt8)} {w : List UInt8} {A : AH} (hn : l.length ≤ 1000000) (hL : Lets A) (hu : Slc A 1 u (strs l)) (h60 : w.length ≤ 60 ∨ 5000 < w.length) (hw : w.length ≤ 100000) : RetA Tryd.prog 19 #[.agg #[num g, u], str w] A (fun v A1 => ∃ d dv, v = .tuple #[.agg #[str (rS g l w).1, num (((rS g l w).2.1 : Nat) : Int), dv], num (((rS g l w).2.2 : Nat) : Int)] ∧ A.le A1 ∧ A1.wf ∧ Fresh A A1 dv 3 (dcells d) ∧ d.length = (rS g l w).2.1) :=
  (s_Sh g u l w A hn hL hw hu).mono fun v A1 h => by
    obtain ⟨W, d, c, dv, e1, e2, e3, e4, e5⟩ := h
    obtain ⟨a, b, c'⟩ := sh_eq e5 h60
    exact ⟨d, dv, by rw [e1, ← a, ← b, ← c'], e2, e3, e4, b⟩
theorem s_ShC {g : Int} {u : Value} {l : List (List UInt8)} {w : List UInt8} {A : AH} (hn : l.length ≤ 1000000) (hL : Lets A) (hu : Slc A 1 u (strs l)) {W : List UInt8} (e : rS g l w = (W, 1, 0)) (hw : w.length ≤ 60) : RetA Tryd.prog 19 #[.agg #[num g, u], str w] A (fun v A1 => ∃ c dv, v = .tuple #[.agg #[str W, num ((1 : Nat) : Int), dv], num ((0 : Nat) : Int)] ∧ A.le A1 ∧ A1.wf ∧ Fresh A A1 dv 3 (dcells [c])) :=
  (s_Sh2 hn hL hu (.inl hw) (by omega)).mono fun v A1 h => by
    obtain ⟨d, dv, e1, e2, e3, e4, e5⟩ := h
    rw [e] at e1 e5
    obtain ⟨c, rfl⟩ : ∃ c, d = [c] := List.length_eq_one_iff.1 e5
    exact ⟨c, dv, e1, e2, e3, e4⟩
theorem s_ShD {g : Int} {u : Value} {l : List (List UInt8)} {w : List UInt8} {A : AH} (hn : l.length ≤ 1000000) (hL : Lets A) (hu : Slc A 1 u (strs l)) {W : List UInt8} (e : (rS g l w).1 = W ∧ (rS g l w).2.2 = 0) (hw : w.length ≤ 60) : RetA Tryd.prog 19 #[.agg #[num g, u], str w] A (fun v A1 => ∃ (n : Nat) (d : List DCell) (dv : Value), v = .tuple #[.agg #[str W, num ((n : Nat) : Int), dv], num ((0 : Nat) : Int)] ∧ A.le A1 ∧ A1.wf ∧ Fresh A A1 dv 3 (dcells d)) :=
  (s_Sh2 hn hL hu (.inl hw) (by omega)).mono fun v A1 h => by
    obtain ⟨d, dv, e1, e2, e3, e4, e5⟩ := h
    rw [e.1, e.2] at e1
    exact ⟨_, d, dv, e1, e2, e3, e4⟩
theorem s_St2 {g : Int} {u : Value} {l : List (List UInt8)} {w : List UInt8} {A : AH} (hn : l.length ≤ 1000000) (hL : Lets A) (hu : Slc A 1 u (strs l)) (hw : w.length ≤ 100000) : RetA Tryd.prog 17 #[.agg #[num g, u], str w] A (fun v A1 => v = .tuple #[.bool (rStuck g l w).1, num (((rStuck g l w).2 : Nat) : Int)] ∧ A.le A1 ∧ A1.wf) :=
  (s_St g u l w A hn hL hw hu).mono fun v A1 h => by
    obtain ⟨b, c, e1, e2, e3, e4⟩ := h
    have := st_eq e4
    exact ⟨by rw [e1, ← this], e2, e3⟩
theorem s_StC {g : Int} {u : Value} {l : List (List UInt8)} {w : List UInt8} {A : AH} (hn : l.length ≤ 1000000) (hL : Lets A) (hu : Slc A 1 u (strs l)) {b : Bool} {c : Nat} (e : rStuck g l w = (b, c)) (hw : w.length ≤ 100000) : RetA Tryd.prog 17 #[.agg #[num g, u], str w] A (fun v A1 => v = .tuple #[.bool b, num ((c : Nat) : Int)] ∧ A.le A1 ∧ A1.wf) :=
  (s_St2 hn hL hu hw).mono fun v A1 h => by rw [e] at h; exact h
theorem s_Ve2 {g : Int} {u : Value} {l : List (List UInt8)} {A : AH} (hn : l.length ≤ 1000000) (hL : Lets A) (hu : Slc A 1 u (strs l)) : RetA Tryd.prog 8 #[.agg #[num g, u]] A (fun v A1 => v = num ((rVerified g l : Nat) : Int) ∧ A.le A1 ∧ A1.wf) :=
  (s_Ve g u l A hn hL hu).mono fun v A1 h => by
    obtain ⟨c, e1, e2, e3, e4⟩ := h
    exact ⟨by rw [e1, ve_eq e4], e2, e3⟩
theorem s_VeC {g : Int} {u : Value} {l : List (List UInt8)} {A : AH} (hn : l.length ≤ 1000000) (hL : Lets A) (hu : Slc A 1 u (strs l)) {c : Nat} (e : rVerified g l = c) : RetA Tryd.prog 8 #[.agg #[num g, u]] A (fun v A1 => v = num ((c : Nat) : Int) ∧ A.le A1 ∧ A1.wf) :=
  (s_Ve2 hn hL hu).mono fun v A1 h => by rw [e] at h; exact h
theorem s_Tr2 {g : Int} {u : Value} {l : List (List UInt8)} {w : List UInt8} {A : AH} (hn : l.length ≤ 1000000) (hL : Lets A) (hu : Slc A 1 u (strs l)) (hw : w.length ≤ 60) : RetA Tryd.prog 11 #[.agg #[num g, u], str w] A (fun v A1 => ∃ d dv, v = .tuple #[.bool (rTrivial g l w).1, dv, num (((rTrivial g l w).2 : Nat) : Int)] ∧ A.le A1 ∧ A1.wf ∧ Fresh A A1 dv 3 (dcells d) ∧ d.length = if (rTrivial g l w).1 = true then (rS g l w).2.1 else 0) :=
  (s_Tr g u l w A hn hL (by omega) hu).mono fun v A1 h => by
    obtain ⟨b, d, c, dv, e1, e2, e3, e4, e5⟩ := h
    obtain ⟨a, a2⟩ := tr_eq e5 hw
    have a1 : (rTrivial g l w).1 = b := by rw [← a]
    have a3 : (rTrivial g l w).2 = c := by rw [← a]
    exact ⟨d, dv, by rw [a1, a3]; exact e1, e2, e3, e4, by rw [a1]; exact a2⟩
theorem s_TrC {g : Int} {u : Value} {l : List (List UInt8)} {w : List UInt8} {A : AH} (hn : l.length ≤ 1000000) (hL : Lets A) (hu : Slc A 1 u (strs l)) (e : rTrivial g l w = (true, 0) ∧ (rS g l w).2.1 = 1) (hw : w.length ≤ 60) : RetA Tryd.prog 11 #[.agg #[num g, u], str w] A (fun v A1 => ∃ c dv, v = .tuple #[.bool true, dv, num ((0 : Nat) : Int)] ∧ A.le A1 ∧ A1.wf ∧ Fresh A A1 dv 3 (dcells [c])) :=
  (s_Tr2 hn hL hu hw).mono fun v A1 h => by
    obtain ⟨d, dv, e1, e2, e3, e4, e5⟩ := h
    rw [e.1] at e1 e5
    rw [if_pos rfl, e.2] at e5
    obtain ⟨c, rfl⟩ : ∃ c, d = [c] := List.length_eq_one_iff.1 e5
    exact ⟨c, dv, e1, e2, e3, e4⟩
theorem s_TrD {g : Int} {u : Value} {l : List (List UInt8)} {w : List UInt8} {A : AH} (hn : l.length ≤ 1000000) (hL : Lets A) (hu : Slc A 1 u (strs l)) {b : Bool} (e : rTrivial g l w = (b, 0)) (hw : w.length ≤ 60) : RetA Tryd.prog 11 #[.agg #[num g, u], str w] A (fun v A1 => ∃ d dv, v = .tuple #[.bool b, dv, num ((0 : Nat) : Int)] ∧ A.le A1 ∧ A1.wf ∧ Fresh A A1 dv 3 (dcells d)) :=
  (s_Tr2 hn hL hu hw).mono fun v A1 h => by
    obtain ⟨d, dv, e1, e2, e3, e4, e5⟩ := h
    rw [e] at e1
    exact ⟨d, dv, e1, e2, e3, e4⟩
theorem s_Cy2 {g : Int} {u : Value} {l : List (List UInt8)} {w : List UInt8} {A : AH} (hn : l.length ≤ 1000000) (hL : Lets A) (hu : Slc A 1 u (strs l)) (hw : w.length ≤ 60) : RetA Tryd.prog 20 #[.agg #[num g, u], str w] A (fun v A1 => ∃ d cj dv, v = .tuple #[.agg #[str (rCyclic g l w).1, num (((rCyclic g l w).2.1 : Nat) : Int), dv], str cj, num (((rCyclic g l w).2.2 : Nat) : Int)] ∧ A.le A1 ∧ A1.wf ∧ Fresh A A1 dv 3 (dcells d) ∧ d.length = (rCyclic g l w).2.1) :=
  (s_Cy g u l w A hn hL (by omega) hu).mono fun v A1 h => by
    obtain ⟨W, d, cj, c, dv, e1, e2, e3, e4, e5⟩ := h
    have a := cy_eq e5 hw
    exact ⟨d, cj, dv, by rw [← a]; exact e1, e2, e3, e4, by rw [← a]⟩
theorem s_CyC {g : Int} {u : Value} {l : List (List UInt8)} {w : List UInt8} {A : AH} (hn : l.length ≤ 1000000) (hL : Lets A) (hu : Slc A 1 u (strs l)) {W : List UInt8} {n c : Nat} (e : rCyclic g l w = (W, n, c)) (hw : w.length ≤ 60) : RetA Tryd.prog 20 #[.agg #[num g, u], str w] A (fun v A1 => ∃ d cj dv, v = .tuple #[.agg #[str W, num ((n : Nat) : Int), dv], str cj, num ((c : Nat) : Int)] ∧ A.le A1 ∧ A1.wf ∧ Fresh A A1 dv 3 (dcells d)) :=
  (s_Cy2 hn hL hu hw).mono fun v A1 h => by
    obtain ⟨d, cj, dv, e1, e2, e3, e4, e5⟩ := h
    rw [e] at e1
    exact ⟨d, cj, dv, e1, e2, e3, e4⟩
def small (l ws : List (List UInt8)) : Bool := decide (l.length ≤ 8) && decide (¬ 0 ≤ ifl (fun r => decide (40 < r.length)) l) && decide (¬ 0 ≤ ifl (fun r => decide (60 < r.length)) ws)
theorem small_len {l ws : List (List UInt8)} (h : small l ws = true) : l.length ≤ 8 ∧ (∀ r ∈ l, r.length ≤ 40) ∧ ∀ r ∈ ws, r.length ≤ 60 := by
  simp only [small, Bool.and_eq_true, decide_eq_true_eq] at h
  obtain ⟨⟨h1, h2⟩, h3⟩ := h
  refine ⟨h1, fun r hr => ?_, fun r hr => ?_⟩
  · apply Classical.byContradiction
    intro q
    exact h2 ((ifl_any _ _).2 (List.any_eq_true.2 ⟨r, hr, by simp; omega⟩))
  · apply Classical.byContradiction
    intro q
    exact h3 ((ifl_any _ _).2 (List.any_eq_true.2 ⟨r, hr, by simp; omega⟩))


theorem s_small (g : Int) (u : Value) (l : List (List UInt8)) (wv : Value) (ws : List (List UInt8)) (A : AH) (hn : l.length ≤ 9223372036854775807) (hnw : ws.length ≤ 9223372036854775807) (hu : Slc A 1 u (strs l)) (hv : Slc A 1 wv (strs ws)) : RetA Tryd.prog 7 #[.agg #[num (g), u], wv] A (fun v A1 => v = .bool (small l ws) ∧ A.le A1 ∧ A1.wf) := by
 refine enterA (e := [(0, .agg #[num (g), u]), (1, wv)]) (args := [.agg #[num (g), u], wv]) Tryd.call7 Tryd.func7 rfl Tryd.results7 Tryd.ntmps7 rfl rfl rfl (fun wf => ?_)
 have le_ := AH.le.refl A
 refine Run.seq fun K1 h2 => .region <| .l rfl (fun _ _ hk3 _ => wbox wf rfl rfl fun A5 b4 nb6 => ?_)
 have le7 := le_.trans nb6.le
 refine hk3 _ _ <| .q rfl (qassign rfl) <| .nil <| h2 _ _ <| .seq fun K8 h9 => .region <| .q rfl (qfieldAddr fl24_1 sz22 (by decide) rfl) <| .q rfl (qloadAt ag22 rfl rfl nb6.get rfl) <| .q rfl (qlenS (n := l.length) u22 rfl (hu.le le7) (by omega) (strs_len _)) <| .q rfl (qleqN (b := 8) rfl rfl) ?_
 refine Ops.q rfl (qmove rfl) <| .part (t := 9) rfl (fun p10 => ?_) (fun p10 => ?_)
 ·
  refine Ops.on rfl rfl <| .q rfl (qfieldAddr fl24_1 sz22 (by decide) rfl) <| .on rfl rfl <| .q rfl (qloadAt ag22 rfl rfl nb6.get rfl) <| .on rfl rfl <| .l rfl (fun _ _ hk11 _ => vcallF rfl (s_ContainsFuncL 24 #[] (fun r => decide (40 < r.length)) u l A5 (by omega) (hu.le le7) (fun s hs B le wf => s_small1 s B)) ?_)
  rintro v12 A13 ⟨rfl, leq14, wfq14⟩
  have le16 := le7.trans leq14
  refine hk11 _ _ <| .on rfl rfl <| .q rfl (qnotP rfl) <| .q rfl (qpickT rfl rfl) <| .q rfl (qmove rfl) <| .part (t := 15) rfl (fun p17 => ?_) (fun p17 => ?_)
  ·
   refine Ops.on rfl rfl <| .q rfl (qmove rfl) <| .on rfl rfl <| .l rfl (fun _ _ hk18 _ => vcallF rfl (s_ContainsFuncL 25 #[] (fun r => decide (60 < r.length)) wv ws A13 (by omega) (hv.le le16) (fun s hs B le wf => s_small2 s B)) ?_)
   rintro v19 A20 ⟨rfl, leq21, wfq21⟩
   have le23 := le16.trans leq21
   refine hk18 _ _ <| .on rfl rfl <| .q rfl (qnotP rfl) <| .q rfl (qpickT rfl rfl) <| .q rfl (qassign rfl) <| .nil <| h9 _ _ <| .ret ?_
   repeat first | with_reducible refine thenQ_ret ?_ | with_reducible refine blockQ_ret ?_
   exact retQ rfl (⟨by first | (rw [small, decide_eq_false ‹¬ l.length ≤ 8›]; rfl) | (rw [small, decide_eq_true ‹l.length ≤ 8›, decide_eq_false ‹¬ ¬ 0 ≤ ifl (fun r => decide (40 < r.length)) l›]; rfl) | (rw [small, decide_eq_true ‹l.length ≤ 8›, decide_eq_true ‹¬ 0 ≤ ifl (fun r => decide (40 < r.length)) l›]; rfl), le23, wfq21⟩)
  ·
   refine Ops.off rfl rfl rfl rfl <| .off rfl rfl rfl rfl <| .off rfl rfl rfl rfl <| .q rfl (qpickF rfl rfl) <| .q rfl (qassign rfl) <| .nil <| h9 _ _ <| .ret ?_
   repeat first | with_reducible refine thenQ_ret ?_ | with_reducible refine blockQ_ret ?_
   exact retQ rfl (⟨by first | (rw [small, decide_eq_false ‹¬ l.length ≤ 8›]; rfl) | (rw [small, decide_eq_true ‹l.length ≤ 8›, decide_eq_false ‹¬ ¬ 0 ≤ ifl (fun r => decide (40 < r.length)) l›]; rfl) | (rw [small, decide_eq_true ‹l.length ≤ 8›, decide_eq_true ‹¬ 0 ≤ ifl (fun r => decide (40 < r.length)) l›]; rfl), le16, wfq14⟩)
 ·
  refine Ops.off rfl rfl rfl rfl <| .off rfl rfl rfl rfl <| .off rfl rfl rfl rfl <| .off rfl rfl rfl rfl <| .q rfl (qpickF rfl rfl) <| .q rfl (qmove rfl) <| .off rfl rfl rfl rfl <| .off rfl rfl rfl rfl <| .off rfl rfl rfl rfl <| .q rfl (qpickF rfl rfl) ?_
  refine Ops.q rfl (qassign rfl) <| .nil <| h9 _ _ <| .ret ?_
  repeat first | with_reducible refine thenQ_ret ?_ | with_reducible refine blockQ_ret ?_
  exact retQ rfl (⟨by first | (rw [small, decide_eq_false ‹¬ l.length ≤ 8›]; rfl) | (rw [small, decide_eq_true ‹l.length ≤ 8›, decide_eq_false ‹¬ ¬ 0 ≤ ifl (fun r => decide (40 < r.length)) l›]; rfl) | (rw [small, decide_eq_true ‹l.length ≤ 8›, decide_eq_true ‹¬ 0 ≤ ifl (fun r => decide (40 < r.length)) l›]; rfl), le7, nb6.wf⟩)

theorem s_Surf (A : AH) : RetA Tryd.prog 22 #[] A (fun v A1 => ∃ u, v = .agg #[num ((4 : Nat) : Int), u] ∧ A.le A1 ∧ A1.wf ∧ Fresh A A1 u 1 (strs sf)) := by
 refine enterA (e := []) (args := []) Tryd.call22 Tryd.func22 rfl Tryd.results22 Tryd.ntmps22 rfl rfl rfl (fun wf => ?_)
 have le_ := AH.le.refl A
 refine Run.seq fun K1 h2 => .region <| .l rfl (fun _ _ hk3 _ => walloc wf z24 rfl fun A5 b4 nb6 => ?_)
 have ge_b4 := none_of wf (Nat.le_trans le_.n nb6.lo)
 have le7 := le_.trans nb6.le
 refine hk3 _ _ <| .nil <| h2 _ _ <| .seq fun K8 h9 => .region <| .l rfl (fun _ _ hk10 _ => wbuildSlice (c := [str ([97, 98, 65, 66, 99, 100, 67, 68])]) nb6.wf rfl (buildSliceV_of u22 sz9 z9 rfl (by decide) (by decide) rfl) fun A12 b11 nb13 => ?_)
 have ne_b4_b11 := ne_new nb6.wf nb6.get nb13.lo
 have ge_b11 := none_of wf (Nat.le_trans le7.n nb13.lo)
 have h14 := nb13.le.get _ _ nb6.get
 have le15 := le7.trans nb13.le
 refine hk10 _ _ <| .q rfl (qbuild rfl (buildV_struct u24 z24 pl24 rfl)) <| .l rfl (fun _ _ hk16 _ => wstore (cs := [num ((4 : Nat) : Int), .slice (some ⟨b11, 0, none⟩) 1 1]) (c' := [num ((4 : Nat) : Int), .slice (some ⟨b11, 0, none⟩) 1 1]) nb13.wf rfl rfl rfl rfl sz24 h14 (Nat.le_of_ble_eq_true rfl) rfl rfl fun A17 sb18 => ?_)
 have h19 := sb18.keep _ _ ne_b4_b11.symm nb13.get
 have le20 := le_store le15 wf ge_b4 sb18.n sb18.keep
 refine hk16 _ _ <| .nil <| h9 _ _ <| .ret ?_
 repeat first | with_reducible refine thenQ_ret ?_ | with_reducible refine blockQ_ret ?_
 exact retQ (resCell ag24 sz24 rfl sb18.get rfl resNil) (⟨_, rfl, le20, sb18.wf, (Fresh.lit h19 ge_b11 rfl (Nat.le_refl _) : Fresh A _ _ 1 [str [97, 98, 65, 66, 99, 100, 67, 68]])⟩)

theorem s_sane (A : AH) (hL : Lets A) : RetA Tryd.prog 6 #[] A (fun v A1 => v = .bool true ∧ A.le A1 ∧ A1.wf) := by
 refine enterA (e := []) (args := []) Tryd.call6 Tryd.func6 rfl Tryd.results6 Tryd.ntmps6 rfl rfl rfl (fun wf => ?_)
 have le_ := AH.le.refl A
 refine Run.seq fun K1 h2 => .region <| .q rfl (qassign rfl) <| .nil <| h2 _ _ <| .seq fun K3 h4 => .region <| .l rfl (fun _ _ hk5 _ => vcallF rfl (s_Surf A) ?_)
 rintro v6 A7 ⟨uq8, rfl, leq8, wfq8, frq8⟩
 have le9 := le_.trans leq8
 have fr10 := frq8.base le_
 refine hk5 _ _ <| .l rfl (fun _ _ hk11 _ => walloc wfq8 z24 rfl fun A13 b12 nb14 => ?_)
 have no15 := fr10.own.ne_new wfq8 nb14.lo
 have ge_b12 := none_of wf (Nat.le_trans le9.n nb14.lo)
 have fr16 := fr10.le nb14.le
 have le17 := le9.trans nb14.le
 refine hk11 _ _ ?_
 obtain ⟨p19, l19, c19, q19, _⟩ := fr16.own.slice
 subst q19
 refine Ops.l rfl (fun _ _ hk18 _ => wstore (cs := [num ((4 : Nat) : Int), .slice p19 l19 c19]) (c' := [num ((4 : Nat) : Int), .slice p19 l19 c19]) nb14.wf rfl rfl rfl rfl sz24 nb14.get (Nat.le_of_ble_eq_true rfl) rfl rfl fun A20 sb21 => ?_)
 have fr22 := fr16.keep sb21.keep no15
 have le23 := le_store le17 wf ge_b12 sb21.n sb21.keep
 refine hk18 _ _ <| .nil <| h4 _ _ <| .seq fun K24 h25 => .region <| .q rfl (qloadAggAt ag24 sz24 rfl rfl sb21.get rfl) <| .l rfl (fun _ _ hk26 _ => vcallF rfl (s_ShC (g := ((4 : Nat) : Int)) (w := [97, 98, 65, 66, 99]) (by decide) (hL.le le23) fr22.slc sane_1 (by decide)) ?_)
 rintro v27 A28 ⟨cq29, dvq29, rfl, leq29, wfq29, frq29⟩
 have h30 := leq29.get _ _ sb21.get
 have fr31 := fr22.le leq29
 have le32 := le23.trans leq29
 have fr33 := frq29.base le23
 refine hk26 _ _ <| .q rfl (qmove rfl) <| .q rfl (qextract rfl rfl) <| .q rfl (qextract rfl rfl) <| .l rfl (fun _ _ hk35 _ => walloc wfq29 z46 rfl fun A37 b36 nb38 => ?_)
 have ne_b12_b36 := ne_new wfq29 h30 nb38.lo
 have no39 := fr31.own.ne_new wfq29 nb38.lo
 have no40 := fr33.own.ne_new wfq29 nb38.lo
 have ge_b36 := none_of wf (Nat.le_trans le32.n nb38.lo)
 have h41 := nb38.le.get _ _ h30
 have fr42 := fr31.le nb38.le
 have fr43 := fr33.le nb38.le
 have le44 := le32.trans nb38.le
 refine hk35 _ _ ?_
 obtain ⟨p46, l46, c46, q46, _⟩ := fr43.own.slice
 subst q46
 refine Ops.l rfl (fun _ _ hk45 _ => wstore (cs := [str ([100, 99, 68]), num ((1 : Nat) : Int), .slice p46 l46 c46]) (c' := [str ([100, 99, 68]), num ((1 : Nat) : Int), .slice p46 l46 c46]) nb38.wf rfl rfl rfl rfl sz46 nb38.get (Nat.le_of_ble_eq_true rfl) rfl rfl fun A47 sb48 => ?_)
 have h49 := sb48.keep _ _ ne_b12_b36 h41
 have fr50 := fr42.keep sb48.keep no39
 have fr51 := fr43.keep sb48.keep no40
 have le52 := le_store le44 wf ge_b36 sb48.n sb48.keep
 refine hk45 _ _ <| .q rfl (qassign rfl) <| .nil <| h25 _ _ <| .seq fun K53 h54 => .region <| .q rfl (qloadAggAt ag24 sz24 rfl rfl h49 rfl) <| .l rfl (fun _ _ hk55 _ => vcallF rfl (s_TrC (g := ((4 : Nat) : Int)) (w := [97, 98, 65, 66, 99, 100, 67, 68]) (by decide) (hL.le le52) fr50.slc sane_2 (by decide)) ?_)
 rintro v56 A57 ⟨cq58, dvq58, rfl, leq58, wfq58, frq58⟩
 have h59 := leq58.get _ _ h49
 have h60 := leq58.get _ _ sb48.get
 have fr61 := fr50.le leq58
 have fr62 := fr51.le leq58
 have le63 := le52.trans leq58
 have fr64 := frq58.base le52
 refine hk55 _ _ <| .q rfl (qmove rfl) <| .q rfl (qextract rfl rfl) <| .q rfl (qextract rfl rfl) <| .q rfl (qextract rfl rfl) <| .q rfl (qassign rfl) <| .q rfl (qassign rfl) <| .q rfl (qassign rfl) <| .nil <| h54 _ _ ?_
 refine Run.seq fun K67 h68 => .region <| .q rfl (qloadAggAt ag24 sz24 rfl rfl h59 rfl) <| .l rfl (fun _ _ hk69 _ => vcallF rfl (s_TrD (g := ((4 : Nat) : Int)) (w := [97, 98]) (by decide) (hL.le le63) fr61.slc sane_3 (by decide)) ?_)
 rintro v70 A71 ⟨dq72, dvq72, rfl, leq72, wfq72, frq72⟩
 have h73 := leq72.get _ _ h59
 have h74 := leq72.get _ _ h60
 have fr75 := fr61.le leq72
 have fr76 := fr62.le leq72
 have fr77 := fr64.le leq72
 have le78 := le63.trans leq72
 refine hk69 _ _ <| .q rfl (qmove rfl) <| .q rfl (qextract rfl rfl) <| .q rfl (qextract rfl rfl) <| .q rfl (qextract rfl rfl) <| .q rfl (qassign rfl) <| .q rfl (qassign rfl) <| .q rfl (qassign rfl) <| .nil <| h68 _ _ ?_
 refine Run.seq fun K82 h83 => .region <| .q rfl (qloadAggAt ag24 sz24 rfl rfl h73 rfl) <| .l rfl (fun _ _ hk84 _ => vcallF rfl (s_StC (g := ((4 : Nat) : Int)) (w := [97, 98, 65, 66]) (by decide) (hL.le le78) fr75.slc sane_4 (by decide)) ?_)
 rintro v85 A86 ⟨rfl, leq87, wfq87⟩
 have h88 := leq87.get _ _ h73
 have h89 := leq87.get _ _ h74
 have fr90 := fr75.le leq87
 have fr91 := fr76.le leq87
 have fr92 := fr77.le leq87
 have le94 := le78.trans leq87
 refine hk84 _ _ <| .q rfl (qmove rfl) <| .q rfl (qextract rfl rfl) <| .q rfl (qextract rfl rfl) <| .q rfl (qassign rfl) <| .q rfl (qassign rfl) <| .nil <| h83 _ _ <| .seq fun K95 h96 => .seq fun K97 h98 => ?_
 refine Run.region <| .q rfl (qmove rfl) <| .q rfl (((qneqN (a := 0) (b := 0) rfl rfl).trans (congrArg (fun z => some (Value.bool z, [])) (decide_eq_false (fun q => q rfl))))) <| .q rfl (qmove rfl) <| .on rfl rfl <| .q rfl (qmove rfl) <| .on rfl rfl <| .q rfl (((qneqN (a := 0) (b := 0) rfl rfl).trans (congrArg (fun z => some (Value.bool z, [])) (decide_eq_false (fun q => q rfl))))) <| .q rfl (qpickF rfl rfl) <| .q rfl (qmove rfl) ?_
 refine Ops.on rfl rfl <| .q rfl (qmove rfl) <| .on rfl rfl <| .q rfl (((qneqN (a := 0) (b := 0) rfl rfl).trans (congrArg (fun z => some (Value.bool z, [])) (decide_eq_false (fun q => q rfl))))) <| .q rfl (qpickF rfl rfl) <| .q rfl (qmove rfl) <| .on rfl rfl <| .q rfl (qmove rfl) <| .on rfl rfl <| .q rfl (((qneqN (a := 0) (b := 0) rfl rfl).trans (congrArg (fun z => some (Value.bool z, [])) (decide_eq_false (fun q => q rfl))))) ?_
 refine Ops.q rfl (qpickF rfl rfl) <| .q rfl (qmove rfl) <| .on rfl rfl <| .q rfl (qfieldAddr fl46_0 sz9 (by decide) rfl) <| .on rfl rfl <| .q rfl (qloadAt ag9 rfl rfl h89 rfl) <| .on rfl rfl <| .q rfl (((qsneq rfl rfl).trans (congrArg (fun z => some (Value.bool z, [])) (decide_eq_false (fun q => q rfl))))) <| .q rfl (qpickF rfl rfl) <| .q rfl (qmove rfl) ?_
 refine Ops.on rfl rfl <| .q rfl (qfieldAddr fl46_1 sz3 (by decide) rfl) <| .on rfl rfl <| .q rfl (qloadAt ag3 rfl rfl h89 rfl) <| .on rfl rfl <| .q rfl (((qneqN (a := 1) (b := 1) rfl rfl).trans (congrArg (fun z => some (Value.bool z, [])) (decide_eq_false (fun q => q rfl))))) <| .q rfl (qpickF rfl rfl) <| .q rfl (qmove rfl) <| .on rfl rfl <| .q rfl (qfieldAddr fl46_2 sz30 (by decide) rfl) ?_
 refine Ops.on rfl rfl <| .q rfl (qloadAt ag30 rfl rfl h89 rfl) <| .on rfl rfl <| .q rfl (qlenS (n := 1) u30 rfl fr91.slc (by decide) rfl) <| .on rfl rfl <| .q rfl (((qneqN (a := 1) (b := 1) rfl rfl).trans (congrArg (fun z => some (Value.bool z, [])) (decide_eq_false (fun q => q rfl))))) <| .q rfl (qpickF rfl rfl) <| .q rfl (qmove rfl) <| .on rfl rfl <| .q rfl (qmove rfl) ?_
 refine Ops.on rfl rfl <| .q rfl (qnot rfl) <| .q rfl (qpickF rfl rfl) <| .q rfl (qmove rfl) <| .on rfl rfl <| .q rfl (qmove rfl) <| .on rfl rfl <| .q rfl (qlenS (n := 1) u30 rfl fr92.slc (by decide) rfl) <| .on rfl rfl <| .q rfl (((qneqN (a := 1) (b := 1) rfl rfl).trans (congrArg (fun z => some (Value.bool z, [])) (decide_eq_false (fun q => q rfl))))) ?_
 refine Ops.q rfl (qpickF rfl rfl) <| .q rfl (qmove rfl) <| .on rfl rfl <| .q rfl (qmove rfl) <| .q rfl (qpickF rfl rfl) <| .q rfl (qmove rfl) <| .on rfl rfl <| .q rfl (qmove rfl) <| .on rfl rfl <| .q rfl (qnot rfl) ?_
 refine Ops.q rfl (qpickF rfl rfl) <| .nil <| h98 _ _ <| .cond_false rfl <| .skip <| h96 _ _ <| .seq fun K99 h100 => .region <| .q rfl (qloadAggAt ag24 sz24 rfl rfl h88 rfl) <| .l rfl (fun _ _ hk101 _ => vcallF rfl (s_CyC (g := ((4 : Nat) : Int)) (w := [98, 97, 98, 65, 66, 99, 100, 67, 68, 66]) (by decide) (hL.le le94) fr90.slc sane_5 (by decide)) ?_)
 rintro v102 A103 ⟨dq104, cjq104, dvq104, rfl, leq104, wfq104, frq104⟩
 have h105 := leq104.get _ _ h88
 have fr107 := fr90.le leq104
 have le111 := le94.trans leq104
 have fr112 := frq104.base le94
 refine hk101 _ _ <| .q rfl (qmove rfl) <| .q rfl (qextract rfl rfl) <| .q rfl (qextract rfl rfl) <| .q rfl (qextract rfl rfl) <| .l rfl (fun _ _ hk115 _ => walloc wfq104 z46 rfl fun A117 b116 nb118 => ?_)
 have ne_b12_b116 := ne_new wfq104 h105 nb118.lo
 have no119 := fr107.own.ne_new wfq104 nb118.lo
 have ge_b116 := none_of wf (Nat.le_trans le111.n nb118.lo)
 have h124 := nb118.le.get _ _ h105
 have fr126 := fr107.le nb118.le
 have fr130 := fr112.le nb118.le
 have le131 := le111.trans nb118.le
 refine hk115 _ _ ?_
 obtain ⟨p133, l133, c133, q133, _⟩ := fr130.own.slice
 subst q133
 refine Ops.l rfl (fun _ _ hk132 _ => wstore (cs := [str ([]), num ((1 : Nat) : Int), .slice p133 l133 c133]) (c' := [str ([]), num ((1 : Nat) : Int), .slice p133 l133 c133]) nb118.wf rfl rfl rfl rfl sz46 nb118.get (Nat.le_of_ble_eq_true rfl) rfl rfl fun A134 sb135 => ?_)
 have h136 := sb135.keep _ _ ne_b12_b116 h124
 have fr138 := fr126.keep sb135.keep no119
 have le143 := le_store le131 wf ge_b116 sb135.n sb135.keep
 refine hk132 _ _ <| .q rfl (qassign rfl) <| .q rfl (qassign rfl) <| .nil <| h100 _ _ <| .seq fun K144 h145 => .region <| .l rfl (fun _ _ hk146 _ => wbuildSlice (c := [str ([97, 97, 97, 97, 97])]) sb135.wf rfl (buildSliceV_of u22 sz9 z9 rfl (by decide) (by decide) rfl) fun A148 b147 nb149 => ?_)
 have h155 := nb149.le.get _ _ h136
 have h157 := nb149.le.get _ _ sb135.get
 have fr158 := fr138.le nb149.le
 have le163 := le143.trans nb149.le
 refine hk146 _ _ <| .q rfl (qbuild rfl (buildV_struct u24 z24 pl24 rfl)) <| .l rfl (fun _ _ hk164 _ => walloc nb149.wf z24 rfl fun A166 b165 nb167 => ?_)
 have ne_b12_b165 := ne_new nb149.wf h155 nb167.lo
 have ne_b116_b165 := ne_new nb149.wf h157 nb167.lo
 have ne_b147_b165 := ne_new nb149.wf nb149.get nb167.lo
 have no168 := fr158.own.ne_new nb149.wf nb167.lo
 have ge_b165 := none_of wf (Nat.le_trans le163.n nb167.lo)
 have h173 := nb167.le.get _ _ h155
 have h175 := nb167.le.get _ _ h157
 have h176 := nb167.le.get _ _ nb149.get
 have fr177 := fr158.le nb167.le
 have le182 := le163.trans nb167.le
 refine hk164 _ _ <| .l rfl (fun _ _ hk183 _ => wstore (cs := [num ((1 : Nat) : Int), .slice (some ⟨b147, 0, none⟩) 1 1]) (c' := [num ((1 : Nat) : Int), .slice (some ⟨b147, 0, none⟩) 1 1]) nb167.wf rfl rfl rfl rfl sz24 nb167.get (Nat.le_of_ble_eq_true rfl) rfl rfl fun A184 sb185 => ?_)
 have h186 := sb185.keep _ _ ne_b12_b165 h173
 have h188 := sb185.keep _ _ ne_b116_b165 h175
 have h189 := sb185.keep _ _ ne_b147_b165 h176
 have fr190 := fr177.keep sb185.keep no168
 have le195 := le_store le182 wf ge_b165 sb185.n sb185.keep
 refine hk183 _ _ <| .nil <| h145 _ _ <| .seq fun K196 h197 => .region <| .q rfl (qloadAggAt ag24 sz24 rfl rfl sb185.get rfl) <| .l rfl (fun _ _ hk198 _ => vcallF rfl (s_ShD (g := ((1 : Nat) : Int)) (w := [97, 97, 97]) (by simp) (hL.le le195) (slc_row (n := 1) h189 rfl (Nat.le_refl _)) sane_6 (by decide)) ?_)
 rintro v199 A200 ⟨nq201, dq201, dvq201, rfl, leq201, wfq201, frq201⟩
 have h202 := leq201.get _ _ h186
 have h204 := leq201.get _ _ h188
 have h205 := leq201.get _ _ h189
 have h206 := leq201.get _ _ sb185.get
 have fr207 := fr190.le leq201
 have le212 := le195.trans leq201
 have fr213 := frq201.base le195
 refine hk198 _ _ <| .q rfl (qmove rfl) <| .q rfl (qextract rfl rfl) <| .q rfl (qextract rfl rfl) <| .l rfl (fun _ _ hk219 _ => walloc wfq201 z46 rfl fun A221 b220 nb222 => ?_)
 have ne_b12_b220 := ne_new wfq201 h202 nb222.lo
 have ne_b116_b220 := ne_new wfq201 h204 nb222.lo
 have ne_b147_b220 := ne_new wfq201 h205 nb222.lo
 have ne_b165_b220 := ne_new wfq201 h206 nb222.lo
 have no223 := fr207.own.ne_new wfq201 nb222.lo
 have ge_b220 := none_of wf (Nat.le_trans le212.n nb222.lo)
 have h229 := nb222.le.get _ _ h202
 have h231 := nb222.le.get _ _ h204
 have h232 := nb222.le.get _ _ h205
 have h233 := nb222.le.get _ _ h206
 have fr234 := fr207.le nb222.le
 have fr239 := fr213.le nb222.le
 have le240 := le212.trans nb222.le
 refine hk219 _ _ ?_
 obtain ⟨p242, l242, c242, q242, _⟩ := fr239.own.slice
 subst q242
 refine Ops.l rfl (fun _ _ hk241 _ => wstore (cs := [str ([65, 65]), num ((nq201 : Nat) : Int), .slice p242 l242 c242]) (c' := [str ([65, 65]), num ((nq201 : Nat) : Int), .slice p242 l242 c242]) nb222.wf rfl rfl rfl rfl sz46 nb222.get (Nat.le_of_ble_eq_true rfl) rfl rfl fun A243 sb244 => ?_)
 have h245 := sb244.keep _ _ ne_b12_b220 h229
 have h247 := sb244.keep _ _ ne_b116_b220 h231
 have h248 := sb244.keep _ _ ne_b147_b220 h232
 have h249 := sb244.keep _ _ ne_b165_b220 h233
 have fr250 := fr234.keep sb244.keep no223
 have le256 := le_store le240 wf ge_b220 sb244.n sb244.keep
 refine hk241 _ _ <| .q rfl (qassign rfl) <| .nil <| h197 _ _ <| .seq fun K257 h258 => .region <| .q rfl (qmove rfl) <| .q rfl (((qeqlN (a := 0) (b := 0) rfl rfl).trans (congrArg (fun z => some (Value.bool z, [])) (decide_eq_true rfl)))) <| .q rfl (qmove rfl) <| .on rfl rfl ?_
 refine Ops.q rfl (qmove rfl) <| .on rfl rfl <| .q rfl (((qeqlN (a := 0) (b := 0) rfl rfl).trans (congrArg (fun z => some (Value.bool z, [])) (decide_eq_true rfl)))) <| .q rfl (qpickT rfl rfl) <| .q rfl (qmove rfl) <| .on rfl rfl <| .q rfl (qfieldAddr fl46_0 sz9 (by decide) rfl) <| .on rfl rfl <| .q rfl (qloadAt ag9 rfl rfl h247 rfl) <| .on rfl rfl ?_
 refine Ops.q rfl (((qseql rfl rfl).trans (congrArg (fun z => some (Value.bool z, [])) (decide_eq_true rfl)))) <| .q rfl (qpickT rfl rfl) <| .q rfl (qmove rfl) <| .on rfl rfl <| .q rfl (qfieldAddr fl46_1 sz3 (by decide) rfl) <| .on rfl rfl <| .q rfl (qloadAt ag3 rfl rfl h247 rfl) <| .on rfl rfl <| .q rfl (((qeqlN (a := 1) (b := 1) rfl rfl).trans (congrArg (fun z => some (Value.bool z, [])) (decide_eq_true rfl)))) <| .q rfl (qpickT rfl rfl) ?_
 refine Ops.q rfl (qmove rfl) <| .on rfl rfl <| .q rfl (qfieldAddr fl46_0 sz9 (by decide) rfl) <| .on rfl rfl <| .q rfl (qloadAt ag9 rfl rfl sb244.get rfl) <| .on rfl rfl <| .q rfl (((qseql rfl rfl).trans (congrArg (fun z => some (Value.bool z, [])) (decide_eq_true rfl)))) <| .q rfl (qpickT rfl rfl) <| .q rfl (qmove rfl) <| .on rfl rfl ?_
 refine Ops.q rfl (qloadAggAt ag24 sz24 rfl rfl h245 rfl) <| .on rfl rfl <| .l rfl (fun _ _ hk259 _ => vcallF rfl (s_VeC (g := ((4 : Nat) : Int)) (by decide) (hL.le le256) fr250.slc sane_7) ?_)
 rintro v260 A261 ⟨rfl, leq262, wfq262⟩
 have h266 := leq262.get _ _ h248
 have h267 := leq262.get _ _ h249
 have le275 := le256.trans leq262
 refine hk259 _ _ <| .on rfl rfl <| .q rfl (((qeqlN (a := 0) (b := 0) rfl rfl).trans (congrArg (fun z => some (Value.bool z, [])) (decide_eq_true rfl)))) <| .q rfl (qpickT rfl rfl) <| .q rfl (qmove rfl) <| .on rfl rfl <| .q rfl (qloadAggAt ag24 sz24 rfl rfl h267 rfl) <| .on rfl rfl <| .l rfl (fun _ _ hk276 _ => vcallF rfl (s_VeC (g := ((1 : Nat) : Int)) (by simp) (hL.le le275) (slc_row (n := 1) h266 rfl (Nat.le_refl _)) sane_8) ?_)
 rintro v277 A278 ⟨rfl, leq279, wfq279⟩
 have le292 := le275.trans leq279
 refine hk276 _ _ <| .on rfl rfl <| .q rfl (((qeqlN (a := 0) (b := 0) rfl rfl).trans (congrArg (fun z => some (Value.bool z, [])) (decide_eq_true rfl)))) <| .q rfl (qpickT rfl rfl) <| .q rfl (qmove rfl) <| .on rfl rfl <| .l rfl (fun _ _ hk293 _ => wbuildSlice (c := [str ([97, 98, 65, 66])]) wfq279 rfl (buildSliceV_of u22 sz9 z9 rfl (by decide) (by decide) rfl) fun A295 b294 nb296 => ?_)
 have le315 := le292.trans nb296.le
 refine hk293 _ _ <| .on rfl rfl <| .q rfl (qbuild rfl (buildV_struct u24 z24 pl24 rfl)) <| .on rfl rfl <| .l rfl (fun _ _ hk316 _ => vcallF rfl (s_VeC (g := ((2 : Nat) : Int)) (by simp) (hL.le le315) (slc_row (n := 1) nb296.get rfl (Nat.le_refl _)) sane_9) ?_)
 rintro v317 A318 ⟨rfl, leq319, wfq319⟩
 have le333 := le315.trans leq319
 refine hk316 _ _ <| .on rfl rfl <| .q rfl (((qeqlN (a := 230) (b := 230) rfl rfl).trans (congrArg (fun z => some (Value.bool z, [])) (decide_eq_true rfl)))) <| .q rfl (qpickT rfl rfl) <| .q rfl (qassign rfl) <| .nil <| h258 _ _ <| .ret ?_
 repeat first | with_reducible refine thenQ_ret ?_ | with_reducible refine blockQ_ret ?_
 exact retQ rfl (⟨rfl, le333, wfq319⟩)
end Go.Proofs.YtaccklloepfemaaDoor

namespace Go.Proofs.YtaccklloepfemaaDoor
set_option linter.unusedVariables false
set_option linter.unusedSimpArgs false
open Go Go.RowKit V

/-! ### Reducing is the free group's equality -/
theorem push_back {s : List UInt8} (h : NC s) (c : UInt8) : push (push s (c ^^^ 32)) c = s := by
  by_cases q : 0 < s.length ∧ s.getD (s.length - 1) 0 = c ^^^ 32 ^^^ 32
  · have e : push s (c ^^^ 32) = s.take (s.length - 1) := by rw [push, if_pos q]
    rw [e]
    obtain ⟨q1, q2⟩ := q
    rw [flip_flip] at q2
    have hne : ¬ (0 < (s.take (s.length - 1)).length ∧ (s.take (s.length - 1)).getD ((s.take (s.length - 1)).length - 1) 0 = c ^^^ 32) := by
      rintro ⟨r1, r2⟩
      rw [List.length_take] at r1 r2
      rw [getD_take (by omega)] at r2
      have := h (s.length - 2) (by omega)
      rw [show s.length - 2 + 1 = s.length - 1 by omega, q2] at this
      rw [show min (s.length - 1) s.length - 1 = s.length - 2 by omega] at r2
      rw [r2, flip_flip] at this
      exact this rfl
    rw [push, if_neg hne, ← q2]
    have := take_next (s := s) (i := s.length - 1) (by omega)
    rw [this, show s.length - 1 + 1 = s.length by omega, List.take_length]
  · have e : push s (c ^^^ 32) = s ++ [c ^^^ 32] := by rw [push, if_neg q]
    rw [e, push, if_pos ⟨by simp, by rw [List.length_append, getD_right (by simp)]; simp⟩]
    simp
theorem push_pair {s : List UInt8} (h : NC s) (c : UInt8) : push (push s c) (c ^^^ 32) = s := by
  have := push_back h (c ^^^ 32)
  rwa [flip_flip] at this
theorem inv_cons (c : UInt8) (y : List UInt8) : inv (c :: y) = inv y ++ [c ^^^ 32] := by simp [inv]
theorem inv_app (a b : List UInt8) : inv (a ++ b) = inv b ++ inv a := by simp [inv]
theorem fold_inv : ∀ (x s : List UInt8), NC s → (inv x).foldl push (x.foldl push s) = s
  | [], s, _ => rfl
  | c :: y, s, h => by
    rw [inv_cons, List.foldl_append, show (c :: y).foldl push s = y.foldl push (push s c) from rfl, fold_inv y _ (h.pushC c)]
    exact push_pair h c
theorem fold_stack (s : List UInt8) (hs : NC s) : ∀ (b t : List UInt8), NC t → (b.foldl push t).foldl push s = b.foldl push (t.foldl push s)
  | [], _, _ => rfl
  | c :: b, t, ht => by
    rw [List.foldl_cons, List.foldl_cons, fold_stack s hs b _ (ht.pushC c)]
    congr 1
    by_cases q : 0 < t.length ∧ t.getD (t.length - 1) 0 = c ^^^ 32
    · have e : push t c = t.take (t.length - 1) := by rw [push, if_pos q]
      have e2 : t = t.take (t.length - 1) ++ [c ^^^ 32] := by
        have := take_next (s := t) (i := t.length - 1) (by omega)
        rw [q.2, show t.length - 1 + 1 = t.length by omega, List.take_length] at this
        exact this.symm
      rw [e]
      conv => rhs; rw [e2, List.foldl_append]
      exact (push_back (NC.ofFold _ _ hs) c).symm
    · have e : push t c = t ++ [c] := by rw [push, if_neg q]
      rw [e, List.foldl_append]; rfl
theorem nc_nil : NC [] := fun i hi => by simp at hi
theorem red_red (a : List UInt8) : red (red a) = red a := (NC.ofRed a).isRed
/-- Words that are equal in the free group. -/
def E (a b : List UInt8) : Prop := red a = red b
theorem E.rf (a : List UInt8) : E a a := rfl
theorem E.of {a b : List UInt8} (h : a = b) : E a b := by rw [h]; rfl
theorem E.sm {a b : List UInt8} (h : E a b) : E b a := Eq.symm h
theorem E.tr {a b c : List UInt8} (h : E a b) (k : E b c) : E a c := Eq.trans h k
theorem E.ofRed (a : List UInt8) : E (red a) a := red_red a
theorem red_app (a b : List UInt8) : red (a ++ b) = b.foldl push (red a) := by simp [red]
theorem red_both (a b : List UInt8) : red (a ++ b) = (red b).foldl push (red a) := by
  rw [red_app]
  exact (fold_stack (red a) (NC.ofRed a) b [] nc_nil).symm
theorem E.app {a a' b b' : List UInt8} (h : E a a') (k : E b b') : E (a ++ b) (a' ++ b') := by
  unfold E at h k ⊢
  rw [red_both, red_both, h, k]
theorem E.cancel (x : List UInt8) : E (x ++ inv x) [] := by
  show red (x ++ inv x) = red []
  rw [red_app]
  exact fold_inv x [] nc_nil
theorem E.cancel2 (x : List UInt8) : E (inv x ++ x) [] := by
  have := E.cancel (inv x)
  rwa [inv_twice] at this
theorem E.mid (a x b : List UInt8) : E (a ++ x ++ inv x ++ b) (a ++ b) := by
  have := ((E.rf a).app (E.cancel x)).app (E.rf b)
  simpa only [List.append_assoc, List.nil_append] using this
theorem E.mid2 (a x b : List UInt8) : E (a ++ inv x ++ x ++ b) (a ++ b) := by
  have := ((E.rf a).app (E.cancel2 x)).app (E.rf b)
  simpa only [List.append_assoc, List.nil_append] using this
theorem E.ofInv {a b : List UInt8} (h : E a b) : E (inv a) (inv b) := by
  have h1 : E (inv a ++ b ++ inv b) (inv a) := by
    have := E.mid (inv a) b []
    simpa only [List.append_nil] using this
  have h2 : E (inv a ++ b ++ inv b) (inv a ++ a ++ inv b) := ((E.rf _).app h.sm).app (E.rf _)
  have h3 : E (inv a ++ a ++ inv b) (inv b) := by
    have := E.mid2 [] a (inv b)
    simpa only [List.nil_append] using this
  exact h1.sm.tr (h2.tr h3)

/-! ### The words of the rules as conjugates of relators -/
theorem word_parts {r : List UInt8} (h : red r = r) : r = conj r ++ core r ++ inv (conj r) := by
  have hc := cycN_half r
  unfold conj core
  rw [h]
  have e1 : r = r.take (cycN r) ++ (r.drop (cycN r)) := (List.take_append_drop _ _).symm
  have e2 : r.drop (cycN r) = ((r.take (r.length - cycN r)).drop (cycN r)) ++ r.drop (r.length - cycN r) := by
    have := List.take_append_drop (r.length - 2 * cycN r) (r.drop (cycN r))
    rw [List.drop_drop, List.take_drop] at this
    rw [← this]
    congr 2
    · congr 1; omega
    · congr 1; omega
  have e3 : inv (r.take (cycN r)) = r.drop (r.length - cycN r) := by
    apply List.ext_getElem?
    intro i
    by_cases hi : i < cycN r
    · have hl : (inv (r.take (cycN r))).length = cycN r := by rw [inv_length, List.length_take]; omega
      have hp := lf_all (p := fun n => decide (2 * n + 2 ≤ r.length ∧ r.getD n 0 = r.getD (r.length - 1 - n) 0 ^^^ 32)) (b := r.length) (i := cycN r - 1 - i) (by unfold cycN at hi ⊢; omega)
      simp only [decide_eq_true_eq] at hp
      have g1 := inv_get (w := r.take (cycN r)) (i := i) (by rw [List.length_take]; omega)
      rw [List.length_take, getD_take (by omega), show min (cycN r) r.length - 1 - i = cycN r - 1 - i by omega, hp.2, flip_flip] at g1
      have g2 : (r.drop (r.length - cycN r)).getD i 0 = r.getD (r.length - 1 - (cycN r - 1 - i)) 0 := by
        rw [getD_drop]; congr 1; omega
      have g3 := g1.trans g2.symm
      have l2 : i < (r.drop (r.length - cycN r)).length := by rw [List.length_drop]; omega
      simp only [List.getD_eq_getElem?_getD, List.getElem?_eq_getElem (show i < (inv (r.take (cycN r))).length by omega), List.getElem?_eq_getElem l2, Option.getD_some] at g3
      rw [List.getElem?_eq_getElem (by omega), List.getElem?_eq_getElem l2, g3]
    · rw [List.getElem?_eq_none (by rw [inv_length, List.length_take]; omega), List.getElem?_eq_none (by rw [List.length_drop]; omega)]
  rw [e3, List.append_assoc, ← e2]
  exact e1
def relOf (l : List (List UInt8)) (i : Nat) (iv : Bool) : List UInt8 := if iv then inv (l.getD i []) else l.getD i []
def RotOk (g : Int) (l : List (List UInt8)) (x : Rot) : Prop := x.r < l.length ∧ E x.w (x.c ++ relOf l x.r x.i ++ inv x.c) ∧ x.c.all (okc g) = true ∧ x.w.all (okc g) = true
theorem okc_flipg (g : Int) {c : UInt8} (h : okc g c = true) : okc g (c ^^^ 32) = true := by
  have key : ∀ c : UInt8, 0 ≤ ix c → 0 ≤ ix (c ^^^ 32) ∧ ix (c ^^^ 32) / 2 = ix c / 2 := all_u8 (by decide +kernel)
  simp only [okc, Bool.and_eq_true, decide_eq_true_eq] at h ⊢
  have := key c h.1
  omega
theorem all_sub {g : Int} {a b : List UInt8} (h : b.all (okc g) = true) (hs : ∀ c ∈ a, c ∈ b) : a.all (okc g) = true := by
  rw [List.all_eq_true] at h ⊢
  exact fun c hc => h c (hs c hc)
theorem all_inv {g : Int} {a : List UInt8} (h : a.all (okc g) = true) : (inv a).all (okc g) = true := by
  rw [List.all_eq_true] at h ⊢
  intro c hc
  simp only [inv, List.mem_reverse, List.mem_map] at hc
  obtain ⟨d, hd, rfl⟩ := hc
  exact okc_flipg g (h d hd)
theorem all_winv {g : Int} {a : List UInt8} (h : a.all (okc g) = true) : (wInverse a).all (okc g) = true := by
  unfold wInverse; split
  · exact all_inv h
  · rfl
theorem all_wred {g : Int} {a : List UInt8} (h : a.all (okc g) = true) : (wReduce a).all (okc g) = true := by
  unfold wReduce; split
  · exact all_sub h red_sub
  · rfl
theorem all_app {g : Int} {a b : List UInt8} (ha : a.all (okc g) = true) (hb : b.all (okc g) = true) : (a ++ b).all (okc g) = true := by
  rw [List.all_append, ha, hb]; rfl
theorem mkR_rel {g : Int} {l : List (List UInt8)} {i j : Nat} {iv : Bool} {r : List UInt8} (hi : i < l.length) (hr : relOf l i iv = r) (hn : red r = r) (hw : isw r = true) (ha : r.all (okc g) = true) (hl : r.length ≤ 200) :
    RotOk g l (mkR i iv (wCore r) (wConj r) j) := by
  have e1 : wCore r = core r := by rw [wCore, if_pos hw]
  have e2 : wConj r = conj r := by rw [wConj, if_pos hw]
  have hp := word_parts hn
  have hcl := core_length r
  have hsub : ∀ c ∈ core r, c ∈ r := fun c hc => by rw [hp]; simp [hc]
  have hsubc : ∀ c ∈ conj r, c ∈ r := fun c hc => by rw [hp]; simp [hc]
  have hjl : (conj r).length ≤ r.length := by
    have := congrArg List.length hp
    simp only [List.length_append] at this; omega
  have w1 : isw ((core r).take j) = true := isw_sub hw (fun c hc => hsub c (List.mem_of_mem_take hc)) (by rw [List.length_take]; omega)
  have w2 : isw (conj r) = true := isw_sub hw hsubc hjl
  have e3 : (mkR i iv (wCore r) (wConj r) j).c = red (inv ((core r).take j) ++ inv (conj r)) := by
    show wReduce (wInverse ((wCore r).take j) ++ wInverse (wConj r)) = _
    rw [e1, e2, wInverse, if_pos w1, wInverse, if_pos w2, wReduce, if_pos]
    exact isw_app (isw_inv w1) (isw_inv w2) (by rw [inv_length, inv_length, List.length_take]; omega)
  have e4 : (mkR i iv (wCore r) (wConj r) j).w = (core r).drop j ++ (core r).take j := by
    show (wCore r).drop j ++ (wCore r).take j = _
    rw [e1]
  refine ⟨hi, ?_, ?_, ?_⟩
  · show E (mkR i iv (wCore r) (wConj r) j).w ((mkR i iv (wCore r) (wConj r) j).c ++ relOf l i iv ++ inv (mkR i iv (wCore r) (wConj r) j).c)
    rw [e3, e4, hr]
    have hc : E (red (inv ((core r).take j) ++ inv (conj r))) (inv ((core r).take j) ++ inv (conj r)) := E.ofRed _
    have hci := hc.ofInv
    rw [inv_app (inv ((core r).take j)), inv_twice, inv_twice] at hci
    refine E.sm (((hc.app (E.rf r)).app hci).tr ?_)
    have hs : (core r).take j ++ (core r).drop j = core r := List.take_append_drop _ _
    have step1 : E (inv ((core r).take j) ++ inv (conj r) ++ r ++ (conj r ++ (core r).take j)) (inv ((core r).take j) ++ core r ++ (core r).take j) := by
      have a1 := E.mid2 (inv ((core r).take j)) (conj r) (core r ++ inv (conj r) ++ conj r ++ (core r).take j)
      have a2 := E.mid2 (inv ((core r).take j) ++ core r) (conj r) ((core r).take j)
      refine E.tr (E.of ?_) (a1.tr (E.tr (E.of ?_) a2))
      · refine (congrArg (fun z => inv ((core r).take j) ++ inv (conj r) ++ z ++ (conj r ++ (core r).take j)) hp).trans ?_
        simp only [List.append_assoc]
      · simp only [List.append_assoc]
    refine step1.tr ?_
    have a3 := E.mid2 [] ((core r).take j) ((core r).drop j ++ (core r).take j)
    refine E.tr (E.of ?_) a3
    refine (congrArg (fun z => inv ((core r).take j) ++ z ++ (core r).take j) hs.symm).trans ?_
    simp only [List.append_assoc, List.nil_append]
  · rw [e3]
    exact all_sub (all_app (all_inv (all_sub ha fun c hc => hsub c (List.mem_of_mem_take hc))) (all_inv (all_sub ha hsubc))) red_sub
  · rw [e4]
    exact all_sub ha fun c hc => (List.mem_append.1 hc).elim (fun q => hsub c (List.mem_of_mem_drop q)) (fun q => hsub c (List.mem_of_mem_take q))
theorem all_wcheck {g : Int} {w : List UInt8} (h : wcheck g w = 0) : (1 ≤ g ∧ g ≤ 8) ∧ w.length ≤ 100000 ∧ w.all (okc g) = true := by
  unfold wcheck at h
  split at h
  · cases h
  · split at h
    · cases h
    · split at h
      · rename_i h1 h2 h3; exact ⟨by omega, by omega, h3⟩
      · cases h
theorem wcheck_all {g : Int} {w : List UInt8} (hg : 1 ≤ g ∧ g ≤ 8) (hl : w.length ≤ 100000) (h : w.all (okc g) = true) : wcheck g w = 0 := by
  unfold wcheck
  rw [if_neg (by omega), if_neg (by omega), if_pos h]
theorem allR_rel {g : Int} {l : List (List UInt8)} (hp : pcheck g l = 0) : ∀ x ∈ allR l, RotOk g l x := by
  have hz := pcheck_zero hp
  have key : ∀ n, n ≤ l.length → ∀ x ∈ (List.range n).foldl (addR l) [], RotOk g l x := by
    intro n
    induction n with
    | zero => intro _ x hx; cases hx
    | succ n ih =>
      intro hn x hx
      rw [List.range_succ, List.foldl_append] at hx
      obtain ⟨h200, hb⟩ := hz.2.2 _ (getD_mem (d := []) (show n < l.length by omega))
      obtain ⟨_, b2, b3⟩ := badRel_good hb
      have hi := isw_of hz.1.2 b2
      have ha := (all_wcheck b2).2.2
      have e2 : wOf (l.getD n []) true = inv (l.getD n []) := by rw [wOf, if_pos rfl, wInverse, if_pos hi]
      have hx : x ∈ addV n (l.getD n []) (addV n (l.getD n []) ((List.range n).foldl (addR l) []) false) true := hx
      refine addJ_all (p := RotOk g l) (addJ_all (p := RotOk g l) (ih (by omega)) _ fun j _ => ?_) _ (fun j _ => ?_) x hx
      · exact mkR_rel (by omega) rfl b3 hi ha h200
      · rw [e2]
        exact mkR_rel (by omega) (by rw [relOf, if_pos rfl]) (((NC.iff _).2 b3).ofInv).isRed (isw_inv hi) (all_inv ha) (by rw [inv_length]; exact h200)
  exact key l.length (Nat.le_refl _)
theorem SOk.rel {g : Int} {l : List (List UInt8)} (hp : pcheck g l = 0) {S : RS} (hS : SOk l S) : ∀ x ∈ S.list, RotOk g l x := fun x hx => allR_rel hp x (hS.2.1.mem_iff.1 hx)

/-! ### The disk -/
theorem bnds_red (l : List (List UInt8)) (d : List DCell) : bnds l d = red (d.flatMap (cword l)) := by
  unfold bnds red
  rw [List.foldl_flatMap]; rfl
theorem bnds_snoc (l : List (List UInt8)) (d : List DCell) (c : DCell) : E (bnds l (d ++ [c])) (bnds l d ++ cword l c) := by
  rw [bnds_red, bnds_red, List.flatMap_append]
  refine (E.ofRed _).tr ?_
  simp only [List.flatMap_cons, List.flatMap_nil, List.append_nil]
  exact (E.ofRed _).sm.app (E.rf _)
section
variable {g : Int} {l : List (List UInt8)} {L : List Rot} {m : Nat}
theorem cell_word (hL : ∀ x ∈ L, RotOk g l x) (hw : ∀ x ∈ L, isw x.w = true ∧ x.w.length ≤ 200 ∧ isw x.c = true ∧ x.c.length ≤ 1000) {cur : List UInt8} {p : Nat} (hl : cur.length ≤ 6000) (hi : isw cur = true) (hn : NC cur) (hp : p < cur.length) (h : 0 ≤ (longF L (cur.drop p)).1) :
    E (cword l (repC cur p (L.getD (longF L (cur.drop p)).1.toNat .zero)) ++ (repl cur p (L.getD (longF L (cur.drop p)).1.toNat .zero)).1) cur := by
  obtain ⟨g1, g2, _⟩ := longF_pos h
  have hx := getD_mem (d := Rot.zero) g1
  have hxw := hw _ hx
  have hxr := hL _ hx
  generalize L.getD (longF L (cur.drop p)).1.toNat .zero = x at g2 hxw hxr ⊢
  have hpt := part_take (s := cur.drop p) (x := x.w)
  have hnl := repN_le cur p x
  have hnn : repN cur p x = cmn (cur.drop p) x.w := rfl
  rw [← hnn] at hpt
  -- the parts of cur
  have hxn : x.w.take (repN cur p x) = (cur.drop p).take (repN cur p x) := by
    obtain ⟨t, ht⟩ := hpt
    have hlen : ((cur.drop p).take (repN cur p x)).length = repN cur p x := by rw [List.length_take, List.length_drop]; omega
    rw [← ht, List.take_append_of_le_length (by omega), List.take_of_length_le (by omega)]
  have hcur : cur = cur.take p ++ x.w.take (repN cur p x) ++ cur.drop (p + repN cur p x) := by
    rw [hxn, List.append_assoc, ← List.drop_drop, List.take_append_drop, List.take_append_drop]
  have e1 : (repl cur p x).1 = red (cur.take p ++ inv (x.w.drop (repN cur p x)) ++ cur.drop (p + repN cur p x)) := by
    unfold repl
    rw [putF_fst, putF_fst, wInverse, if_pos (isw_sub hxw.1 (fun c hc => List.mem_of_mem_drop hc) (by rw [List.length_drop]; omega)), red, List.foldl_append, List.foldl_append, hn.takeFold]
  have e2 : (repC cur p x).conj = red (cur.take p ++ x.c) := by
    show wReduce _ = _
    rw [wReduce, if_pos]
    exact isw_app (isw_sub hi (fun c hc => List.mem_of_mem_take hc) (by rw [List.length_take]; omega)) hxw.2.2.1 (by rw [List.length_take]; omega)
  have e3 : crel l (repC cur p x) = relOf l x.r x.i := rfl
  have hcj : E (repC cur p x).conj (cur.take p ++ x.c) := by rw [e2]; exact E.ofRed _
  have hcji := hcj.ofInv
  rw [inv_app] at hcji
  have hcw : E (cword l (repC cur p x)) (cur.take p ++ x.w ++ inv (cur.take p)) := by
    unfold cword
    rw [e3]
    refine ((hcj.app (E.rf _)).app hcji).tr ?_
    have := ((E.rf (cur.take p)).app hxr.2.1.sm).app (E.rf (inv (cur.take p)))
    refine E.tr (E.of ?_) this
    simp only [List.append_assoc]
  rw [e1]
  refine (hcw.app (E.ofRed _)).tr ?_
  have a1 := E.mid2 (cur.take p ++ x.w) (cur.take p) (inv (x.w.drop (repN cur p x)) ++ cur.drop (p + repN cur p x))
  have a2 := E.mid (cur.take p ++ x.w.take (repN cur p x)) (x.w.drop (repN cur p x)) (cur.drop (p + repN cur p x))
  refine E.tr (E.of ?_) (a1.tr (E.tr (E.of ?_) (a2.tr (E.of hcur.symm))))
  · simp only [List.append_assoc]
  · conv => lhs; rw [← List.take_append_drop (repN cur p x) x.w]
    simp only [List.append_assoc, List.take_append_drop]
theorem drun_disk (hL : ∀ x ∈ L, RotOk g l x) (hw : ∀ x ∈ L, isw x.w = true ∧ x.w.length ≤ 200 ∧ isw x.c = true ∧ x.c.length ≤ 1000) : ∀ (f : Nat) (cur : List UInt8) (d : List DCell) (p : Nat), cur.length ≤ 6000 → isw cur = true → NC cur → cur.all (okc g) = true →
    E (bnds l (drun L m f cur d p).2 ++ (drun L m f cur d p).1) (bnds l d ++ cur) ∧ (drun L m f cur d p).1.all (okc g) = true ∧ NC (drun L m f cur d p).1 ∧ ∀ c ∈ (drun L m f cur d p).2, c ∈ d ∨ (0 ≤ c.rel ∧ c.rel < l.length ∧ c.conj.all (okc g) = true)
  | 0, cur, d, p, _, _, hn, ha => ⟨E.rf _, ha, hn, fun c h => .inl h⟩
  | f + 1, cur, d, p, hl, hi, hn, ha => by
    rw [drun]
    by_cases hp : p < cur.length
    · rw [if_pos hp]
      by_cases h : 0 ≤ (longF L (cur.drop p)).1
      · rw [if_pos h]
        have hcell := cell_word hL hw hl hi hn hp h
        have hlt := repl_lt hp h
        obtain ⟨g1, _, _⟩ := longF_pos h
        have hx := getD_mem (d := Rot.zero) g1
        have hxw := hw _ hx
        have hxr := hL _ hx
        generalize L.getD (longF L (cur.drop p)).1.toNat .zero = x at hcell hlt hxw hxr ⊢
        have hNC : NC (repl cur p x).1 := by
          unfold repl
          rw [putF_fst, putF_fst]
          exact NC.ofFold _ _ (NC.ofFold _ _ (hn.take p))
        have hA : (repl cur p x).1.all (okc g) = true := by
          unfold repl
          rw [putF_fst, putF_fst, ← hn.takeFold p, ← List.foldl_append, ← List.foldl_append]
          exact all_sub (all_app (all_app (all_sub ha fun c hc => List.mem_of_mem_take hc) (all_winv (all_sub hxr.2.2.2 fun c hc => List.mem_of_mem_drop hc))) (all_sub ha fun c hc => List.mem_of_mem_drop hc)) (fun c hc => by simpa [List.append_assoc] using red_sub c hc)
        have hI : isw (repl cur p x).1 = true := by
          have h3 := wInverse_is (x.w.drop (repN cur p x))
          have h4 := wInverse_length (x.w.drop (repN cur p x))
          unfold repl
          rw [putF_fst, putF_fst, ← hn.takeFold p, ← List.foldl_append, ← List.foldl_append]
          have h5 := red_length (cur.take p ++ wInverse (x.w.drop (repN cur p x)) ++ cur.drop (p + repN cur p x))
          have := isw_sub (isw_app (isw_app (isw_sub hi (fun c hc => List.mem_of_mem_take hc) (by rw [List.length_take]; omega)) h3 (by rw [List.length_take]; rw [List.length_drop] at h4; omega)) (isw_sub hi (fun c hc => List.mem_of_mem_drop hc) (by rw [List.length_drop]; omega)) (by rw [List.length_append, List.length_take, List.length_drop]; rw [List.length_drop] at h4; omega)) red_sub h5
          simpa [red, List.append_assoc] using this
        obtain ⟨i1, i2, i3, i4⟩ := drun_disk hL hw f (repl cur p x).1 (d ++ [repC cur p x]) ((repl cur p x).2 - m) (by omega) hI hNC hA
        refine ⟨i1.tr ?_, i2, i3, fun c hc => ?_⟩
        · refine ((bnds_snoc l d (repC cur p x)).app (E.rf _)).tr ?_
          have := (E.rf (bnds l d)).app hcell
          refine E.tr (E.of ?_) this
          simp only [List.append_assoc]
        · rcases i4 c hc with q | q
          · rcases List.mem_append.1 q with q | q
            · exact .inl q
            · simp only [List.mem_singleton] at q
              subst q
              have h1 := hxr.1
              refine .inr ⟨by show (0 : Int) ≤ ((x.r : Nat) : Int); omega, by show ((x.r : Nat) : Int) < _; omega, ?_⟩
              exact all_wred (all_app (all_sub ha fun c hc => List.mem_of_mem_take hc) hxr.2.2.1)
          · exact .inr q
      · rw [if_neg h]; exact drun_disk hL hw f cur d (p + 1) hl hi hn ha
    · rw [if_neg hp]; exact ⟨E.rf _, ha, hn, fun c h => .inl h⟩
end
/-- What is so of the disk of a shortening. -/
theorem dsh_disk {g : Int} {l : List (List UInt8)} (hp : pcheck g l = 0) {S : RS} (hS : SOk l S) {w : List UInt8} (hw : wcheck g w = 0) (hl : w.length ≤ 6000) :
    E (bnds l (dsh S w).2 ++ (dsh S w).1) w ∧ (dsh S w).1.all (okc g) = true ∧ NC (dsh S w).1 ∧ ∀ c ∈ (dsh S w).2, 0 ≤ c.rel ∧ c.rel < l.length ∧ c.conj.all (okc g) = true := by
  have hz := pcheck_zero hp
  have hr := red_length w
  have hi := isw_of hz.1.2 hw
  obtain ⟨h1, h2, h3, h4⟩ := drun_disk (m := S.most) (hS.rel hp) (fun x hx => ⟨(hS.1.isw x hx).1, Nat.le_trans (hS.1.most x hx) hS.1.small.1, (hS.1.isw x hx).2.1, (hS.1.isw x hx).2.2⟩) (fuel (red w).length) (red w) [] 0 (by omega) (isw_sub hi red_sub hr) (NC.ofRed w) (all_sub (all_wcheck hw).2.2 red_sub)
  refine ⟨?_, h2, h3, fun c hc => (h4 c hc).elim (fun q => by cases q) id⟩
  refine E.tr h1 ?_
  have : bnds l [] ++ red w = red w := rfl
  rw [this]; exact E.ofRed w
theorem sh_proves4 {g : Int} {l : List (List UInt8)} {w : List UInt8} (ha : rasked g l w = 0) {S : RS} (hS : SOk l S) (h60 : w.length ≤ 400) :
    proves g l (dsh S w).2 (w ++ inv (dsh S w).1) = 0 := by
  have ha' : ¬ ¬ rasked g l w = 0 := fun q => q ha
  have hp := rasked_pres ha'
  have hz := pcheck_zero hp
  have hw := (rasked_word ha').1
  obtain ⟨h1, h2, h3, h4⟩ := dsh_disk hp hS hw (by omega)
  obtain ⟨k1, k2, k3⟩ := dsh_all hS.1 (w := w) (by omega)
  have hlight := light4 hS.1 h60
  unfold Heavy at hlight
  have hwc : wcheck g (w ++ inv (dsh S w).1) = 0 := wcheck_all hz.1 (by rw [List.length_append, inv_length]; omega) (all_app (all_wcheck hw).2.2 (all_inv h2))
  have hdisk : isDisk g l (dsh S w).2 = true := by
    simp only [isDisk, Bool.and_eq_true, decide_eq_true_eq, List.all_eq_true]
    refine ⟨⟨fun c hc => ?_, by omega⟩, by omega⟩
    obtain ⟨q1, q2, q3⟩ := h4 c hc
    have := k3 c hc
    simp only [okCell, Bool.and_eq_true, decide_eq_true_eq]
    exact ⟨⟨q1, q2⟩, wcheck_all hz.1 (by omega) q3⟩
  have hchk : chk g l [w ++ inv (dsh S w).1] [(dsh S w).2] = 0 := by
    unfold chk
    rw [if_neg (fun q => q hp), if_neg (by simp [hwc]), if_neg (by simp [hdisk])]
  have hb : bnds l (dsh S w).2 = red (w ++ inv (dsh S w).1) := by
    have a1 := E.mid (bnds l (dsh S w).2) (dsh S w).1 []
    simp only [List.append_nil] at a1
    have a2 : E (bnds l (dsh S w).2) (w ++ inv (dsh S w).1) := a1.sm.tr (h1.app (E.rf _))
    have a3 : red (bnds l (dsh S w).2) = bnds l (dsh S w).2 := by rw [bnds_red]; exact red_red _
    rw [← a3]; exact a2
  unfold proves
  rw [if_neg (fun q => q hchk), if_neg (fun q => q hb)]
/-- A word that is shortened is stuck. -/
theorem rshort_stuck {l : List (List UInt8)} : ∀ (f : Nat) (x : List UInt8) (n : Nat), x.length < f → (rlong l (rshort l f x n).1).pi = false
  | 0, _, _, h => by omega
  | f + 1, x, n, h => by
    by_cases q : (rlong l x).pi = true
    · rw [rshort, if_pos q]
      exact rshort_stuck f _ _ (by have := rnext_length q; omega)
    · rw [rshort, if_neg q]; simpa using q
theorem sh_stuck4 {g : Int} {l : List (List UInt8)} {w : List UInt8} (ha : rasked g l w = 0) {S : RS} (hS : SOk l S) (h60 : w.length ≤ 400) : rStuck g l (dsh S w).1 = (true, 0) := by
  have ha' : ¬ ¬ rasked g l w = 0 := fun q => q ha
  have hp := rasked_pres ha'
  have hz := pcheck_zero hp
  have hw := (rasked_word ha').1
  obtain ⟨_, h2, h3, _⟩ := dsh_disk hp hS hw (by omega)
  obtain ⟨k1, _, _⟩ := dsh_all hS.1 (w := w) (by omega)
  have hwv : wcheck g (dsh S w).1 = 0 := wcheck_all hz.1 (by omega) h2
  have hav : rasked g l (dsh S w).1 = 0 := by
    unfold rasked
    rw [if_neg (fun q => q hp), if_neg (fun q => q hwv), if_neg (by omega)]
  have hiv := isw_of hz.1.2 hwv
  have e : wReduce (dsh S w).1 = (dsh S w).1 := by rw [wReduce, if_pos hiv]; exact h3.isRed
  have key := dsh_rshorten hp hS (isw_asked ha') (by omega)
  unfold rStuck
  rw [if_neg (fun q => q hav), e, decide_eq_true rfl, Bool.true_and]
  have : (rlong (symm l) (dsh S w).1).pi = false := by
    rw [key.1]
    exact rshort_stuck _ _ _ (by omega)
  rw [this]; rfl
end Go.Proofs.YtaccklloepfemaaDoor

namespace Go.Proofs.YtaccklloepfemaaDoor
set_option linter.unusedVariables false
set_option linter.unusedSimpArgs false
namespace Green

/-- The inverse of a word. -/
def winv {α : Type} (iv : α → α) (w : List α) : List α := (w.map iv).reverse

/-- Letters with inverses, and a set of words that is closed under rotation and inverses. -/
structure Sys {α : Type} (iv : α → α) (R : List α → Prop) : Prop where
  two : ∀ a, iv (iv a) = a
  ne : ∀ a, iv a ≠ a
  rot : ∀ a t, R (a :: t) → R (t ++ [a])
  inv : ∀ w, R w → R (winv iv w)
  some : ¬ R []
  red : ∀ a b t, R (a :: b :: t) → b ≠ iv a

/-- Diagrams of a word with so many cells, seen from its first letter. -/
inductive Dia {α : Type} (iv : α → α) (R : List α → Prop) : List α → Nat → Prop
  | nil : Dia iv R [] 0
  | pair {a : α} {u v : List α} {m n : Nat} : Dia iv R u m → Dia iv R v n → Dia iv R (a :: (u ++ iv a :: v)) (m + n)
  | face {a : α} {t w : List α} {n : Nat} : R (a :: t) → Dia iv R (winv iv t ++ w) n → Dia iv R (a :: w) (n + 1)

section
variable {α : Type} {iv : α → α} {R : List α → Prop}

@[simp] theorem winv_nil : winv iv ([] : List α) = [] := rfl
@[simp] theorem winv_append (u v : List α) : winv iv (u ++ v) = winv iv v ++ winv iv u := by simp [winv]
@[simp] theorem winv_cons (a : α) (v : List α) : winv iv (a :: v) = winv iv v ++ [iv a] := by simp [winv]
@[simp] theorem winv_length (v : List α) : (winv iv v).length = v.length := by simp [winv]
theorem winv_two (S : Sys iv R) (v : List α) : winv iv (winv iv v) = v := by
  induction v with
  | nil => rfl
  | cons a v ih => simp [ih, S.two]
theorem R_rots (S : Sys iv R) : ∀ (x y : List α), R (x ++ y) → R (y ++ x)
  | [], y, h => by simpa using h
  | a :: x, y, h => by
    have := S.rot a (x ++ y) h
    have := R_rots S x (y ++ [a]) (by simpa using this)
    simpa using this

theorem Dia.concat {u v : List α} {m n : Nat} (h : Dia iv R u m) (k : Dia iv R v n) : Dia iv R (u ++ v) (m + n) := by
  induction h with
  | nil => simpa using k
  | @pair a u1 v1 m1 n1 h1 h2 _ ih =>
    have := Dia.pair (a := a) h1 ih
    simpa [Nat.add_assoc] using this
  | @face a t w n1 hr _ ih =>
    have : Dia iv R (a :: (w ++ v)) (n1 + n + 1) := Dia.face hr (by simpa using ih)
    have e : n1 + 1 + n = n1 + n + 1 := by omega
    rw [e]; simpa using this

theorem Dia.ins' {u : List α} {m : Nat} (hu : Dia iv R u m) {w : List α} {n : Nat} (h : Dia iv R w n) : ∀ x y, w = x ++ y → Dia iv R (x ++ (u ++ y)) (n + m) := by
  induction h with
  | nil =>
    intro x y e
    have := List.append_eq_nil_iff.1 e.symm
    rw [this.1, this.2]; simpa using hu
  | @pair a u1 v1 m1 n1 h1 h2 ih1 ih2 =>
    intro x y e
    cases x with
    | nil =>
      simp only [List.nil_append] at e ⊢
      rw [← e, Nat.add_comm]; exact hu.concat (Dia.pair h1 h2)
    | cons b x =>
      injection e with e1 e2
      subst e1
      rcases List.append_eq_append_iff.1 e2 with ⟨z, rfl, e3⟩ | ⟨z, rfl, e3⟩
      · cases z with
        | nil =>
          simp only [List.nil_append] at e3
          subst e3
          have := Dia.pair (a := a) (ih1 u1 [] (by simp)) h2
          have e : m1 + n1 + m = m1 + m + n1 := by omega
          rw [e]; simpa using this
        | cons c z =>
          injection e3 with e3 e4
          subst e3 e4
          have := Dia.pair (a := a) h1 (ih2 z y rfl)
          have e : m1 + n1 + m = m1 + (n1 + m) := by omega
          rw [e]; simpa using this
      · subst e3
        have := Dia.pair (a := a) (ih1 x z rfl) h2
        have e : m1 + n1 + m = m1 + m + n1 := by omega
        rw [e]; simpa using this
  | @face a t w n1 hr h ih =>
    intro x y e
    cases x with
    | nil =>
      simp only [List.nil_append] at e ⊢
      rw [← e, Nat.add_comm]; exact hu.concat (Dia.face hr h)
    | cons b x =>
      injection e with e1 e2
      subst e1 e2
      have := Dia.face hr (w := x ++ (u ++ y)) (by simpa using ih (winv iv t ++ x) y (by simp))
      have e : n1 + 1 + m = n1 + m + 1 := by omega
      rw [e]; simpa using this
theorem Dia.ins {u x y : List α} {m n : Nat} (h : Dia iv R (x ++ y) n) (hu : Dia iv R u m) : Dia iv R (x ++ (u ++ y)) (n + m) := Dia.ins' hu h x y rfl

theorem Dia.two {a : α} : Dia iv R [a, iv a] 0 := Dia.pair (u := []) (v := []) Dia.nil Dia.nil
theorem Dia.spur {x y : List α} {a : α} {n : Nat} (h : Dia iv R (x ++ y) n) : Dia iv R (x ++ a :: iv a :: y) n := by
  simpa using h.ins (Dia.two (a := a))
theorem Dia.conj {u : List α} {m : Nat} (h : Dia iv R u m) : ∀ c : List α, Dia iv R (c ++ (u ++ winv iv c)) m
  | [] => by simpa using h
  | a :: c => by simpa using Dia.pair (a := a) (h.conj c) Dia.nil
/-- What holds for all sizes below: rotation, and cells anywhere. -/
def RotN (iv : α → α) (R : List α → Prop) (n : Nat) : Prop := ∀ a w, Dia iv R (a :: w) n → Dia iv R (w ++ [a]) n
def FaceN (iv : α → α) (R : List α → Prop) (n : Nat) : Prop := ∀ a t x y, R (a :: t) → Dia iv R (x ++ (winv iv t ++ y)) n → Dia iv R (x ++ a :: y) (n + 1)

theorem rots {n : Nat} (h : RotN iv R n) : ∀ x y, Dia iv R (x ++ y) n → Dia iv R (y ++ x) n
  | [], y, k => by simpa using k
  | a :: x, y, k => by
    have := rots h x (y ++ [a]) (by simpa using h a (x ++ y) k)
    simpa using this

theorem rotN_step (S : Sys iv R) {n : Nat} (hr : ∀ m, m < n → RotN iv R m) (hf : ∀ m, m < n → FaceN iv R m) : RotN iv R n := by
  intro a w h
  cases h with
  | @pair a u v m1 m2 h1 h2 =>
    have := h1.concat (Dia.pair (a := iv a) h2 Dia.nil)
    simpa [S.two] using this
  | @face a t w k hR h =>
    have := rots (hr k (by omega)) _ _ h
    have := hf k (by omega) a t w [] hR (by simpa using this)
    exact this

theorem faceN_step (S : Sys iv R) {n : Nat} (hr : ∀ m, m ≤ n → RotN iv R m) (hf : ∀ m, m < n → FaceN iv R m) : FaceN iv R n := by
  intro a t x y hR h
  have key : ∀ (k : Nat) (x y : List α) (n' : Nat), x.length ≤ k → n' ≤ n → Dia iv R (x ++ (winv iv t ++ y)) n' → Dia iv R (x ++ a :: y) (n' + 1) := by
    intro k
    induction k with
    | zero =>
      intro x y n' hx _ h
      have : x = [] := List.eq_nil_of_length_eq_zero (by omega)
      subst this
      exact Dia.face hR (by simpa using h)
    | succ k ih =>
      intro x y n' hx hn h
      cases x with
      | nil => exact Dia.face hR (by simpa using h)
      | cons a0 x =>
        simp only [List.length_cons] at hx
        generalize e : a0 :: x ++ (winv iv t ++ y) = z at h
        cases h with
        | nil => cases e
        | @face b t0 w k' hR0 h0 =>
          injection e with e1 e2
          subst e1 e2
          have := hf k' (by omega) a t (winv iv t0 ++ x) y hR (by simpa using h0)
          exact Dia.face hR0 (by simpa using this)
        | @pair b u v m1 m2 h1 h2 =>
          injection e with e1 e2
          subst e1
          rcases List.append_eq_append_iff.1 e2 with ⟨z, rfl, e3⟩ | ⟨z, rfl, e3⟩
          · -- x = u prefix
            rcases List.append_eq_append_iff.1 e3 with ⟨z', rfl, e4⟩ | ⟨z', e4, e5⟩
            · -- z = winv t ++ z', y = z' ++ iv a0 :: v
              subst e4
              have := ih x z' m1 (by omega) (by omega) (by simpa using h1)
              have := Dia.pair (a := a0) this h2
              have e : m1 + m2 + 1 = m1 + 1 + m2 := by omega
              rw [e]; simpa using this
            · -- winv t = z ++ z', iv a0 :: v = z' ++ y
              cases z' with
              | nil =>
                simp only [List.append_nil, List.nil_append] at e4 e5
                subst e5
                have := ih x [] m1 (by omega) (by omega) (by rw [← e4] at h1; simpa using h1)
                have := Dia.pair (a := a0) this h2
                have e : m1 + m2 + 1 = m1 + 1 + m2 := by omega
                rw [e]; simpa using this
              | cons c q =>
                injection e5 with e5 e6
                subst e5 e6
                -- t = winv q ++ a0 :: winv z
                have et : t = winv iv q ++ a0 :: winv iv z := by
                  have := congrArg (winv iv) e4
                  rw [winv_two S] at this
                  simpa [S.two] using this
                have hR' : R (a0 :: (winv iv z ++ a :: winv iv q)) := by
                  have := R_rots S (a :: winv iv q) (a0 :: winv iv z) (by rw [et] at hR; simpa using hR)
                  simpa using this
                have hu : Dia iv R (z ++ x) m1 := rots (hr m1 (by omega)) _ _ h1
                have hc := Dia.pair (a := iv a) hu Dia.nil
                have := Dia.ins (x := q) (y := y) h2 hc
                have := Dia.face (iv := iv) (w := x ++ a :: y) hR' (n := m1 + m2) (by
                  have e : m1 + m2 = m2 + (m1 + 0) := by omega
                  rw [e]; simpa [winv_two S, S.two] using this)
                simpa using this
          · -- x = u ++ z, iv a0 :: v = z ++ ..
            cases z with
            | nil =>
              simp only [List.nil_append] at e3
              -- winv t ++ y = iv a0 :: v
              simp only [List.append_nil] at hx ⊢
              cases ht : winv iv t with
              | nil =>
                rw [ht] at e3
                simp only [List.nil_append] at e3
                subst e3
                have := ih u [] m1 (by omega) (by omega) (by simpa [ht] using h1)
                have := Dia.pair (a := a0) this h2
                have e : m1 + m2 + 1 = m1 + 1 + m2 := by omega
                rw [e]; simpa using this
              | cons c q =>
                rw [ht] at e3
                injection e3 with e5 e6
                subst e5 e6
                have et : t = winv iv q ++ a0 :: winv iv [] := by
                  have := congrArg (winv iv) ht
                  rw [winv_two S] at this
                  simpa [S.two] using this
                have hR' : R (a0 :: (a :: winv iv q)) := by
                  have := R_rots S (a :: winv iv q) (a0 :: []) (by rw [et] at hR; simpa using hR)
                  simpa using this
                have hc := Dia.pair (a := iv a) h1 Dia.nil
                have := Dia.ins (x := q) (y := y) h2 hc
                have := Dia.face (iv := iv) (w := u ++ a :: y) hR' (n := m1 + m2) (by
                  have e : m1 + m2 = m2 + (m1 + 0) := by omega
                  rw [e]; simpa [winv_two S, S.two] using this)
                simpa using this
            | cons c x2 =>
              injection e3 with e3 e4
              subst e3
              have := ih x2 y m2 (by simp at hx; omega) (by omega) (by subst e4; exact h2)
              have := Dia.pair (a := a0) h1 this
              rw [Nat.add_assoc]; simpa using this
  exact key x.length x y n (Nat.le_refl _) (Nat.le_refl _) h

theorem both (S : Sys iv R) (n : Nat) : RotN iv R n ∧ FaceN iv R n := by
  induction n using Nat.strongRecOn with
  | ind n ih =>
    have r := rotN_step S (fun m hm => (ih m hm).1) (fun m hm => (ih m hm).2)
    refine ⟨r, faceN_step S (fun m hm => ?_) (fun m hm => (ih m hm).2)⟩
    rcases Nat.lt_or_eq_of_le hm with h | h
    · exact (ih m h).1
    · rw [h]; exact r

theorem Dia.rot (S : Sys iv R) {x y : List α} {n : Nat} (h : Dia iv R (x ++ y) n) : Dia iv R (y ++ x) n := rots (both S n).1 x y h
theorem Dia.cell (S : Sys iv R) {a : α} {t x y : List α} {n : Nat} (hR : R (a :: t)) (h : Dia iv R (x ++ (winv iv t ++ y)) n) : Dia iv R (x ++ a :: y) (n + 1) := (both S n).2 a t x y hR h

/-- A pair of inverse letters at the end may be left out. -/
theorem Dia.delEnd (S : Sys iv R) (n : Nat) : ∀ (a : α) (y : List α), Dia iv R (y ++ [a, iv a]) n → ∃ m, m ≤ n ∧ Dia iv R y m := by
  induction n using Nat.strongRecOn with
  | ind n ihn =>
    have key : ∀ (k : Nat) (a : α) (y : List α) (n' : Nat), y.length ≤ k → n' ≤ n → Dia iv R (y ++ [a, iv a]) n' → ∃ m, m ≤ n' ∧ Dia iv R y m := by
      intro k
      induction k with
      | zero =>
        intro a y n' hy _ _
        have : y = [] := List.eq_nil_of_length_eq_zero (by omega)
        subst this
        exact ⟨0, Nat.zero_le _, Dia.nil⟩
      | succ k ih =>
        intro a y n' hy hn h
        cases y with
        | nil => exact ⟨0, Nat.zero_le _, Dia.nil⟩
        | cons c y =>
          simp only [List.length_cons] at hy
          generalize e : c :: y ++ [a, iv a] = z at h
          cases h with
          | nil => cases e
          | @face b t w k' hR0 h0 =>
            injection e with e1 e2
            subst e1 e2
            obtain ⟨m, hm, q⟩ := ihn k' (by omega) a (winv iv t ++ y) (by simpa using h0)
            exact ⟨m + 1, by omega, Dia.face hR0 q⟩
          | @pair b u v m1 m2 h1 h2 =>
            injection e with e1 e2
            subst e1
            rcases List.append_eq_append_iff.1 e2 with ⟨z, rfl, e3⟩ | ⟨z, rfl, e3⟩
            · cases z with
              | nil =>
                simp only [List.nil_append, List.cons.injEq] at e3
                obtain ⟨e4, e5⟩ := e3
                subst e5
                refine ⟨m2 + m1, by omega, ?_⟩
                have : iv a = c := by rw [e4, S.two]
                rw [this] at h2
                simpa using h2.concat h1
              | cons d z =>
                simp only [List.cons_append, List.cons.injEq] at e3
                obtain ⟨e4, e5⟩ := e3
                subst e4
                cases z with
                | nil =>
                  simp only [List.nil_append, List.cons.injEq] at e5
                  obtain ⟨e6, e7⟩ := e5
                  have : c = a := by have := congrArg iv e6; rw [S.two, S.two] at this; exact this.symm
                  subst this
                  exact ⟨m1, by omega, h1.rot S⟩
                | cons d' z =>
                  have := congrArg List.length e5
                  simp at this
            · cases z with
              | nil =>
                simp only [List.nil_append, List.cons.injEq] at e3
                obtain ⟨e4, e5⟩ := e3
                subst e5
                refine ⟨m2 + m1, by omega, ?_⟩
                have : iv a = c := by rw [← e4, S.two]
                rw [this] at h2
                simpa using h2.concat h1
              | cons d z =>
                injection e3 with e4 e5
                subst e4
                obtain ⟨m, hm, q⟩ := ih a z m2 (by simp at hy; omega) (by omega) (by subst e5; exact h2)
                exact ⟨m1 + m, by omega, Dia.pair h1 q⟩
    exact fun a y h => key y.length a y n (Nat.le_refl _) (Nat.le_refl _) h

theorem Dia.del (S : Sys iv R) {a : α} {x y : List α} {n : Nat} (h : Dia iv R (x ++ a :: iv a :: y) n) : ∃ m, m ≤ n ∧ Dia iv R (x ++ y) m := by
  have h1 : Dia iv R (y ++ (x ++ [a, iv a])) n := by
    have : Dia iv R ((x ++ [a, iv a]) ++ y) n := by simpa using h
    exact this.rot S
  obtain ⟨m, hm, q⟩ := Dia.delEnd S n a (y ++ x) (by simpa using h1)
  exact ⟨m, hm, q.rot S⟩

/-- A word and its inverse, side by side, may be left out. -/
theorem Dia.delw (S : Sys iv R) : ∀ (u : List α) {x y : List α} {n : Nat}, Dia iv R (x ++ (u ++ (winv iv u ++ y))) n → ∃ m, m ≤ n ∧ Dia iv R (x ++ y) m
  | [], x, y, n, h => ⟨n, Nat.le_refl _, by simpa using h⟩
  | a :: u, x, y, n, h => by
    obtain ⟨m, hm, q⟩ := Dia.delw S u (x := x ++ [a]) (y := iv a :: y) (by simpa using h)
    obtain ⟨m', hm', q'⟩ := Dia.del S (a := a) (x := x) (y := y) (by simpa using q)
    exact ⟨m', by omega, q'⟩
theorem Dia.delw' (S : Sys iv R) (u : List α) {x y : List α} {n : Nat} (h : Dia iv R (x ++ (winv iv u ++ (u ++ y))) n) : ∃ m, m ≤ n ∧ Dia iv R (x ++ y) m := by
  have := Dia.delw S (winv iv u) (x := x) (y := y) (n := n)
  rw [winv_two S] at this
  exact this h
theorem Dia.invw (S : Sys iv R) {w : List α} {n : Nat} (h : Dia iv R w n) : Dia iv R (winv iv w) n := by
  induction h with
  | nil => exact Dia.nil
  | @pair a u v m1 m2 _ _ ih1 ih2 =>
    have := ih2.concat (Dia.pair (a := a) ih1 Dia.nil)
    have e : m1 + m2 = m2 + (m1 + 0) := by omega
    rw [e]; simpa [S.two] using this
  | @face a t w n1 hR _ ih =>
    have hR' : R (iv a :: winv iv t) := by
      have := R_rots S (winv iv t) [iv a] (by simpa using S.inv _ hR)
      simpa using this
    have := Dia.cell S (x := winv iv w) (y := []) hR' (n := n1) (by simpa [winv_two S] using ih)
    simpa using this

/-- Words that have a diagram. -/
def T (iv : α → α) (R : List α → Prop) (w : List α) : Prop := ∃ n, Dia iv R w n

theorem T.nil : T iv R [] := ⟨0, Dia.nil⟩
theorem T.concat {u v : List α} : T iv R u → T iv R v → T iv R (u ++ v)
  | ⟨m, h⟩, ⟨n, k⟩ => ⟨m + n, h.concat k⟩
theorem T.ins {u x y : List α} : T iv R (x ++ y) → T iv R u → T iv R (x ++ (u ++ y))
  | ⟨m, h⟩, ⟨n, k⟩ => ⟨m + n, h.ins k⟩
theorem T.rot (S : Sys iv R) {x y : List α} : T iv R (x ++ y) → T iv R (y ++ x)
  | ⟨m, h⟩ => ⟨m, h.rot S⟩
theorem T.invw (S : Sys iv R) {x : List α} : T iv R x → T iv R (winv iv x)
  | ⟨m, h⟩ => ⟨m, h.invw S⟩
theorem T.delw (S : Sys iv R) {u x y : List α} : T iv R (x ++ (u ++ (winv iv u ++ y))) → T iv R (x ++ y)
  | ⟨m, h⟩ => let ⟨k, _, q⟩ := h.delw S; ⟨k, q⟩
theorem T.delw' (S : Sys iv R) {u x y : List α} : T iv R (x ++ (winv iv u ++ (u ++ y))) → T iv R (x ++ y)
  | ⟨m, h⟩ => let ⟨k, _, q⟩ := h.delw' S; ⟨k, q⟩
theorem T.insw (S : Sys iv R) {u x y : List α} (h : T iv R (x ++ y)) : T iv R (x ++ (u ++ (winv iv u ++ y))) := by
  have : T iv R (u ++ winv iv u) := ⟨0, by simpa using (Dia.nil (iv := iv) (R := R)).conj u⟩
  simpa using h.ins this
theorem T.cell (S : Sys iv R) {a : α} {t x y : List α} (hR : R (a :: t)) : T iv R (x ++ (winv iv t ++ y)) → T iv R (x ++ a :: y)
  | ⟨m, h⟩ => ⟨m + 1, h.cell S hR⟩
theorem T.rel (S : Sys iv R) {w : List α} (h : R w) : T iv R w := by
  cases w with
  | nil => exact absurd h S.some
  | cons a t =>
    have : T iv R (winv iv t ++ t) := by
      have := (T.nil (iv := iv) (R := R)).insw S (u := winv iv t) (x := []) (y := [])
      simpa [winv_two S] using this
    exact T.cell S (x := []) h this
theorem T.conj {u : List α} (c : List α) : T iv R u → T iv R (c ++ (u ++ winv iv c))
  | ⟨m, h⟩ => ⟨m, h.conj c⟩
/-- A trivial word within a trivial word may be left out. -/
theorem T.out (S : Sys iv R) {u x y : List α} (h : T iv R (x ++ (u ++ y))) (hu : T iv R u) : T iv R (x ++ y) := by
  have := T.ins (x := x ++ u) (y := y) (by simpa using h) (hu.invw S)
  exact T.delw S (u := u) (by simpa using this)

/-- A least diagram. -/
def Least (iv : α → α) (R : List α → Prop) (w : List α) (n : Nat) : Prop := Dia iv R w n ∧ ∀ m, Dia iv R w m → n ≤ m
theorem T.least {w : List α} (h : T iv R w) : ∃ n, Least iv R w n := by
  obtain ⟨n, h⟩ := h
  induction n using Nat.strongRecOn with
  | ind n ih =>
    by_cases q : ∃ m, m < n ∧ Dia iv R w m
    · obtain ⟨m, hm, q⟩ := q; exact ih m hm q
    · exact ⟨n, h, fun m hm => Nat.le_of_not_lt fun l => q ⟨m, l, hm⟩⟩

/-- Diagrams that are built up by spurs and cells. -/
inductive Bld (iv : α → α) (R : List α → Prop) : List α → Nat → Prop
  | nil : Bld iv R [] 0
  | spur {a : α} {x y : List α} {n : Nat} : Bld iv R (x ++ y) n → Bld iv R (x ++ a :: iv a :: y) n
  | cell {a : α} {t x y : List α} {n : Nat} : R (a :: t) → Bld iv R (x ++ (winv iv t ++ y)) n → Bld iv R (x ++ a :: y) (n + 1)

theorem Bld.ins {u x y : List α} {m n : Nat} (hu : Bld iv R u m) (h : Bld iv R (x ++ y) n) : Bld iv R (x ++ (u ++ y)) (n + m) := by
  induction hu with
  | nil => simpa using h
  | @spur a x1 y1 n1 _ ih =>
    have := Bld.spur (a := a) (x := x ++ x1) (y := y1 ++ y) (by simpa using ih)
    simpa using this
  | @cell a t x1 y1 n1 hR _ ih =>
    have := Bld.cell (x := x ++ x1) (y := y1 ++ y) hR (by simpa using ih)
    rw [← Nat.add_assoc]; simpa using this
theorem Dia.bld {w : List α} {n : Nat} (h : Dia iv R w n) : Bld iv R w n := by
  induction h with
  | nil => exact Bld.nil
  | @pair a u v m1 m2 _ _ ih1 ih2 =>
    have := Bld.ins (x := [a]) (y := iv a :: v) ih1 (Bld.spur (x := []) ih2)
    rw [Nat.add_comm]; simpa using this
  | @face a t w n1 hR _ ih => exact Bld.cell (x := []) hR ih
end
end Green
end Go.Proofs.YtaccklloepfemaaDoor

namespace Go.Proofs.YtaccklloepfemaaDoor
set_option linter.unusedVariables false
set_option linter.unusedSimpArgs false
namespace Green

/-- The dart against a dart. -/
def th (d : Nat) : Nat := if d % 2 = 0 then d + 1 else d - 1
theorem th_th (d : Nat) : th (th d) = d := by unfold th; split <;> split <;> omega
theorem th_ne (d : Nat) : th d ≠ d := by unfold th; split <;> omega
theorem th_lt {d E : Nat} : th d < 2 * E ↔ d < 2 * E := by unfold th; split <;> omega
theorem th_even (E : Nat) : th (2 * E) = 2 * E + 1 := by unfold th; split <;> omega
theorem th_odd (E : Nat) : th (2 * E + 1) = 2 * E := by unfold th; split <;> omega
theorem th_inj {d e : Nat} (h : th d = th e) : d = e := by rw [← th_th d, h, th_th]

/-- A path of darts. -/
def Pth (st : Nat → Nat) : Nat → List Nat → Nat → Prop
  | v, [], v' => v = v'
  | v, d :: l, v' => st d = v ∧ Pth st (st (th d)) l v'
theorem Pth.append {st : Nat → Nat} : ∀ {x y : List Nat} {v v' : Nat}, Pth st v (x ++ y) v' ↔ ∃ u, Pth st v x u ∧ Pth st u y v'
  | [], y, v, v' => by simp [Pth]
  | d :: x, y, v, v' => by simp [Pth, Pth.append, and_assoc]
theorem Pth.congr {st st' : Nat → Nat} : ∀ {l : List Nat} {v v' : Nat}, (∀ d ∈ l, st' d = st d ∧ st' (th d) = st (th d)) → Pth st v l v' → Pth st' v l v'
  | [], v, v', _, h => h
  | d :: l, v, v', e, h => by
    have := e d List.mem_cons_self
    exact ⟨by rw [this.1]; exact h.1, by rw [this.2]; exact Pth.congr (fun k hk => e k (List.mem_cons_of_mem _ hk)) h.2⟩

def up {β : Type} (f : Nat → β) (k : Nat) (x : β) : Nat → β := fun d => if d = k then x else f d
theorem up_ne {β : Type} {f : Nat → β} {k d : Nat} {x : β} (h : d ≠ k) : up f k x d = f d := if_neg h
@[simp] theorem up_same {β : Type} {f : Nat → β} {k : Nat} {x : β} : up f k x k = x := if_pos rfl

/-- A diagram of a word with so many cells, as a map. -/
structure Dg {α : Type} (iv : α → α) (R : List α → Prop) (w : List α) (n : Nat) where
  E : Nat
  V : Nat
  st : Nat → Nat
  lb : Nat → α
  O : List Nat
  Fs : List (List Nat)
  pot : Nat → List α
  dia : Dia iv R w n
  nodup : (O ++ Fs.flatten).Nodup
  all : ∀ d, d ∈ O ++ Fs.flatten ↔ d < 2 * E
  lab : O.map lb = w
  lbth : ∀ d, d < 2 * E → lb (th d) = iv (lb d)
  clO : Pth st 0 O 0
  clF : ∀ f ∈ Fs, ∃ v, Pth st v f v
  labF : ∀ f ∈ Fs, R (f.map lb)
  euler : V + Fs.length = E + 1
  cnt : Fs.length = n
  stlt : ∀ d, d < 2 * E → st d < V
  pos : 0 < V
  surj : ∀ v, v < V → v = 0 ∨ ∃ d, d < 2 * E ∧ st d = v
  potOK : ∀ d, d < 2 * E → T iv R (pot (st d) ++ lb d :: winv iv (pot (st (th d))))
  split : ∀ p b q s, O = p ++ b :: (q ++ th b :: s) → ∃ n1 n2, n1 + n2 ≤ n ∧ Dia iv R (q.map lb) n1 ∧ Dia iv R ((p ++ s).map lb) n2
  expose : ∀ p b q f u v, O = p ++ b :: q → f ∈ Fs → f = u ++ th b :: v → ∃ m, m + 1 ≤ n ∧ Dia iv R (p.map lb ++ ((v ++ u).map lb ++ q.map lb)) m
  reduced : ∀ f g u v u' v' d, f ∈ Fs → g ∈ Fs → f = u ++ d :: v → g = u' ++ th d :: v' → (v ++ u).map lb ≠ winv iv ((v' ++ u').map lb)

section
variable {α : Type} {iv : α → α} {R : List α → Prop}

theorem Dg.O_lt {w : List α} {n : Nat} (D : Dg iv R w n) {d : Nat} (h : d ∈ D.O) : d < 2 * D.E := (D.all d).1 (List.mem_append_left _ h)
theorem Dg.F_lt {w : List α} {n : Nat} (D : Dg iv R w n) {d : Nat} {f : List Nat} (hf : f ∈ D.Fs) (h : d ∈ f) : d < 2 * D.E :=
  (D.all d).1 (List.mem_append_right _ (List.mem_flatten.2 ⟨f, hf, h⟩))

theorem Dg.nil (a : α) : Nonempty (Dg iv R [] 0) :=
  ⟨{ E := 0, V := 1, st := fun _ => 0, lb := fun _ => a, O := [], Fs := [], pot := fun _ => [], dia := Dia.nil, nodup := by simp, all := by simp, lab := rfl, lbth := by simp, clO := rfl, clF := by simp, labF := by simp, euler := rfl, cnt := rfl, stlt := by simp, pos := by decide, surj := fun v h => .inl (by omega), potOK := by simp, split := by simp, expose := by simp, reduced := by simp }⟩

theorem Dg.alter {w : List α} {n : Nat} (D : Dg iv R w n) (st' : Nat → Nat) (lb' : Nat → α) (pot' : Nat → List α) (h1 : ∀ d, d < 2 * D.E → st' d = D.st d) (h2 : ∀ d, d < 2 * D.E → lb' d = D.lb d) (h3 : ∀ v, v < D.V → pot' v = D.pot v) :
    ∃ D' : Dg iv R w n, D'.E = D.E ∧ D'.V = D.V ∧ D'.O = D.O ∧ D'.Fs = D.Fs ∧ D'.st = st' ∧ D'.lb = lb' ∧ D'.pot = pot' := by
  have mp : ∀ l : List Nat, (∀ d ∈ l, d < 2 * D.E) → l.map lb' = l.map D.lb := fun l hl => List.map_congr_left fun d hd => h2 d (hl d hd)
  have pc : ∀ d, d < 2 * D.E → st' d = D.st d ∧ st' (th d) = D.st (th d) := fun d hd => ⟨h1 d hd, h1 _ (th_lt.2 hd)⟩
  refine ⟨{ E := D.E, V := D.V, st := st', lb := lb', O := D.O, Fs := D.Fs, pot := pot', dia := D.dia, nodup := D.nodup, all := D.all, lab := ?_, lbth := ?_, clO := ?_, clF := ?_, labF := ?_, euler := D.euler, cnt := D.cnt, stlt := ?_, pos := D.pos, surj := ?_, potOK := ?_, split := ?_, expose := ?_, reduced := ?_ }, rfl, rfl, rfl, rfl, rfl, rfl, rfl⟩
  · rw [mp _ fun d => D.O_lt]; exact D.lab
  · intro d hd; rw [h2 d hd, h2 _ (th_lt.2 hd)]; exact D.lbth d hd
  · exact Pth.congr (fun d hd => pc d (D.O_lt hd)) D.clO
  · intro f hf; obtain ⟨v, h⟩ := D.clF f hf; exact ⟨v, Pth.congr (fun d hd => pc d (D.F_lt hf hd)) h⟩
  · intro f hf; rw [mp _ fun d => D.F_lt hf]; exact D.labF f hf
  · intro d hd; rw [h1 d hd]; exact D.stlt d hd
  · intro v hv; rcases D.surj v hv with h | ⟨d, hd, h⟩
    · exact .inl h
    · exact .inr ⟨d, hd, by rw [h1 d hd]; exact h⟩
  · intro d hd; rw [h1 d hd, h1 _ (th_lt.2 hd), h2 d hd, h3 _ (D.stlt d hd), h3 _ (D.stlt _ (th_lt.2 hd))]; exact D.potOK d hd
  · intro p b q s e
    have hO : ∀ d ∈ p ++ b :: (q ++ th b :: s), d < 2 * D.E := fun d hd => D.O_lt (by rw [e]; exact hd)
    obtain ⟨n1, n2, h, k1, k2⟩ := D.split p b q s e
    refine ⟨n1, n2, h, ?_, ?_⟩
    · rw [mp q fun d hd => hO d (by simp [hd])]; exact k1
    · rw [mp (p ++ s) fun d hd => hO d (by rcases List.mem_append.1 hd with q | q <;> simp [q])]; exact k2
  · intro p b q f u v e hf ef
    have hO : ∀ d ∈ p ++ b :: q, d < 2 * D.E := fun d hd => D.O_lt (by rw [e]; exact hd)
    have hF : ∀ d ∈ u ++ th b :: v, d < 2 * D.E := fun d hd => D.F_lt hf (by rw [ef]; exact hd)
    rw [mp p fun d hd => hO d (by simp [hd]), mp q fun d hd => hO d (by simp [hd]), mp (v ++ u) fun d hd => hF d (by rcases List.mem_append.1 hd with q | q <;> simp [q])]
    exact D.expose p b q f u v e hf ef
  · intro f g u v u' v' d hf hg ef eg
    have hF : ∀ k ∈ u ++ d :: v, k < 2 * D.E := fun d hd => D.F_lt hf (by rw [ef]; exact hd)
    have hG : ∀ k ∈ u' ++ th d :: v', k < 2 * D.E := fun d hd => D.F_lt hg (by rw [eg]; exact hd)
    rw [mp (v ++ u) fun d hd => hF d (by rcases List.mem_append.1 hd with q | q <;> simp [q]), mp (v' ++ u') fun d hd => hG d (by rcases List.mem_append.1 hd with q | q <;> simp [q])]
    exact D.reduced f g u v u' v' d hf hg ef eg

theorem Dg.path {w : List α} {n : Nat} (S : Sys iv R) (D : Dg iv R w n) : ∀ {l : List Nat} {v v' : Nat}, Pth D.st v l v' → (∀ d ∈ l, d < 2 * D.E) → T iv R (D.pot v ++ (l.map D.lb ++ winv iv (D.pot v')))
  | [], v, v', h, _ => by
    have := (T.nil (iv := iv) (R := R)).insw S (u := D.pot v) (x := []) (y := [])
    simp only [Pth] at h
    simpa [h] using this
  | d :: l, v, v', h, hd => by
    have h1 := D.potOK d (hd d List.mem_cons_self)
    rw [h.1] at h1
    have h2 := D.path S h.2 (fun k hk => hd k (List.mem_cons_of_mem _ hk))
    have := T.delw' S (u := D.pot (D.st (th d))) (x := D.pot v ++ [D.lb d]) (y := l.map D.lb ++ winv iv (D.pot v')) (by simpa using h1.concat h2)
    simpa using this
/-- Closed paths are trivial. -/
theorem Dg.loop {w : List α} {n : Nat} (S : Sys iv R) (D : Dg iv R w n) {l : List Nat} {v : Nat} (h : Pth D.st v l v) (hd : ∀ d ∈ l, d < 2 * D.E) : T iv R (l.map D.lb) := by
  have h1 := D.path S h hd
  have h2 : T iv R (l.map D.lb ++ (winv iv (D.pot v) ++ D.pot v)) := by
    have := T.rot S (x := D.pot v) (y := l.map D.lb ++ winv iv (D.pot v)) h1
    simpa using this
  have := T.delw' S (u := D.pot v) (x := l.map D.lb) (y := []) (by simpa using h2)
  simpa using this

theorem mid_cases {X M Y p r : List Nat} {b : Nat} (h : X ++ (M ++ Y) = p ++ b :: r) (hb : b ∉ M) :
    (∃ X2, X = p ++ b :: X2 ∧ r = X2 ++ (M ++ Y)) ∨ (∃ Y1, Y = Y1 ++ b :: r ∧ p = X ++ (M ++ Y1)) := by
  rcases List.append_eq_append_iff.1 h with ⟨z, rfl, e⟩ | ⟨z, rfl, e⟩
  · rcases List.append_eq_append_iff.1 e with ⟨z', rfl, e'⟩ | ⟨z', rfl, e'⟩
    · exact .inr ⟨z', e', rfl⟩
    · cases z' with
      | nil => exact .inr ⟨[], by simpa using e'.symm, by simp⟩
      | cons c z' =>
        simp only [List.cons_append, List.cons.injEq] at e'
        exact absurd (by rw [e'.1]; simp) hb
  · cases z with
    | nil =>
      cases M with
      | nil => exact .inr ⟨[], by simpa using e.symm, by simp⟩
      | cons c M =>
        simp only [List.nil_append, List.cons_append, List.cons.injEq] at e
        exact absurd (by rw [e.1]; simp) hb
    | cons c z =>
      simp only [List.cons_append, List.cons.injEq] at e
      exact .inl ⟨z, by rw [e.1], e.2⟩

/-- Where a stretch T of the boundary is replaced by M: the boundary's inner gluings. -/
theorem split_step {lb : Nat → α} {X T M Y : List Nat} {n c : Nat}
    (hs : ∀ p b q s, X ++ (T ++ Y) = p ++ b :: (q ++ th b :: s) → ∃ n1 n2, n1 + n2 ≤ n ∧ Dia iv R (q.map lb) n1 ∧ Dia iv R ((p ++ s).map lb) n2)
    (hr : ∀ (x y : List α) k, Dia iv R (x ++ (T.map lb ++ y)) k → Dia iv R (x ++ (M.map lb ++ y)) (k + c))
    {p q s : List Nat} {b : Nat} (e : X ++ (M ++ Y) = p ++ b :: (q ++ th b :: s)) (h1 : b ∉ M) (h2 : th b ∉ M) :
    ∃ n1 n2, n1 + n2 ≤ n + c ∧ Dia iv R (q.map lb) n1 ∧ Dia iv R ((p ++ s).map lb) n2 := by
  rcases mid_cases e h1 with ⟨X2, rfl, e2⟩ | ⟨Y1, rfl, rfl⟩
  · rcases mid_cases e2.symm h2 with ⟨X3, rfl, rfl⟩ | ⟨Y1, rfl, rfl⟩
    · obtain ⟨n1, n2, h, k1, k2⟩ := hs p b q (X3 ++ (T ++ Y)) (by simp)
      refine ⟨n1, n2 + c, by omega, k1, ?_⟩
      have := hr (p.map lb ++ X3.map lb) (Y.map lb) n2 (by simpa using k2)
      simpa using this
    · obtain ⟨n1, n2, h, k1, k2⟩ := hs p b (X2 ++ (T ++ Y1)) s (by simp)
      refine ⟨n1 + c, n2, by omega, ?_, k2⟩
      have := hr (X2.map lb) (Y1.map lb) n1 (by simpa using k1)
      simpa using this
  · obtain ⟨n1, n2, h, k1, k2⟩ := hs (X ++ (T ++ Y1)) b q s (by simp)
    refine ⟨n1, n2 + c, by omega, k1, ?_⟩
    have := hr (X.map lb) (Y1.map lb ++ s.map lb) n2 (by simpa using k2)
    simpa using this

/-- The same: faces that are seen from the boundary. -/
theorem expose_step {lb : Nat → α} {X T M Y : List Nat} {n c : Nat} {z : List α} {b : Nat}
    (hs : ∀ p q, X ++ (T ++ Y) = p ++ b :: q → ∃ m, m + 1 ≤ n ∧ Dia iv R (p.map lb ++ (z ++ q.map lb)) m)
    (hr : ∀ (x y : List α) k, Dia iv R (x ++ (T.map lb ++ y)) k → Dia iv R (x ++ (M.map lb ++ y)) (k + c))
    {p q : List Nat} (e : X ++ (M ++ Y) = p ++ b :: q) (h1 : b ∉ M) :
    ∃ m, m + 1 ≤ n + c ∧ Dia iv R (p.map lb ++ (z ++ q.map lb)) m := by
  rcases mid_cases e h1 with ⟨X2, rfl, rfl⟩ | ⟨Y1, rfl, rfl⟩
  · obtain ⟨m, h, k⟩ := hs p (X2 ++ (T ++ Y)) (by simp)
    refine ⟨m + c, by omega, ?_⟩
    have := hr (p.map lb ++ (z ++ X2.map lb)) (Y.map lb) m (by simpa using k)
    simpa using this
  · obtain ⟨m, h, k⟩ := hs (X ++ (T ++ Y1)) q (by simp)
    refine ⟨m + c, by omega, ?_⟩
    have := hr (X.map lb) (Y1.map lb ++ (z ++ q.map lb)) m (by simpa using k)
    simpa using this

theorem split_uniq {l a b c d : List Nat} {k : Nat} (h : l.Nodup) (e1 : l = a ++ k :: b) (e2 : l = c ++ k :: d) : a = c ∧ b = d := by
  subst e1
  induction a generalizing c with
  | nil =>
    cases c with
    | nil => simpa using e2
    | cons m c =>
      simp only [List.nil_append, List.cons_append, List.cons.injEq] at e2
      rw [e2.2, e2.1] at h
      simp at h
  | cons m a ih =>
    cases c with
    | nil =>
      simp only [List.nil_append, List.cons_append, List.cons.injEq] at e2
      rw [e2.1] at h
      simp at h
    | cons m' c =>
      simp only [List.cons_append, List.cons.injEq] at e2
      have := ih (List.nodup_cons.1 h).2 e2.2
      exact ⟨by rw [e2.1, this.1], this.2⟩

theorem Dg.spur {x y w : List α} {n : Nat} (S : Sys iv R) (D0 : Dg iv R w n) (ew : w = x ++ y) (a : α) : Nonempty (Dg iv R (x ++ a :: iv a :: y) n) := by
  obtain ⟨X, Y, eO, eX, eY⟩ := List.map_eq_append_iff.1 (D0.lab.trans ew)
  have hcl := D0.clO
  rw [eO, Pth.append] at hcl
  obtain ⟨v, hX, hY⟩ := hcl
  obtain ⟨D, hE, hV, hO, hF, hst, hlb, hpot⟩ := D0.alter (up (up D0.st (2 * D0.E) v) (2 * D0.E + 1) D0.V) (up (up D0.lb (2 * D0.E) a) (2 * D0.E + 1) (iv a)) (up D0.pot D0.V (D0.pot v ++ [a]))
    (fun d hd => by rw [up_ne (by omega), up_ne (by omega)]) (fun d hd => by rw [up_ne (by omega), up_ne (by omega)]) (fun d hd => by rw [up_ne (by omega)])
  have vlt : v < D0.V := by
    cases Y with
    | nil => simp only [Pth] at hY; rw [hY]; exact D0.pos
    | cons d Y => rw [← hY.1]; exact D0.stlt _ (D0.O_lt (by rw [eO]; simp))
  have s1 : D.st (2 * D.E) = v := by rw [hst, hE, up_ne (by omega), up_same]
  have s2 : D.st (2 * D.E + 1) = D.V := by rw [hst, hE, up_same, hV]
  have l1 : D.lb (2 * D.E) = a := by rw [hlb, hE, up_ne (by omega), up_same]
  have l2 : D.lb (2 * D.E + 1) = iv a := by rw [hlb, hE, up_same]
  have p1 : D.pot D.V = D.pot v ++ [a] := by rw [hpot, hV, up_same, up_ne (by omega)]
  have eO' : D.O = X ++ Y := by rw [hO, eO]
  have hxy : ∀ d, d ∈ X ++ Y → d < 2 * D.E := fun d hd => D.O_lt (by rw [eO']; exact hd)
  have eX' : X.map D.lb = x := by rw [← eX]; exact List.map_congr_left fun d hd => by rw [hlb, up_ne, up_ne] <;> have := hxy d (List.mem_append_left _ hd) <;> omega
  have eY' : Y.map D.lb = y := by rw [← eY]; exact List.map_congr_left fun d hd => by rw [hlb, up_ne, up_ne] <;> have := hxy d (List.mem_append_right _ hd) <;> omega
  have hcl := D.clO
  rw [eO', Pth.append] at hcl
  obtain ⟨v', hX', hY'⟩ := hcl
  have evv : v' = v := by
    cases Y with
    | nil => simp only [Pth] at hY hY'; rw [hY, hY']
    | cons d Y =>
      rw [← hY.1, ← hY'.1, hst, up_ne, up_ne] <;> have := hxy d (by simp) <;> omega
  subst evv
  clear hst hlb hpot hO hF eO eX eY hX hY
  have hrule : ∀ (x y : List α) k, Dia iv R (x ++ (([] : List Nat).map D.lb ++ y)) k → Dia iv R (x ++ (([2 * D.E, 2 * D.E + 1] : List Nat).map D.lb ++ y)) (k + 0) := fun x y k h => by
    simpa [l1, l2] using Dia.spur (a := a) (by simpa using h)
  have nd : (X ++ 2 * D.E :: (2 * D.E + 1) :: Y ++ D.Fs.flatten).Nodup := by
    have h0 := D.nodup
    rw [eO'] at h0
    have hp : (X ++ 2 * D.E :: (2 * D.E + 1) :: Y ++ D.Fs.flatten).Perm (2 * D.E :: (2 * D.E + 1) :: (X ++ Y ++ D.Fs.flatten)) := by
      simp only [List.append_assoc, List.cons_append]
      exact (List.perm_middle).trans ((List.perm_middle).cons _)
    rw [hp.nodup_iff, List.nodup_cons, List.nodup_cons]
    have hm : ∀ d, d ∈ X ++ Y ++ D.Fs.flatten → d < 2 * D.E := fun d hd => (D.all d).1 (by rw [eO']; exact hd)
    refine ⟨fun h => ?_, fun h => ?_, h0⟩
    · rcases List.mem_cons.1 h with h | h
      · omega
      · have := hm _ h; omega
    · have := hm _ h; omega
  refine ⟨{ E := D.E + 1, V := D.V + 1, st := D.st, lb := D.lb, O := X ++ 2 * D.E :: (2 * D.E + 1) :: Y, Fs := D.Fs, pot := D.pot, dia := (by have := D.dia; rw [ew] at this; exact this.spur), nodup := nd, all := ?_, lab := ?_, lbth := ?_, clO := ?_, clF := D.clF, labF := D.labF, euler := ?_, cnt := D.cnt, stlt := ?_, pos := Nat.succ_pos _, surj := ?_, potOK := ?_, split := ?_, expose := ?_, reduced := D.reduced }⟩
  · intro d
    have := D.all d
    rw [eO'] at this
    have e : d ∈ X ++ 2 * D.E :: (2 * D.E + 1) :: Y ++ D.Fs.flatten ↔ (d ∈ X ++ Y ++ D.Fs.flatten ∨ d = 2 * D.E ∨ d = 2 * D.E + 1) := by
      simp only [List.mem_append, List.mem_cons]; grind
    rw [e, this]; omega
  · simp [eX', eY', l1, l2]
  · intro d hd
    by_cases h : d < 2 * D.E
    · exact D.lbth d h
    · by_cases h2 : d = 2 * D.E
      · subst h2; rw [th_even, l1, l2]
      · have : d = 2 * D.E + 1 := by omega
        subst this; rw [th_odd, l1, l2, S.two]
  · rw [Pth.append]
    refine ⟨v', hX', s1, ?_⟩
    rw [th_even]
    refine ⟨rfl, ?_⟩
    rw [th_odd, s1]; exact hY'
  · have := D.euler; omega
  · intro d hd
    by_cases h : d < 2 * D.E
    · exact Nat.lt_succ_of_lt (D.stlt d h)
    · by_cases h2 : d = 2 * D.E
      · subst h2; rw [s1, hV]; omega
      · have : d = 2 * D.E + 1 := by omega
        subst this; rw [s2]; exact Nat.lt_succ_self _
  · intro u hu
    by_cases h : u < D.V
    · rcases D.surj u h with h | ⟨d, hd, h⟩
      · exact .inl h
      · exact .inr ⟨d, by omega, h⟩
    · exact .inr ⟨2 * D.E + 1, by omega, by rw [s2]; omega⟩
  · intro d hd
    have key : T iv R (D.pot v' ++ a :: winv iv (D.pot D.V)) := by
      rw [p1]
      have := (T.nil (iv := iv) (R := R)).insw S (u := D.pot v' ++ [a]) (x := []) (y := [])
      simpa using this
    by_cases h : d < 2 * D.E
    · exact D.potOK d h
    · by_cases h2 : d = 2 * D.E
      · subst h2; rw [th_even, s1, s2, l1]; exact key
      · have : d = 2 * D.E + 1 := by omega
        subst this; rw [th_odd, s1, s2, l2]
        have := key.invw S
        simpa [winv_two S] using this
  · intro p b q s e
    by_cases hb : b = 2 * D.E
    · subst hb
      rw [th_even] at e
      have nd1 : (X ++ 2 * D.E :: (2 * D.E + 1) :: Y).Nodup := (List.nodup_append.1 nd).1
      obtain ⟨e1, e2⟩ := split_uniq nd1 rfl e
      subst e1
      have nd2 : ((2 * D.E + 1) :: Y).Nodup := (List.nodup_cons.1 (List.nodup_append.1 nd1).2.1).2
      obtain ⟨e3, e4⟩ := split_uniq (a := []) nd2 rfl e2
      subst e3 e4
      refine ⟨0, n, by omega, Dia.nil, ?_⟩
      have := D.dia
      rw [← D.lab, eO'] at this
      exact this
    · by_cases hb1 : b = 2 * D.E + 1
      · subst hb1
        rw [th_odd] at e
        have nd1 : (X ++ 2 * D.E :: (2 * D.E + 1) :: Y).Nodup := (List.nodup_append.1 nd).1
        obtain ⟨e1, e2⟩ := split_uniq (a := X ++ [2 * D.E]) (b := Y) nd1 (by simp) e
        rw [e2] at nd1
        exact absurd (by simp) (List.nodup_cons.1 (List.nodup_append.1 nd1).2.1).1
      · have hb2 : th b ≠ 2 * D.E := fun q => hb1 (by have := congrArg th q; rwa [th_th, th_even] at this)
        have hb3 : th b ≠ 2 * D.E + 1 := fun q => hb (by have := congrArg th q; rwa [th_th, th_odd] at this)
        have := split_step (lb := D.lb) (X := X) (T := []) (M := [2 * D.E, 2 * D.E + 1]) (Y := Y) (n := n) (c := 0) (p := p) (q := q) (s := s) (b := b) (fun p b q s e => D.split p b q s (by rw [eO']; simpa using e)) hrule (by simpa using e) (by simp [hb, hb1]) (by simp [hb2, hb3])
        simpa using this
  · intro p b q f u v e hf ef
    have hb : th b < 2 * D.E := D.F_lt hf (by rw [ef]; simp)
    have hb' := th_lt.1 hb
    have := expose_step (lb := D.lb) (X := X) (T := []) (M := [2 * D.E, 2 * D.E + 1]) (Y := Y) (n := n) (c := 0) (p := p) (q := q) (b := b) (z := (v ++ u).map D.lb) (fun p q e => D.expose p b q f u v (by rw [eO']; simpa using e) hf ef) hrule (by simpa using e) (by simp; omega)
    simpa using this

/-- A word that is its own inverse has two inverse letters side by side. -/
theorem own_inv (S : Sys iv R) : ∀ (k : Nat) (z : List α), z.length ≤ k → z ≠ [] → z = winv iv z → ∃ p c q, z = p ++ c :: iv c :: q
  | 0, z, hk, hz, _ => absurd (List.eq_nil_of_length_eq_zero (by omega)) hz
  | k + 1, [], _, hz, _ => absurd rfl hz
  | k + 1, c :: z, hk, _, e => by
    rcases List.eq_nil_or_concat z with rfl | ⟨z', d, rfl⟩
    · simp at e; exact absurd e.symm (S.ne c)
    · simp only [winv_cons, List.concat_eq_append, winv_append, winv_nil, List.nil_append, List.cons_append, List.append_assoc] at e
      injection e with e1 e2
      have e3 : z' ++ [d] = winv iv z' ++ [iv c] := e2
      have h := List.append_inj' e3 rfl
      have hd : d = iv c := by simpa using h.2
      subst hd
      cases z' with
      | nil => exact ⟨[], c, [], rfl⟩
      | cons b z' =>
        obtain ⟨p, c', q, hq⟩ := own_inv S k (b :: z') (by simp at hk ⊢; omega) (by simp) h.1
        exact ⟨c :: p, c', q ++ [iv c], by rw [List.concat_eq_append, hq]; simp⟩
theorem R_free (S : Sys iv R) {p q : List α} {c : α} : ¬ R (p ++ c :: iv c :: q) := fun h => by
  have := R_rots S p _ h
  exact S.red c (iv c) (q ++ p) (by simpa using this) rfl
theorem no_inv (S : Sys iv R) {A B : List α} (h : R (A ++ B)) : winv iv (A ++ B) ≠ B ++ A := fun e => by
  rw [winv_append] at e
  have hh := List.append_inj e (by simp)
  by_cases hB : B = []
  · subst hB
    have hA : A ≠ [] := fun q => by subst q; exact S.some h
    obtain ⟨p, c, q, e⟩ := own_inv S A.length A (Nat.le_refl _) hA hh.2.symm
    rw [e] at h
    exact R_free S (by simpa using h)
  · obtain ⟨p, c, q, e⟩ := own_inv S B.length B (Nat.le_refl _) hB hh.1.symm
    have := R_rots S _ _ h
    rw [e] at this
    exact R_free S (by simpa using this)

/-- A face does not meet itself along a dart as its own mirror image. -/
theorem self_face (S : Sys iv R) {lb : Nat → α} {f u v u' v' : List Nat} {d : Nat} (hR : R (f.map lb)) (hl : lb (th d) = iv (lb d)) (e1 : f = u ++ d :: v) (e2 : f = u' ++ th d :: v') :
    (v ++ u).map lb ≠ winv iv ((v' ++ u').map lb) := fun e => by
  have hne : d ≠ th d := fun q => th_ne d q.symm
  have hM : d ∉ ([] : List Nat) := by simp
  have key : winv iv ((th d :: v' ++ u').map lb) = (v ++ u ++ [d]).map lb := by
    have h1 : (th d :: v' ++ u').map lb = iv (lb d) :: (v' ++ u').map lb := by simp [hl]
    rw [h1, winv_cons, S.two, ← e]; simp
  rcases mid_cases (X := u) (M := [d]) (Y := v) (p := u') (r := v') (b := th d) (by simpa using e1.symm.trans e2) (by simp; exact fun q => hne q.symm) with ⟨X2, rfl, rfl⟩ | ⟨Y1, rfl, rfl⟩
  · -- u = u' ++ th d :: X2, v' = X2 ++ d :: v
    refine no_inv S (A := (th d :: X2 ++ [d]).map lb) (B := (v ++ u').map lb) ?_ ?_
    · have := R_rots S (u'.map lb) ((th d :: X2 ++ d :: v).map lb) (by rw [e2] at hR; simpa using hR)
      simpa using this
    · have := key
      simpa using this
  · -- v = Y1 ++ th d :: v', u' = u ++ d :: Y1
    refine no_inv S (A := (th d :: v' ++ u ++ [d]).map lb) (B := Y1.map lb) ?_ ?_
    · have := R_rots S ((u ++ d :: Y1).map lb) ((th d :: v').map lb) (by rw [e2] at hR; simpa using hR)
      simpa using this
    · have := key
      simpa using this

theorem Dg.cell {x y w t : List α} {n : Nat} (S : Sys iv R) (D0 : Dg iv R w n) (a : α) (hR : R (a :: t)) (ew : w = x ++ (winv iv t ++ y)) (hmin : ∀ m, Dia iv R (x ++ a :: y) m → n + 1 ≤ m) : Nonempty (Dg iv R (x ++ a :: y) (n + 1)) := by
  obtain ⟨X, Y0, eO0, eX, eY0⟩ := List.map_eq_append_iff.1 (D0.lab.trans ew)
  obtain ⟨Tt, Y, rfl, eT, eY⟩ := List.map_eq_append_iff.1 eY0
  clear eY0
  have hcl := D0.clO
  rw [eO0, Pth.append] at hcl
  obtain ⟨vs, hX, hY⟩ := hcl
  rw [Pth.append] at hY
  obtain ⟨ve, hT, hY⟩ := hY
  obtain ⟨D, hE, hV, hO, hF, hst, hlb, hpot⟩ := D0.alter (up (up D0.st (2 * D0.E) vs) (2 * D0.E + 1) ve) (up (up D0.lb (2 * D0.E) a) (2 * D0.E + 1) (iv a)) D0.pot
    (fun d hd => by rw [up_ne (by omega), up_ne (by omega)]) (fun d hd => by rw [up_ne (by omega), up_ne (by omega)]) (fun d hd => rfl)
  have hO0 : ∀ d, d ∈ X ++ (Tt ++ Y) → d < 2 * D0.E := fun d hd => D0.O_lt (by rw [eO0]; exact hd)
  have ste : ∀ d, d < 2 * D0.E → D.st d = D0.st d := fun d hd => by rw [hst, up_ne (by omega), up_ne (by omega)]
  have stc : ∀ d, d < 2 * D0.E → D.st d = D0.st d ∧ D.st (th d) = D0.st (th d) := fun d hd => ⟨ste d hd, ste _ (th_lt.2 hd)⟩
  have lbe : ∀ d, d < 2 * D0.E → D.lb d = D0.lb d := fun d hd => by rw [hlb, up_ne (by omega), up_ne (by omega)]
  have hX' : Pth D.st 0 X vs := Pth.congr (fun d hd => stc d (hO0 d (by simp [hd]))) hX
  have hT' : Pth D.st vs Tt ve := Pth.congr (fun d hd => stc d (hO0 d (by simp [hd]))) hT
  have hY' : Pth D.st ve Y 0 := Pth.congr (fun d hd => stc d (hO0 d (by simp [hd]))) hY
  have eX' : X.map D.lb = x := by rw [← eX]; exact List.map_congr_left fun d hd => lbe d (hO0 d (by simp [hd]))
  have eT' : Tt.map D.lb = winv iv t := by rw [← eT]; exact List.map_congr_left fun d hd => lbe d (hO0 d (by simp [hd]))
  have eY' : Y.map D.lb = y := by rw [← eY]; exact List.map_congr_left fun d hd => lbe d (hO0 d (by simp [hd]))
  have vlt : ∀ u, (∃ l, Pth D0.st u l 0 ∧ ∀ d ∈ l, d < 2 * D0.E) → u < D0.V := fun u ⟨l, hl, hd⟩ => by
    cases l with
    | nil => simp only [Pth] at hl; rw [hl]; exact D0.pos
    | cons d l => rw [← hl.1]; exact D0.stlt _ (hd d (by simp))
  have vs_lt : vs < D0.V := vlt vs ⟨Tt ++ Y, Pth.append.2 ⟨ve, hT, hY⟩, fun d hd => hO0 d (List.mem_append_right _ hd)⟩
  have ve_lt : ve < D0.V := vlt ve ⟨Y, hY, fun d hd => hO0 d (by simp [hd])⟩
  have s1 : D.st (2 * D.E) = vs := by rw [hst, hE, up_ne (by omega), up_same]
  have s2 : D.st (2 * D.E + 1) = ve := by rw [hst, hE, up_same]
  have l1 : D.lb (2 * D.E) = a := by rw [hlb, hE, up_ne (by omega), up_same]
  have l2 : D.lb (2 * D.E + 1) = iv a := by rw [hlb, hE, up_same]
  have eO : D.O = X ++ (Tt ++ Y) := by rw [hO, eO0]
  rw [← hV] at vs_lt ve_lt
  rw [← hE] at hO0
  clear hst hlb hpot hO hF eO0 eX eT eY hX hT hY ste stc lbe vlt
  have hrule : ∀ (x y : List α) k, Dia iv R (x ++ (Tt.map D.lb ++ y)) k → Dia iv R (x ++ (([2 * D.E] : List Nat).map D.lb ++ y)) (k + 1) := fun x y k h => by
    simpa [l1] using Dia.cell S (x := x) (y := y) hR (by rw [eT'] at h; exact h)
  have dia' : Dia iv R (x ++ a :: y) (n + 1) := Dia.cell S hR (by have := D.dia; rw [ew] at this; exact this)
  have newR : R (((2 * D.E + 1) :: Tt).map D.lb) := by
    have := R_rots S (winv iv t) [iv a] (by simpa using S.inv _ hR)
    simpa [l2, eT'] using this
  have labs : ∀ d, d < 2 * (D.E + 1) → D.lb (th d) = iv (D.lb d) := fun d hd => by
    by_cases h : d < 2 * D.E
    · exact D.lbth d h
    · by_cases h2 : d = 2 * D.E
      · subst h2; rw [th_even, l1, l2]
      · have : d = 2 * D.E + 1 := by omega
        subst this; rw [th_odd, l1, l2, S.two]
  have ndD := D.nodup
  rw [eO] at ndD
  have hp : (X ++ 2 * D.E :: Y ++ (((2 * D.E + 1) :: Tt) :: D.Fs).flatten).Perm (2 * D.E :: (2 * D.E + 1) :: (X ++ (Tt ++ Y) ++ D.Fs.flatten)) := by
    simp only [List.append_assoc, List.cons_append, List.flatten_cons]
    refine (List.perm_middle).trans ((?_ : List.Perm _ _).cons _)
    have e1 : (X ++ (Y ++ (2 * D.E + 1) :: (Tt ++ D.Fs.flatten))).Perm ((2 * D.E + 1) :: (X ++ (Y ++ (Tt ++ D.Fs.flatten)))) := by
      have := List.perm_middle (a := 2 * D.E + 1) (l₁ := X ++ Y) (l₂ := Tt ++ D.Fs.flatten)
      simpa using this
    refine e1.trans (List.Perm.cons _ ?_)
    refine List.Perm.append_left _ ?_
    rw [← List.append_assoc, ← List.append_assoc]
    exact List.Perm.append_right _ List.perm_append_comm
  have hm : ∀ d, d ∈ X ++ (Tt ++ Y) ++ D.Fs.flatten → d < 2 * D.E := fun d hd => (D.all d).1 (by rw [eO]; exact hd)
  have nd : (X ++ 2 * D.E :: Y ++ (((2 * D.E + 1) :: Tt) :: D.Fs).flatten).Nodup := by
    rw [hp.nodup_iff, List.nodup_cons, List.nodup_cons]
    refine ⟨fun h => ?_, fun h => ?_, ndD⟩
    · rcases List.mem_cons.1 h with h | h
      · omega
      · have := hm _ h; omega
    · have := hm _ h; omega
  have ndT : ((2 * D.E + 1) :: Tt).Nodup := by
    have := (List.nodup_append.1 nd).2.1
    rw [List.flatten_cons] at this
    exact (List.nodup_append.1 this).1
  have ndO : (X ++ 2 * D.E :: Y).Nodup := (List.nodup_append.1 nd).1
  have hself : ∀ (f g u v u' v' : List Nat) (d : Nat), f = (2 * D.E + 1) :: Tt → g ∈ D.Fs → f = u ++ d :: v → g = u' ++ th d :: v' → (v ++ u).map D.lb ≠ winv iv ((v' ++ u').map D.lb) := by
    intro f g u v u' v' d hf hg ef eg e
    have hd : th d < 2 * D.E := D.F_lt hg (by rw [eg]; simp)
    have hd' := th_lt.1 hd
    subst hf
    cases u with
    | nil => simp only [List.nil_append, List.cons.injEq] at ef; omega
    | cons c T1 =>
      simp only [List.cons_append, List.cons.injEq] at ef
      obtain ⟨rfl, ef⟩ := ef
      obtain ⟨m, hm', k⟩ := D.expose (X ++ T1) d (v ++ Y) g u' v' (by rw [eO, ef]; simp) hg eg
      have e2 : (v' ++ u').map D.lb = winv iv (T1.map D.lb) ++ a :: winv iv (v.map D.lb) := by
        have := congrArg (winv iv) e
        rw [winv_two S] at this
        rw [← this]
        simp [l2, S.two]
      rw [e2] at k
      obtain ⟨m1, h1, k1⟩ := Dia.delw S (T1.map D.lb) (x := x) (y := a :: (winv iv (v.map D.lb) ++ (v ++ Y).map D.lb)) (n := m) (by simpa [eX'] using k)
      obtain ⟨m2, h2, k2⟩ := Dia.delw' S (v.map D.lb) (x := x ++ [a]) (y := Y.map D.lb) (n := m1) (by simpa using k1)
      have := hmin m2 (by simpa [eY'] using k2)
      omega
  refine ⟨{ E := D.E + 1, V := D.V, st := D.st, lb := D.lb, O := X ++ 2 * D.E :: Y, Fs := ((2 * D.E + 1) :: Tt) :: D.Fs, pot := D.pot, dia := dia', nodup := nd, all := ?_, lab := ?_, lbth := labs, clO := ?_, clF := ?_, labF := ?_, euler := ?_, cnt := ?_, stlt := ?_, pos := D.pos, surj := ?_, potOK := ?_, split := ?_, expose := ?_, reduced := ?_ }⟩
  · intro d
    have := D.all d
    rw [eO] at this
    rw [hp.mem_iff, List.mem_cons, List.mem_cons, this]; omega
  · simp [eX', eY', l1]
  · rw [Pth.append]
    refine ⟨vs, hX', s1, ?_⟩
    rw [th_even, s2]
    exact hY'
  · intro f hf
    rcases List.mem_cons.1 hf with rfl | hf
    · exact ⟨ve, s2, by rw [th_odd, s1]; exact hT'⟩
    · exact D.clF f hf
  · intro f hf
    rcases List.mem_cons.1 hf with rfl | hf
    · exact newR
    · exact D.labF f hf
  · have := D.euler; simp only [List.length_cons]; omega
  · simp only [List.length_cons, D.cnt]
  · intro d hd
    by_cases h : d < 2 * D.E
    · exact D.stlt d h
    · by_cases h2 : d = 2 * D.E
      · subst h2; rw [s1]; exact vs_lt
      · have : d = 2 * D.E + 1 := by omega
        subst this; rw [s2]; exact ve_lt
  · intro u hu
    rcases D.surj u hu with h | ⟨d, hd, h⟩
    · exact .inl h
    · exact .inr ⟨d, by omega, h⟩
  · intro d hd
    have key : T iv R (D.pot vs ++ a :: winv iv (D.pot ve)) := by
      have := D.path S hT' (fun d hd => hO0 d (by simp [hd]))
      rw [eT'] at this
      exact T.cell S hR this
    by_cases h : d < 2 * D.E
    · exact D.potOK d h
    · by_cases h2 : d = 2 * D.E
      · subst h2; rw [th_even, s1, s2, l1]; exact key
      · have : d = 2 * D.E + 1 := by omega
        subst this; rw [th_odd, s1, s2, l2]
        have := key.invw S
        simpa [winv_two S] using this
  · intro p b q s e
    have hb : b ≠ 2 * D.E := fun q' => by
      subst q'
      rw [th_even] at e
      have : 2 * D.E + 1 ∈ X ++ 2 * D.E :: Y := by rw [e]; simp
      rcases List.mem_append.1 this with h | h
      · have := hO0 _ (List.mem_append_left _ h); omega
      · rcases List.mem_cons.1 h with h | h
        · omega
        · have := hO0 _ (List.mem_append_right _ (List.mem_append_right _ h)); omega
    have hb2 : th b ≠ 2 * D.E := fun q' => by
      have hb' : b = 2 * D.E + 1 := by rw [← th_th b, q', th_even]
      subst hb'
      have : 2 * D.E + 1 ∈ X ++ 2 * D.E :: Y := by rw [e]; simp
      rcases List.mem_append.1 this with h | h
      · have := hO0 _ (List.mem_append_left _ h); omega
      · rcases List.mem_cons.1 h with h | h
        · omega
        · have := hO0 _ (List.mem_append_right _ (List.mem_append_right _ h)); omega
    exact split_step (lb := D.lb) (X := X) (T := Tt) (M := [2 * D.E]) (Y := Y) (n := n) (c := 1) (p := p) (q := q) (s := s) (b := b) (fun p b q s e => D.split p b q s (by rw [eO]; exact e)) hrule (by simpa using e) (by simp [hb]) (by simp [hb2])
  · intro p b q f u v e hf ef
    rcases List.mem_cons.1 hf with hf | hf
    · by_cases hb : b = 2 * D.E
      · subst hb
        rw [th_even] at ef
        obtain ⟨rfl, rfl⟩ := split_uniq ndO rfl e
        subst hf
        obtain ⟨rfl, rfl⟩ := split_uniq (a := []) ndT rfl ef
        refine ⟨n, by omega, ?_⟩
        have := D.dia
        rw [ew] at this
        simpa [eX', eY', eT'] using this
      · subst hf
        cases u with
        | nil =>
          simp only [List.nil_append, List.cons.injEq] at ef
          exact absurd (by rw [← th_th b, ← ef.1, th_odd]) hb
        | cons c T1 =>
          simp only [List.cons_append, List.cons.injEq] at ef
          obtain ⟨rfl, rfl⟩ := ef
          rcases mid_cases (X := X) (M := [2 * D.E]) (Y := Y) (p := p) (r := q) (b := b) (by simpa using e) (by simp [hb]) with ⟨X2, rfl, rfl⟩ | ⟨Y1, rfl, rfl⟩
          · obtain ⟨n1, n2, h, k1, k2⟩ := D.split p b (X2 ++ T1) (v ++ Y) (by rw [eO]; simp)
            refine ⟨n1 + n2, by omega, ?_⟩
            have k1' : Dia iv R ((T1 ++ X2).map D.lb) n1 := by
              have : Dia iv R (X2.map D.lb ++ T1.map D.lb) n1 := by simpa using k1
              simpa using this.rot S
            have := Dia.ins (x := (p ++ v).map D.lb) (y := Y.map D.lb) (n := n2) (by simpa using k2) (Dia.pair (a := iv a) k1' Dia.nil)
            rw [Nat.add_comm n1]
            simpa [l1, l2, S.two] using this
          · obtain ⟨n1, n2, h, k1, k2⟩ := D.split (X ++ T1) (th b) (v ++ Y1) q (by rw [eO, th_th]; simp)
            refine ⟨n1 + n2, by omega, ?_⟩
            have k1' : Dia iv R ((Y1 ++ v).map D.lb) n1 := by
              have : Dia iv R (v.map D.lb ++ Y1.map D.lb) n1 := by simpa using k1
              simpa using this.rot S
            have := Dia.ins (x := X.map D.lb) (y := (T1 ++ q).map D.lb) (n := n2) (by simpa using k2) (Dia.pair (a := a) k1' Dia.nil)
            rw [Nat.add_comm n1]
            simpa [l1, l2, S.two] using this
    · have hb : th b < 2 * D.E := D.F_lt hf (by rw [ef]; simp)
      have hb' := th_lt.1 hb
      exact expose_step (lb := D.lb) (X := X) (T := Tt) (M := [2 * D.E]) (Y := Y) (n := n) (c := 1) (p := p) (q := q) (b := b) (z := (v ++ u).map D.lb) (fun p q e => D.expose p b q f u v (by rw [eO]; exact e) hf ef) hrule (by simpa using e) (by simp; omega)
  · intro f g u v u' v' d hf hg ef eg
    rcases List.mem_cons.1 hf with hf | hf
    · rcases List.mem_cons.1 hg with hg | hg
      · have hd : d < 2 * (D.E + 1) := (by
          have : d ∈ (2 * D.E + 1) :: Tt := by rw [← hf, ef]; simp
          rcases List.mem_cons.1 this with h | h
          · omega
          · have := hO0 d (by simp [h]); omega)
        exact self_face S (f := f) (by rw [hf]; exact newR) (labs d hd) ef (by rw [hf, ← hg, eg])
      · exact hself f g u v u' v' d hf hg ef eg
    · rcases List.mem_cons.1 hg with hg | hg
      · intro e
        have := hself g f u' v' u v (th d) hg hf eg (by rw [th_th]; exact ef)
        exact this (by rw [e, winv_two S])
      · exact D.reduced f g u v u' v' d hf hg ef eg

/-- Each least diagram is a map. -/
theorem Bld.map {w : List α} {n : Nat} (S : Sys iv R) (a : α) (h : Bld iv R w n) (hmin : ∀ m, Dia iv R w m → n ≤ m) : Nonempty (Dg iv R w n) := by
  induction h with
  | nil => exact Dg.nil a
  | @spur b x y n _ ih =>
    obtain ⟨D⟩ := ih fun m hm => hmin m hm.spur
    exact D.spur S rfl b
  | @cell b t x y n hR _ ih =>
    obtain ⟨D⟩ := ih fun m hm => by have := hmin _ (hm.cell S hR); omega
    exact D.cell S b hR rfl hmin
end
end Green
end Go.Proofs.YtaccklloepfemaaDoor

namespace Go.Proofs.YtaccklloepfemaaDoor
set_option linter.unusedVariables false
set_option linter.unusedSimpArgs false
namespace Green

/-! ### Rows in a circle -/
def nxt (l : List Nat) (d : Nat) : Nat :=
  match l.dropWhile (fun k => k != d) with
  | _ :: e :: _ => e
  | _ => l.headD d
theorem drop_mid {u v : List Nat} {d : Nat} (h : d ∉ u) : (u ++ d :: v).dropWhile (fun k => k != d) = d :: v := by
  induction u with
  | nil => simp
  | cons a u ih =>
    simp only [List.mem_cons, not_or] at h
    rw [List.cons_append, List.dropWhile_cons_of_pos (by simpa using fun q => h.1 q.symm)]
    exact ih h.2
/-- The dart behind a dart in its row: the head of what follows in the circle. -/
theorem nxt_head {l u v : List Nat} {d : Nat} (h : l.Nodup) (e : l = u ++ d :: v) : (v ++ (u ++ [d])).head? = some (nxt l d) := by
  subst e
  have hu : d ∉ u := fun q => by
    have := List.nodup_append.1 h
    exact this.2.2 d q d (by simp) rfl
  unfold nxt
  rw [drop_mid hu]
  cases v with
  | nil => cases u <;> simp
  | cons e v => simp

def Ch (φ : Nat → Nat) : List Nat → Prop
  | a :: b :: l => φ a = b ∧ Ch φ (b :: l)
  | _ => True
theorem Ch.tail {φ : Nat → Nat} {a : Nat} {l : List Nat} (h : Ch φ (a :: l)) : Ch φ l := by
  cases l with
  | nil => exact True.intro
  | cons b l => exact h.2
theorem Ch.snoc {φ : Nat → Nat} : ∀ {l : List Nat} {a b : Nat}, Ch φ (l ++ [a]) → φ a = b → Ch φ (l ++ [a] ++ [b])
  | [], a, b, _, e => ⟨e, True.intro⟩
  | [c], a, b, h, e => ⟨h.1, e, True.intro⟩
  | c :: c' :: l, a, b, h, e => ⟨h.1, Ch.snoc (l := c' :: l) h.2 e⟩
theorem Ch.of {φ : Nat → Nat} : ∀ {l : List Nat}, (∀ u a b v, l = u ++ a :: b :: v → φ a = b) → Ch φ l
  | [], _ => True.intro
  | [a], _ => True.intro
  | a :: b :: l, h => ⟨h [] a b l rfl, Ch.of fun u c d v e => h (a :: u) c d v (by rw [e]; rfl)⟩
theorem Ch.at {φ : Nat → Nat} : ∀ {u v : List Nat} {a b : Nat}, Ch φ (u ++ a :: b :: v) → φ a = b
  | [], v, a, b, h => h.1
  | [c], v, a, b, h => h.2.1
  | c :: c' :: u, v, a, b, h => Ch.at (u := c' :: u) h.2

theorem nd_sum {f : Nat → Nat} : ∀ {s l : List Nat}, s.Nodup → (∀ x ∈ s, x ∈ l) → (s.map f).sum ≤ (l.map f).sum
  | [], l, _, _ => by simp
  | a :: s, l, h, k => by
    have ha := k a List.mem_cons_self
    have hp := List.perm_cons_erase ha
    have h1 := (hp.map f).sum_nat
    have := nd_sum (f := f) (s := s) (l := l.erase a) (List.nodup_cons.1 h).2 (fun x hx => by
      have hne : x ≠ a := fun q => (List.nodup_cons.1 h).1 (q ▸ hx)
      exact (List.mem_erase_of_ne hne).2 (k x (List.mem_cons_of_mem _ hx)))
    simp only [List.map_cons, List.sum_cons] at h1 ⊢
    omega
theorem nd_len {s l : List Nat} (h : s.Nodup) (k : ∀ x ∈ s, x ∈ l) : s.length ≤ l.length := by
  have key : ∀ l : List Nat, (l.map fun _ => 1).sum = l.length := fun l => by
    induction l with
    | nil => rfl
    | cons a l ih => rw [List.map_cons, List.sum_cons, ih, List.length_cons]; omega
  have := nd_sum (f := fun _ => 1) h k
  rwa [key, key] at this
theorem fibers {f g : Nat → Nat} (l : List Nat) : ∀ V, (((List.range V).map fun v => ((l.filter fun d => g d = v).map f).sum).sum) = ((l.filter fun d => decide (g d < V)).map f).sum
  | 0 => by
    have : l.filter (fun d => decide (g d < 0)) = [] := List.filter_eq_nil_iff.2 (by simp)
    rw [this]; rfl
  | V + 1 => by
    rw [List.range_succ, List.map_append, List.sum_append, fibers l V]
    simp only [List.map_cons, List.map_nil, List.sum_cons, List.sum_nil, Nat.add_zero]
    induction l with
    | nil => simp
    | cons a l ih =>
      simp only [List.filter_cons]
      by_cases h1 : g a < V
      · have h2 : ¬ g a = V := by omega
        have h3 : g a < V + 1 := by omega
        simp only [h1, h2, h3, decide_true, decide_false, if_true, if_false, List.map_cons, List.sum_cons, Bool.false_eq_true]
        omega
      · by_cases h2 : g a = V
        · have h3 : g a < V + 1 := by omega
          simp only [h1, h2, h3, decide_true, decide_false, if_true, if_false, List.map_cons, List.sum_cons, Bool.false_eq_true, Nat.lt_irrefl, Nat.lt_succ_self]
          omega
        · have h3 : ¬ g a < V + 1 := by omega
          simp only [h1, h2, h3, decide_true, decide_false, if_true, if_false, List.map_cons, List.sum_cons, Bool.false_eq_true]
          omega
theorem filter_sum_le {f : Nat → Nat} {p : Nat → Bool} : ∀ l : List Nat, ((l.filter p).map f).sum ≤ (l.map f).sum
  | [] => by simp
  | a :: l => by
    have := filter_sum_le (f := f) (p := p) l
    rw [List.filter_cons]
    split <;> simp only [List.map_cons, List.sum_cons] <;> omega
theorem sum_ge {c : Nat} {f : Nat → Nat} : ∀ {l : List Nat}, (∀ x ∈ l, c ≤ f x) → c * l.length ≤ (l.map f).sum
  | [], _ => by simp
  | a :: l, h => by
    have h1 := h a List.mem_cons_self
    have h2 := sum_ge (f := f) fun x hx => h x (List.mem_cons_of_mem a hx)
    simp only [List.length_cons, List.map_cons, List.sum_cons, Nat.mul_add, Nat.mul_one]; omega
theorem wt_sum {M : Nat → Bool} : ∀ l : List Nat, (l.map fun d => if M d then 2 else 3).sum + l.countP M = 3 * l.length
  | [] => by simp
  | a :: l => by
    have := wt_sum (M := M) l
    simp only [List.map_cons, List.sum_cons, List.countP_cons, List.length_cons]
    cases M a <;> simp <;> omega

/-- A row is cut before each mark. -/
theorem cut_marks (M : Nat → Bool) : ∀ l : List Nat, ∃ (r : List Nat) (As : List (List Nat)), l = r ++ As.flatten ∧ (∀ x ∈ r, M x = false) ∧ ∀ a ∈ As, ∃ d s, a = d :: s ∧ M d = true ∧ ∀ x ∈ s, M x = false
  | [] => ⟨[], [], rfl, by simp, by simp⟩
  | d :: l => by
    obtain ⟨r, As, e, h1, h2⟩ := cut_marks M l
    cases h : M d with
    | true => exact ⟨[], (d :: r) :: As, by simp [e], by simp, fun a ha => by
        rcases List.mem_cons.1 ha with rfl | ha
        · exact ⟨d, r, rfl, h, h1⟩
        · exact h2 a ha⟩
    | false => exact ⟨d :: r, As, by simp [e], fun x hx => by
        rcases List.mem_cons.1 hx with rfl | hx
        · exact h
        · exact h1 x hx, h2⟩

/-- Lengths of arcs add up. -/
theorem arcs_sum {M X : Nat → Bool} {B C : Nat} : ∀ (As : List (List Nat)), (∀ a ∈ As, ∃ d s, a = d :: s ∧ M d = true ∧ (∀ x ∈ s, M x = false) ∧ 6 * a.length ≤ if X d then B else C) →
    ∃ e i, As.flatten.countP M = e + i ∧ As.flatten.countP (fun d => M d && X d) = e ∧ 6 * As.flatten.length ≤ e * B + i * C
  | [], _ => ⟨0, 0, by simp⟩
  | a :: As, h => by
    obtain ⟨e, i, h1, h2, h3⟩ := arcs_sum As fun b hb => h b (List.mem_cons_of_mem _ hb)
    obtain ⟨d, s, rfl, hd, hs, hl⟩ := h a List.mem_cons_self
    have z1 : s.countP M = 0 := List.countP_eq_zero.2 fun x hx => by simp [hs x hx]
    have z2 : s.countP (fun d => M d && X d) = 0 := List.countP_eq_zero.2 fun x hx => by simp [hs x hx]
    cases hX : X d with
    | true =>
      refine ⟨e + 1, i, ?_, ?_, ?_⟩
      · simp [List.countP_append, List.countP_cons, z1, h1, hd]; omega
      · simp [List.countP_append, List.countP_cons, z2, h2, hd, hX]
      · simp only [hX, if_true] at hl
        simp only [List.flatten_cons, List.length_append, Nat.add_mul, Nat.one_mul]; omega
    | false =>
      refine ⟨e, i + 1, ?_, ?_, ?_⟩
      · simp [List.countP_append, List.countP_cons, z1, h1, hd]; omega
      · simp [List.countP_append, List.countP_cons, z2, h2, hd, hX]
      · simp only [hX, Bool.false_eq_true, if_false] at hl
        simp only [List.flatten_cons, List.length_append, Nat.add_mul, Nat.one_mul]; omega

/-- What is so of a shortest word that is a counterexample. -/
structure Cx {α : Type} {iv : α → α} {R : List α → Prop} {w : List α} {n : Nat} (D : Dg iv R w n) : Prop where
  S : Sys iv R
  C6 : ∀ r r', R r → R r' → r ≠ r' → ∀ p, p <+: r → p <+: r' → 6 * p.length < r.length
  ne : w ≠ []
  nored : ∀ x a y, w ≠ x ++ a :: iv a :: y
  nolong : ∀ x s y t, w = x ++ (s ++ y) → R (s ++ t) → 2 * s.length ≤ (s ++ t).length
  short : ∀ x q y, w = x ++ (q ++ y) → q ≠ [] → q.length < w.length → ¬ T iv R q

section
variable {α : Type} {iv : α → α} {R : List α → Prop} {w : List α} {n : Nat}

/-- The dart behind a dart in its face. -/
def Dg.φ (D : Dg iv R w n) (d : Nat) : Nat :=
  match (D.O :: D.Fs).find? (fun l => l.contains d) with
  | some l => nxt l d
  | none => d
def Dg.σ (D : Dg iv R w n) (d : Nat) : Nat := D.φ (th d)
def Dg.M (D : Dg iv R w n) (d : Nat) : Bool := decide (D.σ (D.σ d) ≠ d)

theorem flat_uniq : ∀ {L : List (List Nat)} {l l' : List Nat} {d : Nat}, L.flatten.Nodup → l ∈ L → l' ∈ L → d ∈ l → d ∈ l' → l = l'
  | a :: L, l, l', d, h, hl, hl', hd, hd' => by
    rw [List.flatten_cons, List.nodup_append] at h
    rcases List.mem_cons.1 hl with k1 | k1
    · rcases List.mem_cons.1 hl' with k2 | k2
      · rw [k1, k2]
      · exact absurd rfl (h.2.2 d (k1 ▸ hd) d (List.mem_flatten.2 ⟨l', k2, hd'⟩))
    · rcases List.mem_cons.1 hl' with k2 | k2
      · exact absurd rfl (h.2.2 d (k2 ▸ hd') d (List.mem_flatten.2 ⟨l, k1, hd⟩))
      · exact flat_uniq h.2.1 k1 k2 hd hd'
theorem flat_nodup : ∀ {L : List (List Nat)} {l : List Nat}, L.flatten.Nodup → l ∈ L → l.Nodup
  | a :: L, l, h, hl => by
    rw [List.flatten_cons, List.nodup_append] at h
    rcases List.mem_cons.1 hl with rfl | hl
    · exact h.1
    · exact flat_nodup h.2.1 hl

variable (D : Dg iv R w n)
theorem Dg.flat : (D.O :: D.Fs).flatten.Nodup := by rw [List.flatten_cons]; exact D.nodup
theorem Dg.inL {d : Nat} (h : d < 2 * D.E) : ∃ l ∈ D.O :: D.Fs, d ∈ l := by
  have := (D.all d).2 h
  rw [← List.flatten_cons, List.mem_flatten] at this
  exact this
theorem Dg.ltL {d : Nat} {l : List Nat} (hl : l ∈ D.O :: D.Fs) (h : d ∈ l) : d < 2 * D.E := by
  rcases List.mem_cons.1 hl with rfl | hl
  · exact D.O_lt h
  · exact D.F_lt hl h
theorem Dg.φ_eq {l : List Nat} {d : Nat} (hl : l ∈ D.O :: D.Fs) (hd : d ∈ l) : D.φ d = nxt l d := by
  unfold Dg.φ
  cases h : (D.O :: D.Fs).find? (fun l => l.contains d) with
  | none =>
    have := List.find?_eq_none.1 h l hl
    simp [hd] at this
  | some l' =>
    have h1 := List.mem_of_find?_eq_some h
    have h2 := List.find?_some h
    have : l' = l := flat_uniq D.flat h1 hl (by simpa using h2) hd
    rw [this]
theorem Dg.φ_head {l u v : List Nat} {d : Nat} (hl : l ∈ D.O :: D.Fs) (e : l = u ++ d :: v) : (v ++ (u ++ [d])).head? = some (D.φ d) := by
  rw [D.φ_eq hl (by rw [e]; simp)]
  exact nxt_head (flat_nodup D.flat hl) e
theorem Dg.φ_mid {l u v : List Nat} {d e : Nat} (hl : l ∈ D.O :: D.Fs) (h : l = u ++ d :: e :: v) : D.φ d = e := by
  have := D.φ_head hl h
  simpa using this.symm
theorem Dg.φ_last {l u : List Nat} {d e : Nat} (hl : l ∈ D.O :: D.Fs) (h : l = u ++ [d]) (h2 : l.head? = some e) : D.φ d = e := by
  have := D.φ_head hl h
  rw [List.nil_append, ← h, h2] at this
  simpa using this.symm
/-- The row from a dart on is a chain. -/
theorem Dg.chain {l u v : List Nat} (hl : l ∈ D.O :: D.Fs) (e : l = u ++ v) : Ch D.φ (v ++ u) := by
  refine Ch.of fun p a b q h => ?_
  rcases List.append_eq_append_iff.1 h with ⟨z, h1, h2⟩ | ⟨z, h1, h2⟩
  · -- p = v ++ z, u = z ++ a :: b :: q
    exact D.φ_mid hl (u := z) (v := q ++ v) (by rw [e, h2]; simp)
  · cases z with
    | nil => exact D.φ_mid hl (u := []) (v := q ++ v) (by rw [e]; simp at h2; rw [← h2]; simp)
    | cons c z =>
      simp only [List.cons_append, List.cons.injEq] at h2
      obtain ⟨rfl, h2⟩ := h2
      cases z with
      | nil =>
        simp only [List.nil_append] at h2
        refine D.φ_last hl (u := u ++ p) (by rw [e, h1]; simp) ?_
        rw [e, ← h2]; rfl
      | cons c z =>
        simp only [List.cons_append, List.cons.injEq] at h2
        obtain ⟨rfl, h2⟩ := h2
        exact D.φ_mid hl (u := u ++ p) (v := z) (by rw [e, h1]; simp)
theorem Dg.φ_mem {l : List Nat} {d : Nat} (hl : l ∈ D.O :: D.Fs) (hd : d ∈ l) : D.φ d ∈ l := by
  obtain ⟨u, v, e⟩ := List.append_of_mem hd
  have := List.mem_of_mem_head? (D.φ_head hl e)
  rw [e]; simp at this ⊢; grind
theorem Dg.φ_lt {d : Nat} (hd : d < 2 * D.E) : D.φ d < 2 * D.E := by
  obtain ⟨l, hl, h⟩ := D.inL hd
  exact D.ltL hl (D.φ_mem hl h)
theorem Dg.σ_lt {d : Nat} (hd : d < 2 * D.E) : D.σ d < 2 * D.E := D.φ_lt (th_lt.2 hd)
/-- Where the dart behind a dart stands. -/
theorem Dg.φ_form {l : List Nat} {d : Nat} (hl : l ∈ D.O :: D.Fs) (hd : d ∈ l) : (∃ u v, l = u ++ d :: D.φ d :: v) ∨ (∃ u, l = D.φ d :: (u ++ [d])) ∨ (l = [d] ∧ D.φ d = d) := by
  obtain ⟨u, v, e⟩ := List.append_of_mem hd
  have h := D.φ_head hl e
  cases v with
  | cons b v =>
    have : b = D.φ d := by simpa using h
    exact .inl ⟨u, v, by rw [← this]; exact e⟩
  | nil =>
    cases u with
    | nil => exact .inr (.inr ⟨e, by simpa using h.symm⟩)
    | cons b u =>
      have : b = D.φ d := by simpa using h
      exact .inr (.inl ⟨u, by rw [← this]; exact e⟩)
theorem Dg.φ_inj {d e : Nat} (hd : d < 2 * D.E) (he : e < 2 * D.E) (h : D.φ d = D.φ e) : d = e := by
  obtain ⟨l, hl, hd'⟩ := D.inL hd
  obtain ⟨l', hl', he'⟩ := D.inL he
  have : l = l' := flat_uniq D.flat hl hl' (D.φ_mem hl hd') (by rw [h]; exact D.φ_mem hl' he')
  subst this
  have nd := flat_nodup D.flat hl
  rcases D.φ_form hl hd' with ⟨u, v, e1⟩ | ⟨u, e1⟩ | ⟨e1, e1'⟩
  · rcases D.φ_form hl he' with ⟨u', v', e2⟩ | ⟨u', e2⟩ | ⟨e2, e2'⟩
    · rw [← h] at e2
      have := split_uniq (a := u ++ [d]) (c := u' ++ [e]) nd (by simpa using e1) (by simpa using e2)
      have := List.append_inj' this.1 rfl
      simpa using this.2
    · rw [← h] at e2
      have := split_uniq (a := u ++ [d]) (c := []) nd (by simpa using e1) (by simpa using e2)
      simp at this
    · rw [e2] at e1
      have := congrArg List.length e1
      simp at this; omega
  · rcases D.φ_form hl he' with ⟨u', v', e2⟩ | ⟨u', e2⟩ | ⟨e2, e2'⟩
    · rw [← h] at e2
      have := split_uniq (a := []) (c := u' ++ [e]) nd (by simpa using e1) (by simpa using e2)
      simp at this
    · rw [← h] at e2
      have := e1.symm.trans e2
      simp only [List.cons.injEq, true_and] at this
      have := List.append_inj' this rfl
      simpa using this.2
    · rw [e2] at e1
      have := congrArg List.length e1
      simp at this
  · rw [e1] at he'
    exact (List.mem_singleton.1 he').symm
theorem Dg.σ_inj {d e : Nat} (hd : d < 2 * D.E) (he : e < 2 * D.E) (h : D.σ d = D.σ e) : d = e := th_inj (D.φ_inj (th_lt.2 hd) (th_lt.2 he) h)
theorem Dg.closed {l : List Nat} (hl : l ∈ D.O :: D.Fs) : ∃ v, Pth D.st v l v := by
  rcases List.mem_cons.1 hl with rfl | hl
  · exact ⟨0, D.clO⟩
  · exact D.clF l hl
theorem Dg.st_φ {d : Nat} (hd : d < 2 * D.E) : D.st (D.φ d) = D.st (th d) := by
  obtain ⟨l, hl, hd'⟩ := D.inL hd
  obtain ⟨v, hv⟩ := D.closed hl
  rcases D.φ_form hl hd' with ⟨u, r, e⟩ | ⟨u, e⟩ | ⟨e, e'⟩
  · rw [e, Pth.append] at hv
    obtain ⟨_, _, hv⟩ := hv
    exact hv.2.1
  · rw [e] at hv
    have h1 := hv.1
    have h2 := (Pth.append.1 hv.2)
    obtain ⟨_, _, h2⟩ := h2
    have h3 : D.st (th d) = v := h2.2
    rw [h1, h3]
  · rw [e] at hv
    rw [e', hv.1]
    exact hv.2.symm
theorem Dg.st_σ {d : Nat} (hd : d < 2 * D.E) : D.st (D.σ d) = D.st d := by
  have := D.st_φ (th_lt.2 hd)
  rwa [th_th] at this
theorem Dg.M_φ {x : Nat} (hx : x < 2 * D.E) : D.M (th x) = D.M (D.φ x) := by
  have e : D.σ (th x) = D.φ x := by unfold Dg.σ; rw [th_th]
  unfold Dg.M
  rw [e]
  have h1 : th x < 2 * D.E := th_lt.2 hx
  have h2 : D.σ (D.φ x) < 2 * D.E := D.σ_lt (D.φ_lt hx)
  by_cases h : D.σ (D.φ x) = th x
  · have : D.σ (D.σ (D.φ x)) = D.φ x := by rw [h, e]
    simp [h, this, e]
  · have : ¬ D.σ (D.σ (D.φ x)) = D.φ x := fun q => h (D.σ_inj h2 h1 (by rw [q, e]))
    simp [h, this]
/-- Along an arc the opposite darts run backward. -/
theorem Dg.run {x y : Nat} (hx : x < 2 * D.E) (e : D.φ x = y) (h : D.M y = false) : D.φ (th y) = th x := by
  have hy : y < 2 * D.E := by rw [← e]; exact D.φ_lt hx
  have h1 : D.σ (D.σ y) = y := by simpa [Dg.M] using h
  have h2 : D.φ (th (D.σ y)) = D.φ x := h1.trans e.symm
  have h3 := D.φ_inj (th_lt.2 (D.σ_lt hy)) hx h2
  have := congrArg th h3
  rw [th_th] at this
  exact this
theorem Dg.opp_chain : ∀ {r : List Nat} {d : Nat}, (∀ x ∈ d :: r, x < 2 * D.E) → Ch D.φ (d :: r) → (∀ x ∈ r, D.M x = false) → Ch D.φ ((r.map th).reverse ++ [th d])
  | [], d, _, _, _ => True.intro
  | y :: r, d, hl, h, hM => by
    have h1 := Dg.opp_chain (r := r) (d := y) (fun x hx => hl x (List.mem_cons_of_mem _ hx)) h.2 (fun x hx => hM x (List.mem_cons_of_mem _ hx))
    have := Ch.snoc h1 (D.run (hl d List.mem_cons_self) h.1 (hM y List.mem_cons_self))
    simpa using this
/-- A chain that ends at a dart is the end of the row that ends there. -/
theorem Dg.chain_suffix {l u v : List Nat} {e : Nat} (hl : l ∈ D.O :: D.Fs) (el : l = u ++ e :: v) : ∀ (C : List Nat), Ch D.φ (C ++ [e]) → (C ++ [e]).Nodup → (∀ x ∈ C, x < 2 * D.E) → ∃ B, v ++ (u ++ [e]) = B ++ (C ++ [e])
  | [], _, _, _ => ⟨v ++ u, by simp⟩
  | x :: C, h, nd, lt => by
    obtain ⟨B, hB⟩ := Dg.chain_suffix hl el C h.tail (List.nodup_cons.1 nd).2 (fun k hk => lt k (List.mem_cons_of_mem _ hk))
    have hx := lt x List.mem_cons_self
    have hZ : Ch D.φ (v ++ (u ++ [e])) := by
      have := D.chain hl (u := u ++ [e]) (v := v) (by rw [el]; simp)
      simpa using this
    have he : e ∈ l := by rw [el]; simp
    obtain ⟨y, C', hC'⟩ : ∃ y C', C ++ [e] = y :: C' := by cases C <;> simp
    have hφ : D.φ x = y := by
      have := h
      rw [List.cons_append, hC'] at this
      exact this.1
    rcases List.eq_nil_or_concat B with rfl | ⟨B', z, rfl⟩
    · -- the whole circle
      have hh := D.φ_head hl el
      rw [hB, List.nil_append, hC'] at hh
      have : D.φ e = y := by simpa using hh.symm
      have : x = e := D.φ_inj hx (D.ltL hl he) (hφ.trans this.symm)
      exact absurd (by rw [this]; simp) (List.nodup_cons.1 nd).1
    · rw [hB] at hZ
      rw [hC'] at hZ hB
      have : D.φ z = y := Ch.at (u := B') (v := C') (by simpa using hZ)
      have hz : z < 2 * D.E := by
        have : z ∈ v ++ (u ++ [e]) := by rw [hB]; simp
        refine D.ltL hl ?_
        rw [el]; simp at this ⊢; grind
      have : z = x := D.φ_inj hz hx (this.trans hφ.symm)
      subst this
      exact ⟨B', by rw [hB, List.cons_append, hC']; simp⟩
theorem Dg.circle {l : List Nat} (hl : l ∈ D.O :: D.Fs) {P : Nat → Prop} {d : Nat} (hd : d ∈ l) (h0 : P d) (hs : ∀ x ∈ l, P x → P (D.φ x)) : ∀ x ∈ l, P x := by
  obtain ⟨u, v, e⟩ := List.append_of_mem hd
  have hZ := D.chain hl e
  have key : ∀ (Z : List Nat) (a : Nat), (∀ x ∈ a :: Z, x ∈ l) → Ch D.φ (a :: Z) → P a → ∀ x ∈ a :: Z, P x := by
    intro Z
    induction Z with
    | nil => intro a _ _ h x hx; simp at hx; rw [hx]; exact h
    | cons b Z ih =>
      intro a hm hc h x hx
      rcases List.mem_cons.1 hx with rfl | hx
      · exact h
      · refine ih b (fun k hk => hm k (List.mem_cons_of_mem _ hk)) hc.2 ?_ x hx
        rw [← hc.1]; exact hs a (hm a List.mem_cons_self) h
  intro x hx
  refine key (v ++ u) d (fun k hk => ?_) hZ h0 x ?_
  · rw [e]; simp at hk ⊢; grind
  · rw [e] at hx; simp at hx ⊢; grind
/-- Stepping forward permutes a row. -/
theorem Dg.map_φ {l : List Nat} (hl : l ∈ D.O :: D.Fs) : (l.map D.φ).Perm l := by
  have key : ∀ (Z : List Nat) (a : Nat), Ch D.φ (a :: Z) → ((a :: Z).map D.φ).dropLast = Z := by
    intro Z
    induction Z with
    | nil => intro a _; rfl
    | cons b Z ih =>
      intro a hc
      have := ih b hc.2
      simp only [List.map_cons] at this ⊢
      rw [List.dropLast_cons_of_ne_nil (by simp), this, hc.1]
  cases h : l with
  | nil => simp
  | cons a Z =>
    have hc := D.chain hl (u := []) (v := a :: Z) h
    rw [List.append_nil] at hc
    have h1 := key Z a hc
    rcases List.eq_nil_or_concat (a :: Z) with h2 | ⟨Y, z, h2⟩
    · cases h2
    · have h3 := D.φ_last hl (u := Y) (d := z) (e := a) (by rw [h, h2]; simp) (by rw [h]; rfl)
      have h4 : ((a :: Z).map D.φ) = ((a :: Z).map D.φ).dropLast ++ [a] := by
        rw [h2]; simp [h3]
      rw [h4, h1]
      exact List.perm_append_comm (l₁ := Z) (l₂ := [a])
theorem Dg.count_φ {l : List Nat} (hl : l ∈ D.O :: D.Fs) (P : Nat → Bool) : l.countP (fun x => P (D.φ x)) = l.countP P := by
  have := (D.map_φ hl).countP_eq P
  rw [List.countP_map] at this; exact this
end
end Green
end Go.Proofs.YtaccklloepfemaaDoor

namespace Go.Proofs.YtaccklloepfemaaDoor
set_option linter.unusedVariables false
set_option linter.unusedSimpArgs false
namespace Green
section
variable {α : Type} {iv : α → α} {R : List α → Prop} {w : List α} {n : Nat} {D : Dg iv R w n}

theorem map_th_inv {lb : Nat → α} (S : Sys iv R) : ∀ {l : List Nat}, (∀ x ∈ l, lb (th x) = iv (lb x)) → ((l.map th).reverse).map lb = winv iv (l.map lb)
  | [], _ => rfl
  | a :: l, h => by
    have := map_th_inv S (l := l) fun x hx => h x (List.mem_cons_of_mem _ hx)
    simp [this, h a List.mem_cons_self]

/-- The boundary meets no vertex twice. -/
theorem Cx.simple (C : Cx D) {a b : Nat} (ha : a ∈ D.O) (hb : b ∈ D.O) (h : D.st a = D.st b) : a = b := by
  by_cases hab : a = b
  · exact hab
  exfalso
  have key : ∀ {a b : Nat} {p q s : List Nat}, D.O = p ++ a :: (q ++ b :: s) → D.st a = D.st b → False := by
    intro a b p q s e h
    have hcl := D.clO
    rw [e, Pth.append] at hcl
    obtain ⟨v, h1, h2⟩ := hcl
    have hv := h2.1
    have h3 : Pth D.st v ((a :: q) ++ b :: s) 0 := h2
    rw [Pth.append] at h3
    obtain ⟨v', h4, h5⟩ := h3
    have hv' := h5.1
    have : v' = v := by rw [← hv, ← hv', h]
    subst this
    have ht := D.loop C.S h4 fun d hd => D.O_lt (by rw [e]; simp at hd ⊢; grind)
    have hw := D.lab
    refine C.short (p.map D.lb) ((a :: q).map D.lb) ((b :: s).map D.lb) (hw.symm.trans (by rw [e]; simp)) (by simp) ?_ ht
    have hw2 := congrArg List.length hw
    rw [e] at hw2; rw [← hw2]; simp; omega
  obtain ⟨p, r, e⟩ := List.append_of_mem ha
  rw [e] at hb
  rcases List.mem_append.1 hb with hb | hb
  · obtain ⟨p1, q1, e1⟩ := List.append_of_mem hb
    exact key (a := b) (b := a) (p := p1) (q := q1) (s := r) (by rw [e, e1]; simp) h.symm
  · rcases List.mem_cons.1 hb with hb | hb
    · exact hab hb.symm
    · obtain ⟨p1, q1, e1⟩ := List.append_of_mem hb
      exact key (a := a) (b := b) (p := p) (q := p1) (s := q1) (by rw [e, e1]) h

theorem Cx.lbth (C : Cx D) {d : Nat} (h : d < 2 * D.E) : D.lb d = iv (D.lb (th d)) := by
  rw [D.lbth d h, C.S.two]

/-- No vertex has only one dart. -/
theorem Cx.no1 (C : Cx D) {d : Nat} (h : d < 2 * D.E) : D.σ d ≠ d := fun e => by
  have ht : th d < 2 * D.E := th_lt.2 h
  have hl := C.lbth h
  obtain ⟨l, hL, hd⟩ := D.inL ht
  unfold Dg.σ at e
  rcases D.φ_form hL hd with ⟨u, v, e1⟩ | ⟨u, e1⟩ | ⟨e1, e2⟩
  · rw [e] at e1
    rcases List.mem_cons.1 hL with rfl | hF
    · refine C.nored (u.map D.lb) (D.lb (th d)) (v.map D.lb) ?_
      refine D.lab.symm.trans ?_; rw [e1]; simp [hl]
    · have := D.labF l hF
      rw [e1] at this
      exact R_free C.S (p := u.map D.lb) (q := v.map D.lb) (c := D.lb (th d)) (by simpa [hl] using this)
  · rw [e] at e1
    rcases List.mem_cons.1 hL with rfl | hF
    · cases u with
      | nil =>
        refine C.nored [] (D.lb d) [] ?_
        refine D.lab.symm.trans ?_; rw [e1]; simp [D.lbth d h]
      | cons c u =>
        have hcl := D.clO
        rw [e1] at hcl
        have h1 : D.st c = D.st (th d) := hcl.2.1
        have : c = th d := C.simple (by rw [e1]; simp) (by rw [e1]; simp) h1
        have nd := flat_nodup D.flat hL
        rw [e1, this] at nd
        simp at nd
    · have := D.labF l hF
      rw [e1] at this
      have := R_rots C.S ((d :: u).map D.lb) [D.lb (th d)] (by simpa using this)
      exact R_free C.S (p := []) (q := u.map D.lb) (c := D.lb (th d)) (by simpa [hl] using this)
  · exact th_ne d (e2.symm.trans e)

/-- The word of a face from a dart on. -/
theorem Cx.rotR (C : Cx D) {f u v : List Nat} {d : Nat} (hf : f ∈ D.Fs) (e : f = u ++ d :: v) : R ((d :: (v ++ u)).map D.lb) := by
  have := D.labF f hf
  rw [e] at this
  have := R_rots C.S (u.map D.lb) ((d :: v).map D.lb) (by simpa using this)
  simpa using this

/-- What lies against an arc. -/
theorem Cx.opp (C : Cx D) {f u v r s : List Nat} {d : Nat} (hf : f ∈ D.Fs) (e : f = u ++ d :: v) (er : v ++ u = r ++ s) (hM : ∀ x ∈ r, D.M x = false) {l u' v' : List Nat} (hl : l ∈ D.O :: D.Fs) (el : l = u' ++ th d :: v') :
    (∀ x ∈ d :: r, x < 2 * D.E) ∧ ∃ B, v' ++ (u' ++ [th d]) = B ++ ((r.map th).reverse ++ [th d]) := by
  have hL : f ∈ D.O :: D.Fs := List.mem_cons_of_mem _ hf
  have hmem : ∀ x ∈ d :: r, x ∈ f := fun x hx => by
    have : x ∈ d :: (v ++ u) := by rw [er]; simp at hx ⊢; grind
    rw [e]; simp at this ⊢; grind
  have hlt : ∀ x ∈ d :: r, x < 2 * D.E := fun x hx => D.F_lt hf (hmem x hx)
  have hch : Ch D.φ (d :: r) := by
    have := D.chain hL e
    have h2 : d :: v ++ u = d :: r ++ s := by simp [er]
    rw [h2] at this
    refine Ch.of fun p a b q h => ?_
    rw [h] at this
    exact Ch.at (u := p) (v := q ++ s) (by simpa using this)
  have nd : (d :: r).Nodup := by
    have := flat_nodup D.flat hL
    have hp : (d :: r ++ s).Perm f := by
      rw [e]
      have h2 : d :: r ++ s = (d :: v) ++ u := by simp [er]
      rw [h2]
      exact List.perm_append_comm
    exact (List.nodup_append.1 (hp.nodup_iff.2 this)).1
  refine ⟨hlt, D.chain_suffix hl el _ (D.opp_chain hlt hch hM) ?_ ?_⟩
  · have : ((r.map th).reverse ++ [th d]) = ((d :: r).map th).reverse := by simp
    rw [this]
    refine List.pairwise_reverse.2 (List.pairwise_map.2 (nd.imp fun h q => h (th_inj q.symm)))
  · intro x hx
    simp only [List.mem_reverse, List.mem_map] at hx
    obtain ⟨y, hy, rfl⟩ := hx
    exact th_lt.2 (hlt y (List.mem_cons_of_mem _ hy))

/-- An arc between cells is a piece. -/
theorem Cx.inner_arc (C : Cx D) {f u v r s : List Nat} {d : Nat} (hf : f ∈ D.Fs) (e : f = u ++ d :: v) (er : v ++ u = r ++ s) (hM : ∀ x ∈ r, D.M x = false) (hd : th d ∉ D.O) : 6 * (d :: r).length < f.length := by
  have hdlt : d < 2 * D.E := D.F_lt hf (by rw [e]; simp)
  obtain ⟨l, hl, hdl⟩ := D.inL (th_lt.2 hdlt)
  have hlF : l ∈ D.Fs := by
    rcases List.mem_cons.1 hl with rfl | h
    · exact absurd hdl hd
    · exact h
  obtain ⟨u', v', el⟩ := List.append_of_mem hdl
  obtain ⟨hlt, B, hB⟩ := C.opp hf e er hM hl el
  have hR1 := C.rotR hf e
  have hR2 : R (winv iv ((v' ++ (u' ++ [th d])).map D.lb)) := by
    refine C.S.inv _ ?_
    have := C.rotR hlF el
    have := C.S.rot (D.lb (th d)) _ (by simpa using this)
    simpa using this
  have hne : (d :: (v ++ u)).map D.lb ≠ winv iv ((v' ++ (u' ++ [th d])).map D.lb) := by
    intro q
    refine D.reduced f l u v u' v' d hf hlF e el ?_
    have h1 : (v' ++ (u' ++ [th d])).map D.lb = (v' ++ u').map D.lb ++ [D.lb (th d)] := by simp
    rw [h1, winv_append, winv_cons, winv_nil, List.nil_append, ← C.lbth hdlt] at q
    simpa using q
  have hinv : winv iv ((d :: r).map D.lb) = ((r.map th).reverse ++ [th d]).map D.lb := by
    rw [← map_th_inv C.S (l := d :: r) fun x hx => D.lbth x (hlt x hx)]; simp
  have := C.C6 _ _ hR1 hR2 hne ((d :: r).map D.lb) ⟨s.map D.lb, by simp [er]⟩ ⟨winv iv (B.map D.lb), by
    rw [hB, List.map_append, winv_append, ← hinv, winv_two C.S]⟩
  have h2 : f.length = (d :: (v ++ u)).length := by rw [e]; simp; omega
  simpa [h2] using this

/-- The other side of an arc at the boundary that does not hold the boundary's first dart is short. -/
theorem Cx.outer_arc (C : Cx D) {f u v r s O' : List Nat} {d o : Nat} (hf : f ∈ D.Fs) (e : f = u ++ d :: v) (er : v ++ u = r ++ s) (hM : ∀ x ∈ r, D.M x = false) (hO : D.O = o :: O') (ho : th o ∉ f) (hd : th d ∈ D.O) : 2 * (d :: r).length ≤ f.length := by
  obtain ⟨u', v', el⟩ := List.append_of_mem hd
  obtain ⟨hlt, B, hB⟩ := C.opp hf e er hM List.mem_cons_self el
  have hmem : ∀ x ∈ d :: r, x ∈ f := fun x hx => by
    have : x ∈ d :: (v ++ u) := by rw [er]; simp at hx ⊢; grind
    rw [e]; simp at this ⊢; grind
  have hinv : winv iv ((d :: r).map D.lb) = ((r.map th).reverse ++ [th d]).map D.lb := by
    rw [← map_th_inv C.S (l := d :: r) fun x hx => D.lbth x (hlt x hx)]; simp
  have hsuf : ∃ B', u' ++ [th d] = B' ++ ((r.map th).reverse ++ [th d]) := by
    rcases List.append_eq_append_iff.1 hB with ⟨z, h1, h2⟩ | ⟨z, h1, h2⟩
    · exact ⟨z, h2⟩
    · -- the arc would hold the first dart
      exfalso
      cases z with
      | nil =>
        simp only [List.nil_append, List.append_nil] at h1 h2
        have h3 : o ∈ (r.map th).reverse ++ [th d] := by
          have : (u' ++ [th d]).head? = some o := by
            have : (u' ++ th d :: v').head? = some o := by rw [← el, hO]; rfl
            cases u' <;> simpa using this
          rw [h2]; exact List.mem_of_mem_head? this
        have : th o ∈ d :: r := by
          simp only [List.mem_append, List.mem_reverse, List.mem_map, List.mem_singleton] at h3
          rcases h3 with ⟨y, hy, rfl⟩ | rfl
          · rw [th_th]; exact List.mem_cons_of_mem _ hy
          · rw [th_th]; exact List.mem_cons_self
        exact ho (hmem _ this)
      | cons c z =>
        have h3 : o ∈ (r.map th).reverse ++ [th d] := by
          have : (u' ++ [th d]).head? = some o := by
            have : (u' ++ th d :: v').head? = some o := by rw [← el, hO]; rfl
            cases u' <;> simpa using this
          rw [h2]; exact List.mem_append_right _ (List.mem_of_mem_head? this)
        have : th o ∈ d :: r := by
          simp only [List.mem_append, List.mem_reverse, List.mem_map, List.mem_singleton] at h3
          rcases h3 with ⟨y, hy, rfl⟩ | rfl
          · rw [th_th]; exact List.mem_cons_of_mem _ hy
          · rw [th_th]; exact List.mem_cons_self
        exact ho (hmem _ this)
  obtain ⟨B', hB'⟩ := hsuf
  have hR1 := C.S.inv _ (C.rotR hf e)
  have hR2 : R (winv iv ((d :: r).map D.lb) ++ winv iv (s.map D.lb)) := by
    refine R_rots C.S _ _ ?_
    rw [← winv_append]
    have h1 : (d :: (v ++ u)).map D.lb = (d :: r).map D.lb ++ s.map D.lb := by simp [er]
    rw [← h1]; exact hR1
  have hw : w = B'.map D.lb ++ (winv iv ((d :: r).map D.lb) ++ v'.map D.lb) := by
    refine D.lab.symm.trans ?_
    rw [el, hinv]
    have h1 : u' ++ th d :: v' = (u' ++ [th d]) ++ v' := by simp
    rw [h1, hB']; simp
  have := C.nolong _ _ _ _ hw hR2
  have h2 : f.length = (d :: (v ++ u)).length := by rw [e]; simp; omega
  rw [h2, er]
  simp at this ⊢; omega

theorem Cx.f_ne (C : Cx D) {f : List Nat} (hf : f ∈ D.Fs) : f ≠ [] := fun q => by
  have := D.labF f hf
  rw [q] at this
  exact C.S.some this

/-- Each face has a mark. -/
theorem Cx.marked (C : Cx D) {f : List Nat} (hf : f ∈ D.Fs) : ∃ d ∈ f, D.M d = true := by
  by_cases q : ∃ d ∈ f, D.M d = true
  · exact q
  exfalso
  have hM : ∀ x ∈ f, D.M x = false := fun x hx => by
    cases h : D.M x with
    | false => rfl
    | true => exact absurd ⟨x, hx, h⟩ q
  have hL : f ∈ D.O :: D.Fs := List.mem_cons_of_mem _ hf
  obtain ⟨d, v, e⟩ : ∃ d v, f = d :: v := by
    cases h : f with
    | nil => exact absurd h (C.f_ne hf)
    | cons d v => exact ⟨d, v, rfl⟩
  by_cases hd : th d ∈ D.O
  · -- the boundary is this face's
    have hne : D.O ≠ [] := fun q => by rw [q] at hd; cases hd
    have hall : ∀ x ∈ D.O, th x ∈ f := by
      refine D.circle (P := fun x => th x ∈ f) List.mem_cons_self hd (by show th (th d) ∈ f; rw [th_th, e]; simp) ?_
      intro x hx h
      show th (D.φ x) ∈ f
      -- th x = φ y for a y of f
      obtain ⟨y, hy, hyx⟩ : ∃ y ∈ f, D.φ y = th x := by
        have := (D.map_φ hL).mem_iff.2 h
        simpa using this
      have hr := D.run (D.F_lt hf hy) hyx (hM _ h)
      rw [th_th] at hr
      rw [hr, th_th]; exact hy
    rcases List.eq_nil_or_concat D.O with h | ⟨O1, z, h⟩
    · exact hne h
    · rw [List.concat_eq_append] at h
      have hz : th z ∈ f := hall z (by rw [h]; simp)
      obtain ⟨u, v, e⟩ := List.append_of_mem hz
      obtain ⟨hlt, B, hB⟩ := C.opp (r := v ++ u) (s := []) (v' := []) (u' := O1) hf e (by simp) (fun x hx => hM x (by rw [e]; simp at hx ⊢; grind)) (List.mem_cons_self (a := D.O)) (by rw [th_th]; exact h)
      rw [th_th] at hB
      have hR1 := C.S.inv _ (C.rotR hf e)
      have hinv : winv iv ((th z :: (v ++ u)).map D.lb) = (((v ++ u).map th).reverse ++ [z]).map D.lb := by
        rw [← map_th_inv C.S (l := th z :: (v ++ u)) fun x hx => D.lbth x (hlt x hx)]; simp [th_th]
      have hw : w = B.map D.lb ++ (winv iv ((th z :: (v ++ u)).map D.lb) ++ []) := by
        refine D.lab.symm.trans ?_
        rw [h, hinv]
        have : O1 ++ [z] = B ++ (((v ++ u).map th).reverse ++ [z]) := by simpa using hB
        rw [this]; simp
      have := C.nolong _ _ _ [] hw (by simpa using hR1)
      simp at this; omega
  · have := C.inner_arc (u := []) (v := v) (r := v) (s := []) (d := d) hf (by simpa using e) (by simp) (fun x hx => hM x (by rw [e]; simp [hx])) hd
    rw [e] at this; omega

/-- Arcs at the boundary do not stand side by side. -/
theorem Cx.no_two (C : Cx D) {x : Nat} (hx : x < 2 * D.E) (h1 : th x ∈ D.O) (h2 : th (D.φ x) ∈ D.O) : D.M (D.φ x) = false := by
  have hy := D.φ_lt hx
  have h3 : D.φ (th (D.φ x)) ∈ D.O := D.φ_mem List.mem_cons_self h2
  have h4 : D.st (D.φ (th (D.φ x))) = D.st (th x) := by rw [D.st_φ (th_lt.2 hy), th_th, D.st_φ hx]
  have h5 := C.simple h3 h1 h4
  have : D.σ (D.σ (D.φ x)) = D.φ x := by
    show D.φ (th (D.φ (th (D.φ x)))) = D.φ x
    rw [h5, th_th]
  simp [Dg.M, this]

def Dg.X (D : Dg iv R w n) (d : Nat) : Bool := decide (th d ∈ D.O)

/-- As many arcs at the boundary begin as end. -/
theorem Cx.ends (C : Cx D) {f : List Nat} (hf : f ∈ D.Fs) : f.countP (fun d => D.M d && D.X d) = f.countP (fun d => D.M (D.φ d) && D.X d) := by
  have hL : f ∈ D.O :: D.Fs := List.mem_cons_of_mem _ hf
  have key : ∀ (P Q : Nat → Bool) (l : List Nat), l.countP Q = l.countP (fun d => P d && Q d) + l.countP (fun d => !P d && Q d) := fun P Q l => by
    induction l with
    | nil => rfl
    | cons a l ih =>
      simp only [List.countP_cons]
      cases P a <;> cases Q a <;> simp <;> omega
  have h1 := key (fun d => D.M (D.φ d)) D.X f
  have h2 := key D.M D.X f
  have h3 := D.count_φ hL D.X
  have h4 := D.count_φ hL (fun d => !D.M d && D.X d)
  have h5 : f.countP (fun d => !D.M (D.φ d) && D.X (D.φ d)) = f.countP (fun d => !D.M (D.φ d) && D.X d) := by
    refine List.countP_congr fun x hx => ?_
    have hxl := D.F_lt hf hx
    cases hm : D.M (D.φ x) with
    | true => simp
    | false =>
      have hr := D.run hxl rfl hm
      have : D.X (D.φ x) = D.X x := by
        unfold Dg.X
        refine decide_eq_decide.2 ⟨fun h => ?_, fun h => ?_⟩
        · rw [← hr]; exact D.φ_mem List.mem_cons_self h
        · obtain ⟨l, hl, hd⟩ := D.inL (th_lt.2 (D.φ_lt hxl))
          have := D.φ_mem hl hd
          rw [hr] at this
          have : l = D.O := flat_uniq D.flat hl List.mem_cons_self this h
          rw [← this]; exact hd
      simp [this]
  omega
theorem Cx.sides (C : Cx D) {f : List Nat} (hf : f ∈ D.Fs) : 2 * f.countP (fun d => D.M d && D.X d) ≤ f.countP D.M := by
  have hL : f ∈ D.O :: D.Fs := List.mem_cons_of_mem _ hf
  have h1 := C.ends hf
  have h2 := D.count_φ hL (fun d => D.M d && D.X d)
  have h3 := D.count_φ hL D.M
  have key : ∀ l : List Nat, (∀ x ∈ l, x < 2 * D.E) → l.countP (fun d => D.M (D.φ d) && D.X (D.φ d)) + l.countP (fun d => D.M (D.φ d) && D.X d) ≤ l.countP (fun d => D.M (D.φ d)) := by
    intro l
    induction l with
    | nil => intro _; simp
    | cons a l ih =>
      intro h
      have := ih fun x hx => h x (List.mem_cons_of_mem _ hx)
      have h0 : ¬ (D.M (D.φ a) = true ∧ D.X a = true ∧ D.X (D.φ a) = true) := fun q => by
        have := C.no_two (h a List.mem_cons_self) (by simpa [Dg.X] using q.2.1) (by simpa [Dg.X] using q.2.2)
        rw [this] at q; exact absurd q.1 (by simp)
      simp only [List.countP_cons]
      cases hm : D.M (D.φ a) <;> cases hx : D.X a <;> cases hy : D.X (D.φ a) <;> simp <;> first | omega | (exact absurd ⟨hm, hx, hy⟩ h0)
  have := key f fun x hx => D.F_lt hf hx
  omega

theorem Cx.mark_pos (C : Cx D) {f : List Nat} (hf : f ∈ D.Fs) : 0 < f.countP D.M := by
  obtain ⟨d, hd, h⟩ := C.marked hf
  exact List.countP_pos_iff.2 ⟨d, hd, h⟩

/-- A face that does not touch the boundary's first dart has many sides. -/
theorem Cx.face (C : Cx D) {f O' : List Nat} {o : Nat} (hf : f ∈ D.Fs) (hO : D.O = o :: O') (ho : th o ∉ f) : 6 ≤ f.countP D.M + f.countP (fun d => D.M d && D.X d) := by
  obtain ⟨d0, hd0, hm0⟩ := C.marked hf
  have hsd := C.sides hf
  obtain ⟨u, v, e⟩ := List.append_of_mem hd0
  obtain ⟨r, As, eA, hr, hA⟩ := cut_marks D.M (d0 :: v ++ u)
  have hr0 : r = [] := by
    cases r with
    | nil => rfl
    | cons a r =>
      simp only [List.cons_append, List.cons.injEq] at eA
      have := hr a List.mem_cons_self
      rw [← eA.1, hm0] at this; cases this
  subst hr0
  rw [List.nil_append] at eA
  have hp : As.flatten.Perm f := by
    rw [← eA, e]; exact List.perm_append_comm
  have hlen := hp.length_eq
  have hpos : 0 < f.length := List.length_pos_of_mem hd0
  have harc : ∀ a ∈ As, ∃ d s, a = d :: s ∧ D.M d = true ∧ (∀ x ∈ s, D.M x = false) ∧ 6 * a.length ≤ if D.X d then 3 * f.length else f.length - 1 := by
    intro a ha
    obtain ⟨d, s, ea, hd, hs⟩ := hA a ha
    refine ⟨d, s, ea, hd, hs, ?_⟩
    obtain ⟨A1, A2, eAs⟩ := List.append_of_mem ha
    have hflat : d0 :: v ++ u = A1.flatten ++ (d :: s ++ A2.flatten) := by rw [eA, eAs, ea]; simp
    -- the face from d on
    obtain ⟨u', v', ef, er⟩ : ∃ u' v', f = u' ++ d :: v' ∧ v' ++ u' = s ++ (A2.flatten ++ A1.flatten) := by
      rcases List.append_eq_append_iff.1 hflat with ⟨z, h1, h2⟩ | ⟨z, h1, h2⟩
      · refine ⟨z, s ++ A2.flatten ++ (d0 :: v), ?_, ?_⟩
        · rw [e, h2]; simp
        · rw [h1]; simp
      · cases z with
        | nil =>
          simp only [List.nil_append, List.append_nil] at h1 h2
          exact ⟨[], s ++ A2.flatten ++ (d0 :: v), by rw [e, ← h2]; simp, by rw [h1]; simp⟩
        | cons c z =>
          simp only [List.cons_append, List.cons.injEq] at h2
          obtain ⟨rfl, h2⟩ := h2
          refine ⟨u ++ A1.flatten, z, ?_, ?_⟩
          · rw [e, h1]; simp
          · rw [← List.append_assoc, ← h2]; simp
    cases hX : D.X d with
    | true =>
      have := C.outer_arc hf ef er hs hO ho (by simpa [Dg.X] using hX)
      rw [ea]; simp only [if_true]; omega
    | false =>
      have := C.inner_arc hf ef er hs (by simpa [Dg.X] using hX)
      rw [ea]; simp only [Bool.false_eq_true, if_false]; omega
  obtain ⟨e', i, h1, h2, h3⟩ := arcs_sum (M := D.M) (X := D.X) (B := 3 * f.length) (C := f.length - 1) As harc
  rw [hp.countP_eq] at h1 h2
  rw [hlen] at h3
  rw [h2] at hsd ⊢
  rw [h1] at hsd ⊢
  generalize f.length = m at h3 hpos
  rcases Nat.lt_or_ge e' 2 with he | he
  · rcases Nat.lt_or_ge (e' + i + e') 6 with h | h
    · exfalso
      have hi : i ≤ 5 := by omega
      have h4 : e' = 0 ∨ e' = 1 := by omega
      rcases h4 with rfl | rfl
      · have : i * (m - 1) ≤ 5 * (m - 1) := Nat.mul_le_mul_right _ hi
        omega
      · have : i * (m - 1) ≤ 3 * (m - 1) := Nat.mul_le_mul_right _ (by omega)
        omega
    · exact h
  · omega

/-- The face that touches the boundary's first dart. -/
theorem Cx.face0 (C : Cx D) {f : List Nat} {o : Nat} (hf : f ∈ D.Fs) (ho : th o ∈ f) (hoO : o ∈ D.O) : 2 ≤ f.countP D.M + f.countP (fun d => D.M d && D.X d) := by
  have hL : f ∈ D.O :: D.Fs := List.mem_cons_of_mem _ hf
  have h1 := C.mark_pos hf
  have h2 := C.ends hf
  rcases Nat.eq_zero_or_pos (f.countP (fun d => D.M d && D.X d)) with h | h
  · exfalso
    rw [h2, List.countP_eq_zero] at h
    have hall : ∀ x ∈ f, th x ∈ D.O := by
      refine D.circle (P := fun x => th x ∈ D.O) hL ho (by show th (th o) ∈ D.O; rw [th_th]; exact hoO) ?_
      intro x hx hxO
      have hxl := D.F_lt hf hx
      have := h x hx
      have hX : D.X x = true := by simpa [Dg.X] using hxO
      rw [hX] at this
      have hm : D.M (D.φ x) = false := by simpa using this
      have hr := D.run hxl rfl hm
      show th (D.φ x) ∈ D.O
      obtain ⟨l, hl, hd⟩ := D.inL (th_lt.2 (D.φ_lt hxl))
      have h5 := D.φ_mem hl hd
      rw [hr] at h5
      have : l = D.O := flat_uniq D.flat hl List.mem_cons_self h5 hxO
      rw [← this]; exact hd
    have h0 : f.countP (fun x => D.M (D.φ x)) = 0 := List.countP_eq_zero.2 fun x hx => by
      have := h x hx
      have hX : D.X x = true := by simpa [Dg.X] using hall x hx
      rw [hX] at this
      simpa using this
    have := D.count_φ hL D.M
    omega
  · omega

/-- Vertices are counted. -/
theorem Cx.vertices (C : Cx D) : 6 * D.V + (D.O ++ D.Fs.flatten).countP D.M ≤ 6 * D.E := by
  have hlen : (D.O ++ D.Fs.flatten).length ≤ 2 * D.E := by
    have := nd_len (l := List.range (2 * D.E)) D.nodup fun x hx => List.mem_range.2 ((D.all x).1 hx)
    simpa using this
  have hw := wt_sum (M := D.M) (D.O ++ D.Fs.flatten)
  have h1 := fibers (f := fun d => if D.M d then 2 else 3) (g := D.st) (D.O ++ D.Fs.flatten) D.V
  have h2 := filter_sum_le (f := fun d => if D.M d then 2 else 3) (p := fun d => decide (D.st d < D.V)) (D.O ++ D.Fs.flatten)
  have h3 : 6 * (List.range D.V).length ≤ (((List.range D.V).map fun v => (((D.O ++ D.Fs.flatten).filter fun d => D.st d = v).map fun d => if D.M d then 2 else 3).sum).sum) := by
    refine sum_ge fun v hv => ?_
    obtain ⟨d, hd, hdv⟩ : ∃ d, d < 2 * D.E ∧ D.st d = v := by
      rcases D.surj v (List.mem_range.1 hv) with rfl | h
      · cases hO : D.O with
        | nil =>
          have := D.lab
          rw [hO] at this
          exact absurd this.symm C.ne
        | cons o O' =>
          have := D.clO
          rw [hO] at this
          exact ⟨o, D.O_lt (by rw [hO]; simp), this.1⟩
      · exact h
    have hσ := D.σ_lt hd
    have hmem : ∀ x, x < 2 * D.E → D.st x = v → x ∈ (D.O ++ D.Fs.flatten).filter fun d => D.st d = v := fun x hx h => List.mem_filter.2 ⟨(D.all x).2 hx, by simpa using h⟩
    have m1 := hmem d hd hdv
    have m2 := hmem (D.σ d) hσ (by rw [D.st_σ hd, hdv])
    have m3 := hmem (D.σ (D.σ d)) (D.σ_lt hσ) (by rw [D.st_σ hσ, D.st_σ hd, hdv])
    have n1 : D.σ d ≠ d := C.no1 hd
    have n2 : D.σ (D.σ d) ≠ D.σ d := C.no1 hσ
    by_cases hm : D.σ (D.σ d) = d
    · have a1 : D.M d = false := by simp [Dg.M, hm]
      have a2 : D.M (D.σ d) = false := by simp [Dg.M, hm]
      have := nd_sum (f := fun d => if D.M d then 2 else 3) (s := [d, D.σ d]) (l := (D.O ++ D.Fs.flatten).filter fun d => D.st d = v) (by simpa using fun q => n1 q.symm) (by simp only [List.mem_cons, List.not_mem_nil, or_false]; rintro x (rfl | rfl) <;> assumption)
      simpa [a1, a2] using this
    · have hm' : ∀ x, (if D.M x then 2 else 3) ≥ 2 := fun x => by split <;> omega
      have := nd_sum (f := fun d => if D.M d then 2 else 3) (s := [d, D.σ d, D.σ (D.σ d)]) (l := (D.O ++ D.Fs.flatten).filter fun d => D.st d = v) (by
        simp only [List.nodup_cons, List.mem_cons, List.not_mem_nil, or_false, not_or, not_false_eq_true, List.nodup_nil, and_true]
        exact ⟨⟨fun q => n1 q.symm, fun q => hm q.symm⟩, fun q => n2 q.symm⟩) (by simp only [List.mem_cons, List.not_mem_nil, or_false]; rintro x (rfl | rfl | rfl) <;> assumption)
      have b1 := hm' d; have b2 := hm' (D.σ d); have b3 := hm' (D.σ (D.σ d))
      simp only [List.map_cons, List.map_nil, List.sum_cons, List.sum_nil] at this
      omega
  rw [List.length_range] at h3
  have h4 : (D.O ++ D.Fs.flatten).map (fun d => if D.M d = true then 2 else 3) = (D.O ++ D.Fs.flatten).map (fun d => if D.M d then 2 else 3) := rfl
  omega

theorem count_flat (P : Nat → Bool) : ∀ L : List (List Nat), L.flatten.countP P = (L.map fun l => l.countP P).sum
  | [] => rfl
  | a :: L => by simp [List.countP_append, count_flat P L]

/-- All faces but one have many sides. -/
theorem faces_sum {o : Nat} {c e : List Nat → Nat} : ∀ {L : List (List Nat)}, L.flatten.Nodup → (∀ f ∈ L, o ∉ f → 6 ≤ c f + e f) → (∀ f ∈ L, o ∈ f → 2 ≤ c f + e f) → 6 * L.length ≤ (L.map c).sum + (L.map e).sum + (if o ∈ L.flatten then 4 else 0)
  | [], _, _, _ => by simp
  | f :: L, nd, h1, h2 => by
    rw [List.flatten_cons, List.nodup_append] at nd
    have ih := faces_sum (L := L) nd.2.1 (fun g hg => h1 g (List.mem_cons_of_mem _ hg)) (fun g hg => h2 g (List.mem_cons_of_mem _ hg))
    simp only [List.length_cons, List.map_cons, List.sum_cons, List.flatten_cons, List.mem_append]
    by_cases ho : o ∈ f
    · have h3 : o ∉ L.flatten := fun q => nd.2.2 o ho o q rfl
      have := h2 f List.mem_cons_self ho
      simp only [h3, if_false] at ih
      simp only [ho, h3, true_or, if_true]; omega
    · have := h1 f List.mem_cons_self ho
      simp only [ho, false_or]; omega

/-- There is no such word. -/
theorem Cx.false (C : Cx D) : False := by
  cases hO : D.O with
  | nil =>
    have := D.lab
    rw [hO] at this
    exact absurd this.symm C.ne
  | cons o O' =>
    have hoO : o ∈ D.O := by rw [hO]; simp
    have hV := C.vertices
    have hE := D.euler
    have hF := faces_sum (o := th o) (c := fun f => f.countP D.M) (e := fun f => f.countP (fun d => D.M d && D.X d)) (L := D.Fs) (List.nodup_append.1 D.nodup).2.1 (fun f hf h => C.face hf hO h) (fun f hf h => C.face0 hf h hoO)
    have hX : (D.Fs.map fun f => f.countP (fun d => D.M d && D.X d)).sum ≤ D.O.countP D.M := by
      have h1 : (D.Fs.map fun f => f.countP (fun d => D.M d && D.X d)) = D.Fs.map fun f => f.countP (fun d => D.M (D.φ d) && D.X d) := List.map_congr_left fun f hf => C.ends hf
      rw [h1, ← count_flat, List.countP_eq_length_filter, List.countP_eq_length_filter]
      have h2 := nd_len (s := (D.Fs.flatten.filter (fun d => D.M (D.φ d) && D.X d)).map th) (l := D.O.filter D.M) ?_ ?_
      · rw [List.length_map] at h2; exact h2
      · refine List.pairwise_map.2 ?_
        have := (List.nodup_append.1 D.nodup).2.1
        exact (this.sublist List.filter_sublist).imp fun h q => h (th_inj q)
      · intro x hx
        obtain ⟨y, hy, rfl⟩ := List.mem_map.1 hx
        obtain ⟨hy1, hy2⟩ := List.mem_filter.1 hy
        simp only [Bool.and_eq_true] at hy2
        have hyl : y < 2 * D.E := (D.all y).1 (List.mem_append_right _ hy1)
        exact List.mem_filter.2 ⟨by simpa [Dg.X] using hy2.2, by rw [D.M_φ hyl]; exact hy2.1⟩
    rw [List.countP_append, count_flat] at hV
    have h4 : (if th o ∈ D.Fs.flatten then 4 else 0) ≤ 4 := by split <;> omega
    omega

/-- Greendlinger's theorem: over a set of words of which no two share a sixth, a word with a diagram that is freely reduced and not empty has a long part. -/
theorem greendlinger (S : Sys iv R) (C6 : ∀ r r', R r → R r' → r ≠ r' → ∀ p, p <+: r → p <+: r' → 6 * p.length < r.length) :
    ∀ (k : Nat) (w : List α), w.length ≤ k → w ≠ [] → (∀ x a y, w ≠ x ++ a :: iv a :: y) → T iv R w → ∃ x s y t, w = x ++ (s ++ y) ∧ R (s ++ t) ∧ (s ++ t).length < 2 * s.length
  | 0, w, hk, hw, _, _ => absurd (List.eq_nil_of_length_eq_zero (by omega)) hw
  | k + 1, w, hk, hw, hr, ht => by
    by_cases hl : ∃ x s y t, w = x ++ (s ++ y) ∧ R (s ++ t) ∧ (s ++ t).length < 2 * s.length
    · exact hl
    exfalso
    obtain ⟨n, hd, hmin⟩ := ht.least
    cases hc : w with
    | nil => exact hw hc
    | cons a w' =>
      obtain ⟨D⟩ := hd.bld.map S a hmin
      have C : Cx D := {
        S := S, C6 := C6, ne := hw, nored := hr
        nolong := fun x s y t h1 h2 => Nat.le_of_not_lt fun h3 => hl ⟨x, s, y, t, h1, h2, h3⟩
        short := fun x q y e hq hlen hT => by
          obtain ⟨x', s, y', t, e1, h1, h2⟩ := greendlinger S C6 k q (by omega) hq (fun x' a y' e' => hr (x ++ x') a (y' ++ y) (by rw [e, e']; simp)) hT
          exact hl ⟨x ++ x', s, y' ++ y, t, by rw [e, e1]; simp, h1, h2⟩ }
      exact C.false
end
end Green
end Go.Proofs.YtaccklloepfemaaDoor

namespace Go.Proofs.YtaccklloepfemaaDoor
set_option linter.unusedVariables false
set_option linter.unusedSimpArgs false
open Go Go.RowKit V

def fl (c : UInt8) : UInt8 := c ^^^ 32
theorem fl_ne : ∀ c : UInt8, fl c ≠ c := all_u8 (by decide +kernel)
theorem fl_two (c : UInt8) : fl (fl c) = c := flip_flip c
def sR (l : List (List UInt8)) (x : List UInt8) : Prop := x ∈ symm l
theorem winv_inv (w : List UInt8) : Green.winv fl w = inv w := rfl
theorem rot_next {c : List UInt8} {j : Nat} {a : UInt8} {t : List UInt8} (hj : j < c.length) (h : a :: t = rot c j) : t ++ [a] = rot c (if j + 1 < c.length then j + 1 else 0) := by
  unfold rot at h
  rw [List.drop_eq_getElem_cons hj, List.cons_append] at h
  injection h with h1 h2
  have e : t ++ [a] = c.drop (j + 1) ++ c.take (j + 1) := by
    rw [h1, h2, List.take_succ_eq_append_getElem hj]; simp
  rw [e]
  split
  · rfl
  · have : c.length ≤ j + 1 := by omega
    simp [rot, List.drop_eq_nil_of_le this, List.take_of_length_le this]
theorem inv_rot {c : List UInt8} {j : Nat} (hj : j < c.length) : inv (rot c j) = rot (inv c) (if 0 < j then c.length - j else 0) := by
  split
  · have e : inv c = inv (c.drop j) ++ inv (c.take j) := by rw [← inv_app, List.take_append_drop]
    have hl : (inv (c.drop j)).length = c.length - j := by rw [inv_length, List.length_drop]
    unfold rot
    rw [inv_app, e, List.drop_left' hl, List.take_left' hl]
  · have : j = 0 := by omega
    subst this
    simp [rot]
theorem inv_inv (c : List UInt8) : inv (inv c) = c := by
  have := Green.winv_two (iv := fl) (R := fun _ => True) (v := c)
  simp only [inv, List.map_reverse, List.reverse_reverse, List.map_map]
  have e : ((fun x : UInt8 => x ^^^ 32) ∘ fun x => x ^^^ 32) = id := funext fun x => flip_flip x
  rw [e, List.map_id]
/-- The core of a freely reduced word is cyclically reduced. -/
theorem core_ends {r : List UInt8} (h : red r = r) (h2 : 2 ≤ (core r).length) : (core r).getD 0 0 ≠ (core r).getD ((core r).length - 1) 0 ^^^ 32 := by
  have hh := cycN_half r
  have hs := cycN_stop (r := r) (n := cycN r) (Nat.le_refl _)
  rw [core, h] at h2 ⊢
  simp only [List.length_drop, List.length_take] at h2 ⊢
  have hm : min (r.length - cycN r) r.length = r.length - cycN r := by omega
  rw [hm] at h2 ⊢
  rw [getD_drop, getD_drop, getD_take (by omega), getD_take (by omega)]
  intro q
  have hn : ¬ cycN r + 1 ≤ cycN r := by omega
  refine hn (cycN_go (r := r) (Nat.le_refl _) ⟨by omega, ?_⟩)
  have e : cycN r + (r.length - cycN r - cycN r - 1) = r.length - 1 - cycN r := by omega
  rw [e] at q
  simpa using q
theorem rot_cyc {c : List UInt8} (hn : NC c) (he : 2 ≤ c.length → c.getD 0 0 ≠ c.getD (c.length - 1) 0 ^^^ 32) {j : Nat} {a b : UInt8} {t : List UInt8} (hj : j < c.length) (h : a :: b :: t = rot c j) : b ≠ a ^^^ 32 := by
  have hl : (rot c j).length = c.length := rot_length c j
  have h2 : 2 ≤ c.length := by rw [← hl, ← h]; simp
  have ha : a = c.getD j 0 := by
    have := congrArg (fun x => x.getD 0 0) h
    simp only [List.getD_cons_zero, rot] at this
    rw [this, getD_left (by simp; omega), getD_drop, Nat.add_zero]
  by_cases q : j + 1 < c.length
  · have hb : b = c.getD (j + 1) 0 := by
      have := congrArg (fun x => x.getD 1 0) h
      simp only [List.getD_cons_succ, List.getD_cons_zero, rot] at this
      rw [this, getD_left (by simp; omega), getD_drop]
    rw [ha, hb]; exact hn j q
  · have hb : b = c.getD 0 0 := by
      have := congrArg (fun x => x.getD 1 0) h
      simp only [List.getD_cons_succ, List.getD_cons_zero, rot] at this
      rw [this, getD_right (by simp; omega), getD_take (by simp; omega)]
      simp only [List.length_drop]
      congr 1; omega
    have e : j = c.length - 1 := by omega
    rw [ha, hb, e]; exact he h2
section
variable {g : Int} {l : List (List UInt8)}
theorem rel_core (hp : pcheck g l = 0) {r : List UInt8} (hr : r ∈ l) : wCore r = core r ∧ red r = r ∧ 0 < (core r).length := by
  have hz := pcheck_zero hp
  obtain ⟨h200, hb⟩ := hz.2.2 r hr
  obtain ⟨b1, b2, b3⟩ := badRel_good hb
  have hi := isw_of hz.1.2 b2
  refine ⟨by rw [wCore, if_pos hi], b3, ?_⟩
  have hh := cycN_half r
  have hpos : 0 < r.length := List.length_pos_iff.2 b1
  rw [core, b3, List.length_drop, List.length_take]
  rcases Nat.lt_or_ge (2 * cycN r) r.length with q | q
  · omega
  · -- the middle would be two inverse letters
    exfalso
    have hn := (NC.iff _).2 b3
    have he : r.length = 2 * cycN r := by omega
    have := lf_all (p := fun n => decide (2 * n + 2 ≤ r.length ∧ r.getD n 0 = r.getD (r.length - 1 - n) 0 ^^^ 32)) (b := r.length) (i := cycN r - 1) (by show cycN r - 1 < cycN r; omega)
    have h3 := (of_decide_eq_true this).2
    have e : r.length - 1 - (cycN r - 1) = cycN r - 1 + 1 := by omega
    rw [e] at h3
    exact hn (cycN r - 1) (by omega) (by rw [h3, flip_flip])
theorem core_nc {r : List UInt8} (h : red r = r) : NC (core r) := by
  rw [core, h]
  exact (((NC.iff r).2 h).take _).drop _
theorem sys (hp : pcheck g l = 0) : Green.Sys fl (sR l) where
  two := fl_two
  ne := fl_ne
  rot := fun a t h => by
    obtain ⟨r, hr, j, hj, e⟩ := ((symm_spec l).1 _).1 h
    rcases e with e | e
    · exact ((symm_spec l).1 _).2 ⟨r, hr, _, by split <;> omega, .inl (rot_next hj e)⟩
    · have := rot_next (by rw [inv_length]; exact hj) e
      rw [inv_length] at this
      exact ((symm_spec l).1 _).2 ⟨r, hr, _, by split <;> omega, .inr this⟩
  inv := fun w h => by
    obtain ⟨r, hr, j, hj, e⟩ := ((symm_spec l).1 _).1 h
    rw [winv_inv]
    rcases e with e | e
    · exact ((symm_spec l).1 _).2 ⟨r, hr, (if 0 < j then (wCore r).length - j else 0), by split <;> omega, .inr (by rw [e]; exact inv_rot hj)⟩
    · have := inv_rot (c := inv (wCore r)) (j := j) (by rw [inv_length]; exact hj)
      rw [inv_length, inv_inv] at this
      exact ((symm_spec l).1 _).2 ⟨r, hr, (if 0 < j then (wCore r).length - j else 0), by split <;> omega, .inl (by rw [e]; exact this)⟩
  some := fun h => by
    obtain ⟨r, hr, j, hj, e⟩ := ((symm_spec l).1 _).1 h
    rcases e with e | e
    · have := congrArg List.length e; rw [rot_length] at this; simp at this; omega
    · have := congrArg List.length e; rw [rot_length, inv_length] at this; simp at this; omega
  red := fun a b t h => by
    obtain ⟨r, hr, j, hj, e⟩ := ((symm_spec l).1 _).1 h
    obtain ⟨c1, c2, c3⟩ := rel_core hp hr
    rw [c1] at e hj
    rcases e with e | e
    · exact rot_cyc (core_nc c2) (core_ends c2) hj e
    · have hi : red (inv r) = inv r := (((NC.iff _).2 c2).ofInv).isRed
      have := core_inv c2
      rw [← this] at e
      exact rot_cyc (core_nc hi) (core_ends hi) (by rw [this, inv_length]; exact hj) e
theorem pre_cmn : ∀ {p a b : List UInt8}, p <+: a → p <+: b → p.length ≤ cmn a b
  | [], _, _, _, _ => Nat.zero_le _
  | c :: p, a, b, ⟨u, hu⟩, ⟨v, hv⟩ => by
    subst hu; subst hv
    have := pre_cmn (p := p) (a := p ++ u) (b := p ++ v) ⟨u, rfl⟩ ⟨v, rfl⟩
    simp only [List.cons_append, cmn, if_true, List.length_cons]; omega
theorem sixth (hd : isDehn (symm l) = true) : ∀ r r', sR l r → sR l r' → r ≠ r' → ∀ p, p <+: r → p <+: r' → 6 * p.length < r.length := fun r r' hr hr' hne p h1 h2 => by
  have := (isDehn_iff (symm_spec l).2.1.nodup).1 hd r hr r' hr' hne
  have := pre_cmn h1 h2
  omega
/-- Words that are trivial in the group. -/
def TT (l : List (List UInt8)) (w : List UInt8) : Prop := Green.T fl (sR l) w
theorem TT_push (hp : pcheck g l = 0) {s w : List UInt8} {c : UInt8} : TT l (s ++ c :: w) ↔ TT l (push s c ++ w) := by
  by_cases h : 0 < s.length ∧ s.getD (s.length - 1) 0 = c ^^^ 32
  · rw [push, if_pos h]
    obtain ⟨s', d, rfl⟩ : ∃ s' d, s = s' ++ [d] := by
      rcases List.eq_nil_or_concat s with q | ⟨s', d, q⟩
      · rw [q] at h; simp at h
      · exact ⟨s', d, by rw [q, List.concat_eq_append]⟩
    have hd : d = fl c := by show d = c ^^^ 32; simpa using h.2
    subst hd
    have e : (s' ++ [fl c]).take ((s' ++ [fl c]).length - 1) = s' := by simp
    rw [e]
    have e2 : s' ++ [fl c] ++ c :: w = s' ++ ([fl c] ++ (Green.winv fl [fl c] ++ w)) := by simp [fl_two]
    rw [e2]
    exact ⟨fun q => Green.T.delw (sys hp) q, fun q => Green.T.insw (sys hp) q⟩
  · rw [push, if_neg h]; simp
theorem TT_fold (hp : pcheck g l = 0) : ∀ (w s : List UInt8), TT l (s ++ w) ↔ TT l (w.foldl push s)
  | [], s => by simp
  | c :: w, s => by rw [TT_push hp, List.foldl_cons]; exact TT_fold hp w (push s c)
theorem TT_red (hp : pcheck g l = 0) (w : List UInt8) : TT l w ↔ TT l (red w) := TT_fold hp w []
theorem TT_E (hp : pcheck g l = 0) {a b : List UInt8} (h : E a b) : TT l a ↔ TT l b := by
  rw [TT_red hp a, TT_red hp b, show red a = red b from h]
theorem TT_rel (hp : pcheck g l = 0) {r : List UInt8} (hr : r ∈ l) : TT l r := by
  obtain ⟨c1, c2, c3⟩ := rel_core hp hr
  have h : sR l (core r) := ((symm_spec l).1 _).2 ⟨r, hr, 0, by rw [c1]; exact c3, .inl (by rw [c1]; simp [rot])⟩
  have := Green.T.conj (iv := fl) (R := sR l) (conj r) (Green.T.rel (sys hp) h)
  rw [word_parts c2, List.append_assoc]
  exact this
theorem TT_inv (hp : pcheck g l = 0) {r : List UInt8} (h : TT l r) : TT l (inv r) := Green.T.invw (sys hp) h
theorem TT_relOf (hp : pcheck g l = 0) {i : Nat} (hi : i < l.length) (b : Bool) : TT l (if b then inv (l.getD i []) else l.getD i []) := by
  have := TT_rel hp (getD_mem (d := []) hi)
  split
  · exact TT_inv hp this
  · exact this
theorem TT_bnds (hp : pcheck g l = 0) {d : List DCell} (h : ∀ c ∈ d, 0 ≤ c.rel ∧ c.rel < l.length) : TT l (bnds l d) := by
  rw [bnds_red, ← TT_red hp]
  induction d with
  | nil => exact Green.T.nil
  | cons c d ih =>
    rw [List.flatMap_cons]
    refine Green.T.concat ?_ (ih fun c hc => h c (List.mem_cons_of_mem _ hc))
    have hc := h c List.mem_cons_self
    have := Green.T.conj (iv := fl) c.conj (TT_relOf hp (i := c.rel.toNat) (by omega) c.inv)
    unfold cword crel
    rw [List.append_assoc]
    exact this
theorem rlongAt_some {w x : List UInt8} (hx : x ∈ l) (h : x.length < 2 * cmn w x) : ∃ y, rlongAt l w = some y := by
  unfold rlongAt
  cases hf : l.find? (partOf w) with
  | some y => exact ⟨y, rfl⟩
  | none =>
    have := List.find?_eq_none.1 hf x hx
    simp [partOf, h] at this
theorem rlongFrom_pi {w : List UInt8} : ∀ {L : List Nat} {a : Nat} {y : List UInt8}, a ∈ L → rlongAt l (w.drop a) = some y → (rlongFrom l w L).pi = true
  | [], a, y, h, _ => by cases h
  | b :: L, a, y, h, e => by
    rw [rlongFrom]
    cases hb : rlongAt l (w.drop b) with
    | some z => rfl
    | none =>
      rcases List.mem_cons.1 h with rfl | h
      · rw [hb] at e; cases e
      · exact rlongFrom_pi h e
/-- Greendlinger's theorem for the reference's long parts. -/
theorem green_pi (hp : pcheck g l = 0) (hd : isDehn (symm l) = true) {w : List UInt8} (hn : NC w) (hw : w ≠ []) (ht : TT l w) : (rlong (symm l) w).pi = true := by
  obtain ⟨x, s, y, t, e, hR, hl⟩ := Green.greendlinger (sys hp) (sixth hd) w.length w (Nat.le_refl _) hw (fun x a y q => by
    have := hn x.length (by rw [q]; simp)
    rw [q] at this
    rw [getD_right (by omega), getD_right (by omega)] at this
    simp [fl] at this) ht
  have hs : s ≠ [] := fun q => by rw [q] at hl; simp at hl
  have h0 : 0 < s.length := List.length_pos_iff.2 hs
  have hdr : w.drop x.length = s ++ y := by rw [e, List.drop_left]
  obtain ⟨z, hz⟩ := rlongAt_some (l := symm l) (w := s ++ y) (x := s ++ t) hR (by
    have := pre_cmn (p := s) (a := s ++ y) (b := s ++ t) ⟨y, rfl⟩ ⟨t, rfl⟩
    omega)
  unfold rlong
  exact rlongFrom_pi (a := x.length) (List.mem_range.2 (by rw [e]; simp; omega)) (by rw [hdr]; exact hz)
theorem verified_dehn (h : rVerified g l = 0) : pcheck g l = 0 ∧ isDehn (symm l) = true := by
  unfold rVerified at h
  by_cases hp : ¬ pcheck g l = 0
  · rw [if_pos hp] at h; exact absurd h hp
  · rw [if_neg hp] at h
    by_cases hd : isDehn (symm l) = true
    · exact ⟨Decidable.not_not.1 hp, hd⟩
    · rw [if_neg hd] at h; cases h
theorem asked0 (hp : pcheck g l = 0) {w : List UInt8} (hw : wcheck g w = 0) (hl : w.length ≤ 5000) : rasked g l w = 0 := by
  unfold rasked
  rw [if_neg (fun q => q hp), if_neg (fun q => q hw), if_neg (by omega)]
/-- A trivial word is shortened to the empty word. -/
theorem green_dsh (hv : rVerified g l = 0) {S : RS} (hS : SOk l S) {w : List UInt8} (hw : wcheck g w = 0) (hl : w.length ≤ 400) (ht : TT l w) : (dsh S w).1 = [] := by
  obtain ⟨hp, hd⟩ := verified_dehn hv
  obtain ⟨h1, h2, h3, h4⟩ := dsh_disk hp hS hw (by omega)
  have hT : TT l (dsh S w).1 := by
    have a := (TT_E hp h1).2 ht
    exact Green.T.out (sys hp) (x := []) a (TT_bnds hp fun c hc => ⟨(h4 c hc).1, (h4 c hc).2.1⟩)
  apply Classical.byContradiction
  intro q
  have hpi := green_pi hp hd h3 q hT
  have hs := sh_stuck4 (asked0 hp hw (by omega)) hS hl
  unfold rStuck at hs
  split at hs
  · cases hs
  · rw [hpi] at hs; simp at hs
theorem dehn_dver (hv : rVerified g l = 0) {S : RS} (hS : SOk l S) : dver S = true := by
  obtain ⟨hp, hd⟩ := verified_dehn hv
  rw [dver_isDehn hp hS, hd]
/-! ### Moves -/
end
end Go.Proofs.YtaccklloepfemaaDoor

namespace Go.Proofs.YtaccklloepfemaaDoor
set_option linter.unusedVariables false
set_option linter.unusedSimpArgs false
open Go Go.RowKit V
section
variable {g : Int} {l : List (List UInt8)}
/-- Whether a word is trivial. -/
noncomputable def tv (l : List (List UInt8)) (w : List UInt8) : Bool := @decide (TT l w) (Classical.propDecidable _)
theorem tv_true {w : List UInt8} : tv l w = true ↔ TT l w := by simp [tv]
theorem tv_eq {a b : List UInt8} (h : TT l a ↔ TT l b) : tv l a = tv l b := by simp [tv, h]
theorem tr_iff {w : List UInt8} {b : Bool} {d : List DCell} {c : Nat} (h : TrR g l w (b, d, c)) (hv : rVerified g l = 0) (hw : w.all (okc g) = true) (hl : w.length ≤ 400) : b = tv l w ∧ c = 0 := by
  have hp := (verified_dehn hv).1
  have hwc : wcheck g w = 0 := wcheck_all (pcheck_zero hp).1 (by omega) hw
  have ha := asked0 hp hwc (by omega)
  unfold TrR at h
  rw [if_neg (fun q => q ha)] at h
  obtain ⟨S, hS, h⟩ := h
  rw [trOf, if_pos (dehn_dver hv hS)] at h
  by_cases hn : (dsh S w).1 = []
  · rw [if_pos hn, if_neg (light4 hS.1 hl)] at h
    cases h
    refine ⟨?_, rfl⟩
    obtain ⟨h1, _, _, h4⟩ := dsh_disk hp hS hwc (by omega)
    rw [hn, List.append_nil] at h1
    have := (TT_E hp h1).1 (TT_bnds hp fun c hc => ⟨(h4 c hc).1, (h4 c hc).2.1⟩)
    exact (tv_true.2 this).symm
  · rw [if_neg hn] at h
    cases h
    refine ⟨?_, rfl⟩
    cases ht : tv l w with
    | false => rfl
    | true => exact absurd (green_dsh hv hS hwc hl (tv_true.1 ht)) hn
theorem TT_flip (hp : pcheck g l = 0) (x : List UInt8) : TT l (inv x) ↔ TT l x := ⟨fun h => by have := TT_inv hp h; rwa [inv_inv] at this, TT_inv hp⟩
theorem TT_conj (hp : pcheck g l = 0) (c x : List UInt8) : TT l (c ++ x ++ inv c) ↔ TT l x := by
  constructor
  · intro h
    have h1 : TT l (x ++ (Green.winv fl c ++ c)) := by
      have := Green.T.rot (sys hp) (x := c) (y := x ++ inv c) (by rw [← List.append_assoc]; exact h)
      rw [List.append_assoc] at this; exact this
    have := Green.T.delw' (sys hp) (u := c) (x := x) (y := []) (by show TT l _; simpa using h1)
    rw [List.append_nil] at this; exact this
  · intro h
    rw [List.append_assoc]; exact Green.T.conj c h
theorem tv_1 (hp : pcheck g l = 0) (u : List UInt8) : tv l (inv u ++ inv []) = tv l u := tv_eq (by rw [show inv ([] : List UInt8) = [] from rfl, List.append_nil]; exact TT_flip hp u)
theorem tv_2 (hp : pcheck g l = 0) (u w : List UInt8) : tv l (w ++ u ++ inv w ++ inv []) = tv l u := tv_eq (by rw [show inv ([] : List UInt8) = [] from rfl, List.append_nil]; exact TT_conj hp w u)
theorem tv_3 (hp : pcheck g l = 0) (u : List UInt8) : tv l (u ++ inv u) = true := tv_true.2 ((TT_E hp (E.cancel u)).2 Green.T.nil)
theorem tv_4 (hp : pcheck g l = 0) (u v : List UInt8) : tv l (v ++ inv u) = tv l (u ++ inv v) := tv_eq (by rw [← TT_flip hp (u ++ inv v), inv_app, inv_inv])
theorem tv_5 (hp : pcheck g l = 0) {u v : List UInt8} (hu : tv l u = true) (hv : tv l v = true) : tv l (u ++ v ++ inv []) = true := by
  rw [show inv ([] : List UInt8) = [] from rfl, List.append_nil]
  exact tv_true.2 (Green.T.concat (tv_true.1 hu) (tv_true.1 hv))
theorem tv_6 (hp : pcheck g l = 0) {u v w : List UInt8} (h : tv l (u ++ inv v) = true) : tv l (v ++ inv w) = tv l (u ++ inv w) := by
  have h1 := tv_true.1 h
  have h2 : TT l (v ++ inv u) := by rw [← TT_flip hp, inv_app, inv_inv]; exact h1
  have mid : ∀ a b c : List UInt8, TT l (a ++ inv b) → TT l (b ++ inv c) → TT l (a ++ inv c) := fun a b c k1 k2 => by
    have : TT l _ := Green.T.concat k1 k2
    exact (TT_E hp (by have := E.mid2 a b (inv c); simpa using this)).1 (by simpa using this)
  exact tv_eq ⟨fun k => mid u v w h1 k, fun k => mid v u w h2 k⟩
theorem tv_7 (hp : pcheck g l = 0) {u v w : List UInt8} (h : tv l (u ++ inv v) = true) : tv l (u ++ w ++ inv (v ++ w)) = true := by
  refine tv_true.2 ?_
  rw [inv_app]
  have := E.mid u w (inv v)
  exact (TT_E hp (by simpa using this)).2 (tv_true.1 h)
theorem tv_8 (hp : pcheck g l = 0) {u v w : List UInt8} (h : tv l (u ++ inv v) = true) : tv l (w ++ u ++ inv (w ++ v)) = true := by
  refine tv_true.2 ?_
  rw [inv_app]
  have := (TT_conj hp w (u ++ inv v)).2 (tv_true.1 h)
  simpa using this
end
end Go.Proofs.YtaccklloepfemaaDoor
