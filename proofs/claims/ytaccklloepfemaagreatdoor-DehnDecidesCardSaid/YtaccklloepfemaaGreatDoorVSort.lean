/- The library's sorts over a partial view. -/
import Derived.Test.YtaccklloepfemaaGreatDoorVMut
import Derived.Shelf.SlSortCmp.WholeK
import Derived.Shelf.SlSortCmp.NoneTotal
import Derived.Shelf.Sort.Plain
import Derived.Shelf.Slices.In.SortNone
namespace Go.Proofs.YtaccklloepfemaaGreatDoor
set_option linter.unusedVariables false
set_option linter.unusedSimpArgs false
open Go Go.RowKit Go.Sort
namespace V
section
variable {A : AH} {w : World} {α : Type} [Inhabited α]

theorem putCells_get (enc : α → Value) (d : Array α) (c : Array Value) (i : Nat) (hd : d.size ≤ c.size) : (putCells enc 0 d c)[i]? = if i < d.size then some (enc d[i]!) else c[i]? := by
  simp only [putCells, Array.getElem?_mapIdx]
  by_cases h : i < d.size
  · have : i < c.size := by omega
    simp [h, this]
  · rw [if_neg h]
    cases c[i]? with
    | none => rfl
    | some x => simp [h]

theorem view_sorted (enc : α → Value) {b cap : Nat} {r : List Value} (d : Array α) (n : Nat) (os : Array Obj) (h : View A w) (g : A.get b = some (.row true r cap)) (hd : d.size ≤ r.length) :
    View ((A.set b (.row true (d.toList.map enc ++ r.drop d.size) cap)).grow (A.n + os.size)) (Sort.grow (putRow enc (Sort.ahead w n) b 0 d) os) ∧
    Step A w ((A.set b (.row true (d.toList.map enc ++ r.drop d.size) cap)).grow (A.n + os.size)) (Sort.grow (putRow enc (Sort.ahead w n) b 0 d) os) := by
  obtain ⟨cs, e, fr, h1, h0, h2, h3, h4⟩ := h.fits b _ g
  have hb : b < w.heap.size := (Array.getElem?_eq_some_iff.1 h1).1
  have hsz : (Sort.grow (putRow enc (Sort.ahead w n) b 0 d) os).heap.size = w.heap.size + os.size := by simp [Sort.grow, putRow, mapBlock, Sort.ahead]
  have old : ∀ k, k < w.heap.size → k ≠ b → (Sort.grow (putRow enc (Sort.ahead w n) b 0 d) os).heap[k]? = w.heap[k]? := fun k hk hne => by
    simp only [Sort.grow, putRow, mapBlock, Sort.ahead]
    rw [Array.getElem?_append_left (by simpa using hk), Array.getElem?_modify, if_neg (Ne.symm hne)]
  have new : (Sort.grow (putRow enc (Sort.ahead w n) b 0 d) os).heap[b]? = some (.cells (putCells enc 0 d cs) e fr) := by
    simp only [Sort.grow, putRow, mapBlock, Sort.ahead]
    rw [Array.getElem?_append_left (by simpa using hb), Array.getElem?_modify, if_pos rfl, h1]
    rfl
  refine ⟨⟨by rw [hsz, h.size]; rfl, fun k o hk => ?_⟩, ⟨rfl, rfl, ⟨rfl, Nat.le_add_right _ _⟩, by rw [hsz]; omega, fun k hk hr => ?_, fun k hk => ?_⟩⟩
  · simp only [AH.grow_get, AH.set_get] at hk
    split at hk
    · rename_i q; subst q; cases hk
      have hps : (putCells enc 0 d cs).size = cs.size := by simp [putCells]
      refine ⟨_, _, _, new, by simp; omega, by rw [hps]; exact h2, fun i hi => ?_, h4⟩
      rw [putCells_get enc d cs i (by omega)]
      simp only [List.length_append, List.length_map, Array.length_toList, List.length_drop] at hi
      by_cases q : i < d.size
      · rw [if_pos q, List.getElem?_append_left (by simpa using q)]
        simp [q]
      · rw [if_neg q, List.getElem?_append_right (by simp; omega), h3 i (by omega), List.getElem?_drop]
        congr 1; simp; omega
    · rename_i q
      have := h.wf k o hk
      rw [old k (by rw [h.size]; exact this) q]
      exact h.fits k o hk
  · have : k ≠ b := by rintro rfl; simp [AH.rw, g, AObj.rw] at hr
    exact old k hk this
  · left
    simp only [AH.rw, AH.grow_get, AH.set_get] at hk ⊢
    split at hk
    · rename_i o ho
      split at ho
      · rename_i e; subst e; simp [g, AObj.rw]
      · simp [ho, hk]
    · cases hk

def AObj.freeze : AObj → AObj
  | .row _ c cap => .row false c cap
  | .obj _ o => .obj false o
/-- The view of a world in which a sort stands: all but its row, and nothing may be written. -/
def AH.frozen (A : AH) (b n : Nat) : AH := ⟨n, fun k => if k = b then none else (A.get k).map AObj.freeze⟩
theorem frozen_view {b n : Nat} {W : World} (h : View A w) (hn : W.heap.size = n) (hle : w.heap.size ≤ n) (hk : ∀ k, k < w.heap.size → k ≠ b → W.heap[k]? = w.heap[k]?) : View (A.frozen b n) W := by
  refine ⟨hn, fun k o ho => ?_⟩
  simp only [AH.frozen] at ho
  split at ho
  · cases ho
  · rename_i q
    cases hg : A.get k with
    | none => rw [hg] at ho; cases ho
    | some x =>
      rw [hg] at ho; cases ho
      have hlt := h.wf k x hg
      rw [hk k (by rw [h.size]; exact hlt) q]
      have := h.fits k x hg
      cases x with
      | row rw c cap =>
        obtain ⟨cs, e, fr, h1, h0, h2, h3, h4⟩ := this
        exact ⟨cs, e, fr, h1, h0, h2, h3, fun q => by cases q⟩
      | obj rw o => exact this
theorem frozen_rw {b n k : Nat} : (A.frozen b n).rw k = false := by
  unfold AH.rw AH.frozen
  simp only
  split
  · rename_i o ho
    split at ho
    · cases ho
    · cases hg : A.get k with
      | none => rw [hg] at ho; cases ho
      | some x => rw [hg] at ho; cases ho; cases x <;> rfl
  · rfl
theorem step_grow {A1 : AH} {W w' : World} {b n : Nat} (h : Step (A.frozen b n) W A1 w') : ∃ q os', w' = Sort.grow (W.drewN q) os' := by
  refine ⟨w'.drawn - W.drawn, w'.heap.extract W.heap.size w'.heap.size, ?_⟩
  have hh : w'.heap = W.heap ++ w'.heap.extract W.heap.size w'.heap.size := by
    apply Array.ext_getElem?
    intro k
    by_cases hk : k < W.heap.size
    · rw [Array.getElem?_append_left hk]; exact h.kept k hk frozen_rw
    · rw [Array.getElem?_append_right (by omega), Array.getElem?_extract]
      have := h.size
      by_cases q : k < w'.heap.size
      · rw [if_pos (by omega)]; congr 1; omega
      · rw [if_neg (by omega)]; exact Array.getElem?_eq_none (by omega)
  have ho := h.output.1; have hd := h.output.2; have hos := h.os; have ht := h.tape
  cases w' with | mk heap tape drawn os output =>
  cases W with | mk heap0 tape0 drawn0 os0 output0 =>
  simp only at ho hd hos ht hh
  subst ho; subst hos; subst ht
  simp only [Sort.grow, World.drewN]
  rw [show drawn0 + (drawn - drawn0) = drawn by omega]
  congr 1

theorem flat_eq (enc : α → List Value) (k : Nat) (hk : ∀ x, (enc x).length = k) (d : List α) : (flatK enc k d.toArray).toList = d.flatMap enc := by
  apply List.ext_getElem?
  intro t
  by_cases h : t < d.length * k
  · have k0 : 0 < k := by rcases Nat.eq_zero_or_pos k with q | q; · subst q; simp at h
                          · exact q
    have hq : t / k < d.length := Nat.div_lt_of_lt_mul (by rw [Nat.mul_comm]; exact h)
    have e1 : (flatK enc k d.toArray).toList[t]? = some ((enc d.toArray[t / k]!)[t % k]!) := by
      have := get_flatK enc k d.toArray t (by simpa using h)
      rw [Array.getElem?_toList, ← this]
      simp [h]
    rw [e1]
    have key : ∀ (d : List α) (t : Nat), t / k < d.length → (d.flatMap enc)[t]? = some ((enc d[t / k]!)[t % k]!) := by
      intro d
      induction d with
      | nil => intro t h; simp at h
      | cons a d ih =>
        intro t ht
        rw [List.flatMap_cons]
        by_cases q : t < k
        · rw [List.getElem?_append_left (by rw [hk]; exact q), Nat.div_eq_of_lt q, Nat.mod_eq_of_lt q]
          have : t < (enc a).length := by rw [hk]; exact q
          simp [this]
        · rw [List.getElem?_append_right (by rw [hk]; omega), hk]
          have h1 : t / k = (t - k) / k + 1 := by rw [Nat.div_eq_sub_div k0 (by omega)]
          have h2 : t % k = (t - k) % k := Nat.mod_eq_sub_mod (by omega)
          rw [ih (t - k) (by simp only [List.length_cons] at ht; omega), h1, h2]
          simp
    rw [key d t hq]
    simp
  · rw [List.getElem?_eq_none (by simp; omega), List.getElem?_eq_none]
    rw [List.length_flatMap]
    have : (d.map fun x => (enc x).length).sum = d.length * k := by
      clear h
      induction d with
      | nil => simp
      | cons a d ih => simp only [List.map_cons, List.sum_cons, List.length_cons, hk a, ih, Nat.add_mul]; omega
    omega

/-- slices.SortFunc of structs. -/
theorem sortFunc_ret {P : Program} {ρ : Go.Shelf.Ren} (L : SlLaysF0.n6 P ρ) (k : Nat) (k0 : 0 < k) (aE : ∀ w, (isAgg (ρ.t 24)).run P w = .ok true w) (zE : ∀ w, (Go.sizeOf (ρ.t 24)).run P w = .ok k w) (enc : α → List Value) (hk : ∀ x, (enc x).length = k) (h1 : ∀ x, ∀ v ∈ enc x, v.oneCell' = true)
    (cf : α → α → Int) (hO : SWO (ltOf cf)) (g : Nat) (cb : Array Value) (e6 : Enters P (ρ.f 6)) (eg : Enters P g) {v : Value} {d : List α} {A0 : AH} (hsz : d.length < 4611686018427387904) (wf0 : A0.wf) (le : A0.le A) (own : Fresh A0 A v k (d.flatMap enc))
    (hcmp : ∀ n, A.n ≤ n → ∀ b, blk v = some b → ∀ x y : α, RetA P g (#[.agg (enc x).toArray, .agg (enc y).toArray] ++ cb) (A.frozen b n) fun u _ => u = .int .i64 (cf x y)) :
    RetA P (ρ.f 6) #[v, .func (.func g) #[] cb] A fun u A1 => u = .tuple #[] ∧ A0.le A1 ∧ A1.wf ∧ (∀ b o, A.get b = some o → blk v ≠ some b → A1.get b = some o) ∧ ∃ d' : List α, d'.Perm d ∧ d'.Pairwise (fun x y => ¬ cf y x < 0) ∧ Fresh A0 A1 v k (d'.flatMap enc) := by
  have hfl : ∀ d : List α, (d.flatMap enc).length = d.length * k := fun d => by
    rw [← flat_eq enc k hk]; simp
  have nilcase : ∀ (p : Option Addr) (c : Nat), v = .slice p 0 c → d = [] → RetA P (ρ.f 6) #[v, .func (.func g) #[] cb] A fun u A1 => u = .tuple #[] ∧ A0.le A1 ∧ A1.wf ∧ (∀ b o, A.get b = some o → blk v ≠ some b → A1.get b = some o) ∧ ∃ d' : List α, d'.Perm d ∧ d'.Pairwise (fun x y => ¬ cf y x < 0) ∧ Fresh A0 A1 v k (d'.flatMap enc) := by
    rintro p c rfl rfl
    refine ⟨e6, fun w hw => (AnyF.slices_SortFunc_none L p c _ w).mono ?_⟩
    rintro e w' ⟨rfl, rfl⟩
    exact ⟨A, hw, .refl _ _, _, rfl, rfl, le, hw.wf, fun _ _ h _ => h, [], .refl _, List.Pairwise.nil, own⟩
  rcases own.own with ⟨rfl, hx⟩ | ⟨b, n, c, r, rcap, rfl, g2, g3, g4, g5, g6⟩
  · have : d = [] := List.length_eq_zero_iff.1 (by
      have := hfl d; rw [hx] at this
      rcases Nat.mul_eq_zero.1 this.symm with q | q
      · exact q
      · omega)
    exact nilcase none 0 rfl this
  · have hn : n = d.length := Nat.eq_of_mul_eq_mul_right k0 (g3.symm.trans (hfl d))
    subst hn
    have hrl : d.length * k ≤ r.length := by rw [← g4, List.length_take] at g3; omega
    refine ⟨e6, fun w hw => ?_⟩
    obtain ⟨cs, el, fr, q1, q0, q2, q3, q4⟩ := hw.fits b _ g2
    have hb : b < w.heap.size := (Array.getElem?_eq_some_iff.1 q1).1
    have hfe : (flatK enc k d.toArray).toList = r.take (d.length * k) := by rw [flat_eq enc k hk, g4]
    have hH : HoldsK enc k w b 0 d.toArray := fun j hj => by
      simp only [size_flatK, List.size_toArray] at hj
      have hjr : j < r.length := by omega
      have hjc : j < cs.size := by omega
      have e1 : (flatK enc k d.toArray)[j]! = r[j] := by
        have : (flatK enc k d.toArray).toList[j]? = (r.take (d.length * k))[j]? := by rw [hfe]
        have hlt : j < (flatK enc k d.toArray).size := by rw [size_flatK]; simpa using hj
        rw [List.getElem?_take_of_lt hj, List.getElem?_eq_getElem hjr, Array.getElem?_toList, Array.getElem?_eq_getElem hlt] at this
        rw [getElem!_pos (flatK enc k d.toArray) j hlt]; exact Option.some.inj this
      have e2 := q3 j hjr
      rw [List.getElem?_eq_getElem hjr] at e2
      refine ⟨?_, ?_⟩
      · simp only [World.cell?, q1, Nat.zero_add, id]; rw [e1]; exact e2
      · have := q4 rfl j (by omega)
        simp only [World.frozen?, q1, Nat.zero_add]
        obtain ⟨f1, f2⟩ := fr
        simp only at this ⊢
        simp only [Bool.and_eq_false_iff, decide_eq_false_iff_not]; omega
    have hc : CmpLays P g cb enc k cf b 0 d.toArray.size w := fun m os dk hdk x y => by
      have hs : (sortWorldK enc k w b 0 m dk os).heap.size = w.heap.size + os.size := by simp [sortWorldK, Sort.grow, putRowK, putRow, mapBlock, Sort.ahead]
      have hv : View (A.frozen b (w.heap.size + os.size)) (sortWorldK enc k w b 0 m dk os) := frozen_view hw hs (by omega) fun j hj hne => by
        simp only [sortWorldK, Sort.grow, putRowK, putRow, mapBlock, Sort.ahead]
        rw [Array.getElem?_append_left (by simpa using hj), Array.getElem?_modify, if_neg (Ne.symm hne)]
      refine ((hcmp (w.heap.size + os.size) (by rw [hw.size]; omega) b rfl x y).2 _ hv).mono ?_
      rintro e w' ⟨A1, _, hst, u, rfl, rfl⟩
      exact ⟨rfl, step_grow hst⟩
    have key := AnyQ.slices_SortFunc L k aE zE enc hk h1 cf hO g cb b 0 c d.toArray w eg hc hH hb (by simpa using hsz)
    simp only [List.size_toArray] at key
    refine key.mono ?_
    rintro e w' ⟨rfl, d', m, os, hp, hs, rfl⟩
    have hds : d'.size = d.length := by simpa using hp.1
    obtain ⟨v1, s1⟩ := view_sorted (α := Value) id (flatK enc k d') m os hw g2 (by rw [size_flatK, hds]; exact hrl)
    refine ⟨_, v1, s1, _, rfl, rfl, ?_, v1.wf, fun j o hj hne => ?_, d'.toList, ?_, ?_, ?_⟩
    · exact ⟨Nat.le_trans le.n (Nat.le_add_right _ _), fun j o hj => by
        rw [AH.grow_get, AH.set_get_ne _ _ (by rintro rfl; rw [own.lo j rfl] at hj; cases hj)]; exact le.get j o hj⟩
    · rw [AH.grow_get, AH.set_get_ne _ _ (by rintro rfl; exact hne rfl)]; exact hj
    · have := hp.2.2
      have e1 : d'.extract 0 d.length = d' := by rw [← hds]; simp
      have e2 : d.toArray.extract 0 d.length = d.toArray := by
        simp
      rw [e1, e2] at this
      exact this
    · rw [List.pairwise_iff_getElem]
      intro i j hi hj hij
      have := hs i j (Nat.zero_le _) hij (by simpa [hds] using hj)
      simp only [ltOf, decide_eq_false_iff_not] at this
      simp only [Array.length_toList] at hi hj
      simpa [hi, hj] using this
    · have e3 : (flatK enc k d').toList = d'.toList.flatMap enc := by
        have := flat_eq enc k hk d'.toList; simpa using this
      refine ⟨.inr ⟨b, d.length, c, _, rcap, rfl, by rw [AH.grow_get]; exact AH.set_get_same _ _ _, ?_, ?_, g5, g6⟩, own.lo⟩
      · rw [hfl, Array.length_toList, hds]
      · rw [List.map_id_fun, id, List.take_left' (by rw [Array.length_toList, size_flatK, hds])]
        exact e3

/-- slices.Sort of strings. -/
theorem sort_ret {P : Program} {ρ : Go.Shelf.Ren} (L : Lays.n190 P ρ) (e190 : Enters P (ρ.f 190)) {v : Value} {d : List (List UInt8)} {A0 : AH} (hsz : d.length < 4611686018427387904) (le : A0.le A) (own : Fresh A0 A v 1 (strs d)) :
    RetA P (ρ.f 190) #[v] A fun u A1 => u = .tuple #[] ∧ A0.le A1 ∧ A1.wf ∧ Fresh A0 A1 v 1 (strs (d.mergeSort fun x y => decide (x ≤ y))) ∧ (∀ b o, A.get b = some o → blk v ≠ some b → A1.get b = some o) := by
  rcases own.own with ⟨rfl, hx⟩ | ⟨b, n, c, r, rcap, rfl, g2, g3, g4, g5, g6⟩
  · have : d = [] := List.length_eq_zero_iff.1 (by have := strs_length d; rw [hx] at this; simpa using this.symm)
    subst this
    refine ⟨e190, fun w hw => (Any.slices_Sort_string_none L none 0 w).mono ?_⟩
    rintro e w' ⟨rfl, rfl⟩
    exact ⟨A, hw, .refl _ _, _, rfl, rfl, le, hw.wf, by simpa using own, fun _ _ h _ => h⟩
  · have hn : n = d.length := by rw [strs_length, Nat.mul_one] at g3; exact g3.symm
    subst hn
    rw [Nat.mul_one] at g3 g4 g6
    have hrl : d.length ≤ r.length := by rw [← g4, List.length_take] at g3; omega
    refine ⟨e190, fun w hw => ?_⟩
    obtain ⟨cs, el, fr, q1, q0, q2, q3, q4⟩ := hw.fits b _ g2
    have hb : b < w.heap.size := (Array.getElem?_eq_some_iff.1 q1).1
    have hH : Holds encStr w b 0 d.toArray := fun j hj => by
      simp only [List.size_toArray] at hj
      have hjr : j < r.length := by omega
      have e2 := q3 j hjr
      have e1 : r[j]? = some (str d[j]) := by
        rw [← List.getElem?_take_of_lt hj, g4]; simp [strs, hj]
      rw [e1] at e2
      refine ⟨?_, ?_⟩
      · simp only [World.cell?, q1, Nat.zero_add]
        have : d.toArray[j]! = d[j] := by simp [hj]
        rw [this]; exact e2
      · have := q4 rfl j (by omega)
        simp only [World.frozen?, q1, Nat.zero_add]
        obtain ⟨f1, f2⟩ := fr
        simp only at this ⊢
        simp only [Bool.and_eq_false_iff, decide_eq_false_iff_not]; omega
    refine (Any.slices_Sort_string L b 0 c d w hH hb hsz).mono ?_
    rintro e w' ⟨rfl, m, os, rfl⟩
    have hlen : (d.mergeSort fun x y => decide (x ≤ y)).length = d.length := List.length_mergeSort _
    obtain ⟨v1, s1⟩ := view_sorted (α := List UInt8) encStr (d.mergeSort fun x y => decide (x ≤ y)).toArray m os hw g2 (by simpa [hlen] using hrl)
    refine ⟨_, v1, s1, _, rfl, rfl, ?_, v1.wf, ?_, fun j o hj hne => ?_⟩
    · exact ⟨Nat.le_trans le.n (Nat.le_add_right _ _), fun j o hj => by
        rw [AH.grow_get, AH.set_get_ne _ _ (by rintro rfl; rw [own.lo j rfl] at hj; cases hj)]; exact le.get j o hj⟩
    · refine ⟨.inr ⟨b, d.length, c, _, rcap, rfl, by rw [AH.grow_get]; exact AH.set_get_same _ _ _, ?_, ?_, g5, by omega⟩, own.lo⟩
      · rw [strs_length, hlen, Nat.mul_one]
      · rw [Nat.mul_one, List.take_left' (by simp [hlen])]
        simp only [strs]; rfl
    · rw [AH.grow_get, AH.set_get_ne _ _ (by rintro rfl; exact hne rfl)]; exact hj
end
end V
end Go.Proofs.YtaccklloepfemaaGreatDoor
