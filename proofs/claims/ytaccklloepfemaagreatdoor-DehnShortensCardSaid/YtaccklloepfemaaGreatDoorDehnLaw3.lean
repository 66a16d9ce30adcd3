/- The pieces of neighbours; turning; cyclic words: as the reference. -/
import Derived.Test.YtaccklloepfemaaGreatDoorDehnLaw2
namespace Go.Proofs.YtaccklloepfemaaGreatDoor
set_option linter.unusedVariables false
set_option linter.unusedSimpArgs false
open Go Go.RowKit V

/-! ### Pieces -/
theorem cmn_comm : ∀ a b : List UInt8, cmn a b = cmn b a
  | [], [] => rfl
  | [], _ :: _ => rfl
  | _ :: _, [] => rfl
  | a :: x, b :: y => by
    simp only [cmn]
    by_cases h : a = b
    · subst h; simp [cmn_comm x y]
    · rw [if_neg h, if_neg (fun q => h q.symm)]
theorem cons_le {a b : UInt8} {x y : List UInt8} (h : a :: x ≤ b :: y) : ¬ b < a ∧ (a = b → x ≤ y) := by
  have h : ¬ (b :: y < a :: x) := h
  rw [List.cons_lt_cons_iff] at h
  exact ⟨fun q => h (.inl q), fun e q => h (.inr ⟨e.symm, q⟩)⟩
theorem cmn_mid : ∀ a b c : List UInt8, a ≤ b → b ≤ c → cmn a c ≤ cmn a b ∧ cmn a c ≤ cmn b c
  | [], _, c, _, _ => by simp [cmn]
  | _ :: _, _, [], _, _ => by simp [cmn]
  | a :: x, [], c :: z, h, _ => by
    exfalso
    exact h (List.nil_lt_cons _ _)
  | a :: x, b :: y, c :: z, h1, h2 => by
    obtain ⟨p1, p2⟩ := cons_le h1
    obtain ⟨q1, q2⟩ := cons_le h2
    simp only [cmn]
    by_cases e : a = c
    · subst e
      have e2 : a = b := by
        have h1 : ¬ b.toNat < a.toNat := fun r => p1 (UInt8.lt_iff_toNat_lt.2 r)
        have h2 : ¬ a.toNat < b.toNat := fun r => q1 (UInt8.lt_iff_toNat_lt.2 r)
        exact UInt8.toNat_inj.1 (by omega)
      subst e2
      have := cmn_mid x y z (p2 rfl) (q2 rfl)
      simp only [if_pos]
      omega
    · rw [if_neg e]; omega
theorem le_tr : ∀ a b c : List UInt8, a ≤ b → b ≤ c → a ≤ c := fun _ _ _ h1 h2 => List.le_trans h1 h2
theorem le_tot : ∀ a b : List UInt8, a ≤ b ∨ b ≤ a := fun a b => List.le_total a b
theorem srt_sorted (d : List (List UInt8)) : (srt d).Pairwise (· ≤ ·) := by
  have := List.pairwise_mergeSort (le := fun x y : List UInt8 => decide (x ≤ y)) (fun a b c h1 h2 => by
    simp only [decide_eq_true_eq] at h1 h2 ⊢; exact le_tr _ _ _ h1 h2) (fun a b => by
    simp only [Bool.or_eq_true, decide_eq_true_eq]; exact le_tot a b) d
  exact this.imp fun h => by simpa using h
def Small6 (l : List (List UInt8)) : Prop := ∀ x ∈ l, ∀ y ∈ l, x ≠ y → ¬ x.length ≤ 6 * cmn x y
theorem isDehn_iff {l : List (List UInt8)} (hn : l.Nodup) : isDehn l = true ↔ Small6 l := by
  unfold isDehn Small6
  simp only [List.all_eq_true, List.mem_range, Bool.not_eq_true', Bool.and_eq_false_iff, decide_eq_false_iff_not]
  constructor
  · intro h x hx y hy hne hle
    obtain ⟨i, hi, rfl⟩ := List.getElem_of_mem hx
    obtain ⟨k, hk, rfl⟩ := List.getElem_of_mem hy
    have e1 : l.getD i [] = l[i] := by simp [hi]
    have e2 : l.getD k [] = l[k] := by simp [hk]
    rcases h i hi k hk with q | q
    · exact hne (by have : i = k := Classical.byContradiction fun r => q r
                    subst this; rfl)
    · rw [e1, e2] at q; exact q hle
  · intro h i hi k hk
    by_cases e : i = k
    · exact .inl (fun q => q e)
    · refine .inr fun q => h _ (getD_mem hi) _ (getD_mem hk) (fun r => e (nodup_getD hn hi hk r)) q
theorem dver_iff {d : List (List UInt8)} (hn : d.Nodup) (hs : d.Pairwise (· ≤ ·)) : dverW d = true ↔ Small6 d := by
  have hle : ∀ i j, i < j → j < d.length → d.getD i [] ≤ d.getD j [] := fun i j hij hj => by
    have hi : i < d.length := by omega
    have := List.pairwise_iff_getElem.1 hs i j hi hj hij
    simpa [hi, hj] using this
  have hrefl : ∀ a : List UInt8, a ≤ a := fun a => (le_tot a a).elim id id
  have hle2 : ∀ i j, i ≤ j → j < d.length → d.getD i [] ≤ d.getD j [] := fun i j hij hj => by
    rcases Nat.lt_or_eq_of_le hij with q | q
    · exact hle i j q hj
    · subst q; exact hrefl _
  constructor
  · intro h
    have hg : ∀ i, 1 ≤ i → i < d.length → ¬ badAt d i := fun i h1 hi q => by
      rw [dverW_no h1 hi q] at h; cases h
    have key : ∀ i j, i < j → j < d.length → ¬ (d.getD i []).length ≤ 6 * cmn (d.getD i []) (d.getD j []) ∧ ¬ (d.getD j []).length ≤ 6 * cmn (d.getD i []) (d.getD j []) := fun i j hij hj => by
      have c1 := (cmn_mid _ _ _ (hle i (i + 1) (by omega) (by omega)) (hle2 (i + 1) j (by omega) hj)).1
      have c2 := (cmn_mid _ _ _ (hle2 i (j - 1) (by omega) (by omega)) (hle (j - 1) j (by omega) hj)).2
      have b1 := hg (i + 1) (by omega) (by omega)
      have b2 := hg j (by omega) hj
      unfold badAt at b1 b2
      rw [Nat.add_sub_cancel] at b1
      omega
    intro x hx y hy hne hq
    obtain ⟨i, hi, rfl⟩ := List.getElem_of_mem hx
    obtain ⟨k, hk, rfl⟩ := List.getElem_of_mem hy
    have e1 : d.getD i [] = d[i] := by simp [hi]
    have e2 : d.getD k [] = d[k] := by simp [hk]
    rw [← e1, ← e2] at hq
    rcases Nat.lt_trichotomy i k with r | r | r
    · exact (key i k r hk).1 hq
    · subst r; exact hne rfl
    · rw [cmn_comm] at hq; exact (key k i r hi).2 hq
  · intro h
    refine dverW_yes (Nat.le_refl _) fun i h1 hi hb => ?_
    have hne : d.getD (i - 1) [] ≠ d.getD i [] := fun q => by
      have := nodup_getD (d := []) hn (by omega) hi q; omega
    rcases hb with q | q
    · exact h _ (getD_mem (by omega)) _ (getD_mem hi) hne q
    · rw [cmn_comm] at q; exact h _ (getD_mem hi) _ (getD_mem (by omega)) hne.symm q
theorem SS.nodup {l : List (List UInt8)} (h : SS l) : l.Nodup := h.imp fun {a b} q e => by subst e; rw [cmpw_self] at q; omega
theorem dver_isDehn {g : Int} {l : List (List UInt8)} (hp : pcheck g l = 0) {S : RS} (hS : SOk l S) : dver S = isDehn (symm l) := by
  have hn := (symm_spec l).2.1.nodup
  unfold dver
  rw [words_symm hp hS]
  have hpm := srt_perm (symm l)
  have h1 := dver_iff ((hpm.nodup_iff).2 hn) (srt_sorted _)
  have h2 := isDehn_iff hn
  have h3 : Small6 (srt (symm l)) ↔ Small6 (symm l) := by
    unfold Small6
    simp only [hpm.mem_iff]
  rw [Bool.eq_iff_iff, h1, h2, h3]

/-! ### Turning -/
theorem longU_state (L : List Rot) (s : List UInt8) : ∀ i, ((longU L s i).1 < 0 → (longU L s i).2 = 0) ∧ (0 ≤ (longU L s i).1 → 0 < (longU L s i).2)
  | 0 => by simp [longU]
  | i + 1 => by
    have ih := longU_state L s i
    simp only [longU, longStep]
    split
    · split
      · dsimp only; omega
      · dsimp only; split <;> omega
    · exact ih
theorem longU_stay {L : List Rot} {s : List UInt8} {n : Nat} (h : 0 ≤ (longU L s n).1) : ∀ i, 0 ≤ (longU L s (n + i)).1 ∧ (longU L s (n + i)).2 = (longU L s n).2
  | 0 => ⟨h, rfl⟩
  | i + 1 => by
    obtain ⟨h1, h2⟩ := longU_stay h i
    rw [← Nat.add_assoc]
    simp only [longU, longStep]
    split
    · rw [if_neg (by omega)]
      dsimp only
      refine ⟨by split <;> omega, h2⟩
    · exact ⟨h1, h2⟩
theorem longF_min {L : List Rot} {s : List UInt8} {x : Rot} {n : Nat} (hx : x ∈ L) (hn : n ≤ s.length) (h0 : 0 < n) (hp : s.take n <+: x.w) (hl : x.w.length < 2 * n) : 0 < (longF L s).2 ∧ (longF L s).2 ≤ n := by
  have hb : 0 ≤ bestOf L (s.take n) := (ifl_any _ _).2 (List.any_eq_true.2 ⟨x, hx, by
    simp only [Bool.and_eq_true, List.isPrefixOf_iff_prefix, decide_eq_true_eq]
    exact ⟨hp, by rw [List.length_take, Nat.min_eq_left hn]; exact hl⟩⟩)
  have h1 : 0 ≤ (longU L s n).1 ∧ 0 < (longU L s n).2 ∧ (longU L s n).2 ≤ n := by
    cases n with
    | zero => omega
    | succ n =>
      have st := longU_state L s n
      have le := longU_le L s n
      simp only [longU, longStep]
      rw [if_pos hb]
      split
      · exact ⟨hb, by dsimp only; omega, by dsimp only; omega⟩
      · dsimp only
        refine ⟨by split <;> omega, by omega, by omega⟩
  have h2 := (longU_stay h1.1 (s.length - n)).2
  rw [show n + (s.length - n) = s.length by omega] at h2
  unfold longF
  rw [h2]; exact h1.2
theorem turnU_le {L : List Rot} {w : List UInt8} : ∀ i, i ≤ w.length → ∀ j, j < i → 0 < (longF L (rot w j)).2 → 0 ≤ turnU L w i ∧ turnU L w i ≤ turnA w j (longF L (rot w j)).2
  | 0, _, j, hj, _ => by omega
  | i + 1, hi, j, hj, hn => by
    have hA : ∀ k n, 0 ≤ turnA w k n := fun k n => by unfold turnA; split <;> omega
    rw [turnU]
    by_cases e : j = i
    · subst e
      rw [if_pos hn]
      split
      · exact ⟨hA _ _, Int.le_refl _⟩
      · omega
    · obtain ⟨h1, h2⟩ := turnU_le i (by omega) j (by omega) hn
      split
      · split
        · rename_i q; exact ⟨hA _ _, by omega⟩
        · exact ⟨h1, h2⟩
      · exact ⟨h1, h2⟩
theorem pi_iff (L : List Rot) (s : List UInt8) : (rlong (L.map (·.w)) s).pi = true ↔ ∃ q, q < s.length ∧ 0 ≤ (longF L (s.drop q)).1 := by
  constructor
  · intro h
    apply Classical.byContradiction
    intro hn
    have hskip := rlong_skip (l := L.map (·.w)) (w := s) s.length (Nat.le_refl _) fun q hq => at_neg fun r => hn ⟨q, hq, r⟩
    have e := rlong_end (l := L.map (·.w)) (w := s) (i := s.length) (Nat.le_refl _) hskip
    rw [e] at h; cases h
  · rintro ⟨q, hq, h⟩
    apply Classical.byContradiction
    intro hn
    have key : ∀ p, p ≤ s.length → ∀ r, r < p → ¬ 0 ≤ (longF L (s.drop r)).1 := by
      intro p
      induction p with
      | zero => intro _ r hr; omega
      | succ p ih =>
        intro hp r hr
        by_cases e : r = p
        · subst e
          intro hpos
          have hskip := rlong_skip (l := L.map (·.w)) (w := s) r (by omega) fun q hq => at_neg (ih (by omega) q hq)
          have e2 := rlong_here (by omega) hskip (at_pos hpos)
          exact hn (by rw [e2])
        · exact ih (by omega) r (by omega)
    exact key s.length (Nat.le_refl _) q hq h
theorem turn_pi {L : List Rot} {w : List UInt8} {k : Nat} (hk : k < w.length) (h : (rlong (L.map (·.w)) (rot w k)).pi = true) : 0 ≤ dturn L w ∧ dturn L w ≤ k := by
  obtain ⟨q, hq, hpos⟩ := (pi_iff L _).1 h
  rw [rot_length] at hq
  obtain ⟨g1, g2, _⟩ := longF_pos hpos
  have hx := getD_mem (d := Rot.zero) g1
  generalize L.getD (longF L ((rot w k).drop q)).1.toNat .zero = x at g2 hx
  have hc := (cmn_le ((rot w k).drop q) x.w).1
  rw [List.length_drop, rot_length] at hc
  have hpt := part_take (s := (rot w k).drop q) (x := x.w)
  generalize cmn ((rot w k).drop q) x.w = n at g2 hc hpt
  -- the place in w
  obtain ⟨j, hj, e, hb⟩ : ∃ j, j < w.length ∧ ((rot w k).drop q).take n = (rot w j).take n ∧ j + n ≤ w.length + k := by
    by_cases hkq : k + q < w.length
    · refine ⟨k + q, hkq, ?_, by omega⟩
      have := rot_part (w := w) (i := k + q) (k := k) (n := n) hkq (by omega) (by omega)
      rw [show k + q - k = q by omega] at this; exact this
    · refine ⟨k + q - w.length, by omega, ?_, by omega⟩
      have e1 : (rot w k).drop q = (w.take k).drop (k + q - w.length) := by
        rw [rot, List.drop_append, List.drop_eq_nil_of_le (by rw [List.length_drop]; omega), List.nil_append, List.length_drop]
        congr 1; omega
      rw [e1, rot, List.take_append_of_le_length (by rw [List.length_drop]; omega), List.drop_take, List.take_take, Nat.min_eq_left (by omega)]
  rw [e] at hpt
  have hm := longF_min (s := rot w j) hx (by rw [rot_length]; omega) (by omega) hpt g2
  have ht := turnU_le w.length (Nat.le_refl _) j hj hm.1
  unfold dturn
  refine ⟨ht.1, Int.le_trans ht.2 ?_⟩
  unfold turnA
  split <;> omega
theorem pi_turn {L : List Rot} {w : List UInt8} {k : Nat} (hz : ((k : Nat) : Int) = dturn L w) : k < w.length ∧ (rlong (L.map (·.w)) (rot w k)).pi = true := by
  have hb := turnU_bound L w w.length (Nat.le_refl _)
  unfold dturn at hz
  obtain ⟨j, hj, hn, e⟩ := turnU_mem w.length (Nat.le_refl _) (by omega : 0 ≤ turnU L w w.length)
  obtain ⟨h1, x, hx, h2, h3⟩ := longF_some hn
  rw [rot_length] at h1
  rw [e] at hz
  have hk : (k = 0 ∧ j + (longF L (rot w j)).2 ≤ w.length) ∨ k + w.length = j + (longF L (rot w j)).2 := by
    unfold turnA at hz
    split at hz <;> omega
  have hp := rot_part (w := w) (i := j) (k := k) (n := (longF L (rot w j)).2) hj (by omega) (by omega)
  refine ⟨by omega, (pi_iff L _).2 ⟨j - k, by rw [rot_length]; omega, ?_⟩⟩
  exact part_pos hx (by rw [List.length_drop, rot_length]; omega) (by rw [hp]; exact h2) h3
theorem turn_none {L : List Rot} {w : List UInt8} (h : dturn L w < 0) : rcycAt (L.map (·.w)) w = none :=
  rcycAt_none (Nat.le_refl _) fun j hj => by
    cases q : (rlong (L.map (·.w)) (rot w j)).pi with
    | false => rfl
    | true => have := turn_pi hj q; omega
theorem turn_some {L : List Rot} {w : List UInt8} {k : Nat} (hz : ((k : Nat) : Int) = dturn L w) : rcycAt (L.map (·.w)) w = some k := by
  obtain ⟨h1, h2⟩ := pi_turn hz
  refine rcycAt_found h1 (fun j hj => ?_) h2
  cases q : (rlong (L.map (·.w)) (rot w j)).pi with
  | false => rfl
  | true => have := turn_pi (by omega) q; omega
end Go.Proofs.YtaccklloepfemaaGreatDoor
