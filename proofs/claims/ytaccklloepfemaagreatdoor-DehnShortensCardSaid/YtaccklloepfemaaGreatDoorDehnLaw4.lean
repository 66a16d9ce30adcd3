/- The pieces of neighbours; turning; cyclic words: as the reference. What the functions give, for words that are not long, is what the reference gives. -/
import Derived.Test.YtaccklloepfemaaGreatDoorDehnLaw2
namespace Go.Proofs.YtaccklloepfemaaGreatDoor
set_option linter.unusedVariables false
set_option linter.unusedSimpArgs false
open Go Go.RowKit V

/-! ### Pieces -/
theorem cmn_comm : ∀ a b : List UInt8, cmn a b = cmn b a
  | [], [] => rfl
  | [], _ :: _ => rfl
  | _ :: _, [] => rfl
  | a :: x, b :: y => by
    simp only [cmn]
    by_cases h : a = b
    · subst h; simp [cmn_comm x y]
    · rw [if_neg h, if_neg (fun q => h q.symm)]
theorem cons_le {a b : UInt8} {x y : List UInt8} (h : a :: x ≤ b :: y) : ¬ b < a ∧ (a = b → x ≤ y) := by
  have h : ¬ (b :: y < a :: x) := h
  rw [List.cons_lt_cons_iff] at h
  exact ⟨fun q => h (.inl q), fun e q => h (.inr ⟨e.symm, q⟩)⟩
theorem cmn_mid : ∀ a b c : List UInt8, a ≤ b → b ≤ c → cmn a c ≤ cmn a b ∧ cmn a c ≤ cmn b c
  | [], _, c, _, _ => by simp [cmn]
  | _ :: _, _, [], _, _ => by simp [cmn]
  | a :: x, [], c :: z, h, _ => by
    exfalso
    exact h (List.nil_lt_cons _ _)
  | a :: x, b :: y, c :: z, h1, h2 => by
    obtain ⟨p1, p2⟩ := cons_le h1
    obtain ⟨q1, q2⟩ := cons_le h2
    simp only [cmn]
    by_cases e : a = c
    · subst e
      have e2 : a = b := by
        have h1 : ¬ b.toNat < a.toNat := fun r => p1 (UInt8.lt_iff_toNat_lt.2 r)
        have h2 : ¬ a.toNat < b.toNat := fun r => q1 (UInt8.lt_iff_toNat_lt.2 r)
        exact UInt8.toNat_inj.1 (by omega)
      subst e2
      have := cmn_mid x y z (p2 rfl) (q2 rfl)
      simp only [if_pos]
      omega
    · rw [if_neg e]; omega
theorem le_tr : ∀ a b c : List UInt8, a ≤ b → b ≤ c → a ≤ c := fun _ _ _ h1 h2 => List.le_trans h1 h2
theorem le_tot : ∀ a b : List UInt8, a ≤ b ∨ b ≤ a := fun a b => List.le_total a b
theorem srt_sorted (d : List (List UInt8)) : (srt d).Pairwise (· ≤ ·) := by
  have := List.pairwise_mergeSort (le := fun x y : List UInt8 => decide (x ≤ y)) (fun a b c h1 h2 => by
    simp only [decide_eq_true_eq] at h1 h2 ⊢; exact le_tr _ _ _ h1 h2) (fun a b => by
    simp only [Bool.or_eq_true, decide_eq_true_eq]; exact le_tot a b) d
  exact this.imp fun h => by simpa using h
def Small6 (l : List (List UInt8)) : Prop := ∀ x ∈ l, ∀ y ∈ l, x ≠ y → ¬ x.length ≤ 6 * cmn x y
theorem isDehn_iff {l : List (List UInt8)} (hn : l.Nodup) : isDehn l = true ↔ Small6 l := by
  unfold isDehn Small6
  simp only [List.all_eq_true, List.mem_range, Bool.not_eq_true', Bool.and_eq_false_iff, decide_eq_false_iff_not]
  constructor
  · intro h x hx y hy hne hle
    obtain ⟨i, hi, rfl⟩ := List.getElem_of_mem hx
    obtain ⟨k, hk, rfl⟩ := List.getElem_of_mem hy
    have e1 : l.getD i [] = l[i] := by simp [hi]
    have e2 : l.getD k [] = l[k] := by simp [hk]
    rcases h i hi k hk with q | q
    · exact hne (by have : i = k := Classical.byContradiction fun r => q r
                    subst this; rfl)
    · rw [e1, e2] at q; exact q hle
  · intro h i hi k hk
    by_cases e : i = k
    · exact .inl (fun q => q e)
    · refine .inr fun q => h _ (getD_mem hi) _ (getD_mem hk) (fun r => e (nodup_getD hn hi hk r)) q
theorem dver_iff {d : List (List UInt8)} (hn : d.Nodup) (hs : d.Pairwise (· ≤ ·)) : dverW d = true ↔ Small6 d := by
  have hle : ∀ i j, i < j → j < d.length → d.getD i [] ≤ d.getD j [] := fun i j hij hj => by
    have hi : i < d.length := by omega
    have := List.pairwise_iff_getElem.1 hs i j hi hj hij
    simpa [hi, hj] using this
  have hrefl : ∀ a : List UInt8, a ≤ a := fun a => (le_tot a a).elim id id
  have hle2 : ∀ i j, i ≤ j → j < d.length → d.getD i [] ≤ d.getD j [] := fun i j hij hj => by
    rcases Nat.lt_or_eq_of_le hij with q | q
    · exact hle i j q hj
    · subst q; exact hrefl _
  constructor
  · intro h
    have hg : ∀ i, 1 ≤ i → i < d.length → ¬ badAt d i := fun i h1 hi q => by
      rw [dverW_no h1 hi q] at h; cases h
    have key : ∀ i j, i < j → j < d.length → ¬ (d.getD i []).length ≤ 6 * cmn (d.getD i []) (d.getD j []) ∧ ¬ (d.getD j []).length ≤ 6 * cmn (d.getD i []) (d.getD j []) := fun i j hij hj => by
      have c1 := (cmn_mid _ _ _ (hle i (i + 1) (by omega) (by omega)) (hle2 (i + 1) j (by omega) hj)).1
      have c2 := (cmn_mid _ _ _ (hle2 i (j - 1) (by omega) (by omega)) (hle (j - 1) j (by omega) hj)).2
      have b1 := hg (i + 1) (by omega) (by omega)
      have b2 := hg j (by omega) hj
      unfold badAt at b1 b2
      rw [Nat.add_sub_cancel] at b1
      omega
    intro x hx y hy hne hq
    obtain ⟨i, hi, rfl⟩ := List.getElem_of_mem hx
    obtain ⟨k, hk, rfl⟩ := List.getElem_of_mem hy
    have e1 : d.getD i [] = d[i] := by simp [hi]
    have e2 : d.getD k [] = d[k] := by simp [hk]
    rw [← e1, ← e2] at hq
    rcases Nat.lt_trichotomy i k with r | r | r
    · exact (key i k r hk).1 hq
    · subst r; exact hne rfl
    · rw [cmn_comm] at hq; exact (key k i r hi).2 hq
  · intro h
    refine dverW_yes (Nat.le_refl _) fun i h1 hi hb => ?_
    have hne : d.getD (i - 1) [] ≠ d.getD i [] := fun q => by
      have := nodup_getD (d := []) hn (by omega) hi q; omega
    rcases hb with q | q
    · exact h _ (getD_mem (by omega)) _ (getD_mem hi) hne q
    · rw [cmn_comm] at q; exact h _ (getD_mem hi) _ (getD_mem (by omega)) hne.symm q
theorem SS.nodup {l : List (List UInt8)} (h : SS l) : l.Nodup := h.imp fun {a b} q e => by subst e; rw [cmpw_self] at q; omega
theorem dver_isDehn {g : Int} {l : List (List UInt8)} (hp : pcheck g l = 0) {S : RS} (hS : SOk l S) : dver S = isDehn (symm l) := by
  have hn := (symm_spec l).2.1.nodup
  unfold dver
  rw [words_symm hp hS]
  have hpm := srt_perm (symm l)
  have h1 := dver_iff ((hpm.nodup_iff).2 hn) (srt_sorted _)
  have h2 := isDehn_iff hn
  have h3 : Small6 (srt (symm l)) ↔ Small6 (symm l) := by
    unfold Small6
    simp only [hpm.mem_iff]
  rw [Bool.eq_iff_iff, h1, h2, h3]

/-! ### Turning -/
theorem longU_state (L : List Rot) (s : List UInt8) : ∀ i, ((longU L s i).1 < 0 → (longU L s i).2 = 0) ∧ (0 ≤ (longU L s i).1 → 0 < (longU L s i).2)
  | 0 => by simp [longU]
  | i + 1 => by
    have ih := longU_state L s i
    simp only [longU, longStep]
    split
    · split
      · dsimp only; omega
      · dsimp only; split <;> omega
    · exact ih
theorem longU_stay {L : List Rot} {s : List UInt8} {n : Nat} (h : 0 ≤ (longU L s n).1) : ∀ i, 0 ≤ (longU L s (n + i)).1 ∧ (longU L s (n + i)).2 = (longU L s n).2
  | 0 => ⟨h, rfl⟩
  | i + 1 => by
    obtain ⟨h1, h2⟩ := longU_stay h i
    rw [← Nat.add_assoc]
    simp only [longU, longStep]
    split
    · rw [if_neg (by omega)]
      dsimp only
      refine ⟨by split <;> omega, h2⟩
    · exact ⟨h1, h2⟩
theorem longF_min {L : List Rot} {s : List UInt8} {x : Rot} {n : Nat} (hx : x ∈ L) (hn : n ≤ s.length) (h0 : 0 < n) (hp : s.take n <+: x.w) (hl : x.w.length < 2 * n) : 0 < (longF L s).2 ∧ (longF L s).2 ≤ n := by
  have hb : 0 ≤ bestOf L (s.take n) := (ifl_any _ _).2 (List.any_eq_true.2 ⟨x, hx, by
    simp only [Bool.and_eq_true, List.isPrefixOf_iff_prefix, decide_eq_true_eq]
    exact ⟨hp, by rw [List.length_take, Nat.min_eq_left hn]; exact hl⟩⟩)
  have h1 : 0 ≤ (longU L s n).1 ∧ 0 < (longU L s n).2 ∧ (longU L s n).2 ≤ n := by
    cases n with
    | zero => omega
    | succ n =>
      have st := longU_state L s n
      have le := longU_le L s n
      simp only [longU, longStep]
      rw [if_pos hb]
      split
      · exact ⟨hb, by dsimp only; omega, by dsimp only; omega⟩
      · dsimp only
        refine ⟨by split <;> omega, by omega, by omega⟩
  have h2 := (longU_stay h1.1 (s.length - n)).2
  rw [show n + (s.length - n) = s.length by omega] at h2
  unfold longF
  rw [h2]; exact h1.2
theorem turnU_le {L : List Rot} {w : List UInt8} : ∀ i, i ≤ w.length → ∀ j, j < i → 0 < (longF L (rot w j)).2 → 0 ≤ turnU L w i ∧ turnU L w i ≤ turnA w j (longF L (rot w j)).2
  | 0, _, j, hj, _ => by omega
  | i + 1, hi, j, hj, hn => by
    have hA : ∀ k n, 0 ≤ turnA w k n := fun k n => by unfold turnA; split <;> omega
    rw [turnU]
    by_cases e : j = i
    · subst e
      rw [if_pos hn]
      split
      · exact ⟨hA _ _, Int.le_refl _⟩
      · omega
    · obtain ⟨h1, h2⟩ := turnU_le i (by omega) j (by omega) hn
      split
      · split
        · rename_i q; exact ⟨hA _ _, by omega⟩
        · exact ⟨h1, h2⟩
      · exact ⟨h1, h2⟩
theorem pi_iff (L : List Rot) (s : List UInt8) : (rlong (L.map (·.w)) s).pi = true ↔ ∃ q, q < s.length ∧ 0 ≤ (longF L (s.drop q)).1 := by
  constructor
  · intro h
    apply Classical.byContradiction
    intro hn
    have hskip := rlong_skip (l := L.map (·.w)) (w := s) s.length (Nat.le_refl _) fun q hq => at_neg fun r => hn ⟨q, hq, r⟩
    have e := rlong_end (l := L.map (·.w)) (w := s) (i := s.length) (Nat.le_refl _) hskip
    rw [e] at h; cases h
  · rintro ⟨q, hq, h⟩
    apply Classical.byContradiction
    intro hn
    have key : ∀ p, p ≤ s.length → ∀ r, r < p → ¬ 0 ≤ (longF L (s.drop r)).1 := by
      intro p
      induction p with
      | zero => intro _ r hr; omega
      | succ p ih =>
        intro hp r hr
        by_cases e : r = p
        · subst e
          intro hpos
          have hskip := rlong_skip (l := L.map (·.w)) (w := s) r (by omega) fun q hq => at_neg (ih (by omega) q hq)
          have e2 := rlong_here (by omega) hskip (at_pos hpos)
          exact hn (by rw [e2])
        · exact ih (by omega) r (by omega)
    exact key s.length (Nat.le_refl _) q hq h
theorem turn_pi {L : List Rot} {w : List UInt8} {k : Nat} (hk : k < w.length) (h : (rlong (L.map (·.w)) (rot w k)).pi = true) : 0 ≤ dturn L w ∧ dturn L w ≤ k := by
  obtain ⟨q, hq, hpos⟩ := (pi_iff L _).1 h
  rw [rot_length] at hq
  obtain ⟨g1, g2, _⟩ := longF_pos hpos
  have hx := getD_mem (d := Rot.zero) g1
  generalize L.getD (longF L ((rot w k).drop q)).1.toNat .zero = x at g2 hx
  have hc := (cmn_le ((rot w k).drop q) x.w).1
  rw [List.length_drop, rot_length] at hc
  have hpt := part_take (s := (rot w k).drop q) (x := x.w)
  generalize cmn ((rot w k).drop q) x.w = n at g2 hc hpt
  -- the place in w
  obtain ⟨j, hj, e, hb⟩ : ∃ j, j < w.length ∧ ((rot w k).drop q).take n = (rot w j).take n ∧ j + n ≤ w.length + k := by
    by_cases hkq : k + q < w.length
    · refine ⟨k + q, hkq, ?_, by omega⟩
      have := rot_part (w := w) (i := k + q) (k := k) (n := n) hkq (by omega) (by omega)
      rw [show k + q - k = q by omega] at this; exact this
    · refine ⟨k + q - w.length, by omega, ?_, by omega⟩
      have e1 : (rot w k).drop q = (w.take k).drop (k + q - w.length) := by
        rw [rot, List.drop_append, List.drop_eq_nil_of_le (by rw [List.length_drop]; omega), List.nil_append, List.length_drop]
        congr 1; omega
      rw [e1, rot, List.take_append_of_le_length (by rw [List.length_drop]; omega), List.drop_take, List.take_take, Nat.min_eq_left (by omega)]
  rw [e] at hpt
  have hm := longF_min (s := rot w j) hx (by rw [rot_length]; omega) (by omega) hpt g2
  have ht := turnU_le w.length (Nat.le_refl _) j hj hm.1
  unfold dturn
  refine ⟨ht.1, Int.le_trans ht.2 ?_⟩
  unfold turnA
  split <;> omega
theorem pi_turn {L : List Rot} {w : List UInt8} {k : Nat} (hz : ((k : Nat) : Int) = dturn L w) : k < w.length ∧ (rlong (L.map (·.w)) (rot w k)).pi = true := by
  have hb := turnU_bound L w w.length (Nat.le_refl _)
  unfold dturn at hz
  obtain ⟨j, hj, hn, e⟩ := turnU_mem w.length (Nat.le_refl _) (by omega : 0 ≤ turnU L w w.length)
  obtain ⟨h1, x, hx, h2, h3⟩ := longF_some hn
  rw [rot_length] at h1
  rw [e] at hz
  have hk : (k = 0 ∧ j + (longF L (rot w j)).2 ≤ w.length) ∨ k + w.length = j + (longF L (rot w j)).2 := by
    unfold turnA at hz
    split at hz <;> omega
  have hp := rot_part (w := w) (i := j) (k := k) (n := (longF L (rot w j)).2) hj (by omega) (by omega)
  refine ⟨by omega, (pi_iff L _).2 ⟨j - k, by rw [rot_length]; omega, ?_⟩⟩
  exact part_pos hx (by rw [List.length_drop, rot_length]; omega) (by rw [hp]; exact h2) h3
theorem turn_none {L : List Rot} {w : List UInt8} (h : dturn L w < 0) : rcycAt (L.map (·.w)) w = none :=
  rcycAt_none (Nat.le_refl _) fun j hj => by
    cases q : (rlong (L.map (·.w)) (rot w j)).pi with
    | false => rfl
    | true => have := turn_pi hj q; omega
theorem turn_some {L : List Rot} {w : List UInt8} {k : Nat} (hz : ((k : Nat) : Int) = dturn L w) : rcycAt (L.map (·.w)) w = some k := by
  obtain ⟨h1, h2⟩ := pi_turn hz
  refine rcycAt_found h1 (fun j hj => ?_) h2
  cases q : (rlong (L.map (·.w)) (rot w j)).pi with
  | false => rfl
  | true => have := turn_pi (by omega) q; omega
end Go.Proofs.YtaccklloepfemaaGreatDoor

namespace Go.Proofs.YtaccklloepfemaaGreatDoor
set_option linter.unusedVariables false
set_option linter.unusedSimpArgs false
open Go Go.RowKit V

theorem light {S : RS} (hS : RSok S) {w : List UInt8} (hw : w.length ≤ 60) : ¬ Heavy (dsh S w).2 := by
  obtain ⟨h1, h2, h3⟩ := dsh_all hS (w := w) (by omega)
  have h4 := conjs_le h3
  have : (dsh S w).2.length * 7000 ≤ 60 * 7000 := Nat.mul_le_mul_right _ (by omega)
  unfold Heavy; omega
theorem isw_asked {g : Int} {l : List (List UInt8)} {w : List UInt8} (h : ¬ ¬ rasked g l w = 0) : isw w = true := by
  have hp := pcheck_zero (rasked_pres h)
  exact isw_of hp.1.2 (rasked_word h).1
section
variable {g : Int} {l : List (List UInt8)} {w : List UInt8}
theorem sh_eq {W : List UInt8} {d : List DCell} {c : Nat} (h : ShR g l w (W, d, c)) (hw : w.length ≤ 60 ∨ 5000 < w.length) : W = (rS g l w).1 ∧ d.length = (rS g l w).2.1 ∧ c = (rS g l w).2.2 := by
  unfold ShR at h
  by_cases ha : ¬ rasked g l w = 0
  · rw [if_pos ha] at h
    rw [rS, if_pos ha]
    cases h; exact ⟨rfl, rfl, rfl⟩
  · rw [if_neg ha] at h
    obtain ⟨S, hS, h⟩ := h
    have h5 := (rasked_word ha).2
    rw [shOf, if_neg (light hS.1 (by omega))] at h
    have key := dsh_rshorten (rasked_pres ha) hS (isw_asked ha) (by omega)
    rw [rS, if_neg ha]
    cases h
    exact ⟨key.1, key.2, rfl⟩
theorem st_eq {r : Bool × Nat} (h : StR g l w r) : r = rStuck g l w := by
  unfold StR at h
  unfold rStuck
  by_cases ha : ¬ rasked g l w = 0
  · rw [if_pos ha] at h ⊢; exact h
  · rw [if_neg ha] at h ⊢
    by_cases hw : wReduce w = w
    · rw [if_pos hw] at h
      obtain ⟨S, hS, h⟩ := h
      have h5 := (rasked_word ha).2
      have key := dsh_rshorten (rasked_pres ha) hS (isw_asked ha) (by omega)
      rw [h, key.2]
      unfold rshorten
      rw [hw]
      have hz := rshort_zero (l := symm l) (x := w) (F := w.length + 1) (by omega)
      congr 1
      rw [decide_eq_true (rfl : w = w), Bool.true_and, Bool.eq_iff_iff, decide_eq_true_eq, hz]
      simp
    · rw [if_neg hw] at h
      rw [h, decide_eq_false hw]; rfl
theorem ve_eq {c : Nat} (h : VeR g l c) : c = rVerified g l := by
  unfold VeR at h
  unfold rVerified
  by_cases ha : ¬ pcheck g l = 0
  · rw [if_pos ha] at h ⊢; exact h
  · rw [if_neg ha] at h ⊢
    obtain ⟨S, hS, h⟩ := h
    rw [dver_isDehn (Decidable.not_not.1 ha) hS] at h
    exact h
theorem tr_eq {b : Bool} {d : List DCell} {c : Nat} (h : TrR g l w (b, d, c)) (hw : w.length ≤ 60) : (b, c) = rTrivial g l w ∧ d.length = if b = true then (rS g l w).2.1 else 0 := by
  unfold TrR at h
  unfold rTrivial rS
  by_cases ha : ¬ rasked g l w = 0
  · rw [if_pos ha] at h ⊢
    cases h
    dsimp only
    rw [if_pos ha]; exact ⟨rfl, rfl⟩
  · rw [if_neg ha] at h ⊢
    obtain ⟨S, hS, h⟩ := h
    have h5 := (rasked_word ha).2
    have key := dsh_rshorten (rasked_pres ha) hS (isw_asked ha) (by omega)
    dsimp only
    rw [if_neg (by simp)]
    rw [trOf, dver_isDehn (rasked_pres ha) hS] at h
    by_cases hd : isDehn (symm l) = true
    · rw [if_pos hd] at h ⊢
      rw [key.1] at h
      by_cases he : (rshorten (symm l) w).1 = []
      · rw [if_pos he, if_neg (light hS.1 hw)] at h
        cases h
        exact ⟨by rw [decide_eq_true he], key.2⟩
      · rw [if_neg he] at h
        cases h
        exact ⟨by rw [decide_eq_false he], rfl⟩
    · rw [if_neg hd] at h ⊢
      cases h
      exact ⟨rfl, rfl⟩
theorem sq_step {a b : Nat} (h : a < b) : a * (a + 1) + 2 * b ≤ b * (b + 1) := by
  obtain ⟨c, rfl⟩ : ∃ c, b = c + 1 := ⟨b - 1, by omega⟩
  have h1 : a * (a + 1) ≤ c * (c + 1) := Nat.mul_le_mul (by omega) (by omega)
  have h2 : (c + 1) * (c + 1 + 1) = c * (c + 1) + 2 * (c + 1) := by
    rw [Nat.mul_add (c + 1) (c + 1) 1, Nat.add_mul c 1 (c + 1)]; omega
  omega
theorem cy_law {S : RS} (hp : pcheck g l = 0) (hS : SOk l S) : ∀ (f : Nat) (r cj : List UInt8) (d : List DCell) (F : Nat), r.length < f → r.length < F → isw r = true → d.length + r.length ≤ 60 → cj.length + r.length * (r.length + 1) ≤ 7900 → (∀ c ∈ d, c.conj.length ≤ 15000) →
    ∃ W d' cj', cyF S f r cj d = (W, d', cj', 0) ∧ (W, d'.length) = rcyc (symm l) F r d.length
  | 0, _, _, _, _, h, _, _, _, _, _ => by omega
  | f + 1, r, cj, d, F, hf, hF, hi, hd, hc, hcd => by
    have hw := words_symm hp hS
    rw [cyF]
    by_cases ht : dturn S.list r < 0
    · rw [if_pos ht]
      have h4 := conjs_le hcd
      have h5 : d.length * 15000 ≤ 60 * 15000 := Nat.mul_le_mul_right _ (by omega)
      rw [if_neg (by unfold Heavy; omega)]
      refine ⟨r, d, cj, rfl, ?_⟩
      have := turn_none ht
      rw [hw] at this
      rw [rcyc_stop this]
    · rw [if_neg ht]
      obtain ⟨k, hk⟩ : ∃ k : Nat, ((k : Nat) : Int) = dturn S.list r := ⟨(dturn S.list r).toNat, by omega⟩
      rw [← hk, Int.toNat_natCast]
      have hlt := turn_lt hk
      have hsome := turn_some hk
      rw [hw] at hsome
      have hda := dsh_all hS.1 (w := rot r k) (by rw [rot_length]; omega)
      rw [rot_length] at hda
      have key := dsh_rshorten hp hS (rot_is hi k) (by rw [rot_length]; omega)
      have j1 := jnd_len cj (r.take k)
      rw [List.length_take] at j1
      have j2 := jnd_len (jnd cj (r.take k)) (wConj (dsh S (rot r k)).1)
      have j3 := wConj_length (dsh S (rot r k)).1
      have j4 := wCore_length (dsh S (rot r k)).1
      have hsq := sq_step (show (wCore (dsh S (rot r k)).1).length < r.length by omega)
      have hfit : fitsJ (jnd cj (r.take k)) (dsh S (rot r k)).2 = true := by
        rw [fitsJ, List.all_eq_true]
        intro c hc'
        have := jnd_len (jnd cj (r.take k)) c.conj
        have := hda.2.2 c hc'
        rw [decide_eq_true_eq]; omega
      rw [if_neg (by rw [hfit]; decide), if_pos ⟨by omega, by omega⟩]
      obtain ⟨W, d', cj', e1, e2⟩ := cy_law hp hS f (wCore (dsh S (rot r k)).1) (jnd (jnd cj (r.take k)) (wConj (dsh S (rot r k)).1)) (d ++ (dsh S (rot r k)).2.map (cellJ (jnd cj (r.take k)))) (F - 1) (by omega) (by omega) (wCore_is _) (by rw [List.length_append, List.length_map]; omega) (by omega) (fun c hc' => by
        rcases List.mem_append.1 hc' with q | q
        · exact hcd c q
        · obtain ⟨c2, hc2, rfl⟩ := List.mem_map.1 q
          have a1 := jnd_len (jnd cj (r.take k)) c2.conj
          have a2 := hda.2.2 c2 hc2
          show (jnd (jnd cj (r.take k)) c2.conj).length ≤ 15000
          omega)
      refine ⟨W, d', cj', e1, ?_⟩
      rw [e2, rcyc_go hF hsome, key.1, List.length_append, List.length_map, key.2]
theorem cy_eq {W cj : List UInt8} {d : List DCell} {c : Nat} (h : CyR g l w (W, d, cj, c)) (hw : w.length ≤ 60) : (W, d.length, c) = rCyclic g l w := by
  unfold CyR at h
  unfold rCyclic rS
  by_cases ha : ¬ rasked g l w = 0
  · rw [if_pos ha] at h ⊢
    cases h
    dsimp only
    rw [if_pos ha]; rfl
  · rw [if_neg ha] at h ⊢
    obtain ⟨S, hS, h⟩ := h
    have key := dsh_rshorten (rasked_pres ha) hS (isw_asked ha) (by omega)
    have hda := dsh_all hS.1 (w := w) (by omega)
    have j3 := wConj_length (dsh S w).1
    have j4 := wCore_length (dsh S w).1
    dsimp only
    rw [if_neg (by simp)]
    have hsq : (wCore (dsh S w).1).length * ((wCore (dsh S w).1).length + 1) ≤ 60 * 61 := Nat.mul_le_mul (by omega) (by omega)
    obtain ⟨W', d', cj', e1, e2⟩ := cy_law (rasked_pres ha) hS ((wCore (dsh S w).1).length + 1) (wCore (dsh S w).1) (wConj (dsh S w).1) (dsh S w).2 ((wCore (dsh S w).1).length + 1) (by omega) (by omega) (wCore_is _) (by omega) (by omega) (fun c hc => Nat.le_trans (hda.2.2 c hc) (by decide))
    rw [cyOf, e1] at h
    cases h
    rw [key.1, key.2] at e2
    rw [← e2]
end
end Go.Proofs.YtaccklloepfemaaGreatDoor
