/- Shortlex is a strict weak order. -/
import Derived.Test.YtaccklloepfemaaGreatDoorDehnTrie
import Derived.Test.YtaccklloepfemaaGreatDoorVSort
namespace Go.Proofs.YtaccklloepfemaaGreatDoor
set_option linter.unusedVariables false
set_option linter.unusedSimpArgs false
open Go Go.RowKit Go.Sort V

theorem cmpl_self : ∀ a : List UInt8, cmpl a a = 0
  | [] => rfl
  | a :: x => by rw [cmpl, if_neg (by omega), if_neg (by omega)]; exact cmpl_self x
theorem cmpl_trans : ∀ a b c : List UInt8, a.length = b.length → b.length = c.length → cmpl a b < 0 → cmpl b c < 0 → cmpl a c < 0
  | [], _, _, _, _, h, _ => by simp [cmpl] at h
  | _ :: _, [], _, h, _, _, _ => by simp at h
  | _ :: _, _ :: _, [], _, h, _, _ => by simp at h
  | a :: x, b :: y, c :: z, h1, h2, h3, h4 => by
    simp only [List.length_cons, Nat.add_right_cancel_iff] at h1 h2
    have ih := cmpl_trans x y z h1 h2
    simp only [cmpl] at h3 h4 ⊢
    split at h3
    · split at h4
      · rw [if_pos (by omega)]; omega
      · split at h4
        · omega
        · rw [if_pos (by omega)]; omega
    · split at h3
      · omega
      · split at h4
        · rw [if_pos (by omega)]; omega
        · split at h4
          · omega
          · rw [if_neg (by omega), if_neg (by omega)]; exact ih h3 h4
theorem cmpl_ntrans : ∀ a b c : List UInt8, a.length = b.length → b.length = c.length → ¬ cmpl a b < 0 → ¬ cmpl b c < 0 → ¬ cmpl a c < 0
  | [], _, _, _, _, _, _ => by simp [cmpl]
  | _ :: _, [], _, h, _, _, _ => by simp at h
  | _ :: _, _ :: _, [], _, h, _, _ => by simp at h
  | a :: x, b :: y, c :: z, h1, h2, h3, h4 => by
    simp only [List.length_cons, Nat.add_right_cancel_iff] at h1 h2
    have ih := cmpl_ntrans x y z h1 h2
    simp only [cmpl] at h3 h4 ⊢
    split at h3
    · omega
    · split at h4
      · omega
      · by_cases q : ix c < ix a
        · rw [if_neg (by omega), if_pos q]; omega
        · rw [if_neg (by omega)] at h3 h4
          rw [if_neg (by omega), if_neg q]; exact ih h3 h4
theorem cmpw_self (a : List UInt8) : cmpw a a = 0 := by rw [cmpw, if_neg (by simp)]; exact cmpl_self a
theorem cmpw_trans {a b c : List UInt8} (h1 : cmpw a b < 0) (h2 : cmpw b c < 0) : cmpw a c < 0 := by
  unfold cmpw at h1 h2 ⊢
  split at h1
  · split at h1
    · split at h2
      · split at h2
        · rw [if_pos (by omega), if_pos (by omega)]; omega
        · omega
      · rw [if_pos (by omega), if_pos (by omega)]; omega
    · omega
  · split at h2
    · split at h2
      · rw [if_pos (by omega), if_pos (by omega)]; omega
      · omega
    · rw [if_neg (by omega)]; exact cmpl_trans a b c (by omega) (by omega) h1 h2
theorem cmpw_ntrans {a b c : List UInt8} (h1 : ¬ cmpw a b < 0) (h2 : ¬ cmpw b c < 0) : ¬ cmpw a c < 0 := by
  unfold cmpw at h1 h2 ⊢
  by_cases q1 : a.length = b.length
  · rw [if_neg (by omega)] at h1
    by_cases q2 : b.length = c.length
    · rw [if_neg (by omega)] at h2
      rw [if_neg (by omega)]; exact cmpl_ntrans a b c q1 q2 h1 h2
    · rw [if_pos q2] at h2
      split at h2
      · omega
      · rw [if_pos (by omega), if_neg (by omega)]; omega
  · rw [if_pos q1] at h1
    split at h1
    · omega
    · by_cases q2 : b.length = c.length
      · rw [if_pos (by omega), if_neg (by omega)]; omega
      · rw [if_pos q2] at h2
        split at h2
        · omega
        · rw [if_pos (by omega), if_neg (by omega)]; omega
abbrev OkRot := {x : Rot // okR x}
instance : Inhabited OkRot := ⟨⟨.zero, by decide, by decide, by decide, by decide⟩⟩
def cmpR (x y : OkRot) : Int := cmpw x.1.w y.1.w
theorem cmpR_swo : SWO (ltOf cmpR) :=
  ⟨fun x => decide_eq_false (by rw [cmpR, cmpw_self]; omega), fun x y z h1 h2 => decide_eq_true (cmpw_trans (of_decide_eq_true h1) (of_decide_eq_true h2)), fun x y z h1 h2 => decide_eq_false (cmpw_ntrans (of_decide_eq_false h1) (of_decide_eq_false h2))⟩
theorem lets_frozen {A0 A : AH} {b n : Nat} (hL : Lets A0) (le : A0.le A) (hb : A0.get b = none) : Lets (A.frozen b n) := by
  obtain ⟨r, c, h⟩ := hL
  have h2 := le.get _ _ h
  have : (A.frozen b n).get 0 = some (.row false (byteCells letters) c) := by
    simp only [AH.frozen]
    rw [if_neg (by rintro rfl; rw [h] at hb; cases hb), h2]; rfl
  exact ⟨_, _, this⟩
theorem cellsOf (d : List OkRot) : (d.flatMap fun x => rcell x.1) = rcells (d.map (·.1)) := by
  simp [rcells, List.flatMap_map]
theorem attach_ok {L : List Rot} (h : ∀ x ∈ L, okR x) : ∃ d : List OkRot, d.map (·.1) = L :=
  ⟨L.pmap (fun x hx => (⟨x, hx⟩ : OkRot)) h, by simp [List.map_pmap]⟩
theorem V.Objs.hideOwn {A B C : AH} {v : Value} {size : Nat} {xs : List Value} (h : Objs A B) (own : Own B v size xs) (le : (B.hide [blk v]).le C) : Objs A C :=
  ⟨Nat.le_trans h.n le.n, fun b o g => le.get _ _ (hide_get (h.get b o g) (nmV (fun q => by
    rcases own with ⟨rfl, _⟩ | ⟨b', n, k, r, rcap, rfl, h2, _⟩
    · cases q
    · cases q; rw [h.get _ _ g] at h2; cases h2) nm0))⟩
end Go.Proofs.YtaccklloepfemaaGreatDoor
