/- What the functions give, for words that are not long, is what the reference gives. -/
import Derived.Test.YtaccklloepfemaaGreatDoorDehnLaw3
namespace Go.Proofs.YtaccklloepfemaaGreatDoor
set_option linter.unusedVariables false
set_option linter.unusedSimpArgs false
open Go Go.RowKit V

theorem light {S : RS} (hS : RSok S) {w : List UInt8} (hw : w.length ≤ 60) : ¬ Heavy (dsh S w).2 := by
  obtain ⟨h1, h2, h3⟩ := dsh_all hS (w := w) (by omega)
  have h4 := conjs_le h3
  have : (dsh S w).2.length * 7000 ≤ 60 * 7000 := Nat.mul_le_mul_right _ (by omega)
  unfold Heavy; omega
theorem isw_asked {g : Int} {l : List (List UInt8)} {w : List UInt8} (h : ¬ ¬ rasked g l w = 0) : isw w = true := by
  have hp := pcheck_zero (rasked_pres h)
  exact isw_of hp.1.2 (rasked_word h).1
section
variable {g : Int} {l : List (List UInt8)} {w : List UInt8}
theorem sh_eq {W : List UInt8} {d : List DCell} {c : Nat} (h : ShR g l w (W, d, c)) (hw : w.length ≤ 60 ∨ 5000 < w.length) : W = (rS g l w).1 ∧ d.length = (rS g l w).2.1 ∧ c = (rS g l w).2.2 := by
  unfold ShR at h
  by_cases ha : ¬ rasked g l w = 0
  · rw [if_pos ha] at h
    rw [rS, if_pos ha]
    cases h; exact ⟨rfl, rfl, rfl⟩
  · rw [if_neg ha] at h
    obtain ⟨S, hS, h⟩ := h
    have h5 := (rasked_word ha).2
    rw [shOf, if_neg (light hS.1 (by omega))] at h
    have key := dsh_rshorten (rasked_pres ha) hS (isw_asked ha) (by omega)
    rw [rS, if_neg ha]
    cases h
    exact ⟨key.1, key.2, rfl⟩
theorem st_eq {r : Bool × Nat} (h : StR g l w r) : r = rStuck g l w := by
  unfold StR at h
  unfold rStuck
  by_cases ha : ¬ rasked g l w = 0
  · rw [if_pos ha] at h ⊢; exact h
  · rw [if_neg ha] at h ⊢
    by_cases hw : wReduce w = w
    · rw [if_pos hw] at h
      obtain ⟨S, hS, h⟩ := h
      have h5 := (rasked_word ha).2
      have key := dsh_rshorten (rasked_pres ha) hS (isw_asked ha) (by omega)
      rw [h, key.2]
      unfold rshorten
      rw [hw]
      have hz := rshort_zero (l := symm l) (x := w) (F := w.length + 1) (by omega)
      congr 1
      rw [decide_eq_true (rfl : w = w), Bool.true_and, Bool.eq_iff_iff, decide_eq_true_eq, hz]
      simp
    · rw [if_neg hw] at h
      rw [h, decide_eq_false hw]; rfl
theorem ve_eq {c : Nat} (h : VeR g l c) : c = rVerified g l := by
  unfold VeR at h
  unfold rVerified
  by_cases ha : ¬ pcheck g l = 0
  · rw [if_pos ha] at h ⊢; exact h
  · rw [if_neg ha] at h ⊢
    obtain ⟨S, hS, h⟩ := h
    rw [dver_isDehn (Decidable.not_not.1 ha) hS] at h
    exact h
theorem tr_eq {b : Bool} {d : List DCell} {c : Nat} (h : TrR g l w (b, d, c)) (hw : w.length ≤ 60) : (b, c) = rTrivial g l w ∧ d.length = if b = true then (rS g l w).2.1 else 0 := by
  unfold TrR at h
  unfold rTrivial rS
  by_cases ha : ¬ rasked g l w = 0
  · rw [if_pos ha] at h ⊢
    cases h
    dsimp only
    rw [if_pos ha]; exact ⟨rfl, rfl⟩
  · rw [if_neg ha] at h ⊢
    obtain ⟨S, hS, h⟩ := h
    have h5 := (rasked_word ha).2
    have key := dsh_rshorten (rasked_pres ha) hS (isw_asked ha) (by omega)
    dsimp only
    rw [if_neg (by simp)]
    rw [trOf, dver_isDehn (rasked_pres ha) hS] at h
    by_cases hd : isDehn (symm l) = true
    · rw [if_pos hd] at h ⊢
      rw [key.1] at h
      by_cases he : (rshorten (symm l) w).1 = []
      · rw [if_pos he, if_neg (light hS.1 hw)] at h
        cases h
        exact ⟨by rw [decide_eq_true he], key.2⟩
      · rw [if_neg he] at h
        cases h
        exact ⟨by rw [decide_eq_false he], rfl⟩
    · rw [if_neg hd] at h ⊢
      cases h
      exact ⟨rfl, rfl⟩
theorem sq_step {a b : Nat} (h : a < b) : a * (a + 1) + 2 * b ≤ b * (b + 1) := by
  obtain ⟨c, rfl⟩ : ∃ c, b = c + 1 := ⟨b - 1, by omega⟩
  have h1 : a * (a + 1) ≤ c * (c + 1) := Nat.mul_le_mul (by omega) (by omega)
  have h2 : (c + 1) * (c + 1 + 1) = c * (c + 1) + 2 * (c + 1) := by
    rw [Nat.mul_add (c + 1) (c + 1) 1, Nat.add_mul c 1 (c + 1)]; omega
  omega
theorem cy_law {S : RS} (hp : pcheck g l = 0) (hS : SOk l S) : ∀ (f : Nat) (r cj : List UInt8) (d : List DCell) (F : Nat), r.length < f → r.length < F → isw r = true → d.length + r.length ≤ 60 → cj.length + r.length * (r.length + 1) ≤ 7900 → (∀ c ∈ d, c.conj.length ≤ 15000) →
    ∃ W d' cj', cyF S f r cj d = (W, d', cj', 0) ∧ (W, d'.length) = rcyc (symm l) F r d.length
  | 0, _, _, _, _, h, _, _, _, _, _ => by omega
  | f + 1, r, cj, d, F, hf, hF, hi, hd, hc, hcd => by
    have hw := words_symm hp hS
    rw [cyF]
    by_cases ht : dturn S.list r < 0
    · rw [if_pos ht]
      have h4 := conjs_le hcd
      have h5 : d.length * 15000 ≤ 60 * 15000 := Nat.mul_le_mul_right _ (by omega)
      rw [if_neg (by unfold Heavy; omega)]
      refine ⟨r, d, cj, rfl, ?_⟩
      have := turn_none ht
      rw [hw] at this
      rw [rcyc_stop this]
    · rw [if_neg ht]
      obtain ⟨k, hk⟩ : ∃ k : Nat, ((k : Nat) : Int) = dturn S.list r := ⟨(dturn S.list r).toNat, by omega⟩
      rw [← hk, Int.toNat_natCast]
      have hlt := turn_lt hk
      have hsome := turn_some hk
      rw [hw] at hsome
      have hda := dsh_all hS.1 (w := rot r k) (by rw [rot_length]; omega)
      rw [rot_length] at hda
      have key := dsh_rshorten hp hS (rot_is hi k) (by rw [rot_length]; omega)
      have j1 := jnd_len cj (r.take k)
      rw [List.length_take] at j1
      have j2 := jnd_len (jnd cj (r.take k)) (wConj (dsh S (rot r k)).1)
      have j3 := wConj_length (dsh S (rot r k)).1
      have j4 := wCore_length (dsh S (rot r k)).1
      have hsq := sq_step (show (wCore (dsh S (rot r k)).1).length < r.length by omega)
      have hfit : fitsJ (jnd cj (r.take k)) (dsh S (rot r k)).2 = true := by
        rw [fitsJ, List.all_eq_true]
        intro c hc'
        have := jnd_len (jnd cj (r.take k)) c.conj
        have := hda.2.2 c hc'
        rw [decide_eq_true_eq]; omega
      rw [if_neg (by rw [hfit]; decide), if_pos ⟨by omega, by omega⟩]
      obtain ⟨W, d', cj', e1, e2⟩ := cy_law hp hS f (wCore (dsh S (rot r k)).1) (jnd (jnd cj (r.take k)) (wConj (dsh S (rot r k)).1)) (d ++ (dsh S (rot r k)).2.map (cellJ (jnd cj (r.take k)))) (F - 1) (by omega) (by omega) (wCore_is _) (by rw [List.length_append, List.length_map]; omega) (by omega) (fun c hc' => by
        rcases List.mem_append.1 hc' with q | q
        · exact hcd c q
        · obtain ⟨c2, hc2, rfl⟩ := List.mem_map.1 q
          have a1 := jnd_len (jnd cj (r.take k)) c2.conj
          have a2 := hda.2.2 c2 hc2
          show (jnd (jnd cj (r.take k)) c2.conj).length ≤ 15000
          omega)
      refine ⟨W, d', cj', e1, ?_⟩
      rw [e2, rcyc_go hF hsome, key.1, List.length_append, List.length_map, key.2]
theorem cy_eq {W cj : List UInt8} {d : List DCell} {c : Nat} (h : CyR g l w (W, d, cj, c)) (hw : w.length ≤ 60) : (W, d.length, c) = rCyclic g l w := by
  unfold CyR at h
  unfold rCyclic rS
  by_cases ha : ¬ rasked g l w = 0
  · rw [if_pos ha] at h ⊢
    cases h
    dsimp only
    rw [if_pos ha]; rfl
  · rw [if_neg ha] at h ⊢
    obtain ⟨S, hS, h⟩ := h
    have key := dsh_rshorten (rasked_pres ha) hS (isw_asked ha) (by omega)
    have hda := dsh_all hS.1 (w := w) (by omega)
    have j3 := wConj_length (dsh S w).1
    have j4 := wCore_length (dsh S w).1
    dsimp only
    rw [if_neg (by simp)]
    have hsq : (wCore (dsh S w).1).length * ((wCore (dsh S w).1).length + 1) ≤ 60 * 61 := Nat.mul_le_mul (by omega) (by omega)
    obtain ⟨W', d', cj', e1, e2⟩ := cy_law (rasked_pres ha) hS ((wCore (dsh S w).1).length + 1) (wCore (dsh S w).1) (wConj (dsh S w).1) (dsh S w).2 ((wCore (dsh S w).1).length + 1) (by omega) (by omega) (wCore_is _) (by omega) (by omega) (fun c hc => Nat.le_trans (hda.2.2 c hc) (by decide))
    rw [cyOf, e1] at h
    cases h
    rw [key.1, key.2] at e2
    rw [← e2]
end
end Go.Proofs.YtaccklloepfemaaGreatDoor
