/- Shortening on a stack is the reference's shortening. -/
import Derived.Test.YtaccklloepfemaaGreatDoorDehnLaw1
namespace Go.Proofs.YtaccklloepfemaaGreatDoor
set_option linter.unusedVariables false
set_option linter.unusedSimpArgs false
open Go Go.RowKit V

theorem map_getD (L : List Rot) (j : Nat) : (L.map (·.w)).getD j [] = (L.getD j .zero).w := by
  by_cases h : j < L.length
  · simp [h]
  · simp [h, Rot.zero]
theorem at_pos {L : List Rot} {s : List UInt8} (h : 0 ≤ (longF L s).1) : rlongAt (L.map (·.w)) s = some (L.getD (longF L s).1.toNat .zero).w := by
  obtain ⟨h1, h2, h3⟩ := longF_pos h
  rw [← map_getD]
  refine rlongAt_found (by simpa using h1) (fun k hk => ?_) (by rw [map_getD]; exact h2)
  rw [map_getD, partOf, decide_eq_false_iff_not]
  exact h3 k hk
theorem at_neg {L : List Rot} {s : List UInt8} (h : ¬ 0 ≤ (longF L s).1) : rlongAt (L.map (·.w)) s = none := by
  refine rlongAt_none (Nat.le_refl _) fun k hk => ?_
  rw [map_getD, partOf, decide_eq_false_iff_not]
  exact longF_neg h _ (getD_mem (by simpa using hk))
theorem rlong_skip {l : List (List UInt8)} {w : List UInt8} : ∀ p, p ≤ w.length → (∀ q, q < p → rlongAt l (w.drop q) = none) → rlongFrom l w ((List.range w.length).drop p) = rlong l w
  | 0, _, _ => rfl
  | p + 1, hp, h => rlong_next (by omega) (rlong_skip p (by omega) fun q hq => h q (by omega)) (h p (by omega))
theorem putF_low : ∀ (w : List UInt8) (t : List UInt8 × Nat), t.2 ≤ t.1.length → (putF t w).1.take (putF t w).2 = t.1.take (putF t w).2 ∧ (putF t w).2 ≤ (putF t w).1.length
  | [], t, h => ⟨rfl, h⟩
  | c :: w, t, h => by
    have hm : min t.2 (push t.1 c).length ≤ (push t.1 c).length := Nat.min_le_right _ _
    obtain ⟨h1, h2⟩ := putF_low w (push t.1 c, min t.2 (push t.1 c).length) hm
    have e : putF t (c :: w) = putF (push t.1 c, min t.2 (push t.1 c).length) w := rfl
    rw [e]
    refine ⟨?_, h2⟩
    have hs := putF_snd w (push t.1 c, min t.2 (push t.1 c).length)
    simp only at hs h1
    generalize (putF (push t.1 c, min t.2 (push t.1 c).length) w).2 = m at h1 hs ⊢
    rw [h1]
    unfold push at hs ⊢
    split
    · rename_i q
      rw [if_pos q, List.length_take] at hs
      rw [List.take_take]; congr 1; omega
    · rename_i q
      rw [if_neg q, List.length_append] at hs
      rw [List.take_append_of_le_length (by omega)]
theorem NC.takeFold {l : List UInt8} (h : NC l) (p : Nat) : (l.take p).foldl push [] = l.take p := (h.take p).isRed
theorem part_take {x s : List UInt8} : s.take (cmn s x) <+: x := (cmn_prefix s x _ (cmn_le s x).1).2 (Nat.le_refl _)
section
variable {L : List Rot} {m : Nat}
theorem repl_rnext (hw : ∀ x ∈ L, isw x.w = true ∧ x.w.length ≤ m) (hm : m ≤ 200) {l : List UInt8} {p : Nat} (hl : l.length ≤ 6000) (hi : isw l = true) (hn : NC l) (hp : p < l.length) (h : 0 ≤ (longF L (l.drop p)).1) (e : rlong (L.map (·.w)) l = ⟨p, repN l p (L.getD (longF L (l.drop p)).1.toNat .zero), wInverse ((L.getD (longF L (l.drop p)).1.toNat .zero).w.drop (repN l p (L.getD (longF L (l.drop p)).1.toNat .zero))), true⟩) :
    (repl l p (L.getD (longF L (l.drop p)).1.toNat .zero)).1 = rnext (L.map (·.w)) l := by
  have hx := hw _ (getD_mem (d := Rot.zero) (longF_pos h).1)
  generalize L.getD (longF L (l.drop p)).1.toNat .zero = x at e hx
  have hs := repN_le l p x
  have h3 := wInverse_length (x.w.drop (repN l p x))
  rw [List.length_drop] at h3
  have hisw : isw (l.take p ++ wInverse (x.w.drop (repN l p x)) ++ l.drop (p + repN l p x)) = true :=
    isw_app (isw_app (isw_sub hi (fun c hc => List.mem_of_mem_take hc) (by rw [List.length_take]; omega)) (wInverse_is _) (by rw [List.length_take]; omega)) (isw_sub hi (fun c hc => List.mem_of_mem_drop hc) (by rw [List.length_drop]; omega)) (by rw [List.length_append, List.length_take, List.length_drop]; omega)
  unfold rnext
  rw [e]
  dsimp only
  rw [wReduce, if_pos hisw, red, List.foldl_append, List.foldl_append, hn.takeFold]
  unfold repl
  rw [putF_fst, putF_fst]
theorem drun_rshort (hw : ∀ x ∈ L, isw x.w = true ∧ x.w.length ≤ m) (hm : m ≤ 200) : ∀ (f : Nat) (l : List UInt8) (d : List DCell) (p F n : Nat), 100001 * l.length + (l.length - p) < f → l.length ≤ 6000 → isw l = true → NC l → p ≤ l.length → (∀ q, q < p → ¬ 0 ≤ (longF L (l.drop q)).1) → l.length < F →
    (drun L m f l d p).1 = (rshort (L.map (·.w)) F l n).1 ∧ (drun L m f l d p).2.length + n = d.length + (rshort (L.map (·.w)) F l n).2
  | 0, _, _, _, _, _, h, _, _, _, _, _, _ => by omega
  | f + 1, l, d, p, F, n, hf, hl, hi, hn, hpl, hinv, hF => by
    have hskip := rlong_skip (l := L.map (·.w)) (w := l) p hpl fun q hq => at_neg (hinv q hq)
    rw [drun]
    by_cases hp : p < l.length
    · rw [if_pos hp]
      by_cases h : 0 ≤ (longF L (l.drop p)).1
      · rw [if_pos h]
        have e := rlong_here hp hskip (at_pos h)
        have hr := repl_rnext hw hm hl hi hn hp h e
        have hlt := repl_lt hp h
        have hpi : (rlong (L.map (·.w)) l).pi = true := by rw [e]
        rw [rshort_go hF hpi, ← hr]
        have hxw := hw _ (getD_mem (d := Rot.zero) (longF_pos h).1)
        generalize hx : L.getD (longF L (l.drop p)).1.toNat .zero = x at hr hlt hxw ⊢
        have hlow := repl_low l p x
        have hlk := putF_low (l.drop (p + repN l p x)) (putF (l.take p, p) (wInverse (x.w.drop (repN l p x)))) (putF_low _ (l.take p, p) (by simp; omega)).2
        have hlk1 := putF_low (wInverse (x.w.drop (repN l p x))) (l.take p, p) (by simp; omega)
        have hle1 := putF_snd (l.drop (p + repN l p x)) (putF (l.take p, p) (wInverse (x.w.drop (repN l p x))))
        have htake : (repl l p x).1.take (repl l p x).2 = l.take (repl l p x).2 := by
          have a : (repl l p x).1.take (repl l p x).2 = (putF (l.take p, p) (wInverse (x.w.drop (repN l p x)))).1.take (repl l p x).2 := hlk.1
          have hle2 : (repl l p x).2 ≤ (putF (l.take p, p) (wInverse (x.w.drop (repN l p x)))).2 := hle1
          rw [a]
          have b : ∀ k, k ≤ (putF (l.take p, p) (wInverse (x.w.drop (repN l p x)))).2 → (putF (l.take p, p) (wInverse (x.w.drop (repN l p x)))).1.take k = (l.take p).take k := fun k hk => by
            have := congrArg (List.take k) hlk1.1
            rw [List.take_take, List.take_take, Nat.min_eq_left hk] at this
            exact this
          rw [b _ hle2, List.take_take, Nat.min_eq_left hlow]
        have hlow2 : (repl l p x).2 ≤ (repl l p x).1.length := hlk.2
        have hNC : NC (repl l p x).1 := by
          unfold repl
          rw [putF_fst, putF_fst]
          exact NC.ofFold _ _ (NC.ofFold _ _ (hn.take p))
        have hI : isw (repl l p x).1 = true := by rw [hr]; exact wReduce_is _
        have ih := drun_rshort hw hm f (repl l p x).1 (d ++ [repC l p x]) ((repl l p x).2 - m) (F - 1) (n + 1) (by omega) (by omega) hI hNC (by omega) (fun q hq h2 => ?_) (by omega)
        · refine ⟨ih.1, ?_⟩
          have := ih.2
          simp only [List.length_append, List.length_cons, List.length_nil] at this
          omega
        · obtain ⟨g1, g2, _⟩ := longF_pos h2
          have hyw := hw _ (getD_mem (d := Rot.zero) g1)
          have hym := getD_mem (d := Rot.zero) g1
          generalize L.getD (longF L ((repl l p x).1.drop q)).1.toNat .zero = y at g2 hyw hym
          have hc := cmn_le ((repl l p x).1.drop q) y.w
          have hpt := part_take (s := (repl l p x).1.drop q) (x := y.w)
          have hk : q + cmn ((repl l p x).1.drop q) y.w ≤ (repl l p x).2 := by omega
          have e2 : ((repl l p x).1.drop q).take (cmn ((repl l p x).1.drop q) y.w) = (l.drop q).take (cmn ((repl l p x).1.drop q) y.w) := by
            have := congrArg (fun z => (z.drop q).take (cmn ((repl l p x).1.drop q) y.w)) htake
            simp only [List.drop_take, List.take_take] at this
            rw [Nat.min_eq_left (by omega)] at this
            exact this
          rw [e2] at hpt
          exact hinv q (by omega) (part_pos hym (by rw [List.length_drop]; omega) hpt g2)
      · rw [if_neg h]
        exact drun_rshort hw hm f l d (p + 1) F n (by omega) hl hi hn (by omega) (fun q hq => by
          by_cases e : q = p
          · subst e; exact h
          · exact hinv q (by omega)) hF
    · rw [if_neg hp]
      have e := rlong_end (l := L.map (·.w)) (w := l) (i := p) (by omega) hskip
      rw [rshort_stop (by rw [e])]
      exact ⟨rfl, by dsimp only⟩
end
/-- What the rules' shortening gives is what the reference's gives. -/
theorem dsh_rshorten {g : Int} {l : List (List UInt8)} (hp : pcheck g l = 0) {S : RS} (hS : SOk l S) {w : List UInt8} (hw : isw w = true) (hl : w.length ≤ 6000) :
    (dsh S w).1 = (rshorten (symm l) w).1 ∧ (dsh S w).2.length = (rshorten (symm l) w).2 := by
  have hr := red_length w
  have hR := hS.1
  have key := drun_rshort (L := S.list) (m := S.most) (fun x hx => ⟨(hR.isw x hx).1, hR.most x hx⟩) hR.small.1 (fuel (red w).length) (red w) [] 0 ((red w).length + 1) 0 (by unfold fuel; omega) (by omega) (isw_sub hw red_sub hr) (NC.ofRed w) (Nat.zero_le _) (fun q h => by omega) (by omega)
  rw [words_symm hp hS] at key
  unfold rshorten
  rw [wReduce, if_pos hw]
  refine ⟨key.1, ?_⟩
  have := key.2
  simp only [List.length_nil] at this
  unfold dsh; omega
theorem rshort_zero {l : List (List UInt8)} {x : List UInt8} {F : Nat} (hF : x.length < F) : (rshort l F x 0).2 = 0 ↔ (rlong l x).pi = false := by
  by_cases h : (rlong l x).pi = true
  · rw [rshort_go hF h, h]
    have mono : ∀ (f : Nat) (y : List UInt8) (n : Nat), n ≤ (rshort l f y n).2 := by
      intro f
      induction f with
      | zero => intro y n; exact Nat.le_refl _
      | succ f ih =>
        intro y n
        rw [rshort]
        split
        · exact Nat.le_trans (Nat.le_succ n) (ih _ _)
        · exact Nat.le_refl _
    have := mono (F - 1) (rnext l x) (0 + 1)
    constructor
    · intro q; omega
    · intro q; cases q
  · have h' : (rlong l x).pi = false := by simpa using h
    rw [rshort_stop h', h']
    simp
end Go.Proofs.YtaccklloepfemaaGreatDoor
