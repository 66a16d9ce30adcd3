/- The disk of a cyclic shortening: w is its boundary and a conjugate of what is left. -/
import Derived.Test.YtaccklloepfemaaGreatDoorDehnLaw5
namespace Go.Proofs.YtaccklloepfemaaGreatDoor
set_option linter.unusedVariables false
set_option linter.unusedSimpArgs false
open Go Go.RowKit V

theorem getD_last {x : List UInt8} (h : 0 < x.length) : x = x.take (x.length - 1) ++ [x.getD (x.length - 1) 0] := by
  have := take_next (s := x) (i := x.length - 1) (by omega)
  rw [this, show x.length - 1 + 1 = x.length by omega, List.take_length]
theorem jn_spec : ∀ (f : Nat) (x y : List UInt8), x.length < f → ∃ a, x = (jn f x y).1 ++ a ∧ y = inv a ++ (jn f x y).2 ∧ ¬ (¬ (jn f x y).1 = [] ∧ ¬ (jn f x y).2 = [] ∧ (jn f x y).1.getD ((jn f x y).1.length - 1) 0 = (jn f x y).2.getD 0 0 ^^^ 32)
  | 0, _, _, h => by omega
  | f + 1, x, y, h => by
    rw [jn]
    by_cases hc : ¬ x = [] ∧ ¬ y = [] ∧ x.getD (x.length - 1) 0 = y.getD 0 0 ^^^ 32
    · rw [if_pos hc]
      have hx := ne_len hc.1
      have hy := ne_len hc.2.1
      obtain ⟨a, h1, h2, h3⟩ := jn_spec f (x.take (x.length - 1)) (y.drop 1) (by rw [List.length_take]; omega)
      refine ⟨a ++ [x.getD (x.length - 1) 0], ?_, ?_, h3⟩
      · rw [← List.append_assoc, ← h1]; exact getD_last hx
      · rw [inv_app, List.append_assoc, ← h2, hc.2.2]
        show y = inv [y.getD 0 0 ^^^ 32] ++ y.drop 1
        have : inv [y.getD 0 0 ^^^ 32] = [y.getD 0 0] := by simp [inv, flip_flip]
        rw [this]
        have := drop_cons (w := y) (i := 0) hy
        simpa using this
    · rw [if_neg hc]
      exact ⟨[], by simp, by simp [inv], hc⟩
theorem jnd_spec (x y : List UInt8) : E (jnd x y) (x ++ y) ∧ (NC x → NC y → NC (jnd x y)) ∧ ∀ c ∈ jnd x y, c ∈ x ∨ c ∈ y := by
  obtain ⟨a, h1, h2, h3⟩ := jn_spec (x.length + 1) x y (by omega)
  unfold jnd
  generalize (jn (x.length + 1) x y).1 = p at h1 h3 ⊢
  generalize (jn (x.length + 1) x y).2 = q at h2 h3 ⊢
  refine ⟨?_, fun hx hy => ?_, fun c hc => ?_⟩
  · have := (E.mid p a q).sm
    refine this.tr (E.of ?_)
    rw [h1, h2]; simp only [List.append_assoc]
  · rw [h1] at hx
    rw [h2] at hy
    have hp := hx.left
    have hq : NC q := by
      have := hy.drop (inv a).length
      rwa [List.drop_left] at this
    intro i hi
    rw [List.length_append] at hi
    by_cases e1 : i + 1 < p.length
    · rw [getD_left e1, getD_left (by omega)]; exact hp i e1
    · by_cases e2 : p.length ≤ i
      · rw [getD_right (by omega), getD_right e2, show i + 1 - p.length = (i - p.length) + 1 by omega]
        exact hq _ (by omega)
      · have e3 : i + 1 = p.length := by omega
        rw [getD_right (by omega), getD_left (by omega), show i + 1 - p.length = 0 by omega]
        intro r
        refine h3 ⟨fun z => by rw [z] at e3; simp at e3, fun z => by rw [z] at hi; simp at hi; omega, ?_⟩
        rw [show p.length - 1 = i by omega, r, flip_flip]
  · rcases List.mem_append.1 hc with hc | hc
    · exact .inl (by rw [h1]; exact List.mem_append_left _ hc)
    · exact .inr (by rw [h2]; exact List.mem_append_right _ hc)
theorem cells_conj (l : List (List UInt8)) (c1 : List UInt8) : ∀ ds : List DCell, E ((ds.map (cellJ c1)).flatMap (cword l)) (c1 ++ ds.flatMap (cword l) ++ inv c1)
  | [] => by
    have := (E.cancel c1).sm
    simpa using this
  | c :: ds => by
    rw [List.map_cons, List.flatMap_cons, List.flatMap_cons]
    have h1 : E (cword l (cellJ c1 c)) (c1 ++ cword l c ++ inv c1) := by
      have hj := (jnd_spec c1 c.conj).1
      have hji := hj.ofInv
      rw [inv_app] at hji
      have e : cword l (cellJ c1 c) = jnd c1 c.conj ++ crel l c ++ inv (jnd c1 c.conj) := rfl
      rw [e]
      refine ((hj.app (E.rf _)).app hji).tr (E.of ?_)
      simp only [cword, List.append_assoc]
    have h2 := cells_conj l c1 ds
    refine (h1.app h2).tr ?_
    have := E.mid2 (c1 ++ cword l c) c1 (ds.flatMap (cword l) ++ inv c1)
    refine E.tr (E.of ?_) (this.tr (E.of ?_))
    · simp only [List.append_assoc]
    · simp only [List.append_assoc]
theorem bnds_conj (l : List (List UInt8)) (c1 : List UInt8) (d ds : List DCell) : E (bnds l (d ++ ds.map (cellJ c1))) (bnds l d ++ c1 ++ bnds l ds ++ inv c1) := by
  rw [bnds_red, bnds_red, bnds_red, List.flatMap_append]
  refine (E.ofRed _).tr ?_
  have h := cells_conj l c1 ds
  refine ((E.ofRed (d.flatMap (cword l))).sm.app h).tr ?_
  have := (((E.rf (red (d.flatMap (cword l)) ++ c1)).app (E.ofRed (ds.flatMap (cword l))).sm).app (E.rf (inv c1)))
  refine E.tr (E.of ?_) this
  simp only [List.append_assoc]
def OkD (g : Int) (l : List (List UInt8)) (d : List DCell) : Prop := ∀ c ∈ d, c.conj.length ≤ 15000 ∧ 0 ≤ c.rel ∧ c.rel < l.length ∧ c.conj.all (okc g) = true
theorem core_all {g : Int} {v : List UInt8} (h : v.all (okc g) = true) : (wCore v).all (okc g) = true ∧ (wConj v).all (okc g) = true := by
  unfold wCore wConj
  split
  · exact ⟨all_sub h fun c hc => red_sub c (List.mem_of_mem_take (List.mem_of_mem_drop hc)), all_sub h fun c hc => red_sub c (List.mem_of_mem_take hc)⟩
  · exact ⟨rfl, rfl⟩
theorem core_parts {v : List UInt8} (hn : NC v) (hw : isw v = true) : E (wConj v ++ wCore v ++ inv (wConj v)) v ∧ NC (wConj v) ∧ NC (wCore v) := by
  rw [wConj, if_pos hw, wCore, if_pos hw]
  have h := word_parts hn.isRed
  refine ⟨E.of h.symm, ?_⟩
  unfold conj core
  exact ⟨(NC.ofRed v).take _, ((NC.ofRed v).take _).drop _⟩
theorem cy_disk {g : Int} {l : List (List UInt8)} {S : RS} (hp : pcheck g l = 0) (hS : SOk l S) : ∀ (f : Nat) (r cj : List UInt8) (d : List DCell), r.length < f → isw r = true → NC r → r.all (okc g) = true → cj.all (okc g) = true → NC cj → d.length + r.length ≤ 60 → cj.length + r.length * (r.length + 1) ≤ 7900 → OkD g l d →
    ∃ W d' cj', cyF S f r cj d = (W, d', cj', 0) ∧ E (bnds l d' ++ cj' ++ W ++ inv cj') (bnds l d ++ cj ++ r ++ inv cj) ∧ NC cj' ∧ cj'.all (okc g) = true ∧ W.all (okc g) = true ∧ OkD g l d' ∧ d'.length + W.length ≤ 60 ∧ cj'.length ≤ 7900
  | 0, _, _, _, h, _, _, _, _, _, _, _, _ => by omega
  | f + 1, r, cj, d, hf, hi, hrn, ha, hca, hcn, hd, hc, hcd => by
    have hz := pcheck_zero hp
    rw [cyF]
    by_cases ht : dturn S.list r < 0
    · rw [if_pos ht]
      have h4 := conjs_le (n := 15000) fun c hc => (hcd c hc).1
      have h5 : d.length * 15000 ≤ 60 * 15000 := Nat.mul_le_mul_right _ (by omega)
      rw [if_neg (by unfold Heavy; omega)]
      exact ⟨r, d, cj, rfl, E.rf _, hcn, hca, ha, hcd, hd, by omega⟩
    · rw [if_neg ht]
      obtain ⟨k, hk⟩ : ∃ k : Nat, ((k : Nat) : Int) = dturn S.list r := ⟨(dturn S.list r).toNat, by omega⟩
      rw [← hk, Int.toNat_natCast]
      have hlt := turn_lt hk
      have hda := dsh_all hS.1 (w := rot r k) (by rw [rot_length]; omega)
      rw [rot_length] at hda
      have hra : (rot r k).all (okc g) = true := all_sub ha fun c hc => (List.mem_append.1 hc).elim List.mem_of_mem_drop List.mem_of_mem_take
      have hrw : wcheck g (rot r k) = 0 := wcheck_all hz.1 (by rw [rot_length]; omega) hra
      obtain ⟨k1, k2, k3, k4⟩ := dsh_disk hp hS hrw (by rw [rot_length]; omega)
      have hvi : isw (dsh S (rot r k)).1 = true := isw_of hz.1.2 (wcheck_all hz.1 (by omega) k2)
      obtain ⟨q1, q2, q5⟩ := core_parts k3 hvi
      obtain ⟨q3, q4⟩ := core_all k2
      have hta : (r.take k).all (okc g) = true := all_sub ha fun c hc => List.mem_of_mem_take hc
      have js1 := jnd_spec cj (r.take k)
      have js2 := jnd_spec (jnd cj (r.take k)) (wConj (dsh S (rot r k)).1)
      have j1 := jnd_len cj (r.take k)
      rw [List.length_take] at j1
      have j2 := jnd_len (jnd cj (r.take k)) (wConj (dsh S (rot r k)).1)
      have j3 := wConj_length (dsh S (rot r k)).1
      have j4 := wCore_length (dsh S (rot r k)).1
      have hsq := sq_step (show (wCore (dsh S (rot r k)).1).length < r.length by omega)
      have hfit : fitsJ (jnd cj (r.take k)) (dsh S (rot r k)).2 = true := by
        rw [fitsJ, List.all_eq_true]
        intro c hc'
        have := jnd_len (jnd cj (r.take k)) c.conj
        have := hda.2.2 c hc'
        rw [decide_eq_true_eq]; omega
      rw [if_neg (by rw [hfit]; decide), if_pos ⟨by omega, by omega⟩]
      have hcn1 : NC (jnd cj (r.take k)) := js1.2.1 hcn (hrn.take k)
      have hca1 : (jnd cj (r.take k)).all (okc g) = true := all_sub (all_app hca hta) fun c hc => List.mem_append.2 (js1.2.2 c hc)
      have hca3 : (jnd (jnd cj (r.take k)) (wConj (dsh S (rot r k)).1)).all (okc g) = true := all_sub (all_app hca1 q4) fun c hc => List.mem_append.2 (js2.2.2 c hc)
      obtain ⟨W, d', cj', e1, e2, e3⟩ := cy_disk hp hS f (wCore (dsh S (rot r k)).1) (jnd (jnd cj (r.take k)) (wConj (dsh S (rot r k)).1)) (d ++ (dsh S (rot r k)).2.map (cellJ (jnd cj (r.take k)))) (by omega) (wCore_is _) q5 q3 hca3 (js2.2.1 hcn1 q2) (by rw [List.length_append, List.length_map]; omega) (by omega) (fun c hc' => by
        rcases List.mem_append.1 hc' with q | q
        · exact hcd c q
        · obtain ⟨c2, hc2, rfl⟩ := List.mem_map.1 q
          have a1 := jnd_len (jnd cj (r.take k)) c2.conj
          have a2 := hda.2.2 c2 hc2
          obtain ⟨b1, b2, b3⟩ := k4 c2 hc2
          refine ⟨?_, b1, b2, ?_⟩
          · show (jnd (jnd cj (r.take k)) c2.conj).length ≤ 15000
            omega
          · exact all_sub (all_app hca1 b3) fun c hc => List.mem_append.2 ((jnd_spec (jnd cj (r.take k)) c2.conj).2.2 c hc))
      refine ⟨W, d', cj', e1, e2.tr ?_, e3⟩
      have s1 := bnds_conj l (jnd cj (r.take k)) d (dsh S (rot r k)).2
      have s2 := js2.1.ofInv
      rw [inv_app] at s2
      have s3 := js1.1.ofInv
      rw [inv_app] at s3
      have m1 := E.mid2 (bnds l d ++ jnd cj (r.take k) ++ bnds l (dsh S (rot r k)).2) (jnd cj (r.take k)) (wConj (dsh S (rot r k)).1 ++ wCore (dsh S (rot r k)).1 ++ inv (wConj (dsh S (rot r k)).1) ++ inv (jnd cj (r.take k)))
      have m2 := ((E.rf (bnds l d ++ jnd cj (r.take k) ++ bnds l (dsh S (rot r k)).2)).app q1).app (E.rf (inv (jnd cj (r.take k))))
      have m3 := ((E.rf (bnds l d ++ jnd cj (r.take k))).app k1).app (E.rf (inv (jnd cj (r.take k))))
      have m4 := (((E.rf (bnds l d)).app js1.1).app (E.rf (rot r k))).app s3
      have m5 := E.mid (bnds l d ++ cj ++ r.take k ++ r.drop k) (r.take k) (inv cj)
      have hr : r.take k ++ r.drop k = r := List.take_append_drop _ _
      refine (((s1.app js2.1).app (E.rf _)).app s2).tr ?_
      refine E.tr (E.of ?_) (m1.tr (E.tr (E.of ?_) (m2.tr (E.tr (E.of ?_) (m3.tr (m4.tr (E.tr (E.of ?_) (m5.tr (E.of ?_)))))))))
      · simp only [List.append_assoc]
      · simp only [List.append_assoc]
      · simp only [List.append_assoc]
      · simp only [rot, List.append_assoc]
      · conv => rhs; rw [← hr]
        simp only [List.append_assoc]
/-- What is so of a cyclic shortening. -/
theorem cy_proves {g : Int} {l : List (List UInt8)} {w : List UInt8} (ha : rasked g l w = 0) {S : RS} (hS : SOk l S) (h60 : w.length ≤ 60) :
    ∃ W d cj, cyOf S w = (W, d, cj, 0) ∧ proves g l d (w ++ cj ++ wInverse W ++ wInverse cj) = 0 ∧ wReduce cj = cj ∧ cj.length ≤ 7900 ∧ W.length ≤ 60 ∧ conjs d ≤ 1000000 ∧ d.length ≤ 60 := by
  have ha' : ¬ ¬ rasked g l w = 0 := fun q => q ha
  have hp := rasked_pres ha'
  have hz := pcheck_zero hp
  have hw := (rasked_word ha').1
  obtain ⟨h1, h2, h3, h4⟩ := dsh_disk hp hS hw (by omega)
  obtain ⟨k1, k2, k3⟩ := dsh_all hS.1 (w := w) (by omega)
  have hvi : isw (dsh S w).1 = true := isw_of hz.1.2 (wcheck_all hz.1 (by omega) h2)
  obtain ⟨q1, q2, q5⟩ := core_parts h3 hvi
  obtain ⟨q3, q4⟩ := core_all h2
  have j3 := wConj_length (dsh S w).1
  have j4 := wCore_length (dsh S w).1
  have hsq : (wCore (dsh S w).1).length * ((wCore (dsh S w).1).length + 1) ≤ 60 * 61 := Nat.mul_le_mul (by omega) (by omega)
  obtain ⟨W, d, cj, e1, e2, e3, e4, e5, e6, e7, e8⟩ := cy_disk hp hS ((wCore (dsh S w).1).length + 1) (wCore (dsh S w).1) (wConj (dsh S w).1) (dsh S w).2 (by omega) (wCore_is _) q5 q3 q4 q2 (by omega) (by omega) (fun c hc => by
    obtain ⟨b1, b2, b3⟩ := h4 c hc
    exact ⟨Nat.le_trans (k3 c hc) (by decide), b1, b2, b3⟩)
  have hE : E (bnds l d ++ cj ++ W ++ inv cj) w := by
    refine e2.tr ?_
    have := (E.rf (bnds l (dsh S w).2)).app q1
    refine E.tr (E.of ?_) (this.tr h1)
    simp only [List.append_assoc]
  have wW : wcheck g W = 0 := wcheck_all hz.1 (by omega) e5
  have wc : wcheck g cj = 0 := wcheck_all hz.1 (by omega) e4
  have iW := isw_of hz.1.2 wW
  have ic := isw_of hz.1.2 wc
  have h4' := conjs_le (n := 15000) fun c hc => (e6 c hc).1
  have h5' : d.length * 15000 ≤ 60 * 15000 := Nat.mul_le_mul_right _ (by omega)
  have hb : bnds l d = red (w ++ cj ++ inv W ++ inv cj) := by
    have m1 := E.mid2 (bnds l d ++ cj ++ W) cj (inv W ++ inv cj)
    have m2 := E.mid (bnds l d ++ cj) W (inv cj)
    have m3 := E.mid (bnds l d) cj []
    have a2 : E (w ++ cj ++ inv W ++ inv cj) (bnds l d) := by
      refine (((hE.sm.app (E.rf cj)).app (E.rf (inv W))).app (E.rf (inv cj))).tr ?_
      refine E.tr (E.of ?_) (m1.tr (E.tr (E.of ?_) (m2.tr (E.tr (E.of ?_) (m3.tr (E.of ?_))))))
      · simp only [List.append_assoc]
      · simp only [List.append_assoc]
      · simp only [List.append_assoc, List.append_nil]
      · simp only [List.append_nil]
    have a3 : red (bnds l d) = bnds l d := by rw [bnds_red]; exact red_red _
    rw [← a3]; exact a2.sm
  have hdisk : isDisk g l d = true := by
    simp only [isDisk, Bool.and_eq_true, decide_eq_true_eq, List.all_eq_true]
    refine ⟨⟨fun c hc => ?_, by omega⟩, by omega⟩
    obtain ⟨b0, b1, b2, b3⟩ := e6 c hc
    simp only [okCell, Bool.and_eq_true, decide_eq_true_eq]
    exact ⟨⟨b1, b2⟩, wcheck_all hz.1 (by omega) b3⟩
  have hwc : wcheck g (w ++ cj ++ inv W ++ inv cj) = 0 := wcheck_all hz.1 (by simp only [List.length_append, inv_length]; omega) (all_app (all_app (all_app (all_wcheck hw).2.2 e4) (all_inv e5)) (all_inv e4))
  refine ⟨W, d, cj, e1, ?_, by rw [wReduce, if_pos ic]; exact e3.isRed, e8, by omega, by omega, by omega⟩
  rw [wInverse, if_pos iW, wInverse, if_pos ic]
  unfold proves
  have hchk : chk g l [w ++ cj ++ inv W ++ inv cj] [d] = 0 := by
    unfold chk
    rw [if_neg (fun q => q hp), if_neg (by simp only [List.all_cons, List.all_nil, Bool.and_true, hwc]; decide), if_neg (by simp [hdisk])]
  rw [if_neg (fun q => q hchk), if_neg (fun q => q hb)]
end Go.Proofs.YtaccklloepfemaaGreatDoor
