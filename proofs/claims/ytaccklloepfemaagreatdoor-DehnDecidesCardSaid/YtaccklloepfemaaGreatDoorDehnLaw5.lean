/- The disk of a shortening has the boundary w v^-1. -/
import Derived.Test.YtaccklloepfemaaGreatDoorDehnLaw4
namespace Go.Proofs.YtaccklloepfemaaGreatDoor
set_option linter.unusedVariables false
set_option linter.unusedSimpArgs false
open Go Go.RowKit V

/-! ### Reducing is the free group's equality -/
theorem push_back {s : List UInt8} (h : NC s) (c : UInt8) : push (push s (c ^^^ 32)) c = s := by
  by_cases q : 0 < s.length ∧ s.getD (s.length - 1) 0 = c ^^^ 32 ^^^ 32
  · have e : push s (c ^^^ 32) = s.take (s.length - 1) := by rw [push, if_pos q]
    rw [e]
    obtain ⟨q1, q2⟩ := q
    rw [flip_flip] at q2
    have hne : ¬ (0 < (s.take (s.length - 1)).length ∧ (s.take (s.length - 1)).getD ((s.take (s.length - 1)).length - 1) 0 = c ^^^ 32) := by
      rintro ⟨r1, r2⟩
      rw [List.length_take] at r1 r2
      rw [getD_take (by omega)] at r2
      have := h (s.length - 2) (by omega)
      rw [show s.length - 2 + 1 = s.length - 1 by omega, q2] at this
      rw [show min (s.length - 1) s.length - 1 = s.length - 2 by omega] at r2
      rw [r2, flip_flip] at this
      exact this rfl
    rw [push, if_neg hne, ← q2]
    have := take_next (s := s) (i := s.length - 1) (by omega)
    rw [this, show s.length - 1 + 1 = s.length by omega, List.take_length]
  · have e : push s (c ^^^ 32) = s ++ [c ^^^ 32] := by rw [push, if_neg q]
    rw [e, push, if_pos ⟨by simp, by rw [List.length_append, getD_right (by simp)]; simp⟩]
    simp
theorem push_pair {s : List UInt8} (h : NC s) (c : UInt8) : push (push s c) (c ^^^ 32) = s := by
  have := push_back h (c ^^^ 32)
  rwa [flip_flip] at this
theorem inv_cons (c : UInt8) (y : List UInt8) : inv (c :: y) = inv y ++ [c ^^^ 32] := by simp [inv]
theorem inv_app (a b : List UInt8) : inv (a ++ b) = inv b ++ inv a := by simp [inv]
theorem fold_inv : ∀ (x s : List UInt8), NC s → (inv x).foldl push (x.foldl push s) = s
  | [], s, _ => rfl
  | c :: y, s, h => by
    rw [inv_cons, List.foldl_append, show (c :: y).foldl push s = y.foldl push (push s c) from rfl, fold_inv y _ (h.pushC c)]
    exact push_pair h c
theorem fold_stack (s : List UInt8) (hs : NC s) : ∀ (b t : List UInt8), NC t → (b.foldl push t).foldl push s = b.foldl push (t.foldl push s)
  | [], _, _ => rfl
  | c :: b, t, ht => by
    rw [List.foldl_cons, List.foldl_cons, fold_stack s hs b _ (ht.pushC c)]
    congr 1
    by_cases q : 0 < t.length ∧ t.getD (t.length - 1) 0 = c ^^^ 32
    · have e : push t c = t.take (t.length - 1) := by rw [push, if_pos q]
      have e2 : t = t.take (t.length - 1) ++ [c ^^^ 32] := by
        have := take_next (s := t) (i := t.length - 1) (by omega)
        rw [q.2, show t.length - 1 + 1 = t.length by omega, List.take_length] at this
        exact this.symm
      rw [e]
      conv => rhs; rw [e2, List.foldl_append]
      exact (push_back (NC.ofFold _ _ hs) c).symm
    · have e : push t c = t ++ [c] := by rw [push, if_neg q]
      rw [e, List.foldl_append]; rfl
theorem nc_nil : NC [] := fun i hi => by simp at hi
theorem red_red (a : List UInt8) : red (red a) = red a := (NC.ofRed a).isRed
/-- Words that are equal in the free group. -/
def E (a b : List UInt8) : Prop := red a = red b
theorem E.rf (a : List UInt8) : E a a := rfl
theorem E.of {a b : List UInt8} (h : a = b) : E a b := by rw [h]; rfl
theorem E.sm {a b : List UInt8} (h : E a b) : E b a := Eq.symm h
theorem E.tr {a b c : List UInt8} (h : E a b) (k : E b c) : E a c := Eq.trans h k
theorem E.ofRed (a : List UInt8) : E (red a) a := red_red a
theorem red_app (a b : List UInt8) : red (a ++ b) = b.foldl push (red a) := by simp [red]
theorem red_both (a b : List UInt8) : red (a ++ b) = (red b).foldl push (red a) := by
  rw [red_app]
  exact (fold_stack (red a) (NC.ofRed a) b [] nc_nil).symm
theorem E.app {a a' b b' : List UInt8} (h : E a a') (k : E b b') : E (a ++ b) (a' ++ b') := by
  unfold E at h k ⊢
  rw [red_both, red_both, h, k]
theorem E.cancel (x : List UInt8) : E (x ++ inv x) [] := by
  show red (x ++ inv x) = red []
  rw [red_app]
  exact fold_inv x [] nc_nil
theorem E.cancel2 (x : List UInt8) : E (inv x ++ x) [] := by
  have := E.cancel (inv x)
  rwa [inv_twice] at this
theorem E.mid (a x b : List UInt8) : E (a ++ x ++ inv x ++ b) (a ++ b) := by
  have := ((E.rf a).app (E.cancel x)).app (E.rf b)
  simpa only [List.append_assoc, List.nil_append] using this
theorem E.mid2 (a x b : List UInt8) : E (a ++ inv x ++ x ++ b) (a ++ b) := by
  have := ((E.rf a).app (E.cancel2 x)).app (E.rf b)
  simpa only [List.append_assoc, List.nil_append] using this
theorem E.ofInv {a b : List UInt8} (h : E a b) : E (inv a) (inv b) := by
  have h1 : E (inv a ++ b ++ inv b) (inv a) := by
    have := E.mid (inv a) b []
    simpa only [List.append_nil] using this
  have h2 : E (inv a ++ b ++ inv b) (inv a ++ a ++ inv b) := ((E.rf _).app h.sm).app (E.rf _)
  have h3 : E (inv a ++ a ++ inv b) (inv b) := by
    have := E.mid2 [] a (inv b)
    simpa only [List.nil_append] using this
  exact h1.sm.tr (h2.tr h3)

/-! ### The words of the rules as conjugates of relators -/
theorem word_parts {r : List UInt8} (h : red r = r) : r = conj r ++ core r ++ inv (conj r) := by
  have hc := cycN_half r
  unfold conj core
  rw [h]
  have e1 : r = r.take (cycN r) ++ (r.drop (cycN r)) := (List.take_append_drop _ _).symm
  have e2 : r.drop (cycN r) = ((r.take (r.length - cycN r)).drop (cycN r)) ++ r.drop (r.length - cycN r) := by
    have := List.take_append_drop (r.length - 2 * cycN r) (r.drop (cycN r))
    rw [List.drop_drop, List.take_drop] at this
    rw [← this]
    congr 2
    · congr 1; omega
    · congr 1; omega
  have e3 : inv (r.take (cycN r)) = r.drop (r.length - cycN r) := by
    apply List.ext_getElem?
    intro i
    by_cases hi : i < cycN r
    · have hl : (inv (r.take (cycN r))).length = cycN r := by rw [inv_length, List.length_take]; omega
      have hp := lf_all (p := fun n => decide (2 * n + 2 ≤ r.length ∧ r.getD n 0 = r.getD (r.length - 1 - n) 0 ^^^ 32)) (b := r.length) (i := cycN r - 1 - i) (by unfold cycN at hi ⊢; omega)
      simp only [decide_eq_true_eq] at hp
      have g1 := inv_get (w := r.take (cycN r)) (i := i) (by rw [List.length_take]; omega)
      rw [List.length_take, getD_take (by omega), show min (cycN r) r.length - 1 - i = cycN r - 1 - i by omega, hp.2, flip_flip] at g1
      have g2 : (r.drop (r.length - cycN r)).getD i 0 = r.getD (r.length - 1 - (cycN r - 1 - i)) 0 := by
        rw [getD_drop]; congr 1; omega
      have g3 := g1.trans g2.symm
      have l2 : i < (r.drop (r.length - cycN r)).length := by rw [List.length_drop]; omega
      simp only [List.getD_eq_getElem?_getD, List.getElem?_eq_getElem (show i < (inv (r.take (cycN r))).length by omega), List.getElem?_eq_getElem l2, Option.getD_some] at g3
      rw [List.getElem?_eq_getElem (by omega), List.getElem?_eq_getElem l2, g3]
    · rw [List.getElem?_eq_none (by rw [inv_length, List.length_take]; omega), List.getElem?_eq_none (by rw [List.length_drop]; omega)]
  rw [e3, List.append_assoc, ← e2]
  exact e1
def relOf (l : List (List UInt8)) (i : Nat) (iv : Bool) : List UInt8 := if iv then inv (l.getD i []) else l.getD i []
def RotOk (g : Int) (l : List (List UInt8)) (x : Rot) : Prop := x.r < l.length ∧ E x.w (x.c ++ relOf l x.r x.i ++ inv x.c) ∧ x.c.all (okc g) = true ∧ x.w.all (okc g) = true
theorem okc_flipg (g : Int) {c : UInt8} (h : okc g c = true) : okc g (c ^^^ 32) = true := by
  have key : ∀ c : UInt8, 0 ≤ ix c → 0 ≤ ix (c ^^^ 32) ∧ ix (c ^^^ 32) / 2 = ix c / 2 := all_u8 (by decide +kernel)
  simp only [okc, Bool.and_eq_true, decide_eq_true_eq] at h ⊢
  have := key c h.1
  omega
theorem all_sub {g : Int} {a b : List UInt8} (h : b.all (okc g) = true) (hs : ∀ c ∈ a, c ∈ b) : a.all (okc g) = true := by
  rw [List.all_eq_true] at h ⊢
  exact fun c hc => h c (hs c hc)
theorem all_inv {g : Int} {a : List UInt8} (h : a.all (okc g) = true) : (inv a).all (okc g) = true := by
  rw [List.all_eq_true] at h ⊢
  intro c hc
  simp only [inv, List.mem_reverse, List.mem_map] at hc
  obtain ⟨d, hd, rfl⟩ := hc
  exact okc_flipg g (h d hd)
theorem all_winv {g : Int} {a : List UInt8} (h : a.all (okc g) = true) : (wInverse a).all (okc g) = true := by
  unfold wInverse; split
  · exact all_inv h
  · rfl
theorem all_wred {g : Int} {a : List UInt8} (h : a.all (okc g) = true) : (wReduce a).all (okc g) = true := by
  unfold wReduce; split
  · exact all_sub h red_sub
  · rfl
theorem all_app {g : Int} {a b : List UInt8} (ha : a.all (okc g) = true) (hb : b.all (okc g) = true) : (a ++ b).all (okc g) = true := by
  rw [List.all_append, ha, hb]; rfl
theorem mkR_rel {g : Int} {l : List (List UInt8)} {i j : Nat} {iv : Bool} {r : List UInt8} (hi : i < l.length) (hr : relOf l i iv = r) (hn : red r = r) (hw : isw r = true) (ha : r.all (okc g) = true) (hl : r.length ≤ 200) :
    RotOk g l (mkR i iv (wCore r) (wConj r) j) := by
  have e1 : wCore r = core r := by rw [wCore, if_pos hw]
  have e2 : wConj r = conj r := by rw [wConj, if_pos hw]
  have hp := word_parts hn
  have hcl := core_length r
  have hsub : ∀ c ∈ core r, c ∈ r := fun c hc => by rw [hp]; simp [hc]
  have hsubc : ∀ c ∈ conj r, c ∈ r := fun c hc => by rw [hp]; simp [hc]
  have hjl : (conj r).length ≤ r.length := by
    have := congrArg List.length hp
    simp only [List.length_append] at this; omega
  have w1 : isw ((core r).take j) = true := isw_sub hw (fun c hc => hsub c (List.mem_of_mem_take hc)) (by rw [List.length_take]; omega)
  have w2 : isw (conj r) = true := isw_sub hw hsubc hjl
  have e3 : (mkR i iv (wCore r) (wConj r) j).c = red (inv ((core r).take j) ++ inv (conj r)) := by
    show wReduce (wInverse ((wCore r).take j) ++ wInverse (wConj r)) = _
    rw [e1, e2, wInverse, if_pos w1, wInverse, if_pos w2, wReduce, if_pos]
    exact isw_app (isw_inv w1) (isw_inv w2) (by rw [inv_length, inv_length, List.length_take]; omega)
  have e4 : (mkR i iv (wCore r) (wConj r) j).w = (core r).drop j ++ (core r).take j := by
    show (wCore r).drop j ++ (wCore r).take j = _
    rw [e1]
  refine ⟨hi, ?_, ?_, ?_⟩
  · show E (mkR i iv (wCore r) (wConj r) j).w ((mkR i iv (wCore r) (wConj r) j).c ++ relOf l i iv ++ inv (mkR i iv (wCore r) (wConj r) j).c)
    rw [e3, e4, hr]
    have hc : E (red (inv ((core r).take j) ++ inv (conj r))) (inv ((core r).take j) ++ inv (conj r)) := E.ofRed _
    have hci := hc.ofInv
    rw [inv_app (inv ((core r).take j)), inv_twice, inv_twice] at hci
    refine E.sm (((hc.app (E.rf r)).app hci).tr ?_)
    have hs : (core r).take j ++ (core r).drop j = core r := List.take_append_drop _ _
    have step1 : E (inv ((core r).take j) ++ inv (conj r) ++ r ++ (conj r ++ (core r).take j)) (inv ((core r).take j) ++ core r ++ (core r).take j) := by
      have a1 := E.mid2 (inv ((core r).take j)) (conj r) (core r ++ inv (conj r) ++ conj r ++ (core r).take j)
      have a2 := E.mid2 (inv ((core r).take j) ++ core r) (conj r) ((core r).take j)
      refine E.tr (E.of ?_) (a1.tr (E.tr (E.of ?_) a2))
      · refine (congrArg (fun z => inv ((core r).take j) ++ inv (conj r) ++ z ++ (conj r ++ (core r).take j)) hp).trans ?_
        simp only [List.append_assoc]
      · simp only [List.append_assoc]
    refine step1.tr ?_
    have a3 := E.mid2 [] ((core r).take j) ((core r).drop j ++ (core r).take j)
    refine E.tr (E.of ?_) a3
    refine (congrArg (fun z => inv ((core r).take j) ++ z ++ (core r).take j) hs.symm).trans ?_
    simp only [List.append_assoc, List.nil_append]
  · rw [e3]
    exact all_sub (all_app (all_inv (all_sub ha fun c hc => hsub c (List.mem_of_mem_take hc))) (all_inv (all_sub ha hsubc))) red_sub
  · rw [e4]
    exact all_sub ha fun c hc => (List.mem_append.1 hc).elim (fun q => hsub c (List.mem_of_mem_drop q)) (fun q => hsub c (List.mem_of_mem_take q))
theorem all_wcheck {g : Int} {w : List UInt8} (h : wcheck g w = 0) : (1 ≤ g ∧ g ≤ 8) ∧ w.length ≤ 100000 ∧ w.all (okc g) = true := by
  unfold wcheck at h
  split at h
  · cases h
  · split at h
    · cases h
    · split at h
      · rename_i h1 h2 h3; exact ⟨by omega, by omega, h3⟩
      · cases h
theorem wcheck_all {g : Int} {w : List UInt8} (hg : 1 ≤ g ∧ g ≤ 8) (hl : w.length ≤ 100000) (h : w.all (okc g) = true) : wcheck g w = 0 := by
  unfold wcheck
  rw [if_neg (by omega), if_neg (by omega), if_pos h]
theorem allR_rel {g : Int} {l : List (List UInt8)} (hp : pcheck g l = 0) : ∀ x ∈ allR l, RotOk g l x := by
  have hz := pcheck_zero hp
  have key : ∀ n, n ≤ l.length → ∀ x ∈ (List.range n).foldl (addR l) [], RotOk g l x := by
    intro n
    induction n with
    | zero => intro _ x hx; cases hx
    | succ n ih =>
      intro hn x hx
      rw [List.range_succ, List.foldl_append] at hx
      obtain ⟨h200, hb⟩ := hz.2.2 _ (getD_mem (d := []) (show n < l.length by omega))
      obtain ⟨_, b2, b3⟩ := badRel_good hb
      have hi := isw_of hz.1.2 b2
      have ha := (all_wcheck b2).2.2
      have e2 : wOf (l.getD n []) true = inv (l.getD n []) := by rw [wOf, if_pos rfl, wInverse, if_pos hi]
      have hx : x ∈ addV n (l.getD n []) (addV n (l.getD n []) ((List.range n).foldl (addR l) []) false) true := hx
      refine addJ_all (p := RotOk g l) (addJ_all (p := RotOk g l) (ih (by omega)) _ fun j _ => ?_) _ (fun j _ => ?_) x hx
      · exact mkR_rel (by omega) rfl b3 hi ha h200
      · rw [e2]
        exact mkR_rel (by omega) (by rw [relOf, if_pos rfl]) (((NC.iff _).2 b3).ofInv).isRed (isw_inv hi) (all_inv ha) (by rw [inv_length]; exact h200)
  exact key l.length (Nat.le_refl _)
theorem SOk.rel {g : Int} {l : List (List UInt8)} (hp : pcheck g l = 0) {S : RS} (hS : SOk l S) : ∀ x ∈ S.list, RotOk g l x := fun x hx => allR_rel hp x (hS.2.1.mem_iff.1 hx)

/-! ### The disk -/
theorem bnds_red (l : List (List UInt8)) (d : List DCell) : bnds l d = red (d.flatMap (cword l)) := by
  unfold bnds red
  rw [List.foldl_flatMap]; rfl
theorem bnds_snoc (l : List (List UInt8)) (d : List DCell) (c : DCell) : E (bnds l (d ++ [c])) (bnds l d ++ cword l c) := by
  rw [bnds_red, bnds_red, List.flatMap_append]
  refine (E.ofRed _).tr ?_
  simp only [List.flatMap_cons, List.flatMap_nil, List.append_nil]
  exact (E.ofRed _).sm.app (E.rf _)
section
variable {g : Int} {l : List (List UInt8)} {L : List Rot} {m : Nat}
theorem cell_word (hL : ∀ x ∈ L, RotOk g l x) (hw : ∀ x ∈ L, isw x.w = true ∧ x.w.length ≤ 200 ∧ isw x.c = true ∧ x.c.length ≤ 1000) {cur : List UInt8} {p : Nat} (hl : cur.length ≤ 6000) (hi : isw cur = true) (hn : NC cur) (hp : p < cur.length) (h : 0 ≤ (longF L (cur.drop p)).1) :
    E (cword l (repC cur p (L.getD (longF L (cur.drop p)).1.toNat .zero)) ++ (repl cur p (L.getD (longF L (cur.drop p)).1.toNat .zero)).1) cur := by
  obtain ⟨g1, g2, _⟩ := longF_pos h
  have hx := getD_mem (d := Rot.zero) g1
  have hxw := hw _ hx
  have hxr := hL _ hx
  generalize L.getD (longF L (cur.drop p)).1.toNat .zero = x at g2 hxw hxr ⊢
  have hpt := part_take (s := cur.drop p) (x := x.w)
  have hnl := repN_le cur p x
  have hnn : repN cur p x = cmn (cur.drop p) x.w := rfl
  rw [← hnn] at hpt
  -- the parts of cur
  have hxn : x.w.take (repN cur p x) = (cur.drop p).take (repN cur p x) := by
    obtain ⟨t, ht⟩ := hpt
    have hlen : ((cur.drop p).take (repN cur p x)).length = repN cur p x := by rw [List.length_take, List.length_drop]; omega
    rw [← ht, List.take_append_of_le_length (by omega), List.take_of_length_le (by omega)]
  have hcur : cur = cur.take p ++ x.w.take (repN cur p x) ++ cur.drop (p + repN cur p x) := by
    rw [hxn, List.append_assoc, ← List.drop_drop, List.take_append_drop, List.take_append_drop]
  have e1 : (repl cur p x).1 = red (cur.take p ++ inv (x.w.drop (repN cur p x)) ++ cur.drop (p + repN cur p x)) := by
    unfold repl
    rw [putF_fst, putF_fst, wInverse, if_pos (isw_sub hxw.1 (fun c hc => List.mem_of_mem_drop hc) (by rw [List.length_drop]; omega)), red, List.foldl_append, List.foldl_append, hn.takeFold]
  have e2 : (repC cur p x).conj = red (cur.take p ++ x.c) := by
    show wReduce _ = _
    rw [wReduce, if_pos]
    exact isw_app (isw_sub hi (fun c hc => List.mem_of_mem_take hc) (by rw [List.length_take]; omega)) hxw.2.2.1 (by rw [List.length_take]; omega)
  have e3 : crel l (repC cur p x) = relOf l x.r x.i := rfl
  have hcj : E (repC cur p x).conj (cur.take p ++ x.c) := by rw [e2]; exact E.ofRed _
  have hcji := hcj.ofInv
  rw [inv_app] at hcji
  have hcw : E (cword l (repC cur p x)) (cur.take p ++ x.w ++ inv (cur.take p)) := by
    unfold cword
    rw [e3]
    refine ((hcj.app (E.rf _)).app hcji).tr ?_
    have := ((E.rf (cur.take p)).app hxr.2.1.sm).app (E.rf (inv (cur.take p)))
    refine E.tr (E.of ?_) this
    simp only [List.append_assoc]
  rw [e1]
  refine (hcw.app (E.ofRed _)).tr ?_
  have a1 := E.mid2 (cur.take p ++ x.w) (cur.take p) (inv (x.w.drop (repN cur p x)) ++ cur.drop (p + repN cur p x))
  have a2 := E.mid (cur.take p ++ x.w.take (repN cur p x)) (x.w.drop (repN cur p x)) (cur.drop (p + repN cur p x))
  refine E.tr (E.of ?_) (a1.tr (E.tr (E.of ?_) (a2.tr (E.of hcur.symm))))
  · simp only [List.append_assoc]
  · conv => lhs; rw [← List.take_append_drop (repN cur p x) x.w]
    simp only [List.append_assoc, List.take_append_drop]
theorem drun_disk (hL : ∀ x ∈ L, RotOk g l x) (hw : ∀ x ∈ L, isw x.w = true ∧ x.w.length ≤ 200 ∧ isw x.c = true ∧ x.c.length ≤ 1000) : ∀ (f : Nat) (cur : List UInt8) (d : List DCell) (p : Nat), cur.length ≤ 6000 → isw cur = true → NC cur → cur.all (okc g) = true →
    E (bnds l (drun L m f cur d p).2 ++ (drun L m f cur d p).1) (bnds l d ++ cur) ∧ (drun L m f cur d p).1.all (okc g) = true ∧ NC (drun L m f cur d p).1 ∧ ∀ c ∈ (drun L m f cur d p).2, c ∈ d ∨ (0 ≤ c.rel ∧ c.rel < l.length ∧ c.conj.all (okc g) = true)
  | 0, cur, d, p, _, _, hn, ha => ⟨E.rf _, ha, hn, fun c h => .inl h⟩
  | f + 1, cur, d, p, hl, hi, hn, ha => by
    rw [drun]
    by_cases hp : p < cur.length
    · rw [if_pos hp]
      by_cases h : 0 ≤ (longF L (cur.drop p)).1
      · rw [if_pos h]
        have hcell := cell_word hL hw hl hi hn hp h
        have hlt := repl_lt hp h
        obtain ⟨g1, _, _⟩ := longF_pos h
        have hx := getD_mem (d := Rot.zero) g1
        have hxw := hw _ hx
        have hxr := hL _ hx
        generalize L.getD (longF L (cur.drop p)).1.toNat .zero = x at hcell hlt hxw hxr ⊢
        have hNC : NC (repl cur p x).1 := by
          unfold repl
          rw [putF_fst, putF_fst]
          exact NC.ofFold _ _ (NC.ofFold _ _ (hn.take p))
        have hA : (repl cur p x).1.all (okc g) = true := by
          unfold repl
          rw [putF_fst, putF_fst, ← hn.takeFold p, ← List.foldl_append, ← List.foldl_append]
          exact all_sub (all_app (all_app (all_sub ha fun c hc => List.mem_of_mem_take hc) (all_winv (all_sub hxr.2.2.2 fun c hc => List.mem_of_mem_drop hc))) (all_sub ha fun c hc => List.mem_of_mem_drop hc)) (fun c hc => by simpa [List.append_assoc] using red_sub c hc)
        have hI : isw (repl cur p x).1 = true := by
          have h3 := wInverse_is (x.w.drop (repN cur p x))
          have h4 := wInverse_length (x.w.drop (repN cur p x))
          unfold repl
          rw [putF_fst, putF_fst, ← hn.takeFold p, ← List.foldl_append, ← List.foldl_append]
          have h5 := red_length (cur.take p ++ wInverse (x.w.drop (repN cur p x)) ++ cur.drop (p + repN cur p x))
          have := isw_sub (isw_app (isw_app (isw_sub hi (fun c hc => List.mem_of_mem_take hc) (by rw [List.length_take]; omega)) h3 (by rw [List.length_take]; rw [List.length_drop] at h4; omega)) (isw_sub hi (fun c hc => List.mem_of_mem_drop hc) (by rw [List.length_drop]; omega)) (by rw [List.length_append, List.length_take, List.length_drop]; rw [List.length_drop] at h4; omega)) red_sub h5
          simpa [red, List.append_assoc] using this
        obtain ⟨i1, i2, i3, i4⟩ := drun_disk hL hw f (repl cur p x).1 (d ++ [repC cur p x]) ((repl cur p x).2 - m) (by omega) hI hNC hA
        refine ⟨i1.tr ?_, i2, i3, fun c hc => ?_⟩
        · refine ((bnds_snoc l d (repC cur p x)).app (E.rf _)).tr ?_
          have := (E.rf (bnds l d)).app hcell
          refine E.tr (E.of ?_) this
          simp only [List.append_assoc]
        · rcases i4 c hc with q | q
          · rcases List.mem_append.1 q with q | q
            · exact .inl q
            · simp only [List.mem_singleton] at q
              subst q
              have h1 := hxr.1
              refine .inr ⟨by show (0 : Int) ≤ ((x.r : Nat) : Int); omega, by show ((x.r : Nat) : Int) < _; omega, ?_⟩
              exact all_wred (all_app (all_sub ha fun c hc => List.mem_of_mem_take hc) hxr.2.2.1)
          · exact .inr q
      · rw [if_neg h]; exact drun_disk hL hw f cur d (p + 1) hl hi hn ha
    · rw [if_neg hp]; exact ⟨E.rf _, ha, hn, fun c h => .inl h⟩
end
/-- What is so of the disk of a shortening. -/
theorem dsh_disk {g : Int} {l : List (List UInt8)} (hp : pcheck g l = 0) {S : RS} (hS : SOk l S) {w : List UInt8} (hw : wcheck g w = 0) (hl : w.length ≤ 6000) :
    E (bnds l (dsh S w).2 ++ (dsh S w).1) w ∧ (dsh S w).1.all (okc g) = true ∧ NC (dsh S w).1 ∧ ∀ c ∈ (dsh S w).2, 0 ≤ c.rel ∧ c.rel < l.length ∧ c.conj.all (okc g) = true := by
  have hz := pcheck_zero hp
  have hr := red_length w
  have hi := isw_of hz.1.2 hw
  obtain ⟨h1, h2, h3, h4⟩ := drun_disk (m := S.most) (hS.rel hp) (fun x hx => ⟨(hS.1.isw x hx).1, Nat.le_trans (hS.1.most x hx) hS.1.small.1, (hS.1.isw x hx).2.1, (hS.1.isw x hx).2.2⟩) (fuel (red w).length) (red w) [] 0 (by omega) (isw_sub hi red_sub hr) (NC.ofRed w) (all_sub (all_wcheck hw).2.2 red_sub)
  refine ⟨?_, h2, h3, fun c hc => (h4 c hc).elim (fun q => by cases q) id⟩
  refine E.tr h1 ?_
  have : bnds l [] ++ red w = red w := rfl
  rw [this]; exact E.ofRed w
theorem sh_proves {g : Int} {l : List (List UInt8)} {w : List UInt8} (ha : rasked g l w = 0) {S : RS} (hS : SOk l S) (h60 : w.length ≤ 60) :
    proves g l (dsh S w).2 (w ++ inv (dsh S w).1) = 0 := by
  have ha' : ¬ ¬ rasked g l w = 0 := fun q => q ha
  have hp := rasked_pres ha'
  have hz := pcheck_zero hp
  have hw := (rasked_word ha').1
  obtain ⟨h1, h2, h3, h4⟩ := dsh_disk hp hS hw (by omega)
  obtain ⟨k1, k2, k3⟩ := dsh_all hS.1 (w := w) (by omega)
  have hlight := light hS.1 h60
  unfold Heavy at hlight
  have hwc : wcheck g (w ++ inv (dsh S w).1) = 0 := wcheck_all hz.1 (by rw [List.length_append, inv_length]; omega) (all_app (all_wcheck hw).2.2 (all_inv h2))
  have hdisk : isDisk g l (dsh S w).2 = true := by
    simp only [isDisk, Bool.and_eq_true, decide_eq_true_eq, List.all_eq_true]
    refine ⟨⟨fun c hc => ?_, by omega⟩, by omega⟩
    obtain ⟨q1, q2, q3⟩ := h4 c hc
    have := k3 c hc
    simp only [okCell, Bool.and_eq_true, decide_eq_true_eq]
    exact ⟨⟨q1, q2⟩, wcheck_all hz.1 (by omega) q3⟩
  have hchk : chk g l [w ++ inv (dsh S w).1] [(dsh S w).2] = 0 := by
    unfold chk
    rw [if_neg (fun q => q hp), if_neg (by simp [hwc]), if_neg (by simp [hdisk])]
  have hb : bnds l (dsh S w).2 = red (w ++ inv (dsh S w).1) := by
    have a1 := E.mid (bnds l (dsh S w).2) (dsh S w).1 []
    simp only [List.append_nil] at a1
    have a2 : E (bnds l (dsh S w).2) (w ++ inv (dsh S w).1) := a1.sm.tr (h1.app (E.rf _))
    have a3 : red (bnds l (dsh S w).2) = bnds l (dsh S w).2 := by rw [bnds_red]; exact red_red _
    rw [← a3]; exact a2
  unfold proves
  rw [if_neg (fun q => q hchk), if_neg (fun q => q hb)]
/-- A word that is shortened is stuck. -/
theorem rshort_stuck {l : List (List UInt8)} : ∀ (f : Nat) (x : List UInt8) (n : Nat), x.length < f → (rlong l (rshort l f x n).1).pi = false
  | 0, _, _, h => by omega
  | f + 1, x, n, h => by
    by_cases q : (rlong l x).pi = true
    · rw [rshort, if_pos q]
      exact rshort_stuck f _ _ (by have := rnext_length q; omega)
    · rw [rshort, if_neg q]; simpa using q
theorem sh_stuck {g : Int} {l : List (List UInt8)} {w : List UInt8} (ha : rasked g l w = 0) {S : RS} (hS : SOk l S) (h60 : w.length ≤ 60) : rStuck g l (dsh S w).1 = (true, 0) := by
  have ha' : ¬ ¬ rasked g l w = 0 := fun q => q ha
  have hp := rasked_pres ha'
  have hz := pcheck_zero hp
  have hw := (rasked_word ha').1
  obtain ⟨_, h2, h3, _⟩ := dsh_disk hp hS hw (by omega)
  obtain ⟨k1, _, _⟩ := dsh_all hS.1 (w := w) (by omega)
  have hwv : wcheck g (dsh S w).1 = 0 := wcheck_all hz.1 (by omega) h2
  have hav : rasked g l (dsh S w).1 = 0 := by
    unfold rasked
    rw [if_neg (fun q => q hp), if_neg (fun q => q hwv), if_neg (by omega)]
  have hiv := isw_of hz.1.2 hwv
  have e : wReduce (dsh S w).1 = (dsh S w).1 := by rw [wReduce, if_pos hiv]; exact h3.isRed
  have key := dsh_rshorten hp hS (isw_asked ha') (by omega)
  unfold rStuck
  rw [if_neg (fun q => q hav), e, decide_eq_true rfl, Bool.true_and]
  have : (rlong (symm l) (dsh S w).1).pi = false := by
    rw [key.1]
    exact rshort_stuck _ _ _ (by omega)
  rw [this]; rfl
end Go.Proofs.YtaccklloepfemaaGreatDoor
