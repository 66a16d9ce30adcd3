/- The words of the closure are words; how the trie of a list of words grows. Shortlex is a strict weak order. How the trie of the words comes about, letter by letter. -/
import Derived.Test.YtaccklloepfemaaGreatDoorDehnNew
import Derived.Test.YtaccklloepfemaaGreatDoorVSort
namespace Go.Proofs.YtaccklloepfemaaGreatDoor
set_option linter.unusedVariables false
set_option linter.unusedSimpArgs false
open Go Go.RowKit V

theorem isw_sub {a b : List UInt8} (h : isw b = true) (hs : ∀ c ∈ a, c ∈ b) (hl : a.length ≤ b.length) : isw a = true := by
  simp only [isw, Bool.and_eq_true, decide_eq_true_eq, List.all_eq_true] at h ⊢
  exact ⟨by omega, fun c hc => h.2 c (hs c hc)⟩
theorem isw_app {a b : List UInt8} (ha : isw a = true) (hb : isw b = true) (hl : a.length + b.length ≤ 100000) : isw (a ++ b) = true := by
  simp only [isw, Bool.and_eq_true, decide_eq_true_eq, List.all_eq_true] at ha hb ⊢
  exact ⟨by simp; exact hl, fun c hc => (List.mem_append.1 hc).elim (ha.2 c) (hb.2 c)⟩
theorem okc_flip : ∀ c : UInt8, okc 8 c = true → okc 8 (c ^^^ 32) = true := all_u8 (by decide +kernel)
theorem isw_inv {a : List UInt8} (h : isw a = true) : isw (inv a) = true := by
  simp only [isw, Bool.and_eq_true, decide_eq_true_eq, List.all_eq_true] at h ⊢
  refine ⟨by rw [inv_length]; exact h.1, fun c hc => ?_⟩
  simp only [inv, List.mem_reverse, List.mem_map] at hc
  obtain ⟨d, hd, rfl⟩ := hc
  exact okc_flip d (h.2 d hd)
theorem wInverse_is (w : List UInt8) : isw (wInverse w) = true := by
  unfold wInverse; split
  · rename_i h; exact isw_inv h
  · rfl
theorem wReduce_is (w : List UInt8) : isw (wReduce w) = true := by
  unfold wReduce; split
  · rename_i h; exact isw_sub h red_sub (red_length w)
  · rfl
theorem mkR_ok {i : Nat} {iv : Bool} {core cj : List UInt8} {j : Nat} (h : isw core = true) (hl : core.length ≤ 200) (hc : cj.length ≤ 200) : okR (mkR i iv core cj j) := by
  have h1 : (core.drop j ++ core.take j).length = core.length := by simp; omega
  refine ⟨by show (core.drop j ++ core.take j).length ≤ 200; omega, isw_sub h (fun c hc => ?_) (Nat.le_of_eq h1), wReduce_is _, ?_⟩
  · rcases List.mem_append.1 hc with q | q
    · exact List.mem_of_mem_drop q
    · exact List.mem_of_mem_take q
  · have h2 := wReduce_length (wInverse (core.take j) ++ wInverse cj)
    have h3 := wInverse_length (core.take j)
    have h4 := wInverse_length cj
    rw [List.length_append] at h2
    rw [List.length_take] at h3
    show (wReduce (wInverse (core.take j) ++ wInverse cj)).length ≤ 1000
    omega
theorem addE_all {p : Rot → Prop} {E : List Rot} {x : Rot} (h : ∀ y ∈ E, p y) (hx : p x) : ∀ y ∈ addE E x, p y := by
  unfold addE; split
  · exact h
  · intro y hy
    rcases List.mem_append.1 hy with q | q
    · exact h y q
    · simp at q; rw [q]; exact hx
theorem addJ_all {p : Rot → Prop} {i : Nat} {iv : Bool} {core cj : List UInt8} {E : List Rot} (h : ∀ y ∈ E, p y) : ∀ n, (∀ j, j < n → p (mkR i iv core cj j)) → ∀ y ∈ addJ i iv core cj E n, p y
  | 0, _ => h
  | n + 1, hj => by rw [addJ_succ]; exact addE_all (addJ_all h n fun j q => hj j (by omega)) (hj n (by omega))
theorem addV_ok {i : Nat} {r : List UInt8} {E : List Rot} {iv : Bool} (h : ∀ y ∈ E, okR y) (hr : r.length ≤ 200) : ∀ y ∈ addV i r E iv, okR y := by
  have h1 := wOf_length r iv
  have h2 := wCore_length (wOf r iv)
  have h3 := wConj_length (wOf r iv)
  exact addJ_all h _ fun j _ => mkR_ok (wCore_is _) (by omega) (by omega)
theorem foldl_all {α : Type} {p : Rot → Prop} {f : List Rot → α → List Rot} (h : ∀ E a, (∀ y ∈ E, p y) → ∀ y ∈ f E a, p y) : ∀ (l : List α) (E : List Rot), (∀ y ∈ E, p y) → ∀ y ∈ l.foldl f E, p y
  | [], _, hE => hE
  | a :: l, E, hE => foldl_all h l (f E a) (h E a hE)
theorem getD_le {l : List (List UInt8)} {n : Nat} (h : ∀ r ∈ l, r.length ≤ n) (k : Nat) : (l.getD k []).length ≤ n := by
  by_cases q : k < l.length
  · exact h _ (getD_mem q)
  · rw [List.getD_eq_getElem?_getD, List.getElem?_eq_none (by omega)]; simp
theorem allR_ok {g : Int} {l : List (List UInt8)} (h : pcheck g l = 0) : ∀ x ∈ allR l, okR x := by
  have hz := pcheck_zero h
  refine foldl_all (fun E k hE => ?_) _ _ (fun _ q => by cases q)
  have hk := getD_le (fun r hr => (hz.2.2 r hr).1) k
  exact addV_ok (addV_ok hE hk) hk
end Go.Proofs.YtaccklloepfemaaGreatDoor

namespace Go.Proofs.YtaccklloepfemaaGreatDoor
set_option linter.unusedVariables false
set_option linter.unusedSimpArgs false
open Go Go.RowKit Go.Sort V

theorem cmpl_self : ∀ a : List UInt8, cmpl a a = 0
  | [] => rfl
  | a :: x => by rw [cmpl, if_neg (by omega), if_neg (by omega)]; exact cmpl_self x
theorem cmpl_trans : ∀ a b c : List UInt8, a.length = b.length → b.length = c.length → cmpl a b < 0 → cmpl b c < 0 → cmpl a c < 0
  | [], _, _, _, _, h, _ => by simp [cmpl] at h
  | _ :: _, [], _, h, _, _, _ => by simp at h
  | _ :: _, _ :: _, [], _, h, _, _ => by simp at h
  | a :: x, b :: y, c :: z, h1, h2, h3, h4 => by
    simp only [List.length_cons, Nat.add_right_cancel_iff] at h1 h2
    have ih := cmpl_trans x y z h1 h2
    simp only [cmpl] at h3 h4 ⊢
    split at h3
    · split at h4
      · rw [if_pos (by omega)]; omega
      · split at h4
        · omega
        · rw [if_pos (by omega)]; omega
    · split at h3
      · omega
      · split at h4
        · rw [if_pos (by omega)]; omega
        · split at h4
          · omega
          · rw [if_neg (by omega), if_neg (by omega)]; exact ih h3 h4
theorem cmpl_ntrans : ∀ a b c : List UInt8, a.length = b.length → b.length = c.length → ¬ cmpl a b < 0 → ¬ cmpl b c < 0 → ¬ cmpl a c < 0
  | [], _, _, _, _, _, _ => by simp [cmpl]
  | _ :: _, [], _, h, _, _, _ => by simp at h
  | _ :: _, _ :: _, [], _, h, _, _ => by simp at h
  | a :: x, b :: y, c :: z, h1, h2, h3, h4 => by
    simp only [List.length_cons, Nat.add_right_cancel_iff] at h1 h2
    have ih := cmpl_ntrans x y z h1 h2
    simp only [cmpl] at h3 h4 ⊢
    split at h3
    · omega
    · split at h4
      · omega
      · by_cases q : ix c < ix a
        · rw [if_neg (by omega), if_pos q]; omega
        · rw [if_neg (by omega)] at h3 h4
          rw [if_neg (by omega), if_neg q]; exact ih h3 h4
theorem cmpw_self (a : List UInt8) : cmpw a a = 0 := by rw [cmpw, if_neg (by simp)]; exact cmpl_self a
theorem cmpw_trans {a b c : List UInt8} (h1 : cmpw a b < 0) (h2 : cmpw b c < 0) : cmpw a c < 0 := by
  unfold cmpw at h1 h2 ⊢
  split at h1
  · split at h1
    · split at h2
      · split at h2
        · rw [if_pos (by omega), if_pos (by omega)]; omega
        · omega
      · rw [if_pos (by omega), if_pos (by omega)]; omega
    · omega
  · split at h2
    · split at h2
      · rw [if_pos (by omega), if_pos (by omega)]; omega
      · omega
    · rw [if_neg (by omega)]; exact cmpl_trans a b c (by omega) (by omega) h1 h2
theorem cmpw_ntrans {a b c : List UInt8} (h1 : ¬ cmpw a b < 0) (h2 : ¬ cmpw b c < 0) : ¬ cmpw a c < 0 := by
  unfold cmpw at h1 h2 ⊢
  by_cases q1 : a.length = b.length
  · rw [if_neg (by omega)] at h1
    by_cases q2 : b.length = c.length
    · rw [if_neg (by omega)] at h2
      rw [if_neg (by omega)]; exact cmpl_ntrans a b c q1 q2 h1 h2
    · rw [if_pos q2] at h2
      split at h2
      · omega
      · rw [if_pos (by omega), if_neg (by omega)]; omega
  · rw [if_pos q1] at h1
    split at h1
    · omega
    · by_cases q2 : b.length = c.length
      · rw [if_pos (by omega), if_neg (by omega)]; omega
      · rw [if_pos q2] at h2
        split at h2
        · omega
        · rw [if_pos (by omega), if_neg (by omega)]; omega
abbrev OkRot := {x : Rot // okR x}
instance : Inhabited OkRot := ⟨⟨.zero, by decide, by decide, by decide, by decide⟩⟩
def cmpR (x y : OkRot) : Int := cmpw x.1.w y.1.w
theorem cmpR_swo : SWO (ltOf cmpR) :=
  ⟨fun x => decide_eq_false (by rw [cmpR, cmpw_self]; omega), fun x y z h1 h2 => decide_eq_true (cmpw_trans (of_decide_eq_true h1) (of_decide_eq_true h2)), fun x y z h1 h2 => decide_eq_false (cmpw_ntrans (of_decide_eq_false h1) (of_decide_eq_false h2))⟩
theorem lets_frozen {A0 A : AH} {b n : Nat} (hL : Lets A0) (le : A0.le A) (hb : A0.get b = none) : Lets (A.frozen b n) := by
  obtain ⟨r, c, h⟩ := hL
  have h2 := le.get _ _ h
  have : (A.frozen b n).get 0 = some (.row false (byteCells letters) c) := by
    simp only [AH.frozen]
    rw [if_neg (by rintro rfl; rw [h] at hb; cases hb), h2]; rfl
  exact ⟨_, _, this⟩
theorem cellsOf (d : List OkRot) : (d.flatMap fun x => rcell x.1) = rcells (d.map (·.1)) := by
  simp [rcells, List.flatMap_map]
theorem attach_ok {L : List Rot} (h : ∀ x ∈ L, okR x) : ∃ d : List OkRot, d.map (·.1) = L :=
  ⟨L.pmap (fun x hx => (⟨x, hx⟩ : OkRot)) h, by simp [List.map_pmap]⟩
theorem V.Objs.hideOwn {A B C : AH} {v : Value} {size : Nat} {xs : List Value} (h : Objs A B) (own : Own B v size xs) (le : (B.hide [blk v]).le C) : Objs A C :=
  ⟨Nat.le_trans h.n le.n, fun b o g => le.get _ _ (hide_get (h.get b o g) (nmV (fun q => by
    rcases own with ⟨rfl, _⟩ | ⟨b', n, k, r, rcap, rfl, h2, _⟩
    · cases q
    · cases q; rw [h.get _ _ g] at h2; cases h2) nm0))⟩
end Go.Proofs.YtaccklloepfemaaGreatDoor

namespace Go.Proofs.YtaccklloepfemaaGreatDoor
set_option linter.unusedVariables false
set_option linter.unusedSimpArgs false
open Go Go.RowKit V

theorem ifl_snoc {α : Type} (q : α → Bool) (l : List α) (x : α) : ifl q (l ++ [x]) = if ifl q l < 0 then (if q x = true then ((l.length : Nat) : Int) else -1) else ifl q l := by
  unfold ifl
  rw [List.findIdx?_append]
  cases h : l.findIdx? q with
  | some i => simp; intro h; omega
  | none =>
    by_cases hx : q x = true
    · simp [List.findIdx?_cons, hx]
    · simp [List.findIdx?_cons, hx]
theorem bestOf_snoc (l : List Rot) (x : Rot) (p : List UInt8) : bestOf (l ++ [x]) p = if bestOf l p < 0 then (if p <+: x.w ∧ x.w.length < 2 * p.length then ((l.length : Nat) : Int) else -1) else bestOf l p := by
  unfold bestOf
  rw [ifl_snoc]
  have e : (((p.isPrefixOf x.w && decide (x.w.length < 2 * p.length)) = true) = (p <+: x.w ∧ x.w.length < 2 * p.length)) := by
    rw [Bool.and_eq_true, List.isPrefixOf_iff_prefix, decide_eq_true_eq]
  simp only [e]
theorem bestOf_ge (l : List Rot) (p : List UInt8) : -1 ≤ bestOf l p := (ifl_le _ _).1
theorem bestOf_nil (l : List Rot) : bestOf l [] = -1 := by
  unfold bestOf
  refine ifl_none (d := .zero) fun j hj => ?_
  simp
theorem idxOf_snoc {l : List (List UInt8)} {q : List UInt8} (h : q ∉ l) : (l ++ [q]).idxOf q = l.length := by
  rw [List.idxOf_append, if_neg h]; simp
theorem idxOf_app {l m : List (List UInt8)} {q : List UInt8} (h : q ∈ l) : (l ++ m).idxOf q = l.idxOf q := by
  rw [List.idxOf_append, if_pos h]
theorem idxOf_getD {l : List (List UInt8)} (hn : l.Nodup) {j : Nat} (hj : j < l.length) : l.idxOf (l.getD j []) = j := by
  have hm : l.getD j [] ∈ l := getD_mem hj
  exact nodup_getD (d := []) hn (idxOf_lt hm) hj (getD_idxOf hm)
theorem prefix_succ {x p : List UInt8} {k : Nat} (hk : k < x.length) : p <+: x.take (k + 1) ↔ p <+: x.take k ∨ p = x.take (k + 1) := by
  rw [← take_next hk, List.prefix_concat_iff]
  exact Or.comm

/-- The state of the trie after the words l and k letters of the word x. -/
structure TI (l : List Rot) (x : Rot) (k : Nat) (pf : List (List UInt8)) (bs : List Int) : Prop where
  len : bs.length = pf.length
  nodup : pf.Nodup
  mem : ∀ p, p ∈ pf ↔ p = [] ∨ (∃ y ∈ l, p <+: y.w) ∨ p <+: x.w.take k
  best : ∀ p ∈ pf, bs.getD (pf.idxOf p) 0 = if p <+: x.w.take k then bestOf (l ++ [x]) p else bestOf l p
theorem TI.first (x : Rot) : TI [] x 0 [[]] [-1] := by
  refine ⟨rfl, by simp, fun p => by simp, fun p hp => ?_⟩
  simp at hp; subst hp
  rw [if_pos (by simp), bestOf_nil]; rfl
theorem TI.next {l : List Rot} {x y : Rot} {pf : List (List UInt8)} {bs : List Int} (h : TI l x x.w.length pf bs) : TI (l ++ [x]) y 0 pf bs := by
  have ht := List.take_length (l := x.w)
  refine ⟨h.len, h.nodup, fun p => ?_, fun p hp => ?_⟩
  · rw [h.mem p, ht]
    simp only [List.mem_append, List.mem_singleton, List.take_zero, List.prefix_nil]
    constructor
    · rintro (q | ⟨z, hz, q⟩ | q)
      · exact .inl q
      · exact .inr (.inl ⟨z, .inl hz, q⟩)
      · exact .inr (.inl ⟨x, .inr rfl, q⟩)
    · rintro (q | ⟨z, hz | rfl, q⟩ | q)
      · exact .inl q
      · exact .inr (.inl ⟨z, hz, q⟩)
      · exact .inr (.inr q)
      · exact .inl q
  · rw [h.best p hp, ht]
    by_cases q0 : p = []
    · subst q0
      simp [bestOf_nil]
    · rw [if_neg (c := p <+: y.w.take 0) (by simpa using q0)]
      split
      · rfl
      · rename_i hq
        rw [bestOf_snoc, if_neg (c := p <+: x.w ∧ x.w.length < 2 * p.length) (fun q => hq q.1)]
        have := bestOf_ge l p
        split
        · omega
        · rfl
theorem TI.step {l : List Rot} {x : Rot} {k i : Nat} {pf : List (List UInt8)} {bs : List Int} (h : TI l x k pf bs) (hk : k < x.w.length) (hi : l.length = i) : TI l x (k + 1) (tstep x.w i (pf, bs) k).1 (tstep x.w i (pf, bs) k).2 := by
  subst hi
  -- the node
  have hq1 : ∀ p, p <+: x.w.take (k + 1) ↔ p <+: x.w.take k ∨ p = x.w.take (k + 1) := fun p => prefix_succ hk
  have hlen : (x.w.take (k + 1)).length = k + 1 := by rw [List.length_take]; omega
  have hnp : ¬ x.w.take (k + 1) <+: x.w.take k := fun q => by
    have := q.length_le
    rw [hlen, List.length_take] at this; omega
  generalize hqd : x.w.take (k + 1) = q at hq1 hlen hnp
  obtain ⟨pf1, bs1, e1, l1, n1, m1, b1⟩ : ∃ pf1 bs1, (if q ∈ pf then (pf, bs) else (pf ++ [q], bs ++ [-1])) = (pf1, bs1) ∧ bs1.length = pf1.length ∧ pf1.Nodup ∧ (∀ p, p ∈ pf1 ↔ p ∈ pf ∨ p = q) ∧ ∀ p ∈ pf1, bs1.getD (pf1.idxOf p) 0 = if p <+: x.w.take k then bestOf (l ++ [x]) p else bestOf l p := by
    by_cases hm : q ∈ pf
    · refine ⟨pf, bs, by rw [if_pos hm], h.len, h.nodup, fun p => ⟨.inl, fun r => r.elim id fun r => r ▸ hm⟩, h.best⟩
    · refine ⟨pf ++ [q], bs ++ [-1], by rw [if_neg hm], by simp [h.len], List.nodup_append.2 ⟨h.nodup, by simp, fun a ha b hb => by simp at hb; rw [hb]; exact fun r => hm (r ▸ ha)⟩, fun p => by simp, fun p hp => ?_⟩
      rcases List.mem_append.1 hp with hp | hp
      · have := idxOf_lt hp
        rw [idxOf_app hp, ← h.best p hp, List.getD_eq_getElem?_getD, List.getD_eq_getElem?_getD, List.getElem?_append_left (by rw [h.len]; exact this)]
      · simp at hp; subst hp
        rw [idxOf_snoc hm, ← h.len, if_neg hnp, bestOf_none fun y hy hp => hm ((h.mem _).2 (.inr (.inl ⟨y, hy, hp⟩)))]
        simp
  have hqm : q ∈ pf1 := (m1 q).2 (.inr rfl)
  have hbq := b1 q hqm
  rw [if_neg hnp] at hbq
  have hpx : q <+: x.w := hqd ▸ List.take_prefix _ _
  have mem2 : ∀ p, p ∈ pf1 ↔ p = [] ∨ (∃ y ∈ l, p <+: y.w) ∨ p <+: q := fun p => by
    rw [m1, h.mem, hq1]
    simp only [or_assoc]
  have et : tstep x.w l.length (pf, bs) k = if x.w.length < 2 * (k + 1) ∧ bs1.getD (pf1.idxOf q) 0 < 0 then (pf1, bs1.set (pf1.idxOf q) ((l.length : Nat) : Int)) else (pf1, bs1) := by
    simp only [tstep, hqd, e1]
  have hge := bestOf_ge l q
  rw [et]
  by_cases hc : x.w.length < 2 * (k + 1) ∧ bs1.getD (pf1.idxOf q) 0 < 0
  · rw [if_pos hc]
    have hlt := idxOf_lt hqm
    refine ⟨by simpa using l1, n1, fun p => by rw [hqd]; exact mem2 p, fun p hp => ?_⟩
    rw [hqd]
    by_cases hpq : p = q
    · subst hpq
      rw [if_pos (List.prefix_refl _), bestOf_snoc, if_pos (by omega), if_pos ⟨hpx, by omega⟩, List.getD_eq_getElem?_getD, List.getElem?_set_self (by omega)]; rfl
    · have hne : pf1.idxOf q ≠ pf1.idxOf p := fun r => hpq (by rw [← getD_idxOf hp, ← getD_idxOf hqm, r])
      rw [List.getD_eq_getElem?_getD, List.getElem?_set_ne hne, ← List.getD_eq_getElem?_getD, b1 p hp]
      have : p <+: q ↔ p <+: x.w.take k := by rw [hq1]; exact ⟨fun r => r.elim id fun r => absurd r hpq, .inl⟩
      simp only [this]
  · rw [if_neg hc]
    refine ⟨l1, n1, fun p => by rw [hqd]; exact mem2 p, fun p hp => ?_⟩
    rw [hqd]
    by_cases hpq : p = q
    · subst hpq
      rw [if_pos (List.prefix_refl _), bestOf_snoc, hbq]
      split
      · rw [if_neg fun r => hc ⟨by omega, by omega⟩]; omega
      · rfl
    · rw [b1 p hp]
      have : p <+: q ↔ p <+: x.w.take k := by rw [hq1]; exact ⟨fun r => r.elim id fun r => absurd r hpq, .inl⟩
      simp only [this]
theorem TI.word {l : List Rot} {x : Rot} {i : Nat} {t : List (List UInt8) × List Int} (h : TI l x 0 t.1 t.2) (hi : l.length = i) : ∀ k, k ≤ x.w.length → TI l x k ((List.range k).foldl (tstep x.w i) t).1 ((List.range k).foldl (tstep x.w i) t).2
  | 0, _ => h
  | k + 1, hk => by
    rw [List.range_succ, List.foldl_append]
    exact (TI.word h hi k (by omega)).step (by omega) hi
theorem TI.all {L : List Rot} (y : Rot) : ∀ i, i ≤ L.length → TI (L.take i) y 0 ((List.range i).foldl (tword L) ([[]], [-1])).1 ((List.range i).foldl (tword L) ([[]], [-1])).2
  | 0, _ => TI.first y
  | i + 1, hi => by
    rw [List.range_succ, List.foldl_append]
    have h := TI.word (x := L.getD i .zero) (i := i) (t := (List.range i).foldl (tword L) ([[]], [-1])) (TI.all _ i (by omega)) (by rw [List.length_take]; omega) _ (Nat.le_refl _)
    have e : L.take (i + 1) = L.take i ++ [L.getD i .zero] := by
      rw [List.take_add_one, List.getElem?_eq_getElem (by omega)]; simp [show i < L.length by omega]
    rw [e]
    exact h.next
theorem rs_ok {L : List Rot} {mo : Nat} (hok : ∀ x ∈ L, okR x) (hm : ∀ x ∈ L, x.w.length ≤ mo) (hs : mo ≤ 200) (hl : L.length ≤ 30000) {pf : List (List UInt8)} {bs : List Int} (e : (pf, bs) = tall L) (hr : pf.getD 0 [] = [] ∧ 0 < pf.length) : RSok ⟨L, mo, pf, bs⟩ := by
  have h := TI.all (L := L) .zero L.length (Nat.le_refl _)
  rw [show (List.range L.length).foldl (tword L) ([[]], [-1]) = (pf, bs) from e.symm, List.take_length] at h
  refine ⟨hr, h.nodup, fun p => ?_, fun j hj => ?_, hm, ⟨hs, hl⟩, fun x hx => (hok x hx).2⟩
  · rw [h.mem p]
    simp only [List.take_zero, List.prefix_nil]
    constructor
    · rintro (q | q | q)
      · exact .inl q
      · exact .inr q
      · exact .inl q
    · rintro (q | q)
      · exact .inl q
      · exact .inr (.inl q)
  · have hp : pf.getD j [] ∈ pf := getD_mem hj
    have := h.best _ hp
    rw [idxOf_getD h.nodup hj] at this
    show bs.getD j 0 = bestOf L (pf.getD j [])
    rw [this]
    split
    · rename_i hq
      have : pf.getD j [] = [] := by simpa using hq
      rw [this, bestOf_nil, bestOf_nil]
    · rfl

/-! ### What the walk needs -/
structure PC (pf : List (List UInt8)) : Prop where
  root : pf.getD 0 [] = [] ∧ 0 < pf.length
  cl : ∀ q c, q ++ [c] ∈ pf → q ∈ pf
theorem PC.first : PC [[]] := ⟨by simp, fun q c h => by simp at h⟩
theorem PC.idx0 {pf : List (List UInt8)} (h : PC pf) : pf.idxOf [] = 0 := by
  obtain ⟨h1, h2⟩ := h.root
  cases pf with
  | nil => simp at h2
  | cons a t => have : a = [] := h1; subst this; simp
theorem PC.mem0 {pf : List (List UInt8)} (h : PC pf) : [] ∈ pf := by
  obtain ⟨h1, h2⟩ := h.root
  rw [← h1]; exact getD_mem h2
theorem PC.snoc {pf : List (List UInt8)} {q : List UInt8} {c : UInt8} (h : PC pf) (hq : q ∈ pf) : PC (pf ++ [q ++ [c]]) := by
  refine ⟨⟨?_, by simp⟩, fun p d hp => ?_⟩
  · have := h.root.2
    rw [List.getD_eq_getElem?_getD, List.getElem?_append_left this, ← List.getD_eq_getElem?_getD]; exact h.root.1
  · rcases List.mem_append.1 hp with hp | hp
    · exact List.mem_append_left _ (h.cl p d hp)
    · simp only [List.mem_singleton] at hp
      have := (List.append_inj' hp rfl).1
      rw [this]; exact List.mem_append_left _ hq
theorem zip_fst {bl : List Nat} {bs : List Int} {j : Nat} (h : bl.length = bs.length) (hj : j < bl.length) : ((bl.zip bs).getD j (0, 0)).1 = bl.getD j 0 := by
  have hz : j < (bl.zip bs).length := by simp; omega
  rw [List.getD_eq_getElem?_getD, List.getElem?_eq_getElem hz, Option.getD_some, List.getElem_zip, List.getD_eq_getElem?_getD, List.getElem?_eq_getElem hj, Option.getD_some]
theorem zip_snd {bl : List Nat} {bs : List Int} {j : Nat} (h : bl.length = bs.length) (hj : j < bl.length) : ((bl.zip bs).getD j (0, 0)).2 = bs.getD j 0 := by
  have hz : j < (bl.zip bs).length := by simp; omega
  have h2 : j < bs.length := by omega
  rw [List.getD_eq_getElem?_getD, List.getElem?_eq_getElem hz, Option.getD_some, List.getElem_zip, List.getD_eq_getElem?_getD, List.getElem?_eq_getElem h2, Option.getD_some]
theorem zip_snoc {bl : List Nat} {bs : List Int} {b : Nat} {z : Int} (h : bl.length = bs.length) : bl.zip bs ++ [(b, z)] = (bl ++ [b]).zip (bs ++ [z]) := by
  rw [List.zip_append h]; rfl
theorem ncells_set {bl : List Nat} {bs : List Int} {j : Nat} {z : Int} (h : bl.length = bs.length) (hj : j < bl.length) : (ncells (bl.zip bs)).set (j * 2 + 1) (num z) = ncells (bl.zip (bs.set j z)) := by
  induction bl generalizing bs j with
  | nil => simp at hj
  | cons a bl ih =>
    cases bs with
    | nil => simp at h
    | cons y bs =>
      cases j with
      | zero => rfl
      | succ j =>
        have := ih (bs := bs) (j := j) (by simpa using h) (by simpa using hj)
        simp only [List.zip_cons_cons, List.set_cons_succ, ncells, List.flatMap_cons, ncell] at this ⊢
        rw [show (j + 1) * 2 + 1 = (j * 2 + 1) + 1 + 1 by omega]
        simp only [List.cons_append, List.nil_append, List.set_cons_succ]
        rw [this]
theorem tstep_set {x : List UInt8} {i k j : Nat} {pf pfX : List (List UInt8)} {bs bsX : List Int} (h1 : (if x.take (k + 1) ∈ pf then (pf, bs) else (pf ++ [x.take (k + 1)], bs ++ [-1])) = (pfX, bsX)) (hj : j = pfX.idxOf (x.take (k + 1))) (hc : x.length < 2 * (k + 1) ∧ bsX.getD j 0 < 0) : (pfX, bsX.set j ((i : Nat) : Int)) = tstep x i (pf, bs) k := by
  subst hj; simp only [tstep, h1]; rw [if_pos hc]
theorem tstep_not {x : List UInt8} {i k j : Nat} {pf pfX : List (List UInt8)} {bs bsX : List Int} (h1 : (if x.take (k + 1) ∈ pf then (pf, bs) else (pf ++ [x.take (k + 1)], bs ++ [-1])) = (pfX, bsX)) (hj : j = pfX.idxOf (x.take (k + 1))) (hc : ¬ (x.length < 2 * (k + 1) ∧ bsX.getD j 0 < 0)) : (pfX, bsX) = tstep x i (pf, bs) k := by
  subst hj; simp only [tstep, h1]; rw [if_neg hc]
theorem fold_snoc {t t0 : List (List UInt8) × List Int} {x : List UInt8} {i k : Nat} {u : List (List UInt8) × List Int} (h : t = (List.range k).foldl (tstep x i) t0) (e : u = tstep x i t k) : u = (List.range (k + 1)).foldl (tstep x i) t0 := by
  rw [List.range_succ, List.foldl_append, ← h]; exact e
section
variable {A0 A B : AH} {pf : List (List UInt8)} {bl : List Nat}
theorem Trie.notin (h : Trie A0 A pf bl) (wf : A.wf) {b : Nat} (hb : A.n ≤ b) : b ∉ bl := fun q => by
  obtain ⟨j, hj, rfl⟩ := List.getElem_of_mem q
  obtain ⟨es, k, g, _⟩ := h.2.2.2.2 j (by rw [← h.1]; exact hj)
  have e : bl.getD j 0 = bl[j] := by simp [hj]
  rw [e] at g
  have : bl[j] < A.n := wf _ _ g
  omega
theorem Trie.first {b : Nat} (g : A.get b = some (.obj true (.map #[] 0))) (h0 : A0.get b = none) : Trie A0 A [[]] [b] :=
  ⟨rfl, by simp, by simp, fun x hx => by simp at hx; rw [hx]; exact h0, fun j hj => by
    have : j = 0 := by simpa using hj
    subst this
    exact ⟨#[], 0, g, [], rfl, fun c => by simp⟩⟩
theorem V.Own.ne_obj {v : Value} {size : Nat} {xs : List Value} {b : Nat} {o : Obj} (own : Own A v size xs) (g : A.get b = some (.obj true o)) : blk v ≠ some b := fun q => by
  rcases own with ⟨rfl, _⟩ | ⟨b', n, k, r, rcap, rfl, h2, _⟩
  · cases q
  · cases q; rw [g] at h2; cases h2
theorem ne_rowobj {b k cap : Nat} {rw : Bool} {c : List Value} {o : Obj} (h : A.get k = some (.row rw c cap)) (g : A.get b = some (.obj true o)) : k ≠ b := by
  rintro rfl; rw [h] at g; cases g
end
section
variable {P : Program} {e : Env} {A0 A : AH} {x y : Operand} {ty tt : TypeId} {ps : String} {af : Array Edge} {dst : Option Nat} {K : Value → AH → Prop} {Kp : List PanicEntry → AH → Prop} {g : Option (Nat × Bool)}
/-- A cell of an element of a slice of the call's own is written. -/
theorem wstoreOwn {v w : Value} {size b f n k i j : Nat} {xs : List Value} (own : Fresh A0 A v size xs) (ev : v = .slice (some ⟨b, f, none⟩) n k) (hi : i < n) (hj : j < size) (wf : A.wf) (hx : opd e x = some (.pointer (some ⟨b, f + i * size + j, none⟩))) (hy : opd e y = some w) (hw : w.cells = #[w]) (hs : szOf P tt = some 1) (h1 : oneL [w] = true)
    (h : ∀ A1 (r : List Value) rc, A.get b = some (.row true r rc) → SetB A A1 b (.row true (r.set (i * size + j) w) rc) → Fresh A0 A1 v size (xs.set (i * size + j) w) → K undef A1) : opV P e A { dst := dst, op := .store tt x y, type := ty, pos := ps, after := af, guard := g } K Kp := by
  subst ev
  obtain ⟨r, rc, hg, hr, hl⟩ : ∃ r rc, A.get b = some (.row true r rc) ∧ f = 0 ∧ n * size ≤ r.length := by
    rcases own.own with ⟨q, _⟩ | ⟨b', n', k', r, rcap, q, h2, h3, h4, h5, h6⟩
    · cases q
    · cases q; exact ⟨r, rcap, h2, rfl, by rw [← h4, List.length_take] at h3; omega⟩
  subst hr
  have hlt : i * size + j + 1 ≤ r.length := by
    have : (i + 1) * size ≤ n * size := Nat.mul_le_mul_right _ hi
    rw [Nat.add_mul] at this; omega
  refine wstore (cs := [w]) (c := r) (off := i * size + j) wf hx (by simp) hy hw hs hg hlt h1 rfl fun A1 sb => ?_
  exact h A1 r rc hg sb (own.setc hg sb)
end
theorem getD_app {α : Type} {l m : List α} {j : Nat} {d : α} (h : j < l.length) : (l ++ m).getD j d = l.getD j d := by
  rw [List.getD_eq_getElem?_getD, List.getElem?_append_left h, ← List.getD_eq_getElem?_getD]
theorem Rules.make {A B W : AH} {b cap mo : Nat} {lv nv : Value} {L : List Rot} {pf : List (List UInt8)} {bs : List Int} {bl : List Nat} (hW : ∀ b o, A.get b = none → o ≠ .obj true (.deferred (some [])) → B.get b = some o → W.get b = some o)
    (g : B.get b = some (.row true [lv, nv, num ((mo : Nat) : Int)] cap)) (no : A.get b = none) (f1 : Fresh A B lv 4 (rcells L)) (f2 : Fresh A B nv 2 (ncells (bl.zip bs))) (ht : Trie A B pf bl) (hl : bs.length = pf.length) : Rules W b ⟨L, mo, pf, bs⟩ := by
  have own : ∀ {v : Value} {size : Nat} {xs : List Value}, Fresh A B v size xs → Slc W size v xs := fun {v size xs} f => by
    refine Own.slc ?_
    rcases f.own with h | ⟨b', n, k, r, rcap, rfl, h2, h3⟩
    · exact .inl h
    · exact .inr ⟨b', n, k, r, rcap, rfl, hW _ _ (f.lo b' rfl) (fun q => by cases q) h2, h3⟩
  refine ⟨true, cap, lv, nv, bl, hW _ _ no (fun q => by cases q) g, own f1, own f2, ht.1, hl, fun j hj => ?_⟩
  obtain ⟨es, k, g1, g2⟩ := ht.2.2.2.2 j hj
  exact ⟨true, es, k, hW _ _ (ht.2.2.2.1 _ (getD_lt_mem (by rw [ht.1]; exact hj))) (fun q => by cases q) g1, g2⟩
/-- The rules stand in every view that lets go only what was there before. -/
theorem Rules.leave {A B A' : AH} {b cap mo : Nat} {lv nv : Value} {L : List Rot} {pf : List (List UInt8)} {bs : List Int} {bl Ds : List Nat} (hd : Defs A B Ds) (hk : ∀ b o, b ∉ Ds → B.get b = some o → A'.get b = some o)
    (g : B.get b = some (.row true [lv, nv, num ((mo : Nat) : Int)] cap)) (no : A.get b = none) (f1 : Fresh A B lv 4 (rcells L)) (f2 : Fresh A B nv 2 (ncells (bl.zip bs))) (ht : Trie A B pf bl) (hl : bs.length = pf.length) :
    ∀ hs, (∀ b, some b ∈ hs → ∃ o, A.get b = some o) → Rules (A'.hide hs) b ⟨L, mo, pf, bs⟩ := fun hs hhs =>
  Rules.make (fun b o h0 hne h => hide_get (hk b o (hd.out h hne) h) fun q => by
    obtain ⟨o', ho⟩ := hhs b q
    rw [h0] at ho; cases ho) g no f1 f2 ht hl
theorem Rules.all {A A' : AH} {br : Nat} {S : RS} (h : ∀ hs, (∀ b, some b ∈ hs → ∃ o, A.get b = some o) → Rules (A'.hide hs) br S) : Rules A' br S :=
  (h [] fun _ q => by cases q).le (hide_le _ _)
end Go.Proofs.YtaccklloepfemaaGreatDoor
