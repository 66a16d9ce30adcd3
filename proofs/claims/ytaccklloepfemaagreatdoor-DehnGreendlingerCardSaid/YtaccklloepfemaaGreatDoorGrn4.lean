/- A part of the proof: what the last text needs of the library, the laws and the walks. -/
import Derived.Test.YtaccklloepfemaaGreatDoorGrn3
import Derived.Shelf.SlGeneric
import Derived.Shelf.SlLaysF0
import Derived.Shelf.Lays
import Derived.Ground.SlsfProg
import Derived.Ground.NamesProg
import Derived.Test.YtaccklloepfemaaGreatDoorProg
namespace Go.Proofs.YtaccklloepfemaaGreatDoor
set_option linter.unusedVariables false
set_option linter.unusedSimpArgs false
open Go Go.RowKit V

theorem isw_sub {a b : List UInt8} (h : isw b = true) (hs : ∀ c ∈ a, c ∈ b) (hl : a.length ≤ b.length) : isw a = true := by
  simp only [isw, Bool.and_eq_true, decide_eq_true_eq, List.all_eq_true] at h ⊢
  exact ⟨by omega, fun c hc => h.2 c (hs c hc)⟩
theorem isw_app {a b : List UInt8} (ha : isw a = true) (hb : isw b = true) (hl : a.length + b.length ≤ 100000) : isw (a ++ b) = true := by
  simp only [isw, Bool.and_eq_true, decide_eq_true_eq, List.all_eq_true] at ha hb ⊢
  exact ⟨by simp; exact hl, fun c hc => (List.mem_append.1 hc).elim (ha.2 c) (hb.2 c)⟩
theorem okc_flip : ∀ c : UInt8, okc 8 c = true → okc 8 (c ^^^ 32) = true := all_u8 (by decide +kernel)
theorem isw_inv {a : List UInt8} (h : isw a = true) : isw (inv a) = true := by
  simp only [isw, Bool.and_eq_true, decide_eq_true_eq, List.all_eq_true] at h ⊢
  refine ⟨by rw [inv_length]; exact h.1, fun c hc => ?_⟩
  simp only [inv, List.mem_reverse, List.mem_map] at hc
  obtain ⟨d, hd, rfl⟩ := hc
  exact okc_flip d (h.2 d hd)
theorem wInverse_is (w : List UInt8) : isw (wInverse w) = true := by
  unfold wInverse; split
  · rename_i h; exact isw_inv h
  · rfl
theorem wReduce_is (w : List UInt8) : isw (wReduce w) = true := by
  unfold wReduce; split
  · rename_i h; exact isw_sub h red_sub (red_length w)
  · rfl
theorem mkR_ok {i : Nat} {iv : Bool} {core cj : List UInt8} {j : Nat} (h : isw core = true) (hl : core.length ≤ 200) (hc : cj.length ≤ 200) : okR (mkR i iv core cj j) := by
  have h1 : (core.drop j ++ core.take j).length = core.length := by simp; omega
  refine ⟨by show (core.drop j ++ core.take j).length ≤ 200; omega, isw_sub h (fun c hc => ?_) (Nat.le_of_eq h1), wReduce_is _, ?_⟩
  · rcases List.mem_append.1 hc with q | q
    · exact List.mem_of_mem_drop q
    · exact List.mem_of_mem_take q
  · have h2 := wReduce_length (wInverse (core.take j) ++ wInverse cj)
    have h3 := wInverse_length (core.take j)
    have h4 := wInverse_length cj
    rw [List.length_append] at h2
    rw [List.length_take] at h3
    show (wReduce (wInverse (core.take j) ++ wInverse cj)).length ≤ 1000
    omega
theorem addE_all {p : Rot → Prop} {E : List Rot} {x : Rot} (h : ∀ y ∈ E, p y) (hx : p x) : ∀ y ∈ addE E x, p y := by
  unfold addE; split
  · exact h
  · intro y hy
    rcases List.mem_append.1 hy with q | q
    · exact h y q
    · simp at q; rw [q]; exact hx
theorem addJ_all {p : Rot → Prop} {i : Nat} {iv : Bool} {core cj : List UInt8} {E : List Rot} (h : ∀ y ∈ E, p y) : ∀ n, (∀ j, j < n → p (mkR i iv core cj j)) → ∀ y ∈ addJ i iv core cj E n, p y
  | 0, _ => h
  | n + 1, hj => by rw [addJ_succ]; exact addE_all (addJ_all h n fun j q => hj j (by omega)) (hj n (by omega))
theorem addV_ok {i : Nat} {r : List UInt8} {E : List Rot} {iv : Bool} (h : ∀ y ∈ E, okR y) (hr : r.length ≤ 200) : ∀ y ∈ addV i r E iv, okR y := by
  have h1 := wOf_length r iv
  have h2 := wCore_length (wOf r iv)
  have h3 := wConj_length (wOf r iv)
  exact addJ_all h _ fun j _ => mkR_ok (wCore_is _) (by omega) (by omega)
theorem foldl_all {α : Type} {p : Rot → Prop} {f : List Rot → α → List Rot} (h : ∀ E a, (∀ y ∈ E, p y) → ∀ y ∈ f E a, p y) : ∀ (l : List α) (E : List Rot), (∀ y ∈ E, p y) → ∀ y ∈ l.foldl f E, p y
  | [], _, hE => hE
  | a :: l, E, hE => foldl_all h l (f E a) (h E a hE)
theorem getD_le {l : List (List UInt8)} {n : Nat} (h : ∀ r ∈ l, r.length ≤ n) (k : Nat) : (l.getD k []).length ≤ n := by
  by_cases q : k < l.length
  · exact h _ (getD_mem q)
  · rw [List.getD_eq_getElem?_getD, List.getElem?_eq_none (by omega)]; simp
theorem allR_ok {g : Int} {l : List (List UInt8)} (h : pcheck g l = 0) : ∀ x ∈ allR l, okR x := by
  have hz := pcheck_zero h
  refine foldl_all (fun E k hE => ?_) _ _ (fun _ q => by cases q)
  have hk := getD_le (fun r hr => (hz.2.2 r hr).1) k
  exact addV_ok (addV_ok hE hk) hk
end Go.Proofs.YtaccklloepfemaaGreatDoor

namespace Go.Proofs.YtaccklloepfemaaGreatDoor
set_option linter.unusedVariables false
set_option linter.unusedSimpArgs false
open Go Go.RowKit Go.Sort V

theorem cmpl_self : ∀ a : List UInt8, cmpl a a = 0
  | [] => rfl
  | a :: x => by rw [cmpl, if_neg (by omega), if_neg (by omega)]; exact cmpl_self x
theorem cmpl_trans : ∀ a b c : List UInt8, a.length = b.length → b.length = c.length → cmpl a b < 0 → cmpl b c < 0 → cmpl a c < 0
  | [], _, _, _, _, h, _ => by simp [cmpl] at h
  | _ :: _, [], _, h, _, _, _ => by simp at h
  | _ :: _, _ :: _, [], _, h, _, _ => by simp at h
  | a :: x, b :: y, c :: z, h1, h2, h3, h4 => by
    simp only [List.length_cons, Nat.add_right_cancel_iff] at h1 h2
    have ih := cmpl_trans x y z h1 h2
    simp only [cmpl] at h3 h4 ⊢
    split at h3
    · split at h4
      · rw [if_pos (by omega)]; omega
      · split at h4
        · omega
        · rw [if_pos (by omega)]; omega
    · split at h3
      · omega
      · split at h4
        · rw [if_pos (by omega)]; omega
        · split at h4
          · omega
          · rw [if_neg (by omega), if_neg (by omega)]; exact ih h3 h4
theorem cmpl_ntrans : ∀ a b c : List UInt8, a.length = b.length → b.length = c.length → ¬ cmpl a b < 0 → ¬ cmpl b c < 0 → ¬ cmpl a c < 0
  | [], _, _, _, _, _, _ => by simp [cmpl]
  | _ :: _, [], _, h, _, _, _ => by simp at h
  | _ :: _, _ :: _, [], _, h, _, _ => by simp at h
  | a :: x, b :: y, c :: z, h1, h2, h3, h4 => by
    simp only [List.length_cons, Nat.add_right_cancel_iff] at h1 h2
    have ih := cmpl_ntrans x y z h1 h2
    simp only [cmpl] at h3 h4 ⊢
    split at h3
    · omega
    · split at h4
      · omega
      · by_cases q : ix c < ix a
        · rw [if_neg (by omega), if_pos q]; omega
        · rw [if_neg (by omega)] at h3 h4
          rw [if_neg (by omega), if_neg q]; exact ih h3 h4
theorem cmpw_self (a : List UInt8) : cmpw a a = 0 := by rw [cmpw, if_neg (by simp)]; exact cmpl_self a
theorem cmpw_trans {a b c : List UInt8} (h1 : cmpw a b < 0) (h2 : cmpw b c < 0) : cmpw a c < 0 := by
  unfold cmpw at h1 h2 ⊢
  split at h1
  · split at h1
    · split at h2
      · split at h2
        · rw [if_pos (by omega), if_pos (by omega)]; omega
        · omega
      · rw [if_pos (by omega), if_pos (by omega)]; omega
    · omega
  · split at h2
    · split at h2
      · rw [if_pos (by omega), if_pos (by omega)]; omega
      · omega
    · rw [if_neg (by omega)]; exact cmpl_trans a b c (by omega) (by omega) h1 h2
theorem cmpw_ntrans {a b c : List UInt8} (h1 : ¬ cmpw a b < 0) (h2 : ¬ cmpw b c < 0) : ¬ cmpw a c < 0 := by
  unfold cmpw at h1 h2 ⊢
  by_cases q1 : a.length = b.length
  · rw [if_neg (by omega)] at h1
    by_cases q2 : b.length = c.length
    · rw [if_neg (by omega)] at h2
      rw [if_neg (by omega)]; exact cmpl_ntrans a b c q1 q2 h1 h2
    · rw [if_pos q2] at h2
      split at h2
      · omega
      · rw [if_pos (by omega), if_neg (by omega)]; omega
  · rw [if_pos q1] at h1
    split at h1
    · omega
    · by_cases q2 : b.length = c.length
      · rw [if_pos (by omega), if_neg (by omega)]; omega
      · rw [if_pos q2] at h2
        split at h2
        · omega
        · rw [if_pos (by omega), if_neg (by omega)]; omega
abbrev OkRot := {x : Rot // okR x}
instance : Inhabited OkRot := ⟨⟨.zero, by decide, by decide, by decide, by decide⟩⟩
def cmpR (x y : OkRot) : Int := cmpw x.1.w y.1.w
theorem cmpR_swo : SWO (ltOf cmpR) :=
  ⟨fun x => decide_eq_false (by rw [cmpR, cmpw_self]; omega), fun x y z h1 h2 => decide_eq_true (cmpw_trans (of_decide_eq_true h1) (of_decide_eq_true h2)), fun x y z h1 h2 => decide_eq_false (cmpw_ntrans (of_decide_eq_false h1) (of_decide_eq_false h2))⟩
theorem lets_frozen {A0 A : AH} {b n : Nat} (hL : Lets A0) (le : A0.le A) (hb : A0.get b = none) : Lets (A.frozen b n) := by
  obtain ⟨r, c, h⟩ := hL
  have h2 := le.get _ _ h
  have : (A.frozen b n).get 0 = some (.row false (byteCells letters) c) := by
    simp only [AH.frozen]
    rw [if_neg (by rintro rfl; rw [h] at hb; cases hb), h2]; rfl
  exact ⟨_, _, this⟩
theorem cellsOf (d : List OkRot) : (d.flatMap fun x => rcell x.1) = rcells (d.map (·.1)) := by
  simp [rcells, List.flatMap_map]
theorem attach_ok {L : List Rot} (h : ∀ x ∈ L, okR x) : ∃ d : List OkRot, d.map (·.1) = L :=
  ⟨L.pmap (fun x hx => (⟨x, hx⟩ : OkRot)) h, by simp [List.map_pmap]⟩
theorem V.Objs.hideOwn {A B C : AH} {v : Value} {size : Nat} {xs : List Value} (h : Objs A B) (own : Own B v size xs) (le : (B.hide [blk v]).le C) : Objs A C :=
  ⟨Nat.le_trans h.n le.n, fun b o g => le.get _ _ (hide_get (h.get b o g) (nmV (fun q => by
    rcases own with ⟨rfl, _⟩ | ⟨b', n, k, r, rcap, rfl, h2, _⟩
    · cases q
    · cases q; rw [h.get _ _ g] at h2; cases h2) nm0))⟩
end Go.Proofs.YtaccklloepfemaaGreatDoor

namespace Go.Proofs.YtaccklloepfemaaGreatDoor
set_option linter.unusedVariables false
set_option linter.unusedSimpArgs false
open Go Go.RowKit V

theorem ifl_snoc {α : Type} (q : α → Bool) (l : List α) (x : α) : ifl q (l ++ [x]) = if ifl q l < 0 then (if q x = true then ((l.length : Nat) : Int) else -1) else ifl q l := by
  unfold ifl
  rw [List.findIdx?_append]
  cases h : l.findIdx? q with
  | some i => simp; intro h; omega
  | none =>
    by_cases hx : q x = true
    · simp [List.findIdx?_cons, hx]
    · simp [List.findIdx?_cons, hx]
theorem bestOf_snoc (l : List Rot) (x : Rot) (p : List UInt8) : bestOf (l ++ [x]) p = if bestOf l p < 0 then (if p <+: x.w ∧ x.w.length < 2 * p.length then ((l.length : Nat) : Int) else -1) else bestOf l p := by
  unfold bestOf
  rw [ifl_snoc]
  have e : (((p.isPrefixOf x.w && decide (x.w.length < 2 * p.length)) = true) = (p <+: x.w ∧ x.w.length < 2 * p.length)) := by
    rw [Bool.and_eq_true, List.isPrefixOf_iff_prefix, decide_eq_true_eq]
  simp only [e]
theorem bestOf_ge (l : List Rot) (p : List UInt8) : -1 ≤ bestOf l p := (ifl_le _ _).1
theorem bestOf_nil (l : List Rot) : bestOf l [] = -1 := by
  unfold bestOf
  refine ifl_none (d := .zero) fun j hj => ?_
  simp
theorem idxOf_snoc {l : List (List UInt8)} {q : List UInt8} (h : q ∉ l) : (l ++ [q]).idxOf q = l.length := by
  rw [List.idxOf_append, if_neg h]; simp
theorem idxOf_app {l m : List (List UInt8)} {q : List UInt8} (h : q ∈ l) : (l ++ m).idxOf q = l.idxOf q := by
  rw [List.idxOf_append, if_pos h]
theorem idxOf_getD {l : List (List UInt8)} (hn : l.Nodup) {j : Nat} (hj : j < l.length) : l.idxOf (l.getD j []) = j := by
  have hm : l.getD j [] ∈ l := getD_mem hj
  exact nodup_getD (d := []) hn (idxOf_lt hm) hj (getD_idxOf hm)
theorem prefix_succ {x p : List UInt8} {k : Nat} (hk : k < x.length) : p <+: x.take (k + 1) ↔ p <+: x.take k ∨ p = x.take (k + 1) := by
  rw [← take_next hk, List.prefix_concat_iff]
  exact Or.comm

/-- The state of the trie after the words l and k letters of the word x. -/
structure TI (l : List Rot) (x : Rot) (k : Nat) (pf : List (List UInt8)) (bs : List Int) : Prop where
  len : bs.length = pf.length
  nodup : pf.Nodup
  mem : ∀ p, p ∈ pf ↔ p = [] ∨ (∃ y ∈ l, p <+: y.w) ∨ p <+: x.w.take k
  best : ∀ p ∈ pf, bs.getD (pf.idxOf p) 0 = if p <+: x.w.take k then bestOf (l ++ [x]) p else bestOf l p
theorem TI.first (x : Rot) : TI [] x 0 [[]] [-1] := by
  refine ⟨rfl, by simp, fun p => by simp, fun p hp => ?_⟩
  simp at hp; subst hp
  rw [if_pos (by simp), bestOf_nil]; rfl
theorem TI.next {l : List Rot} {x y : Rot} {pf : List (List UInt8)} {bs : List Int} (h : TI l x x.w.length pf bs) : TI (l ++ [x]) y 0 pf bs := by
  have ht := List.take_length (l := x.w)
  refine ⟨h.len, h.nodup, fun p => ?_, fun p hp => ?_⟩
  · rw [h.mem p, ht]
    simp only [List.mem_append, List.mem_singleton, List.take_zero, List.prefix_nil]
    constructor
    · rintro (q | ⟨z, hz, q⟩ | q)
      · exact .inl q
      · exact .inr (.inl ⟨z, .inl hz, q⟩)
      · exact .inr (.inl ⟨x, .inr rfl, q⟩)
    · rintro (q | ⟨z, hz | rfl, q⟩ | q)
      · exact .inl q
      · exact .inr (.inl ⟨z, hz, q⟩)
      · exact .inr (.inr q)
      · exact .inl q
  · rw [h.best p hp, ht]
    by_cases q0 : p = []
    · subst q0
      simp [bestOf_nil]
    · rw [if_neg (c := p <+: y.w.take 0) (by simpa using q0)]
      split
      · rfl
      · rename_i hq
        rw [bestOf_snoc, if_neg (c := p <+: x.w ∧ x.w.length < 2 * p.length) (fun q => hq q.1)]
        have := bestOf_ge l p
        split
        · omega
        · rfl
theorem TI.step {l : List Rot} {x : Rot} {k i : Nat} {pf : List (List UInt8)} {bs : List Int} (h : TI l x k pf bs) (hk : k < x.w.length) (hi : l.length = i) : TI l x (k + 1) (tstep x.w i (pf, bs) k).1 (tstep x.w i (pf, bs) k).2 := by
  subst hi
  -- the node
  have hq1 : ∀ p, p <+: x.w.take (k + 1) ↔ p <+: x.w.take k ∨ p = x.w.take (k + 1) := fun p => prefix_succ hk
  have hlen : (x.w.take (k + 1)).length = k + 1 := by rw [List.length_take]; omega
  have hnp : ¬ x.w.take (k + 1) <+: x.w.take k := fun q => by
    have := q.length_le
    rw [hlen, List.length_take] at this; omega
  generalize hqd : x.w.take (k + 1) = q at hq1 hlen hnp
  obtain ⟨pf1, bs1, e1, l1, n1, m1, b1⟩ : ∃ pf1 bs1, (if q ∈ pf then (pf, bs) else (pf ++ [q], bs ++ [-1])) = (pf1, bs1) ∧ bs1.length = pf1.length ∧ pf1.Nodup ∧ (∀ p, p ∈ pf1 ↔ p ∈ pf ∨ p = q) ∧ ∀ p ∈ pf1, bs1.getD (pf1.idxOf p) 0 = if p <+: x.w.take k then bestOf (l ++ [x]) p else bestOf l p := by
    by_cases hm : q ∈ pf
    · refine ⟨pf, bs, by rw [if_pos hm], h.len, h.nodup, fun p => ⟨.inl, fun r => r.elim id fun r => r ▸ hm⟩, h.best⟩
    · refine ⟨pf ++ [q], bs ++ [-1], by rw [if_neg hm], by simp [h.len], List.nodup_append.2 ⟨h.nodup, by simp, fun a ha b hb => by simp at hb; rw [hb]; exact fun r => hm (r ▸ ha)⟩, fun p => by simp, fun p hp => ?_⟩
      rcases List.mem_append.1 hp with hp | hp
      · have := idxOf_lt hp
        rw [idxOf_app hp, ← h.best p hp, List.getD_eq_getElem?_getD, List.getD_eq_getElem?_getD, List.getElem?_append_left (by rw [h.len]; exact this)]
      · simp at hp; subst hp
        rw [idxOf_snoc hm, ← h.len, if_neg hnp, bestOf_none fun y hy hp => hm ((h.mem _).2 (.inr (.inl ⟨y, hy, hp⟩)))]
        simp
  have hqm : q ∈ pf1 := (m1 q).2 (.inr rfl)
  have hbq := b1 q hqm
  rw [if_neg hnp] at hbq
  have hpx : q <+: x.w := hqd ▸ List.take_prefix _ _
  have mem2 : ∀ p, p ∈ pf1 ↔ p = [] ∨ (∃ y ∈ l, p <+: y.w) ∨ p <+: q := fun p => by
    rw [m1, h.mem, hq1]
    simp only [or_assoc]
  have et : tstep x.w l.length (pf, bs) k = if x.w.length < 2 * (k + 1) ∧ bs1.getD (pf1.idxOf q) 0 < 0 then (pf1, bs1.set (pf1.idxOf q) ((l.length : Nat) : Int)) else (pf1, bs1) := by
    simp only [tstep, hqd, e1]
  have hge := bestOf_ge l q
  rw [et]
  by_cases hc : x.w.length < 2 * (k + 1) ∧ bs1.getD (pf1.idxOf q) 0 < 0
  · rw [if_pos hc]
    have hlt := idxOf_lt hqm
    refine ⟨by simpa using l1, n1, fun p => by rw [hqd]; exact mem2 p, fun p hp => ?_⟩
    rw [hqd]
    by_cases hpq : p = q
    · subst hpq
      rw [if_pos (List.prefix_refl _), bestOf_snoc, if_pos (by omega), if_pos ⟨hpx, by omega⟩, List.getD_eq_getElem?_getD, List.getElem?_set_self (by omega)]; rfl
    · have hne : pf1.idxOf q ≠ pf1.idxOf p := fun r => hpq (by rw [← getD_idxOf hp, ← getD_idxOf hqm, r])
      rw [List.getD_eq_getElem?_getD, List.getElem?_set_ne hne, ← List.getD_eq_getElem?_getD, b1 p hp]
      have : p <+: q ↔ p <+: x.w.take k := by rw [hq1]; exact ⟨fun r => r.elim id fun r => absurd r hpq, .inl⟩
      simp only [this]
  · rw [if_neg hc]
    refine ⟨l1, n1, fun p => by rw [hqd]; exact mem2 p, fun p hp => ?_⟩
    rw [hqd]
    by_cases hpq : p = q
    · subst hpq
      rw [if_pos (List.prefix_refl _), bestOf_snoc, hbq]
      split
      · rw [if_neg fun r => hc ⟨by omega, by omega⟩]; omega
      · rfl
    · rw [b1 p hp]
      have : p <+: q ↔ p <+: x.w.take k := by rw [hq1]; exact ⟨fun r => r.elim id fun r => absurd r hpq, .inl⟩
      simp only [this]
theorem TI.word {l : List Rot} {x : Rot} {i : Nat} {t : List (List UInt8) × List Int} (h : TI l x 0 t.1 t.2) (hi : l.length = i) : ∀ k, k ≤ x.w.length → TI l x k ((List.range k).foldl (tstep x.w i) t).1 ((List.range k).foldl (tstep x.w i) t).2
  | 0, _ => h
  | k + 1, hk => by
    rw [List.range_succ, List.foldl_append]
    exact (TI.word h hi k (by omega)).step (by omega) hi
theorem TI.all {L : List Rot} (y : Rot) : ∀ i, i ≤ L.length → TI (L.take i) y 0 ((List.range i).foldl (tword L) ([[]], [-1])).1 ((List.range i).foldl (tword L) ([[]], [-1])).2
  | 0, _ => TI.first y
  | i + 1, hi => by
    rw [List.range_succ, List.foldl_append]
    have h := TI.word (x := L.getD i .zero) (i := i) (t := (List.range i).foldl (tword L) ([[]], [-1])) (TI.all _ i (by omega)) (by rw [List.length_take]; omega) _ (Nat.le_refl _)
    have e : L.take (i + 1) = L.take i ++ [L.getD i .zero] := by
      rw [List.take_add_one, List.getElem?_eq_getElem (by omega)]; simp [show i < L.length by omega]
    rw [e]
    exact h.next
theorem rs_ok {L : List Rot} {mo : Nat} (hok : ∀ x ∈ L, okR x) (hm : ∀ x ∈ L, x.w.length ≤ mo) (hs : mo ≤ 200) (hl : L.length ≤ 30000) {pf : List (List UInt8)} {bs : List Int} (e : (pf, bs) = tall L) (hr : pf.getD 0 [] = [] ∧ 0 < pf.length) : RSok ⟨L, mo, pf, bs⟩ := by
  have h := TI.all (L := L) .zero L.length (Nat.le_refl _)
  rw [show (List.range L.length).foldl (tword L) ([[]], [-1]) = (pf, bs) from e.symm, List.take_length] at h
  refine ⟨hr, h.nodup, fun p => ?_, fun j hj => ?_, hm, ⟨hs, hl⟩, fun x hx => (hok x hx).2⟩
  · rw [h.mem p]
    simp only [List.take_zero, List.prefix_nil]
    constructor
    · rintro (q | q | q)
      · exact .inl q
      · exact .inr q
      · exact .inl q
    · rintro (q | q)
      · exact .inl q
      · exact .inr (.inl q)
  · have hp : pf.getD j [] ∈ pf := getD_mem hj
    have := h.best _ hp
    rw [idxOf_getD h.nodup hj] at this
    show bs.getD j 0 = bestOf L (pf.getD j [])
    rw [this]
    split
    · rename_i hq
      have : pf.getD j [] = [] := by simpa using hq
      rw [this, bestOf_nil, bestOf_nil]
    · rfl

/-! ### What the walk needs -/
structure PC (pf : List (List UInt8)) : Prop where
  root : pf.getD 0 [] = [] ∧ 0 < pf.length
  cl : ∀ q c, q ++ [c] ∈ pf → q ∈ pf
theorem PC.first : PC [[]] := ⟨by simp, fun q c h => by simp at h⟩
theorem PC.idx0 {pf : List (List UInt8)} (h : PC pf) : pf.idxOf [] = 0 := by
  obtain ⟨h1, h2⟩ := h.root
  cases pf with
  | nil => simp at h2
  | cons a t => have : a = [] := h1; subst this; simp
theorem PC.mem0 {pf : List (List UInt8)} (h : PC pf) : [] ∈ pf := by
  obtain ⟨h1, h2⟩ := h.root
  rw [← h1]; exact getD_mem h2
theorem PC.snoc {pf : List (List UInt8)} {q : List UInt8} {c : UInt8} (h : PC pf) (hq : q ∈ pf) : PC (pf ++ [q ++ [c]]) := by
  refine ⟨⟨?_, by simp⟩, fun p d hp => ?_⟩
  · have := h.root.2
    rw [List.getD_eq_getElem?_getD, List.getElem?_append_left this, ← List.getD_eq_getElem?_getD]; exact h.root.1
  · rcases List.mem_append.1 hp with hp | hp
    · exact List.mem_append_left _ (h.cl p d hp)
    · simp only [List.mem_singleton] at hp
      have := (List.append_inj' hp rfl).1
      rw [this]; exact List.mem_append_left _ hq
theorem zip_fst {bl : List Nat} {bs : List Int} {j : Nat} (h : bl.length = bs.length) (hj : j < bl.length) : ((bl.zip bs).getD j (0, 0)).1 = bl.getD j 0 := by
  have hz : j < (bl.zip bs).length := by simp; omega
  rw [List.getD_eq_getElem?_getD, List.getElem?_eq_getElem hz, Option.getD_some, List.getElem_zip, List.getD_eq_getElem?_getD, List.getElem?_eq_getElem hj, Option.getD_some]
theorem zip_snd {bl : List Nat} {bs : List Int} {j : Nat} (h : bl.length = bs.length) (hj : j < bl.length) : ((bl.zip bs).getD j (0, 0)).2 = bs.getD j 0 := by
  have hz : j < (bl.zip bs).length := by simp; omega
  have h2 : j < bs.length := by omega
  rw [List.getD_eq_getElem?_getD, List.getElem?_eq_getElem hz, Option.getD_some, List.getElem_zip, List.getD_eq_getElem?_getD, List.getElem?_eq_getElem h2, Option.getD_some]
theorem zip_snoc {bl : List Nat} {bs : List Int} {b : Nat} {z : Int} (h : bl.length = bs.length) : bl.zip bs ++ [(b, z)] = (bl ++ [b]).zip (bs ++ [z]) := by
  rw [List.zip_append h]; rfl
theorem ncells_set {bl : List Nat} {bs : List Int} {j : Nat} {z : Int} (h : bl.length = bs.length) (hj : j < bl.length) : (ncells (bl.zip bs)).set (j * 2 + 1) (num z) = ncells (bl.zip (bs.set j z)) := by
  induction bl generalizing bs j with
  | nil => simp at hj
  | cons a bl ih =>
    cases bs with
    | nil => simp at h
    | cons y bs =>
      cases j with
      | zero => rfl
      | succ j =>
        have := ih (bs := bs) (j := j) (by simpa using h) (by simpa using hj)
        simp only [List.zip_cons_cons, List.set_cons_succ, ncells, List.flatMap_cons, ncell] at this ⊢
        rw [show (j + 1) * 2 + 1 = (j * 2 + 1) + 1 + 1 by omega]
        simp only [List.cons_append, List.nil_append, List.set_cons_succ]
        rw [this]
theorem tstep_set {x : List UInt8} {i k j : Nat} {pf pfX : List (List UInt8)} {bs bsX : List Int} (h1 : (if x.take (k + 1) ∈ pf then (pf, bs) else (pf ++ [x.take (k + 1)], bs ++ [-1])) = (pfX, bsX)) (hj : j = pfX.idxOf (x.take (k + 1))) (hc : x.length < 2 * (k + 1) ∧ bsX.getD j 0 < 0) : (pfX, bsX.set j ((i : Nat) : Int)) = tstep x i (pf, bs) k := by
  subst hj; simp only [tstep, h1]; rw [if_pos hc]
theorem tstep_not {x : List UInt8} {i k j : Nat} {pf pfX : List (List UInt8)} {bs bsX : List Int} (h1 : (if x.take (k + 1) ∈ pf then (pf, bs) else (pf ++ [x.take (k + 1)], bs ++ [-1])) = (pfX, bsX)) (hj : j = pfX.idxOf (x.take (k + 1))) (hc : ¬ (x.length < 2 * (k + 1) ∧ bsX.getD j 0 < 0)) : (pfX, bsX) = tstep x i (pf, bs) k := by
  subst hj; simp only [tstep, h1]; rw [if_neg hc]
theorem fold_snoc {t t0 : List (List UInt8) × List Int} {x : List UInt8} {i k : Nat} {u : List (List UInt8) × List Int} (h : t = (List.range k).foldl (tstep x i) t0) (e : u = tstep x i t k) : u = (List.range (k + 1)).foldl (tstep x i) t0 := by
  rw [List.range_succ, List.foldl_append, ← h]; exact e
section
variable {A0 A B : AH} {pf : List (List UInt8)} {bl : List Nat}
theorem Trie.notin (h : Trie A0 A pf bl) (wf : A.wf) {b : Nat} (hb : A.n ≤ b) : b ∉ bl := fun q => by
  obtain ⟨j, hj, rfl⟩ := List.getElem_of_mem q
  obtain ⟨es, k, g, _⟩ := h.2.2.2.2 j (by rw [← h.1]; exact hj)
  have e : bl.getD j 0 = bl[j] := by simp [hj]
  rw [e] at g
  have : bl[j] < A.n := wf _ _ g
  omega
theorem Trie.first {b : Nat} (g : A.get b = some (.obj true (.map #[] 0))) (h0 : A0.get b = none) : Trie A0 A [[]] [b] :=
  ⟨rfl, by simp, by simp, fun x hx => by simp at hx; rw [hx]; exact h0, fun j hj => by
    have : j = 0 := by simpa using hj
    subst this
    exact ⟨#[], 0, g, [], rfl, fun c => by simp⟩⟩
theorem V.Own.ne_obj {v : Value} {size : Nat} {xs : List Value} {b : Nat} {o : Obj} (own : Own A v size xs) (g : A.get b = some (.obj true o)) : blk v ≠ some b := fun q => by
  rcases own with ⟨rfl, _⟩ | ⟨b', n, k, r, rcap, rfl, h2, _⟩
  · cases q
  · cases q; rw [g] at h2; cases h2
theorem ne_rowobj {b k cap : Nat} {rw : Bool} {c : List Value} {o : Obj} (h : A.get k = some (.row rw c cap)) (g : A.get b = some (.obj true o)) : k ≠ b := by
  rintro rfl; rw [h] at g; cases g
end
section
variable {P : Program} {e : Env} {A0 A : AH} {x y : Operand} {ty tt : TypeId} {ps : String} {af : Array Edge} {dst : Option Nat} {K : Value → AH → Prop} {Kp : List PanicEntry → AH → Prop} {g : Option (Nat × Bool)}
/-- A cell of an element of a slice of the call's own is written. -/
theorem wstoreOwn {v w : Value} {size b f n k i j : Nat} {xs : List Value} (own : Fresh A0 A v size xs) (ev : v = .slice (some ⟨b, f, none⟩) n k) (hi : i < n) (hj : j < size) (wf : A.wf) (hx : opd e x = some (.pointer (some ⟨b, f + i * size + j, none⟩))) (hy : opd e y = some w) (hw : w.cells = #[w]) (hs : szOf P tt = some 1) (h1 : oneL [w] = true)
    (h : ∀ A1 (r : List Value) rc, A.get b = some (.row true r rc) → SetB A A1 b (.row true (r.set (i * size + j) w) rc) → Fresh A0 A1 v size (xs.set (i * size + j) w) → K undef A1) : opV P e A { dst := dst, op := .store tt x y, type := ty, pos := ps, after := af, guard := g } K Kp := by
  subst ev
  obtain ⟨r, rc, hg, hr, hl⟩ : ∃ r rc, A.get b = some (.row true r rc) ∧ f = 0 ∧ n * size ≤ r.length := by
    rcases own.own with ⟨q, _⟩ | ⟨b', n', k', r, rcap, q, h2, h3, h4, h5, h6⟩
    · cases q
    · cases q; exact ⟨r, rcap, h2, rfl, by rw [← h4, List.length_take] at h3; omega⟩
  subst hr
  have hlt : i * size + j + 1 ≤ r.length := by
    have : (i + 1) * size ≤ n * size := Nat.mul_le_mul_right _ hi
    rw [Nat.add_mul] at this; omega
  refine wstore (cs := [w]) (c := r) (off := i * size + j) wf hx (by simp) hy hw hs hg hlt h1 rfl fun A1 sb => ?_
  exact h A1 r rc hg sb (own.setc hg sb)
end
theorem getD_app {α : Type} {l m : List α} {j : Nat} {d : α} (h : j < l.length) : (l ++ m).getD j d = l.getD j d := by
  rw [List.getD_eq_getElem?_getD, List.getElem?_append_left h, ← List.getD_eq_getElem?_getD]
theorem Rules.make {A B W : AH} {b cap mo : Nat} {lv nv : Value} {L : List Rot} {pf : List (List UInt8)} {bs : List Int} {bl : List Nat} (hW : ∀ b o, A.get b = none → o ≠ .obj true (.deferred (some [])) → B.get b = some o → W.get b = some o)
    (g : B.get b = some (.row true [lv, nv, num ((mo : Nat) : Int)] cap)) (no : A.get b = none) (f1 : Fresh A B lv 4 (rcells L)) (f2 : Fresh A B nv 2 (ncells (bl.zip bs))) (ht : Trie A B pf bl) (hl : bs.length = pf.length) : Rules W b ⟨L, mo, pf, bs⟩ := by
  have own : ∀ {v : Value} {size : Nat} {xs : List Value}, Fresh A B v size xs → Slc W size v xs := fun {v size xs} f => by
    refine Own.slc ?_
    rcases f.own with h | ⟨b', n, k, r, rcap, rfl, h2, h3⟩
    · exact .inl h
    · exact .inr ⟨b', n, k, r, rcap, rfl, hW _ _ (f.lo b' rfl) (fun q => by cases q) h2, h3⟩
  refine ⟨true, cap, lv, nv, bl, hW _ _ no (fun q => by cases q) g, own f1, own f2, ht.1, hl, fun j hj => ?_⟩
  obtain ⟨es, k, g1, g2⟩ := ht.2.2.2.2 j hj
  exact ⟨true, es, k, hW _ _ (ht.2.2.2.1 _ (getD_lt_mem (by rw [ht.1]; exact hj))) (fun q => by cases q) g1, g2⟩
/-- The rules stand in every view that lets go only what was there before. -/
theorem Rules.leave {A B A' : AH} {b cap mo : Nat} {lv nv : Value} {L : List Rot} {pf : List (List UInt8)} {bs : List Int} {bl Ds : List Nat} (hd : Defs A B Ds) (hk : ∀ b o, b ∉ Ds → B.get b = some o → A'.get b = some o)
    (g : B.get b = some (.row true [lv, nv, num ((mo : Nat) : Int)] cap)) (no : A.get b = none) (f1 : Fresh A B lv 4 (rcells L)) (f2 : Fresh A B nv 2 (ncells (bl.zip bs))) (ht : Trie A B pf bl) (hl : bs.length = pf.length) :
    ∀ hs, (∀ b, some b ∈ hs → ∃ o, A.get b = some o) → Rules (A'.hide hs) b ⟨L, mo, pf, bs⟩ := fun hs hhs =>
  Rules.make (fun b o h0 hne h => hide_get (hk b o (hd.out h hne) h) fun q => by
    obtain ⟨o', ho⟩ := hhs b q
    rw [h0] at ho; cases ho) g no f1 f2 ht hl
theorem Rules.all {A A' : AH} {br : Nat} {S : RS} (h : ∀ hs, (∀ b, some b ∈ hs → ∃ o, A.get b = some o) → Rules (A'.hide hs) br S) : Rules A' br S :=
  (h [] fun _ q => by cases q).le (hide_le _ _)
end Go.Proofs.YtaccklloepfemaaGreatDoor

namespace Go.Proofs
open Go.Shelf
def Tryz.sortR_ren : Go.Shelf.Ren := ⟨fun | 6 => 58 | 15 => 93 | 14 => 92 | 28 => 110 | 29 => 111 | 20 => 102 | 21 => 103 | 22 => 104 | 23 => 105 | 24 => 106 | 25 => 107 | 26 => 108 | 27 => 109 | 46 => 124 | 47 => 125 | 48 => 126 | 49 => 127 | 50 => 128 | 57 => 133 | n => n, fun | 22 => 101 | 24 => 95 | 25 => 105 | 3 => 3 | 39 => 134 | 0 => 0 | 53 => 151 | 55 => 153 | 4 => 4 | 46 => 145 | 45 => 144 | 50 => 106 | 5 => 5 | 9 => 9 | 66 => 160 | 70 => 164 | 76 => 168 | 77 => 119 | n => n, fun | n => n⟩
theorem Tryz.sortR : Go.Proofs.SlLaysF0.n6 Tryz.prog Tryz.sortR_ren := {
  mixed := by kernel_rfl
  f6 := ⟨Tryz.f58.name, by decide, Tryz.func58.trans (congrArg some (by kernel_rfl))⟩
  f14 := ⟨Tryz.f92.name, by decide, Tryz.func92.trans (congrArg some (by kernel_rfl))⟩
  f15 := Tryz.func93.trans (congrArg some (by kernel_rfl))
  f20 := ⟨Tryz.f102.name, by decide, Tryz.func102.trans (congrArg some (by kernel_rfl))⟩
  f21 := ⟨Tryz.f103.name, by decide, Tryz.func103.trans (congrArg some (by kernel_rfl))⟩
  f22 := ⟨Tryz.f104.name, by decide, Tryz.func104.trans (congrArg some (by kernel_rfl))⟩
  f23 := ⟨Tryz.f105.name, by decide, Tryz.func105.trans (congrArg some (by kernel_rfl))⟩
  f24 := ⟨Tryz.f106.name, by decide, Tryz.func106.trans (congrArg some (by kernel_rfl))⟩
  f25 := ⟨Tryz.f107.name, by decide, Tryz.func107.trans (congrArg some (by kernel_rfl))⟩
  f26 := ⟨Tryz.f108.name, by decide, Tryz.func108.trans (congrArg some (by kernel_rfl))⟩
  f27 := ⟨Tryz.f109.name, by decide, Tryz.func109.trans (congrArg some (by kernel_rfl))⟩
  f28 := Tryz.func110.trans (congrArg some (by kernel_rfl))
  f29 := Tryz.func111.trans (congrArg some (by kernel_rfl))
  f46 := ⟨Tryz.f124.name, by decide, Tryz.func124.trans (congrArg some (by kernel_rfl))⟩
  f47 := Tryz.func125.trans (congrArg some (by kernel_rfl))
  f48 := Tryz.func126.trans (congrArg some (by kernel_rfl))
  f49 := ⟨Tryz.f127.name, by decide, Tryz.func127.trans (congrArg some (by kernel_rfl))⟩
  f50 := ⟨Tryz.f128.name, by decide, Tryz.func128.trans (congrArg some (by kernel_rfl))⟩
  f57 := ⟨Tryz.f133.name, by decide, Tryz.func133.trans (congrArg some (by kernel_rfl))⟩
  t0 := Tryz.underlying0
  a0 := Tryz.isAgg0
  z0 := Tryz.sizeOf0
  v0 := Tryz.zeroValue0
  t3 := Tryz.underlying3
  a3 := Tryz.isAgg3
  z3 := Tryz.sizeOf3
  v3 := Tryz.zeroValue3
  t4 := Tryz.underlying4
  a4 := Tryz.isAgg4
  z4 := Tryz.sizeOf4
  v4 := Tryz.zeroValue4
  t5 := Tryz.underlying5
  a5 := Tryz.isAgg5
  z5 := Tryz.sizeOf5
  v5 := Tryz.zeroValue5
  t9 := Tryz.underlying9
  a9 := Tryz.isAgg9
  z9 := Tryz.sizeOf9
  v9 := Tryz.zeroValue9
  t22 := Tryz.underlying101
  a22 := Tryz.isAgg101
  z22 := Tryz.sizeOf101
  v22 := Tryz.zeroValue101
  t25 := Tryz.underlying105
  a25 := Tryz.isAgg105
  z25 := Tryz.sizeOf105
  v25 := Tryz.zeroValue105
  t39 := Tryz.underlying134
  a39 := Tryz.isAgg134
  z39 := Tryz.sizeOf134
  v39 := Tryz.zeroValue134
  t45 := Tryz.underlying144
  a45 := Tryz.isAgg144
  z45 := Tryz.sizeOf144
  v45 := Tryz.zeroValue144
  t46 := Tryz.underlying145
  a46 := Tryz.isAgg145
  z46 := Tryz.sizeOf145
  v46 := Tryz.zeroValue145
  t50 := Tryz.underlying106
  a50 := Tryz.isAgg106
  z50 := Tryz.sizeOf106
  v50 := Tryz.zeroValue106
  t53 := Tryz.underlying151
  a53 := Tryz.isAgg151
  z53 := Tryz.sizeOf151
  v53 := Tryz.zeroValue151
  t55 := Tryz.underlying153
  a55 := Tryz.isAgg153
  z55 := Tryz.sizeOf153
  v55 := Tryz.zeroValue153
  t66 := Tryz.underlying160
  a66 := Tryz.isAgg160
  z66 := Tryz.sizeOf160
  v66 := Tryz.zeroValue160
  t70 := Tryz.underlying164
  a70 := Tryz.isAgg164
  z70 := Tryz.sizeOf164
  v70 := Tryz.zeroValue164
  t76 := Tryz.underlying168
  a76 := Tryz.isAgg168
  z76 := Tryz.sizeOf168
  v76 := Tryz.zeroValue168
  t77 := Tryz.underlying119
  a77 := Tryz.isAgg119
  z77 := Tryz.sizeOf119
  v77 := Tryz.zeroValue119 }
def Tryz.sortS_ren : Go.Shelf.Ren := ⟨fun | 190 => 69 | 125 => 93 | 258 => 98 | 128 => 110 | 129 => 111 | 302 => 114 | 303 => 115 | 304 => 116 | 305 => 117 | 306 => 118 | 307 => 119 | 308 => 120 | 309 => 121 | 310 => 122 | 333 => 129 | 329 => 125 | 330 => 126 | 334 => 130 | 335 => 131 | 336 => 132 | 344 => 134 | n => n, fun | 31 => 22 | 9 => 9 | 3 => 3 | 46 => 134 | 0 => 0 | 51 => 151 | 53 => 153 | 4 => 4 | 183 => 145 | 182 => 144 | 131 => 106 | 5 => 5 | 218 => 160 | 222 => 164 | 228 => 168 | 229 => 119 | n => n, fun | n => n⟩
theorem Tryz.sortS : Go.Proofs.Lays.n190 Tryz.prog Tryz.sortS_ren := {
  mixed := by kernel_rfl
  f125 := Tryz.func93.trans (congrArg some (by kernel_rfl))
  f128 := Tryz.func110.trans (congrArg some (by kernel_rfl))
  f129 := Tryz.func111.trans (congrArg some (by kernel_rfl))
  f190 := Tryz.func69.trans (congrArg some (by kernel_rfl))
  f258 := Tryz.func98.trans (congrArg some (by kernel_rfl))
  f302 := Tryz.func114.trans (congrArg some (by kernel_rfl))
  f303 := Tryz.func115.trans (congrArg some (by kernel_rfl))
  f304 := Tryz.func116.trans (congrArg some (by kernel_rfl))
  f305 := Tryz.func117.trans (congrArg some (by kernel_rfl))
  f306 := Tryz.func118.trans (congrArg some (by kernel_rfl))
  f307 := Tryz.func119.trans (congrArg some (by kernel_rfl))
  f308 := Tryz.func120.trans (congrArg some (by kernel_rfl))
  f309 := Tryz.func121.trans (congrArg some (by kernel_rfl))
  f310 := Tryz.func122.trans (congrArg some (by kernel_rfl))
  f329 := Tryz.func125.trans (congrArg some (by kernel_rfl))
  f330 := Tryz.func126.trans (congrArg some (by kernel_rfl))
  f333 := Tryz.func129.trans (congrArg some (by kernel_rfl))
  f334 := Tryz.func130.trans (congrArg some (by kernel_rfl))
  f335 := Tryz.func131.trans (congrArg some (by kernel_rfl))
  f336 := Tryz.func132.trans (congrArg some (by kernel_rfl))
  f344 := Tryz.func134.trans (congrArg some (by kernel_rfl))
  t0 := Tryz.underlying0
  a0 := Tryz.isAgg0
  z0 := Tryz.sizeOf0
  v0 := Tryz.zeroValue0
  t3 := Tryz.underlying3
  a3 := Tryz.isAgg3
  z3 := Tryz.sizeOf3
  v3 := Tryz.zeroValue3
  t4 := Tryz.underlying4
  a4 := Tryz.isAgg4
  z4 := Tryz.sizeOf4
  v4 := Tryz.zeroValue4
  t5 := Tryz.underlying5
  a5 := Tryz.isAgg5
  z5 := Tryz.sizeOf5
  v5 := Tryz.zeroValue5
  t9 := Tryz.underlying9
  a9 := Tryz.isAgg9
  z9 := Tryz.sizeOf9
  v9 := Tryz.zeroValue9
  t31 := Tryz.underlying22
  a31 := Tryz.isAgg22
  z31 := Tryz.sizeOf22
  v31 := Tryz.zeroValue22
  t46 := Tryz.underlying134
  a46 := Tryz.isAgg134
  z46 := Tryz.sizeOf134
  v46 := Tryz.zeroValue134
  t51 := Tryz.underlying151
  a51 := Tryz.isAgg151
  z51 := Tryz.sizeOf151
  v51 := Tryz.zeroValue151
  t53 := Tryz.underlying153
  a53 := Tryz.isAgg153
  z53 := Tryz.sizeOf153
  v53 := Tryz.zeroValue153
  t131 := Tryz.underlying106
  a131 := Tryz.isAgg106
  z131 := Tryz.sizeOf106
  v131 := Tryz.zeroValue106
  t182 := Tryz.underlying144
  a182 := Tryz.isAgg144
  z182 := Tryz.sizeOf144
  v182 := Tryz.zeroValue144
  t183 := Tryz.underlying145
  a183 := Tryz.isAgg145
  z183 := Tryz.sizeOf145
  v183 := Tryz.zeroValue145
  t218 := Tryz.underlying160
  a218 := Tryz.isAgg160
  z218 := Tryz.sizeOf160
  v218 := Tryz.zeroValue160
  t222 := Tryz.underlying164
  a222 := Tryz.isAgg164
  z222 := Tryz.sizeOf164
  v222 := Tryz.zeroValue164
  t228 := Tryz.underlying168
  a228 := Tryz.isAgg168
  z228 := Tryz.sizeOf168
  v228 := Tryz.zeroValue168
  t229 := Tryz.underlying119
  a229 := Tryz.isAgg119
  z229 := Tryz.sizeOf119
  v229 := Tryz.zeroValue119 }
end Go.Proofs

namespace Go.Proofs.YtaccklloepfemaaGreatDoor
open Go Go.RowKit V
set_option maxRecDepth 100000
set_option linter.unusedVariables false
set_option linter.unusedSimpArgs false
set_option maxHeartbeats 4000000
theorem ag90 : aggOf Tryz.prog 90 = some false := by kernel_rfl
theorem inf95 : Tryz.prog.info? 95 = some Tryz.t95 := by kernel_rfl
theorem inf99 : Tryz.prog.info? 99 = some Tryz.t99 := by kernel_rfl
theorem pl103 : structPlaces Tryz.prog 103 = some [(0, 1), (1, 1), (2, 1)] := by kernel_rfl
theorem pl95 : structPlaces Tryz.prog 95 = some [(0, 1), (1, 1), (2, 1), (3, 1)] := by kernel_rfl
theorem pl99 : structPlaces Tryz.prog 99 = some [(0, 1), (1, 1)] := by kernel_rfl
theorem sz90 : szOf Tryz.prog 90 = some 1 := by kernel_rfl
theorem u103 : type_of% @Tryz.underlying103 := @Tryz.underlying103
theorem u90 : type_of% @Tryz.underlying90 := @Tryz.underlying90
theorem u91 : type_of% @Tryz.underlying91 := @Tryz.underlying91
theorem u95 : type_of% @Tryz.underlying95 := @Tryz.underlying95
theorem u99 : type_of% @Tryz.underlying99 := @Tryz.underlying99
theorem z103 : zeroOf Tryz.prog 103 = some (.agg #[.slice none 0 0, .slice none 0 0, .int .i64 0]) := by kernel_rfl
theorem z4 : zeroOf Tryz.prog 4 = some (.bool false) := by kernel_rfl
theorem z90 : zeroOf Tryz.prog 90 = some (.map none) := by kernel_rfl
theorem z95 : zeroOf Tryz.prog 95 = some (.agg #[.string ⟨⟨[]⟩⟩, .string ⟨⟨[]⟩⟩, .int .i64 0, .bool false]) := by kernel_rfl
theorem z99 : zeroOf Tryz.prog 99 = some (.agg #[.map none, .int .i64 0]) := by kernel_rfl

theorem s_cmp1 (x y : Rot) (A : AH) (hL : Lets A) (hx : x.w.length ≤ 1000000) (hy : y.w.length ≤ 1000000) : RetA Tryz.prog 59 #[.agg #[str (x.w), str (x.c), num ((x.r : Nat) : Int), .bool (x.i)], .agg #[str (y.w), str (y.c), num ((y.r : Nat) : Int), .bool (y.i)]] A (fun v A1 => v = num (wCompare x.w y.w)) := by
 refine enterA (e := [(0, .agg #[str (x.w), str (x.c), num ((x.r : Nat) : Int), .bool (x.i)]), (1, .agg #[str (y.w), str (y.c), num ((y.r : Nat) : Int), .bool (y.i)])]) (args := [.agg #[str (x.w), str (x.c), num ((x.r : Nat) : Int), .bool (x.i)], .agg #[str (y.w), str (y.c), num ((y.r : Nat) : Int), .bool (y.i)]]) Tryz.call59 Tryz.func59 rfl Tryz.results59 Tryz.ntmps59 rfl rfl rfl (fun wf => ?_)
 have le_ := AH.le.refl A
 refine Run.seq fun K1 h2 => .region <| .l rfl (fun _ _ hk3 _ => wbox wf rfl rfl fun A5 b4 nb6 => ?_)
 have le7 := le_.trans nb6.le
 refine hk3 _ _ <| .l rfl (fun _ _ hk8 _ => wbox nb6.wf rfl rfl fun A10 b9 nb11 => ?_)
 have h12 := nb11.le.get _ _ nb6.get
 have le13 := le7.trans nb11.le
 refine hk8 _ _ <| .q rfl (qassign rfl) <| .nil <| h2 _ _ <| .seq fun K14 h15 => .region <| .q rfl (qfieldAddr fl95_0 sz9 (by decide) rfl) <| .q rfl (qloadAt ag9 rfl rfl h12 rfl) <| .q rfl (qfieldAddr fl95_0 sz9 (by decide) rfl) <| .q rfl (qloadAt ag9 rfl rfl nb11.get rfl) ?_
 refine Ops.l rfl (fun _ _ hk16 _ => vcallF rfl (s_Compare x.w y.w A10 (by first | omega | (simp only [List.length_append, List.length_drop, List.length_take, inv_length]; omega)) (by first | omega | (simp only [List.length_append, List.length_drop, List.length_take, inv_length]; omega)) (hL.le le13)) ?_)
 rintro v17 A18 ⟨rfl, leq19, wfq19⟩
 refine hk16 _ _ <| .q rfl (qassign rfl) <| .nil <| h15 _ _ <| .ret ?_
 repeat first | with_reducible refine thenQ_ret ?_ | with_reducible refine blockQ_ret ?_
 exact retQ rfl (rfl)

theorem s_sortW (L : List Rot) (lv : Value) (A0 A : AH) (le : A0.le A) (wf0 : A0.wf) (own : Fresh A0 A lv 4 (rcells L)) (hL : Lets A0) (hok : ∀ x ∈ L, okR x) (hl : L.length ≤ 30000) :
    RetA Tryz.prog 58 #[lv, .func (.func 59) #[] #[]] A (fun v A1 => ∃ L2, L2.Perm L ∧ L2.Pairwise (fun x y => ¬ cmpw y.w x.w < 0) ∧ v = .tuple #[] ∧ A0.le A1 ∧ A1.wf ∧ Fresh A0 A1 lv 4 (rcells L2)) := by
  obtain ⟨d, rfl⟩ := attach_ok hok
  rw [← cellsOf] at own
  refine (sortFunc_ret Tryz.sortR 4 (by decide) (fun w => Tryz.isAgg95 w) (fun w => Tryz.sizeOf95 w) (fun x : OkRot => rcell x.1) (fun _ => rfl) ?_ cmpR cmpR_swo 59 #[] Tryz.call58 Tryz.call59 (by rw [List.length_map] at hl; omega) wf0 le own ?_).mono ?_
  · intro x v hv
    simp only [rcell, List.mem_cons, List.not_mem_nil, or_false] at hv
    rcases hv with rfl | rfl | rfl | rfl <;> rfl
  · intro n hn b hb x y
    have hx := x.2; have hy := y.2
    refine (s_cmp1 x.1 y.1 (A.frozen b n) (lets_frozen hL le (own.lo b hb)) (by have := hx.1; omega) (by have := hy.1; omega)).mono ?_
    rintro v A1 rfl
    show _ = num _
    rw [wCompare, if_pos ⟨hx.2.1, hy.2.1⟩]; rfl
  · rintro v A1 ⟨rfl, h2, h3, _, d', h4, h5, h6⟩
    rw [cellsOf] at h6
    exact ⟨d'.map (·.1), h4.map _, (by rw [List.pairwise_map]; exact h5), rfl, h2, h3, h6⟩


theorem s_newRules (g : Int) (u : Value) (l : List (List UInt8)) (A : AH) (hL : Lets A) (hp : pcheck g l = 0) (hu : Slc A 1 u (strs l)) : RetA Tryz.prog 33 #[.agg #[num (g), u]] A (fun v A1 => ∃ br S, v = .pointer (some ⟨br, 0, none⟩) ∧ A.le A1 ∧ A1.wf ∧ (∀ hs, (∀ b, some b ∈ hs → ∃ o, A.get b = some o) → Rules (A1.hide hs) br S) ∧ RSok S ∧ S.list.Perm (allR l) ∧ S.list.Pairwise (fun x y => ¬ cmpw y.w x.w < 0)) := by
  refine enterM (e := [(0, .agg #[num (g), u])]) (args := [.agg #[num (g), u]]) Tryz.call33 Tryz.func33 rfl Tryz.results33 Tryz.ntmps33 rfl rfl rfl (fun wf => ?_)
  have le_ := AH.le.refl A
  have ob_ := Objs.refl A
  have df_ : Defs A A [] := ⟨List.Pairwise.nil, fun _ h => by cases h⟩
  have hz := pcheck_zero hp
  have hll : ∀ k, k < l.length → (l.getD k []).length ≤ 200 := fun k q => (hz.2.2 _ (getD_mem q)).1
  refine Run.seq fun K1 h2 => .region <| .l rfl (fun _ _ hk3 _ => wbox wf rfl rfl fun A5 b4 nb6 => ?_)
  have le7 := le_.trans nb6.le
  have ob8 := ob_.le nb6.le
  refine hk3 _ _ <| .q rfl (qassign rfl) <| .nil <| h2 _ _ <| .seq fun K9 h10 => .region <| .l rfl (fun _ _ hk11 _ => wmakeMap nb6.wf fun A13 b12 nb14 => ?_)
  have ge_b12 := none_of wf (Nat.le_trans le7.n nb14.lo)
  have h15 := nb14.le.get _ _ nb6.get
  have le16 := le7.trans nb14.le
  have ob17 := ob8.le nb14.le
  refine hk11 _ _ <| .l rfl (fun _ _ hk18 _ => walloc nb14.wf z90 rfl fun A20 b19 nb21 => ?_)
  have ne_b4_b19 := ne_new nb14.wf h15 nb21.lo
  have ne_b12_b19 := ne_new nb14.wf nb14.get nb21.lo
  have ge_b19 := none_of wf (Nat.le_trans le16.n nb21.lo)
  have h22 := nb21.le.get _ _ h15
  have h23 := nb21.le.get _ _ nb14.get
  have le24 := le16.trans nb21.le
  have ob25 := ob17.le nb21.le
  refine hk18 _ _ <| .l rfl (fun _ _ hk26 _ => wstore (cs := [.map (some b12)]) (c' := [.map (some b12)]) nb21.wf rfl rfl rfl rfl sz90 nb21.get (Nat.le_of_ble_eq_true rfl) rfl rfl fun A27 sb28 => ?_)
  have h29 := sb28.keep _ _ ne_b4_b19 h22
  have h30 := sb28.keep _ _ ne_b12_b19 h23
  have ob31 := ob25.set nb21.get sb28.n sb28.keep
  have le32 := le_store le24 wf ge_b19 sb28.n sb28.keep
  refine hk26 _ _ <| .nil <| h10 _ _ <| .seq fun K33 h34 => .seq fun K35 h36 => .region <| .q rfl (qfieldAddr fl24_1 sz22 (by decide) rfl) <| .q rfl (qloadAt ag22 rfl rfl h29 rfl) <| .q rfl (qlenS (n := l.length) u22 rfl (hu.le le32) (by omega) (strs_len _)) <| .q rfl (qmove rfl) ?_
  refine Ops.nil <| h36 _ _ <| .block <| .loopD (X := Nat × List Rot × List Nat) (fun ⟨k, E, Ds⟩ => [(3, .pointer (some ⟨b19, 0, none⟩)), (26, u), (27, num ((l.length : Nat) : Int)), (28, num ((k : Nat) : Int))]) (fun ⟨k, E, Ds⟩ => Ds.map V.mark) (fun ⟨k, E, Ds⟩ B => (k ≤ l.length ∧ E = (List.range k).foldl (addR l) [] ∧ E.length ≤ 400 * k) ∧ A.le B ∧ B.get b12 = some (.obj true (mobj E)) ∧ B.get b19 = some (.row true [.map (some b12)] 1) ∧ Defs A B Ds) (fun ⟨k, E, Ds⟩ => l.length - k) (⟨0, [], []⟩) (EnvLe.cons rfl <| EnvLe.cons rfl <| EnvLe.cons rfl <| EnvLe.cons rfl <| EnvLe.nil _) rfl (⟨⟨Nat.zero_le _, rfl, Nat.zero_le _⟩, le32, h30, sb28.get, (df_.objs ob31)⟩) ?_
  rintro ⟨k, E, Ds⟩ B38 ⟨⟨hk, hE, hEl⟩, le37, hr_b1237, hr_b1937, hdf37⟩
  refine Run.wf fun wf39 => ?_
  have ob40 := Objs.refl B38
  have hlk := hll k
  refine Run.seq fun K41 h42 => .region <| .q rfl (qlssN rfl rfl) <| .nil <| h42 _ _ <| .seq fun K43 h44 => .if rfl (fun p45 => ?_) (fun p45 => ?_)
  ·
    refine Run.skip <| h44 _ _ <| .seq fun K46 h47 => .block <| .seq fun K48 h49 => .region <| .q rfl (qmove rfl) ?_
    obtain ⟨b50, f50, rw50, r50, rc50, n50, k50, e50, l50, g50, cl50, cs50⟩ := Slc.at (i := k) (hu.le le37) (by simp only [strs_length]; omega) (by omega)
    refine Ops.q rfl (qindexS u22 sz9 rfl e50 rfl l50) <| .q rfl (qloadAt ag9 rfl rfl g50 ((elt0 cs50).trans (strs_get (by omega)))) <| .l rfl (fun _ _ hk51 _ => walloc wf39 z3 rfl fun A53 b52 nb54 => ?_)
    have ne_b12_b52 := ne_new wf39 hr_b1237 nb54.lo
    have ne_b19_b52 := ne_new wf39 hr_b1937 nb54.lo
    have ge_b52 := none_of wf (Nat.le_trans le37.n nb54.lo)
    have h55 := nb54.le.get _ _ hr_b1237
    have h56 := nb54.le.get _ _ hr_b1937
    have le57 := le37.trans nb54.le
    have ob58 := ob40.le nb54.le
    refine hk51 _ _ <| .l rfl (fun _ _ hk59 _ => wstore (cs := [num ((k : Nat) : Int)]) (c' := [num ((k : Nat) : Int)]) nb54.wf rfl rfl rfl rfl sz3 nb54.get (Nat.le_of_ble_eq_true rfl) rfl rfl fun A60 sb61 => ?_)
    have h62 := sb61.keep _ _ ne_b12_b52 h55
    have h63 := sb61.keep _ _ ne_b19_b52 h56
    have ob64 := ob58.set nb54.get sb61.n sb61.keep
    have le65 := le_store le57 wf ge_b52 sb61.n sb61.keep
    refine hk59 _ _ <| .q rfl (qassign rfl) <| .nil <| h49 _ _ <| .seq fun K66 h67 => .region <| .l rfl (fun _ _ hk68 _ => wbuildSlice (c := [.bool (false), .bool (true)]) sb61.wf rfl (buildSliceV_of u91 sz4 z4 rfl (by decide) (by decide) rfl) fun A70 b69 nb71 => ?_)
    have h72 := nb71.le.get _ _ h62
    have h73 := nb71.le.get _ _ h63
    have h74 := nb71.le.get _ _ sb61.get
    have le75 := le65.trans nb71.le
    have ob76 := ob64.le nb71.le
    refine hk68 _ _ <| .q rfl (qlen u91 rfl) <| .q rfl (qmove rfl) <| .nil <| h67 _ _ <| .block <| .loopD (X := Nat × List Rot × List Nat) (fun ⟨m, E2, Ds⟩ => [(3, .pointer (some ⟨b19, 0, none⟩)), (4, .pointer (some ⟨b52, 0, none⟩)), (5, str (l.getD k [])), (26, u), (27, num ((l.length : Nat) : Int)), (28, num ((k : Nat) : Int)), (33, .slice (some ⟨b69, 0, none⟩) 2 2), (34, num ((2 : Nat) : Int)), (35, num ((m : Nat) : Int))]) (fun ⟨m, E2, Ds⟩ => Ds.map V.mark) (fun ⟨m, E2, Ds⟩ B => (m ≤ 2 ∧ E2 = (List.range m).foldl (fun E j => addV k (l.getD k []) E (decide (j = 1))) E ∧ E2.length ≤ E.length + 200 * m) ∧ A.le B ∧ B.get b12 = some (.obj true (mobj E2)) ∧ B.get b19 = some (.row true [.map (some b12)] 1) ∧ B.get b52 = some (.row true [num ((k : Nat) : Int)] 1) ∧ B.get b69 = some (.row true [.bool (false), .bool (true)] 2) ∧ Defs A B Ds) (fun ⟨m, E2, Ds⟩ => 2 - m) (⟨0, E, Ds⟩) (EnvLe.cons rfl <| EnvLe.cons rfl <| EnvLe.cons rfl <| EnvLe.cons rfl <| EnvLe.cons rfl <| EnvLe.cons rfl <| EnvLe.cons rfl <| EnvLe.cons rfl <| EnvLe.cons rfl <| EnvLe.nil _) rfl (⟨⟨Nat.zero_le _, rfl, Nat.le_refl _⟩, le75, h72, h73, h74, nb71.get, (hdf37.objs ob76)⟩) ?_
    rintro ⟨m, E2, Ds⟩ B78 ⟨⟨hm, hE2, hE2l⟩, le77, hr_b1277, hr_b1977, hr_b5277, hr_b6977, hdf77⟩
    refine Run.wf fun wf79 => ?_
    have ob80 := Objs.refl B78
    have hwl := wOf_length (l.getD k []) (decide (m = 1))
    refine Run.seq fun K81 h82 => .region <| .q rfl (qlssN (b := 2) rfl rfl) <| .nil <| h82 _ _ <| .seq fun K83 h84 => .if rfl (fun p85 => ?_) (fun p85 => ?_)
    ·
      refine Run.skip <| h84 _ _ <| .seq fun K86 h87 => .block <| .seq fun K88 h89 => .region <| .q rfl (qindexS u91 sz4 rfl rfl rfl (by omega)) <| .q rfl (qloadAt ag4 rfl rfl hr_b6977 (two_get (by omega))) <| .l rfl (fun _ _ hk90 _ => walloc wf79 z4 rfl fun A92 b91 nb93 => ?_)
      have ne_b12_b91 := ne_new wf79 hr_b1277 nb93.lo
      have ne_b19_b91 := ne_new wf79 hr_b1977 nb93.lo
      have ne_b52_b91 := ne_new wf79 hr_b5277 nb93.lo
      have ne_b69_b91 := ne_new wf79 hr_b6977 nb93.lo
      have ge_b91 := none_of wf (Nat.le_trans le77.n nb93.lo)
      have h94 := nb93.le.get _ _ hr_b1277
      have h95 := nb93.le.get _ _ hr_b1977
      have h96 := nb93.le.get _ _ hr_b5277
      have h97 := nb93.le.get _ _ hr_b6977
      have le98 := le77.trans nb93.le
      have ob99 := ob80.le nb93.le
      refine hk90 _ _ <| .l rfl (fun _ _ hk100 _ => wstore (cs := [.bool (decide (m = 1))]) (c' := [.bool (decide (m = 1))]) nb93.wf rfl rfl rfl rfl sz4 nb93.get (Nat.le_of_ble_eq_true rfl) rfl rfl fun A101 sb102 => ?_)
      have h103 := sb102.keep _ _ ne_b12_b91 h94
      have h104 := sb102.keep _ _ ne_b19_b91 h95
      have h105 := sb102.keep _ _ ne_b52_b91 h96
      have h106 := sb102.keep _ _ ne_b69_b91 h97
      have ob107 := ob99.set nb93.get sb102.n sb102.keep
      have le108 := le_store le98 wf ge_b91 sb102.n sb102.keep
      refine hk100 _ _ <| .nil <| h89 _ _ <| .seq fun K109 h110 => .region <| .q rfl (qmove rfl) <| .q rfl (qassign rfl) <| .nil <| h110 _ _ <| .join (fun f A1 => EnvLe [(8, str ((wOf (l.getD k []) (decide (m = 1))))), (3, .pointer (some ⟨b19, 0, none⟩)), (4, .pointer (some ⟨b52, 0, none⟩)), (5, str (l.getD k [])), (26, u), (27, num ((l.length : Nat) : Int)), (28, num ((k : Nat) : Int)), (33, .slice (some ⟨b69, 0, none⟩) 2 2), (34, num ((2 : Nat) : Int)), (35, num ((m : Nat) : Int)), (36, .bool (decide (m < 2))), (37, .pointer (some ⟨b69, 0 + m * 1, none⟩)), (38, .bool (decide (m = 1))), (7, .pointer (some ⟨b91, 0, none⟩)), (39, str (l.getD k []))] f.e ∧ f.ds = Ds.map V.mark ∧ A101.le A1 ∧ A1.wf) ?_ ?_
      ·
        have jl113 := AH.le.refl A101
        refine Run.seq fun K114 h115 => .region <| .q rfl (qloadAt ag4 rfl rfl sb102.get rfl) <| .nil <| h115 _ _ <| .if rfl (fun p116 => ?_) (fun p116 => ?_)
        ·
          refine Run.region <| .q rfl (qmove rfl) <| .l rfl (fun _ _ hk117 _ => vcallF rfl (s_Inverse (l.getD k []) A101 (by first | omega | (have := hlk (by omega); omega) | (rw [List.length_take]; omega) | (rw [List.length_append]; omega)) (hL.le le108)) ?_)
          rintro v118 A119 ⟨rfl, leq120, wfq120⟩
          have jl128 := jl113.trans leq120
          refine hk117 _ _ <| .q rfl (qassign rfl) <| .nil ?_
          exact ⟨EnvLe.cons (congrArg some (congrArg str (show _ = wOf (l.getD k []) (decide (m = 1)) from by first | (rw [wOf, if_pos (decide_eq_true ‹m = 1›)]) | (rw [wOf, decide_eq_false ‹¬ m = 1›]; rfl)))) <| EnvLe.cons rfl <| EnvLe.cons rfl <| EnvLe.cons rfl <| EnvLe.cons rfl <| EnvLe.cons rfl <| EnvLe.cons rfl <| EnvLe.cons rfl <| EnvLe.cons rfl <| EnvLe.cons rfl <| EnvLe.cons rfl <| EnvLe.cons rfl <| EnvLe.cons rfl <| EnvLe.cons rfl <| EnvLe.cons rfl <| EnvLe.nil _, rfl, jl128, wfq120⟩
        ·
          refine Run.skip ?_
          exact ⟨EnvLe.cons (congrArg some (congrArg str (show _ = wOf (l.getD k []) (decide (m = 1)) from by first | (rw [wOf, if_pos (decide_eq_true ‹m = 1›)]) | (rw [wOf, decide_eq_false ‹¬ m = 1›]; rfl)))) <| EnvLe.cons rfl <| EnvLe.cons rfl <| EnvLe.cons rfl <| EnvLe.cons rfl <| EnvLe.cons rfl <| EnvLe.cons rfl <| EnvLe.cons rfl <| EnvLe.cons rfl <| EnvLe.cons rfl <| EnvLe.cons rfl <| EnvLe.cons rfl <| EnvLe.cons rfl <| EnvLe.cons rfl <| EnvLe.cons rfl <| EnvLe.nil _, rfl, jl113, sb102.wf⟩
      ·
        rintro ⟨fe, fd⟩ A129 ⟨hE, rfl, leq130, wfq130⟩
        refine Run.forget hE ?_
        have h131 := leq130.get _ _ h103
        have h132 := leq130.get _ _ h104
        have h133 := leq130.get _ _ h105
        have h134 := leq130.get _ _ h106
        have h135 := leq130.get _ _ sb102.get
        have le136 := le108.trans leq130
        have ob137 := ob107.le leq130
        refine Run.seq fun K138 h139 => .region <| .q rfl (qmove rfl) <| .l rfl (fun _ _ hk140 _ => vcallF rfl (s_Cyclic ((wOf (l.getD k []) (decide (m = 1)))) A129 (by first | omega | (have := hlk (by omega); omega) | (rw [List.length_take]; omega) | (rw [List.length_append]; omega)) (hL.le le136)) ?_)
        rintro v141 A142 ⟨rfl, leq143, wfq143⟩
        have h144 := leq143.get _ _ h131
        have h145 := leq143.get _ _ h132
        have h146 := leq143.get _ _ h133
        have h147 := leq143.get _ _ h134
        have h148 := leq143.get _ _ h135
        have le149 := le136.trans leq143
        have ob150 := ob137.le leq143
        refine hk140 _ _ <| .q rfl (qmove rfl) <| .q rfl (qextract rfl rfl) <| .q rfl (qextract rfl rfl) <| .l rfl (fun _ _ hk151 _ => walloc wfq143 z9 rfl fun A153 b152 nb154 => ?_)
        have ne_b12_b152 := ne_new wfq143 h144 nb154.lo
        have ne_b19_b152 := ne_new wfq143 h145 nb154.lo
        have ne_b52_b152 := ne_new wfq143 h146 nb154.lo
        have ne_b69_b152 := ne_new wfq143 h147 nb154.lo
        have ne_b91_b152 := ne_new wfq143 h148 nb154.lo
        have ge_b152 := none_of wf (Nat.le_trans le149.n nb154.lo)
        have h155 := nb154.le.get _ _ h144
        have h156 := nb154.le.get _ _ h145
        have h157 := nb154.le.get _ _ h146
        have h158 := nb154.le.get _ _ h147
        have h159 := nb154.le.get _ _ h148
        have le160 := le149.trans nb154.le
        have ob161 := ob150.le nb154.le
        refine hk151 _ _ <| .q rfl (qassign rfl) <| .l rfl (fun _ _ hk162 _ => wstore (cs := [str (wConj ((wOf (l.getD k []) (decide (m = 1)))))]) (c' := [str (wConj ((wOf (l.getD k []) (decide (m = 1)))))]) nb154.wf rfl rfl rfl rfl sz9 nb154.get (Nat.le_of_ble_eq_true rfl) rfl rfl fun A163 sb164 => ?_)
        have h165 := sb164.keep _ _ ne_b12_b152 h155
        have h166 := sb164.keep _ _ ne_b19_b152 h156
        have h167 := sb164.keep _ _ ne_b52_b152 h157
        have h168 := sb164.keep _ _ ne_b69_b152 h158
        have h169 := sb164.keep _ _ ne_b91_b152 h159
        have ob170 := ob161.set nb154.get sb164.n sb164.keep
        have le171 := le_store le160 wf ge_b152 sb164.n sb164.keep
        refine hk162 _ _ <| .nil <| h139 _ _ <| .seq fun K172 h173 => .region <| .q rfl (qmove rfl) <| .l rfl (fun _ _ hk174 _ => vcallF rfl (s_rotations (wCore ((wOf (l.getD k []) (decide (m = 1))))) A163) ?_)
        rintro v175 A176 ⟨b1q177, rfl, leq177, wfq177, hAq177⟩
        have h178 := leq177.get _ _ h165
        have h179 := leq177.get _ _ h166
        have h180 := leq177.get _ _ h167
        have h181 := leq177.get _ _ h168
        have h182 := leq177.get _ _ h169
        have h183 := leq177.get _ _ sb164.get
        have le184 := le171.trans leq177
        have ob185 := ob170.le leq177
        have hA := hAq177
        refine hk174 _ _ <| .nil <| h173 _ _ <| .block ?_
        have hx186_b19 := hide_get (bs := [some b12]) h179 (nmB (by rintro rfl; have q1 := h178; rw [h179] at q1; cases q1) nm0)
        have hx186_b52 := hide_get (bs := [some b12]) h180 (nmB (by rintro rfl; have q1 := h178; rw [h180] at q1; cases q1) nm0)
        have hx186_b69 := hide_get (bs := [some b12]) h181 (nmB (by rintro rfl; have q1 := h178; rw [h181] at q1; cases q1) nm0)
        have hx186_b91 := hide_get (bs := [some b12]) h182 (nmB (by rintro rfl; have q1 := h178; rw [h182] at q1; cases q1) nm0)
        have hx186_b152 := hide_get (bs := [some b12]) h183 (nmB (by rintro rfl; have q1 := h178; rw [h183] at q1; cases q1) nm0)
        have hx186_b1q177 := hide_get (bs := [some b12]) hAq177 (nmB (by rintro rfl; have q1 := h178; rw [hAq177] at q1; cases q1) nm0)
        have lM186 := Lets.hideLe hL le184 h178
        have lb186 := le_hide (bs := [some b12]) le184 (hoB ge_b12 ho0)
        have lt186 := wfq177 _ _ h178
        have df186 := hdf77.objs ob185
        refine Run.rangeFunc (wCore (wOf (l.getD k []) (decide (m = 1)))).length (fun j => [str ((wCore (wOf (l.getD k []) (decide (m = 1)))).take j), str ((wCore (wOf (l.getD k []) (decide (m = 1)))).drop j ++ (wCore (wOf (l.getD k []) (decide (m = 1)))).take j)]) (fun j B => (A176.hide [some b12]).le B ∧ B.get b12 = some (.obj true (mobj (addJ k (decide (m = 1)) (wCore (wOf (l.getD k []) (decide (m = 1)))) (wConj (wOf (l.getD k []) (decide (m = 1)))) E2 j)))) (fun j => [(11, str ((wCore (wOf (l.getD k []) (decide (m = 1)))).take j)), (12, str ((wCore (wOf (l.getD k []) (decide (m = 1)))).drop j ++ (wCore (wOf (l.getD k []) (decide (m = 1)))).take j)), (3, .pointer (some ⟨b19, 0, none⟩)), (4, .pointer (some ⟨b52, 0, none⟩)), (37, .pointer (some ⟨b69, 0 + m * 1, none⟩)), (7, .pointer (some ⟨b91, 0, none⟩)), (10, .pointer (some ⟨b152, 0, none⟩))]) rfl Tryz.call91 (fun _ => rfl) (by decide) ?_ ?_ ?_ ?_ ?_ ?_
        · rintro j B B2 ⟨i1, i2⟩ wf2 hn hk
          exact ⟨⟨Nat.le_trans i1.n hn, fun b o g => hk b o (hide_wf wfq177 b o g) (i1.get b o g)⟩, hk _ _ lt186 i2⟩
        · exact ⟨hide_le _ _, h178⟩
        · intro lp J B hJI _ wfB hJ0 hyd
          exact s_rot1 (wCore (wOf (l.getD k []) (decide (m = 1)))) b1q177 lp J B (by have := wCore_length (wOf (l.getD k []) (decide (m = 1))); have := wOf_length (l.getD k []) (decide (m = 1)); omega) (fun i C hj => ⟨_, _, (hJI i C hj).1.get _ _ hx186_b1q177⟩) wfB hJ0 hyd
        · intro F j B hF hj
          refine RunI.seq fun K187 h188 => .region hF (by repeat' first | with_reducible exact no_roundQ | with_reducible apply no_thenQ | with_reducible apply no_blockQ) (by kernel_rfl) <| .q rfl (qassign rfl) <| .nil <| h188 _ _ <| .region hF (by repeat' first | with_reducible exact no_roundQ | with_reducible apply no_thenQ | with_reducible apply no_blockQ) (by kernel_rfl) <| .q rfl (qassign rfl) <| .nil ?_
          exact ⟨EnvLe.cons rfl <| EnvLe.cons rfl <| EnvLe.cons rfl <| EnvLe.cons rfl <| EnvLe.cons rfl <| EnvLe.cons rfl <| EnvLe.cons rfl <| EnvLe.nil _, rfl, rfl⟩
        · rintro F j B lr dr rl rd hF hj ⟨i1, i2⟩ wfB glr gdr hlr hdr
          generalize hM : (A176.hide [some b12]) = M at i1 lb186 lM186 hx186_b19 hx186_b52 hx186_b69 hx186_b91 hx186_b152 hx186_b1q177
          have wfM : M.wf := by rw [← hM]; exact hide_wf wfq177
          have noM : M.get b12 = none := by rw [← hM]; exact hide_none (by simp)
          have ne_l0_b12 : lr ≠ b12 := by omega
          have ne_l00_b12 : dr ≠ b12 := by omega
          have hEj := addJ_len k (decide (m = 1)) (wCore (wOf (l.getD k []) (decide (m = 1)))) (wConj (wOf (l.getD k []) (decide (m = 1)))) E2 j
          have hcl := wCore_length (wOf (l.getD k []) (decide (m = 1)))
          have hwl := wOf_length (l.getD k []) (decide (m = 1))
          have hlk1 := hlk (by omega)
          have hq3 : (wConj (wOf (l.getD k []) (decide (m = 1)))).length ≤ 200 := by have := wConj_length (wOf (l.getD k []) (decide (m = 1))); omega
          have hq1 : (wInverse ((wCore (wOf (l.getD k []) (decide (m = 1)))).take j)).length ≤ 200 := by have := wInverse_length ((wCore (wOf (l.getD k []) (decide (m = 1)))).take j); rw [List.length_take] at this; omega
          have hq2 : (wInverse (wConj (wOf (l.getD k []) (decide (m = 1))))).length ≤ 200 := by have := wInverse_length (wConj (wOf (l.getD k []) (decide (m = 1)))); omega
          refine RunI.block <| .seq fun K189 h190 => .region hF (by repeat' first | with_reducible exact no_roundQ | with_reducible apply no_thenQ | with_reducible apply no_blockQ) (by kernel_rfl) <| .q rfl (qloadAt ag90 rfl rfl (i1.get _ _ hx186_b19) rfl) <| .q rfl (qmove rfl) <| .l rfl (fun _ _ hk191 _ => wlookupS rfl rfl u90 u9 z95 i2 (fun y hmem hmw => ?_) (fun hnew => ?_))
          ·
            refine hk191 _ _ <| .q rfl (qmove rfl) <| .q rfl (qextract rfl rfl) <| .q rfl (qextract rfl rfl) <| .l rfl (fun _ _ hk192 _ => walloc wfB z95 rfl fun A194 b193 nb195 => ?_)
            have ne_b12_b193 := ne_new wfB i2 nb195.lo
            have ne_l0_b193 := ne_new wfB hlr nb195.lo
            have ne_l00_b193 := ne_new wfB hdr nb195.lo
            have ge_b193 := none_of wfM (Nat.le_trans i1.n nb195.lo)
            have h196 := nb195.le.get _ _ i2
            have h197 := nb195.le.get _ _ hlr
            have h198 := nb195.le.get _ _ hdr
            have le199 := i1.trans nb195.le
            refine hk192 _ _ <| .l rfl (fun _ _ hk200 _ => wstore (cs := [str (y.w), str (y.c), num ((y.r : Nat) : Int), .bool (y.i)]) (c' := [str (y.w), str (y.c), num ((y.r : Nat) : Int), .bool (y.i)]) nb195.wf rfl rfl rfl rfl sz95 nb195.get (Nat.le_of_ble_eq_true rfl) rfl rfl fun A201 sb202 => ?_)
            have h203 := sb202.keep _ _ ne_b12_b193 h196
            have h204 := sb202.keep _ _ ne_l0_b193 h197
            have h205 := sb202.keep _ _ ne_l00_b193 h198
            have le206 := le_store le199 wfM ge_b193 sb202.n sb202.keep
            refine hk200 _ _ <| .q rfl (qassign rfl) <| .nil <| h190 _ _ <| .seq fun K207 h208 => .region hF (by repeat' first | with_reducible exact no_roundQ | with_reducible apply no_thenQ | with_reducible apply no_blockQ) (by kernel_rfl) <| .q rfl (qmove rfl) <| .q rfl (qnot rfl) <| .nil <| h208 _ _ ?_
            refine RunI.cond_false rfl <| .skip ?_
            exact ⟨⟨le206, by rw [addJ_succ]; exact (addE_met (x := mkR k (decide (m = 1)) (wCore (wOf (l.getD k []) (decide (m = 1)))) (wConj (wOf (l.getD k []) (decide (m = 1)))) j) hmem hmw).symm ▸ h203⟩, sb202.wf, h204, h205⟩
          ·
            refine hk191 _ _ <| .q rfl (qmove rfl) <| .q rfl (qextract rfl rfl) <| .q rfl (qextract rfl rfl) <| .l rfl (fun _ _ hk209 _ => walloc wfB z95 rfl fun A211 b210 nb212 => ?_)
            have ne_b12_b210 := ne_new wfB i2 nb212.lo
            have ne_l0_b210 := ne_new wfB hlr nb212.lo
            have ne_l00_b210 := ne_new wfB hdr nb212.lo
            have ge_b210 := none_of wfM (Nat.le_trans i1.n nb212.lo)
            have h213 := nb212.le.get _ _ i2
            have h214 := nb212.le.get _ _ hlr
            have h215 := nb212.le.get _ _ hdr
            have le216 := i1.trans nb212.le
            refine hk209 _ _ <| .l rfl (fun _ _ hk217 _ => wstore (cs := [str ([]), str ([]), num ((0 : Nat) : Int), .bool (false)]) (c' := [str ([]), str ([]), num ((0 : Nat) : Int), .bool (false)]) nb212.wf rfl rfl rfl rfl sz95 nb212.get (Nat.le_of_ble_eq_true rfl) rfl rfl fun A218 sb219 => ?_)
            have h220 := sb219.keep _ _ ne_b12_b210 h213
            have h221 := sb219.keep _ _ ne_l0_b210 h214
            have h222 := sb219.keep _ _ ne_l00_b210 h215
            have le223 := le_store le216 wfM ge_b210 sb219.n sb219.keep
            refine hk217 _ _ <| .q rfl (qassign rfl) <| .nil <| h190 _ _ <| .seq fun K224 h225 => .region hF (by repeat' first | with_reducible exact no_roundQ | with_reducible apply no_thenQ | with_reducible apply no_blockQ) (by kernel_rfl) <| .q rfl (qmove rfl) <| .q rfl (qnot rfl) <| .nil <| h225 _ _ ?_
            refine RunI.cond_true rfl <| .drawn [0, 1, 2, 3, 5, 9, 10, 4, 6, 7, 8, 11, 12] hF (by repeat' first | with_reducible exact no_roundQ | with_reducible apply no_thenQ | with_reducible apply no_blockQ) (by kernel_rfl) mixed (by kernel_rfl) (by kernel_rfl) rfl ?_
            have hc226 := cellOf (off := 0) (le223.get _ _ hx186_b19) (show _ = some (.map (some b12)) from rfl)
            refine DOps.q rfl rfl rfl (qloadAt ag90 rfl rfl (le223.get _ _ hx186_b19) rfl) <| .q rfl rfl rfl (qmove rfl) <| .q rfl rfl rfl (qmove rfl) <| .q rfl rfl rfl (qmove rfl) ?_
            have hc227 := cellOf (off := 0) (le223.get _ _ hx186_b152) (show _ = some (str (wConj ((wOf (l.getD k []) (decide (m = 1)))))) from rfl)
            refine DOps.q rfl rfl rfl (qloadAt ag9 rfl rfl (le223.get _ _ hx186_b152) rfl) ?_
            have hc228 := cellOf (off := 0) (le223.get _ _ hx186_b52) (show _ = some (num ((k : Nat) : Int)) from rfl)
            refine DOps.q rfl rfl rfl (qloadAt ag3 rfl rfl (le223.get _ _ hx186_b52) rfl) ?_
            have hc229 := cellOf (off := 0) (le223.get _ _ hx186_b91) (show _ = some (.bool (decide (m = 1))) from rfl)
            refine DOps.q rfl rfl rfl (qloadAt ag4 rfl rfl (le223.get _ _ hx186_b91) rfl) <| .l rfl rfl rfl (fun _ _ hk230 _ => vcallF rfl (s_Inverse ((wCore (wOf (l.getD k []) (decide (m = 1)))).take j) A218 (by first | omega | (have := hlk (by omega); omega) | (rw [List.length_take]; omega) | (rw [List.length_append]; omega)) (lM186.le le223)) ?_)
            rintro v231 A232 ⟨rfl, leq233, wfq233⟩
            have h234 := leq233.get _ _ h220
            have h235 := leq233.get _ _ h221
            have h236 := leq233.get _ _ h222
            have hc238 := cell_le leq233 hc226
            have hc239 := cell_le leq233 hc227
            have hc240 := cell_le leq233 hc228
            have hc241 := cell_le leq233 hc229
            have le242 := le223.trans leq233
            refine hk230 _ _ (HeldNow.list (L := [(⟨b91, 0, none⟩, .bool (decide (m = 1))), (⟨b52, 0, none⟩, num ((k : Nat) : Int)), (⟨b152, 0, none⟩, str (wConj ((wOf (l.getD k []) (decide (m = 1)))))), (⟨b19, 0, none⟩, .map (some b12))]) (by kernel_rfl) (heldCons hc241 (heldCons hc240 (heldCons hc239 (heldCons hc238 heldNil))))) <| .l rfl rfl rfl (fun _ _ hk243 _ => vcallF rfl (s_Inverse (wConj ((wOf (l.getD k []) (decide (m = 1))))) A232 (by first | omega | (have := hlk (by omega); omega) | (rw [List.length_take]; omega) | (rw [List.length_append]; omega)) (lM186.le le242)) ?_)
            rintro v244 A245 ⟨rfl, leq246, wfq246⟩
            have h247 := leq246.get _ _ h234
            have h248 := leq246.get _ _ h235
            have h249 := leq246.get _ _ h236
            have hc251 := cell_le leq246 hc238
            have hc253 := cell_le leq246 hc240
            have hc254 := cell_le leq246 hc241
            have le255 := le242.trans leq246
            refine hk243 _ _ (HeldNow.list (L := [(⟨b91, 0, none⟩, .bool (decide (m = 1))), (⟨b52, 0, none⟩, num ((k : Nat) : Int)), (⟨b19, 0, none⟩, .map (some b12))]) (by kernel_rfl) (heldCons hc254 (heldCons hc253 (heldCons hc251 heldNil)))) <| .q rfl rfl rfl (qsadd rfl rfl (by (try simp only [List.length_append, List.length_drop, List.length_take]); omega)) <| .l rfl rfl rfl (fun _ _ hk256 _ => vcallF rfl (s_Reduce ((wInverse ((wCore (wOf (l.getD k []) (decide (m = 1)))).take j)) ++ (wInverse (wConj ((wOf (l.getD k []) (decide (m = 1))))))) A245 (by first | omega | (have := hlk (by omega); omega) | (rw [List.length_take]; omega) | (rw [List.length_append]; omega)) (lM186.le le255)) ?_)
            rintro v257 A258 ⟨rfl, leq259, wfq259⟩
            have h260 := leq259.get _ _ h247
            have h261 := leq259.get _ _ h248
            have h262 := leq259.get _ _ h249
            have hc264 := cell_le leq259 hc251
            have hc265 := cell_le leq259 hc253
            have hc266 := cell_le leq259 hc254
            have le267 := le255.trans leq259
            refine hk256 _ _ (HeldNow.list (L := [(⟨b91, 0, none⟩, .bool (decide (m = 1))), (⟨b52, 0, none⟩, num ((k : Nat) : Int)), (⟨b19, 0, none⟩, .map (some b12))]) (by kernel_rfl) (heldCons hc266 (heldCons hc265 (heldCons hc264 heldNil)))) <| .q rfl rfl rfl (qbuild rfl (buildV_struct u95 z95 pl95 rfl)) <| .l rfl rfl rfl (fun _ _ hk268 _ => wupdateS (r := (mkR k (decide (m = 1)) (wCore (wOf (l.getD k []) (decide (m = 1)))) (wConj (wOf (l.getD k []) (decide (m = 1)))) j)) wfq259 rfl rfl rfl rfl u90 u9 h260 hnew fun A269 sb270 => ?_)
            have h271 := sb270.keep _ _ ne_l0_b12 h261
            have h272 := sb270.keep _ _ ne_l00_b12 h262
            have le274 := le_store le267 wfM noM sb270.n sb270.keep
            refine hk268 _ _ (HeldNow.none (by kernel_rfl)) <| .done ?_
            exact ⟨⟨le274, by rw [addJ_succ]; exact (addE_new (x := mkR k (decide (m = 1)) (wCore (wOf (l.getD k []) (decide (m = 1)))) (wConj (wOf (l.getD k []) (decide (m = 1)))) j) hnew).symm ▸ sb270.get⟩, sb270.wf, h271, h272⟩
        · rintro A275 Dq276 ⟨i1, i2⟩ wfq276 gD nD hD
          have leq276 := lb186.trans i1
          have h277 := i1.get _ _ hx186_b19
          have h278 := i1.get _ _ hx186_b52
          have h279 := i1.get _ _ hx186_b69
          have dfq276 : Defs A A275 (Dq276 :: Ds) := Defs.push df186 le184 hD (fun b o g => i1.get _ _ (hide_get g (nmB (by rintro rfl; have q1 := h178; rw [g] at q1; cases q1) nm0))) (by cases q1 : A176.get Dq276 with | none => rfl | some o => exact absurd (wfq177 _ _ q1) (by omega))
          have h283 := i2
          have ob284 := Objs.refl A275
          refine h87 _ _ <| .region <| .q rfl (qaddN (b := 1) rfl rfl (by omega)) <| .q rfl (qmove rfl) <| .nil ?_
          exact ⟨⟨m + 1, addV k (l.getD k []) E2 (decide (m = 1)), Dq276 :: Ds⟩, EnvLe.cons rfl <| EnvLe.cons rfl <| EnvLe.cons rfl <| EnvLe.cons rfl <| EnvLe.cons rfl <| EnvLe.cons rfl <| EnvLe.cons rfl <| EnvLe.cons rfl <| EnvLe.cons rfl <| EnvLe.nil _, rfl, ⟨⟨by omega, by rw [List.range_succ, List.foldl_append, ← hE2]; rfl, by have := addJ_len k (decide (m = 1)) (wCore (wOf (l.getD k []) (decide (m = 1)))) (wConj (wOf (l.getD k []) (decide (m = 1)))) E2 (wCore (wOf (l.getD k []) (decide (m = 1)))).length; have := wCore_length (wOf (l.getD k []) (decide (m = 1))); have h0 := hwl; have h1 := hlk (by omega); unfold addV; omega⟩, leq276, h283, h277, h278, h279, (dfq276.objs ob284)⟩, (by (try dsimp only); omega)⟩
    ·
      refine Run.exit <| h47 _ _ <| .region <| .q rfl (qaddN (b := 1) rfl rfl (by omega)) <| .q rfl (qmove rfl) <| .nil ?_
      exact ⟨⟨k + 1, E2, Ds⟩, EnvLe.cons rfl <| EnvLe.cons rfl <| EnvLe.cons rfl <| EnvLe.cons rfl <| EnvLe.nil _, rfl, ⟨⟨by omega, by rw [List.range_succ, List.foldl_append, ← hE, hE2, show m = 2 by omega]; rfl, by omega⟩, le77, hr_b1277, hr_b1977, (hdf77.objs ob80)⟩, (by (try dsimp only); omega)⟩
  ·
    refine Run.exit <| h34 _ _ <| .seq fun K285 h286 => .region <| .l rfl (fun _ _ hk287 _ => wmakeMap wf39 fun A289 b288 nb290 => ?_)
    have ge_b288 := none_of wf (Nat.le_trans le37.n nb290.lo)
    have h291 := nb290.le.get _ _ hr_b1237
    have h292 := nb290.le.get _ _ hr_b1937
    have le293 := le37.trans nb290.le
    have ob294 := ob40.le nb290.le
    refine hk287 _ _ <| .q rfl (qbuild rfl (buildV_struct u99 z99 pl99 rfl)) <| .l rfl (fun _ _ hk295 _ => wbuildSlice (c := [.map (some b288), num (-1)]) nb290.wf rfl (buildSliceV_of u100 sz99 z99 rfl (by decide) (by decide) rfl) fun A297 b296 nb298 => ?_)
    have ne_b12_b296 := ne_new nb290.wf h291 nb298.lo
    have ne_b288_b296 := ne_new nb290.wf nb290.get nb298.lo
    have ge_b296 := none_of wf (Nat.le_trans le293.n nb298.lo)
    have h299 := nb298.le.get _ _ h291
    have h300 := nb298.le.get _ _ h292
    have h301 := nb298.le.get _ _ nb290.get
    have le302 := le293.trans nb298.le
    have ob303 := ob294.le nb298.le
    refine hk295 _ _ <| .q rfl (qbuild rfl (buildV_struct u103 z103 pl103 rfl)) <| .l rfl (fun _ _ hk304 _ => wbox nb298.wf rfl rfl fun A306 b305 nb307 => ?_)
    have ne_b12_b305 := ne_new nb298.wf h299 nb307.lo
    have ne_b288_b305 := ne_new nb298.wf h301 nb307.lo
    have ne_b296_b305 := ne_new nb298.wf nb298.get nb307.lo
    have ge_b305 := none_of wf (Nat.le_trans le302.n nb307.lo)
    have h308 := nb307.le.get _ _ h299
    have h309 := nb307.le.get _ _ h300
    have h310 := nb307.le.get _ _ h301
    have h311 := nb307.le.get _ _ nb298.get
    have le312 := le302.trans nb307.le
    have ob313 := ob303.le nb307.le
    refine hk304 _ _ <| .q rfl (qassign rfl) <| .nil ?_
    have fr314 : Fresh A A306 (.slice (some ⟨b296, 0, none⟩) 1 1) 2 (ncells [(b288, -1)]) := Fresh.lit h311 ge_b296 rfl (Nat.le_refl _)
    have hEsh : ∀ x ∈ E, okR x := fun x hx => allR_ok hp x ((show E = allR l by rw [hE, show k = l.length by omega]; rfl) ▸ hx)
    have hE400 : E.length ≤ 24000 := by have := hz.2.1; omega
    refine h286 _ _ <| .seq fun K315 h316 => .seq fun K317 h318 => .region <| .q rfl (qloadAt ag90 rfl rfl h309 rfl) <| .l rfl (fun _ _ hk319 _ => wrangeM (E := E) nb307.wf rfl u90 h308 fun A320 b321 nb322 => ?_)
    have ne_b12_b321 := ne_new nb307.wf h308 nb322.lo
    have ne_b288_b321 := ne_new nb307.wf h310 nb322.lo
    have ne_b305_b321 := ne_new nb307.wf nb307.get nb322.lo
    have no323 := fr314.own.ne_new nb307.wf nb322.lo
    have ge_b321 := none_of wf (Nat.le_trans le312.n nb322.lo)
    have h324 := nb322.le.get _ _ h308
    have h326 := nb322.le.get _ _ h310
    have h327 := nb322.le.get _ _ nb307.get
    have fr328 := fr314.le nb322.le
    have le329 := le312.trans nb322.le
    have ob330 := ob313.le nb322.le
    refine hk319 _ _ <| .nil <| h318 _ _ <| .block <| .loopD (X := List Nat × List Rot × Nat × Value × List Nat) (fun ⟨idx, L, mo, lv, Ds⟩ => [(15, .pointer (some ⟨b305, 0, none⟩)), (80, .pointer (some ⟨b321, 0, none⟩))]) (fun ⟨idx, L, mo, lv, Ds⟩ => Ds.map V.mark) (fun ⟨idx, L, mo, lv, Ds⟩ B => (L = idx.map (fun j => E.getD j .zero) ∧ idx.Nodup ∧ (∀ j ∈ idx, j < E.length) ∧ (∀ x ∈ L, x.w.length ≤ mo) ∧ mo ≤ 200 ∧ L.length ≤ 30000) ∧ A.le B ∧ Fresh A B lv 4 (rcells L) ∧ Fresh A B (.slice (some ⟨b296, 0, none⟩) 1 1) 2 (ncells ([(b288, -1)])) ∧ B.get b12 = some (.obj true (mobj E)) ∧ B.get b288 = some (.obj true (.map #[] 0)) ∧ B.get b321 = some (.obj true (.mapIter (some b12) E.length idx.toArray E.length)) ∧ B.get b305 = some (.row true [lv, .slice (some ⟨b296, 0, none⟩) 1 1, num ((mo : Nat) : Int)] 3) ∧ V.blk lv ≠ some b12 ∧ V.blk (.slice (some ⟨b296, 0, none⟩) 1 1) ≠ some b12 ∧ V.blk lv ≠ some b288 ∧ V.blk (.slice (some ⟨b296, 0, none⟩) 1 1) ≠ some b288 ∧ V.blk lv ≠ some b321 ∧ V.blk (.slice (some ⟨b296, 0, none⟩) 1 1) ≠ some b321 ∧ V.blk lv ≠ some b305 ∧ V.blk (.slice (some ⟨b296, 0, none⟩) 1 1) ≠ some b305 ∧ Sep lv (.slice (some ⟨b296, 0, none⟩) 1 1) ∧ Defs A B Ds) (fun ⟨idx, L, mo, lv, Ds⟩ => E.length - idx.length) (⟨[], [], 0, .slice none 0 0, Ds⟩) (EnvLe.cons rfl <| EnvLe.cons rfl <| EnvLe.nil _) rfl (⟨⟨rfl, List.Pairwise.nil, (fun _ h => by cases h), (fun _ h => by cases h), by omega, by decide⟩, le329, (Fresh.nil A A320 4), fr328, h324, h326, nb322.get, h327, (fun q => by cases q), (fun q => by cases q; exact ne_b12_b296 rfl), (fun q => by cases q), (fun q => by cases q; exact ne_b288_b296 rfl), (fun q => by cases q), no323, (fun q => by cases q), (fun q => by cases q; exact ne_b296_b305.symm rfl), Sep.nil, (hdf37.objs ob330)⟩) ?_
    rintro ⟨idx, L, mo, lv, Ds⟩ B332 ⟨⟨hL1, hL2, hL3, hL4, hL5, hL6⟩, le331, fr_lv331, fk_nodes0331, hr_b12331, hr_b288331, hr_b321331, hr_b305331, no_lv_b12331, no_nodes0_b12331, no_lv_b288331, no_nodes0_b288331, no_lv_b321331, no_nodes0_b321331, no_lv_b305331, no_nodes0_b305331, sq331_0_1, hdf331⟩
    refine Run.wf fun wf333 => ?_
    have ob334 := Objs.refl B332
    have hEw := fun j (q : j < E.length) => hEsh _ (getD_mem (d := Rot.zero) q)
    have hil := nodup_bound _ _ hL2 hL3
    have hLl : L.length = idx.length := by rw [hL1]; simp
    refine Run.seq fun K335 h336 => .region <| .l rfl (fun _ _ hk337 _ => wnextM (E := E) (idx := idx) wf333 rfl hr_b321331 hr_b12331 ne_b12_b321 (fun kk hkk hki A338 sb339 => ?_) (fun hall => ?_))
    ·
      have df340 := Defs.keep (hdf331.objs ob334) sb339.keep hr_b321331 (fun q => by cases q)
      have h341 := sb339.keep _ _ ne_b12_b321 hr_b12331
      have h342 := sb339.keep _ _ ne_b288_b321 hr_b288331
      have h343 := sb339.keep _ _ ne_b305_b321 hr_b305331
      have fr344 := fr_lv331.keep sb339.keep no_lv_b321331
      have fr345 := fk_nodes0331.keep sb339.keep no_nodes0_b321331
      have le346 := le_store le331 wf ge_b321 sb339.n sb339.keep
      have ob347 := Objs.refl A338
      refine hk337 _ _ <| .q rfl (qextract rfl rfl) <| .nil <| h336 _ _ <| .seq fun K348 h349 => .cond_true rfl <| .skip <| h349 _ _ <| .block <| .seq fun K350 h351 => ?_
      refine Run.region <| .l rfl (fun _ _ hk352 _ => wentryM (E := E) (idx := idx) (k := kk) rfl sb339.get h341 ne_b12_b321 hkk ?_)
      refine hk352 _ _ <| .q rfl (qextract rfl rfl) <| .l rfl (fun _ _ hk353 _ => walloc sb339.wf z95 rfl fun A355 b354 nb356 => ?_)
      have ne_b12_b354 := ne_new sb339.wf h341 nb356.lo
      have ne_b288_b354 := ne_new sb339.wf h342 nb356.lo
      have ne_b321_b354 := ne_new sb339.wf sb339.get nb356.lo
      have ne_b305_b354 := ne_new sb339.wf h343 nb356.lo
      have no357 := fr344.own.ne_new sb339.wf nb356.lo
      have no358 := fr345.own.ne_new sb339.wf nb356.lo
      have ge_b354 := none_of wf (Nat.le_trans le346.n nb356.lo)
      have h359 := nb356.le.get _ _ h341
      have h360 := nb356.le.get _ _ h342
      have h361 := nb356.le.get _ _ sb339.get
      have h362 := nb356.le.get _ _ h343
      have fr363 := fr344.le nb356.le
      have fr364 := fr345.le nb356.le
      have le365 := le346.trans nb356.le
      have ob366 := ob347.le nb356.le
      refine hk353 _ _ <| .l rfl (fun _ _ hk367 _ => wstore (cs := [str ((E.getD kk .zero).w), str ((E.getD kk .zero).c), num (((E.getD kk .zero).r : Nat) : Int), .bool ((E.getD kk .zero).i)]) (c' := [str ((E.getD kk .zero).w), str ((E.getD kk .zero).c), num (((E.getD kk .zero).r : Nat) : Int), .bool ((E.getD kk .zero).i)]) nb356.wf rfl rfl rfl rfl sz95 nb356.get (Nat.le_of_ble_eq_true rfl) rfl rfl fun A368 sb369 => ?_)
      have h370 := sb369.keep _ _ ne_b12_b354 h359
      have h371 := sb369.keep _ _ ne_b288_b354 h360
      have h372 := sb369.keep _ _ ne_b321_b354 h361
      have h373 := sb369.keep _ _ ne_b305_b354 h362
      have fr374 := fr363.keep sb369.keep no357
      have fr375 := fr364.keep sb369.keep no358
      have ob376 := ob366.set nb356.get sb369.n sb369.keep
      have le377 := le_store le365 wf ge_b354 sb369.n sb369.keep
      refine hk367 _ _ <| .nil <| h351 _ _ <| .seq fun K378 h379 => .drawn [0, 1, 2, 3, 4, 5, 6, 7, 8, 9, 10] mixed (by kernel_rfl) (by kernel_rfl) rfl <| .q rfl rfl rfl (qmove rfl) <| .q rfl rfl rfl (qmove rfl) <| .q rfl rfl rfl (qnil rfl) <| .q rfl rfl rfl (qfieldAddr fl103_0 sz101 (by decide) rfl) ?_
      have hc380 := cellOf (off := 0) h373 (show _ = some (lv) from rfl)
      refine DOps.q rfl rfl rfl (qloadAt ag101 rfl rfl h373 rfl) <| .q rfl rfl rfl (qloadAggAt ag95 sz95 rfl rfl sb369.get rfl) <| .l rfl rfl rfl (fun _ _ hk385 _ => wbuildSlice (c := [str ((E.getD kk .zero).w), str ((E.getD kk .zero).c), num (((E.getD kk .zero).r : Nat) : Int), .bool ((E.getD kk .zero).i)]) sb369.wf rfl (buildSliceV_of u101 sz95 z95 rfl (by decide) (by decide) rfl) fun A387 b386 nb388 => ?_)
      have h391 := nb388.le.get _ _ h370
      have h392 := nb388.le.get _ _ h371
      have h393 := nb388.le.get _ _ h372
      have h394 := nb388.le.get _ _ h373
      have h395 := nb388.le.get _ _ sb369.get
      have fr396 := fr374.le nb388.le
      have fr397 := fr375.le nb388.le
      have hc398 := cell_le nb388.le hc380
      have le403 := le377.trans nb388.le
      have ob404 := ob376.le nb388.le
      refine hk385 _ _ (HeldNow.list (L := [(⟨b305, 0, none⟩, lv)]) (by kernel_rfl) (heldCons hc398 heldNil)) <| .l rfl rfl rfl (fun _ _ hk405 _ => wappend (ys := [str ((E.getD kk .zero).w), str ((E.getD kk .zero).c), num (((E.getD kk .zero).r : Nat) : Int), .bool ((E.getD kk .zero).i)]) rfl rfl u101 sz95 inf95 z95 rfl (by decide) u101 (fun _ h => by cases h) fr396.own (listOf_row (n := 1) nb388.get rfl) rfl rfl (by show (_ + _) * 48 ≤ _; simp only [rcells_length, List.length_cons, List.length_nil]; (try simp only [List.length_append, List.length_cons, List.length_nil]); omega) (by simp only [rcells_length, List.length_cons, List.length_nil]; (try simp only [List.length_append, List.length_cons, List.length_nil]); omega) fun A406 v407 ap408 => ?_)
      rw [show ([str ((E.getD kk .zero).w), str ((E.getD kk .zero).c), num (((E.getD kk .zero).r : Nat) : Int), .bool ((E.getD kk .zero).i)] : List Value) = rcells [⟨(E.getD kk .zero).w, (E.getD kk .zero).c, (E.getD kk .zero).r, (E.getD kk .zero).i⟩] from rfl, rcells_append] at ap408
      obtain ⟨fr411, le412⟩ := Fresh.grow fr396 le403 wf ap408
      have h413 := ap408.keep no_lv_b12331 h391
      have ne414 := ap408.ne no_lv_b12331 nb388.wf h391
      have h415 := ap408.keep no_lv_b288331 h392
      have ne416 := ap408.ne no_lv_b288331 nb388.wf h392
      have h417 := ap408.keep no_lv_b321331 h393
      have ne418 := ap408.ne no_lv_b321331 nb388.wf h393
      have h419 := ap408.keep no_lv_b305331 h394
      have ne420 := ap408.ne no_lv_b305331 nb388.wf h394
      have h421 := ap408.keep no357 h395
      have ob423 := ob404.appd fr396.own ap408
      have sp425 := Sep.appd (show Sep lv (.slice (some ⟨b296, 0, none⟩) 1 1) from sq331_0_1) fr397.own nb388.wf ap408
      have fr424 := fr397.appd ap408 sq331_0_1
      refine hk405 _ _ (HeldNow.none (by kernel_rfl)) <| .q rfl rfl rfl (qnil rfl) <| .q rfl rfl rfl (qfieldAddr fl103_0 sz101 (by decide) rfl) ?_
      obtain ⟨p428, l428, c428, q428, _⟩ := fr411.own.slice
      subst q428
      refine DOps.l rfl rfl rfl (fun _ _ hk427 _ => wstore (cs := [.slice p428 l428 c428]) (c' := [.slice p428 l428 c428, .slice (some ⟨b296, 0, none⟩) 1 1, num ((mo : Nat) : Int)]) ap408.wf rfl rfl rfl rfl sz101 h419 (Nat.le_of_ble_eq_true rfl) rfl rfl fun A429 sb430 => ?_)
      have h431 := sb430.keep _ _ ne_b12_b305 h413
      have h432 := sb430.keep _ _ ne_b288_b305 h415
      have h433 := sb430.keep _ _ ne_b305_b321.symm h417
      have h434 := sb430.keep _ _ ne_b305_b354.symm h421
      have fr435 := fr424.keep sb430.keep no_nodes0_b305331
      have fr436 := fr411.keep sb430.keep ne420
      have ob437 := ob423.set h419 sb430.n sb430.keep
      have le438 := le_store le412 wf ge_b305 sb430.n sb430.keep
      refine hk427 _ _ (HeldNow.none (by kernel_rfl)) <| .done <| h379 _ _ <| .drawn [0, 1, 2, 3, 4, 5, 6, 7, 8, 9, 10, 11] mixed (by kernel_rfl) (by kernel_rfl) rfl <| .q rfl rfl rfl (qmove rfl) <| .q rfl rfl rfl (qmove rfl) <| .q rfl rfl rfl (qnil rfl) <| .q rfl rfl rfl (qfieldAddr fl103_2 sz3 (by decide) rfl) <| .q rfl rfl rfl (qloadAt ag3 rfl rfl sb430.get rfl) <| .q rfl rfl rfl (qfieldAddr fl95_0 sz9 (by decide) rfl) ?_
      refine DOps.q rfl rfl rfl (qloadAt ag9 rfl rfl h434 rfl) <| .q rfl rfl rfl (qslen u9 rfl) <| .q rfl rfl rfl (qmaxN rfl rfl) <| .q rfl rfl rfl (qnil rfl) <| .q rfl rfl rfl (qfieldAddr fl103_2 sz3 (by decide) rfl) <| .l rfl rfl rfl (fun _ _ hk441 _ => wstore (cs := [num ((max mo (((E.getD kk .zero).w).length) : Nat) : Int)]) (c' := [.slice p428 l428 c428, .slice (some ⟨b296, 0, none⟩) 1 1, num ((max mo (((E.getD kk .zero).w).length) : Nat) : Int)]) sb430.wf rfl rfl rfl rfl sz3 sb430.get (Nat.le_of_ble_eq_true rfl) rfl rfl fun A442 sb443 => ?_)
      have h444 := sb443.keep _ _ ne_b12_b305 h431
      have h445 := sb443.keep _ _ ne_b288_b305 h432
      have h446 := sb443.keep _ _ ne_b305_b321.symm h433
      have fr448 := fr435.keep sb443.keep no_nodes0_b305331
      have fr449 := fr436.keep sb443.keep ne420
      have ob450 := ob437.set sb430.get sb443.n sb443.keep
      have le451 := le_store le438 wf ge_b305 sb443.n sb443.keep
      refine hk441 _ _ (HeldNow.none (by kernel_rfl)) <| .done ?_
      exact ⟨⟨idx ++ [kk], L ++ [⟨(E.getD kk .zero).w, (E.getD kk .zero).c, (E.getD kk .zero).r, (E.getD kk .zero).i⟩], max mo (((E.getD kk .zero).w).length), .slice p428 l428 c428, Ds⟩, EnvLe.cons rfl <| EnvLe.cons rfl <| EnvLe.nil _, rfl, ⟨⟨by rw [hL1]; simp, nodup_snoc hL2 hki, fun j hj => (List.mem_append.1 hj).elim (hL3 j) (fun q => by simp at q; omega), fun x hx => (List.mem_append.1 hx).elim (fun q => Nat.le_trans (hL4 x q) (Nat.le_max_left _ _)) (fun q => by simp at q; rw [q]; exact Nat.le_max_right _ _), by have := (hEw kk hkk).1; omega, by simp; omega⟩, le451, fr449, fr448, h444, h445, h446, sb443.get, ne414, no_nodes0_b12331, ne416, no_nodes0_b288331, ne418, no_nodes0_b321331, ne420, no_nodes0_b305331, sp425, (df340.objs ob450)⟩, (by have := nodup_bound _ _ (nodup_snoc hL2 hki) (fun j hj => (List.mem_append.1 hj).elim (hL3 j) (fun q => by simp at q; omega) : ∀ j ∈ idx ++ [kk], j < E.length); simp at this ⊢; omega)⟩
    ·
      refine hk337 _ _ <| .q rfl (qextract rfl rfl) <| .nil <| h336 _ _ <| .seq fun K452 h453 => .cond_false rfl <| .exit <| h316 _ _ <| .seq fun K454 h455 => .region ?_
      refine Ops.q rfl (qmove rfl) <| .q rfl (qnil rfl) <| .q rfl (qfieldAddr fl103_0 sz101 (by decide) rfl) <| .q rfl (qloadAt ag101 rfl rfl hr_b305331 rfl) ?_
      have hok1 : ∀ x ∈ L, okR x := by rw [hL1]; intro x hx; obtain ⟨j, hj, rfl⟩ := List.mem_map.1 hx; exact hEw j (hL3 j hj)
      have hperm : L.Perm E := by rw [hL1]; exact picks_perm hL2 hL3 hall
      have le460 := le_hide (bs := [blk lv]) le331 (hoV fr_lv331.lo ho0)
      refine Ops.l rfl (fun _ _ hk456 _ => vcallF rfl (s_sortW L lv (B332.hide [blk lv]) B332 (hide_le B332 [blk lv]) (hide_wf wf333) (fr_lv331.hide (by simp)) (hL.le le460) hok1 hL6) ?_)
      rintro v457 A458 ⟨L2q459, hpq459, hsq459, rfl, leq459, wfq459, foq459_0⟩
      have hg463 := hide_get (bs := [blk lv]) hr_b288331 (nmV no_lv_b288331 nm0)
      have h464 := leq459.get _ _ hg463
      have hg467 := hide_get (bs := [blk lv]) hr_b305331 (nmV no_lv_b305331 nm0)
      have h468 := leq459.get _ _ hg467
      have sp469 := foq459_0.sep fk_nodes0331.own (offV sq331_0_1 off0)
      have fr470 := fk_nodes0331.off (offV sq331_0_1 off0) leq459
      have fr471 := foq459_0.base le460
      have no475 := foq459_0.seph hg467
      have le476 := le460.trans leq459
      have ob477 := ob334.hideOwn fr_lv331.own leq459
      try (have hok2 : ∀ x ∈ L2q459, okR x := fun x hx => hok1 x (hpq459.mem_iff.1 hx))
      refine hk456 _ _ <| .nil <| h455 _ _ <| .seq fun K478 h479 => .seq fun K480 h481 => .region <| .q rfl (qmove rfl) <| .q rfl (qnil rfl) <| .q rfl (qfieldAddr fl103_0 sz101 (by decide) rfl) <| .q rfl (qloadAt ag101 rfl rfl h468 rfl) ?_
      refine Ops.q rfl (qlenS (n := L2q459.length) u101 rfl fr471.slc (by omega) (rcells_len _)) <| .q rfl (qmove rfl) <| .nil <| h481 _ _ <| .block <| .loopD (X := Nat × List (List UInt8) × List Int × List Nat × Value × List Nat) (fun ⟨i, pf, bs, bl, nv, Ds⟩ => [(15, .pointer (some ⟨b305, 0, none⟩)), (114, lv), (115, num ((L2q459.length : Nat) : Int)), (116, num ((i : Nat) : Int))]) (fun ⟨i, pf, bs, bl, nv, Ds⟩ => Ds.map V.mark) (fun ⟨i, pf, bs, bl, nv, Ds⟩ B => (i ≤ L2q459.length ∧ (pf, bs) = (List.range i).foldl (tword L2q459) ([[]], [-1]) ∧ bl.length = bs.length ∧ bs.length = pf.length ∧ PC pf ∧ pf.length ≤ 1 + 200 * i) ∧ A.le B ∧ Fresh A B nv 2 (ncells (bl.zip bs)) ∧ Fresh A B lv 4 (rcells L2q459) ∧ B.get b305 = some (.row true [lv, nv, num ((mo : Nat) : Int)] 3) ∧ V.blk nv ≠ some b305 ∧ V.blk lv ≠ some b305 ∧ Sep nv lv ∧ Defs A B Ds ∧ (Trie A B pf bl)) (fun ⟨i, pf, bs, bl, nv, Ds⟩ => L2q459.length - i) (⟨0, [[]], [-1], [b288], .slice (some ⟨b296, 0, none⟩) 1 1, Ds⟩) (EnvLe.cons rfl <| EnvLe.cons rfl <| EnvLe.cons rfl <| EnvLe.cons rfl <| EnvLe.nil _) rfl (⟨⟨Nat.zero_le _, rfl, rfl, rfl, PC.first, by simp⟩, le476, fr470, fr471, h468, no_nodes0_b305331, no475, (Sep.symm sp469), (hdf331.objs ob477), Trie.first h464 ge_b288⟩) ?_
      rintro ⟨i, pf, bs, bl, nv, Ds⟩ B483 ⟨⟨hi, ht, hbl, hbs, hpc, hpl⟩, le482, fr_nv482, fk_oq459_0482, hr_b305482, no_nv_b305482, no_oq459_0_b305482, sq482_0_1, hdf482, hT⟩
      refine Run.wf fun wf484 => ?_
      have ob485 := Objs.refl B483
      have hzl0 : (bl.zip bs).length = pf.length := by rw [List.length_zip]; omega
      have hwx := fun q : i < L2q459.length => (hok2 _ (getD_mem (d := Rot.zero) q)).1
      have hL2l : L2q459.length ≤ 30000 := by rw [hpq459.length_eq]; exact hL6
      refine Run.seq fun K486 h487 => .region <| .q rfl (qlssN rfl rfl) <| .nil <| h487 _ _ <| .seq fun K488 h489 => .if rfl (fun p490 => ?_) (fun p490 => ?_)
      ·
        refine Run.skip <| h489 _ _ <| .seq fun K491 h492 => .block <| .seq fun K493 h494 => .region <| .q rfl (qmove rfl) ?_
        obtain ⟨b495, f495, rw495, r495, rc495, n495, k495, e495, l495, g495, cl495, cs495⟩ := Slc.at (i := i) fk_oq459_0482.slc (by simp only [rcells_length]; omega) (by omega)
        refine Ops.q rfl (qindexS u101 sz95 rfl e495 rfl l495) <| .q rfl (qloadAggAt ag95 sz95 rfl rfl g495 (cl495.trans (congrArg some (rcells_at (by omega))))) <| .l rfl (fun _ _ hk496 _ => walloc wf484 z95 rfl fun A498 b497 nb499 => ?_)
        have ne_b305_b497 := ne_new wf484 hr_b305482 nb499.lo
        have no500 := fr_nv482.own.ne_new wf484 nb499.lo
        have no501 := fk_oq459_0482.own.ne_new wf484 nb499.lo
        have ge_b497 := none_of wf (Nat.le_trans le482.n nb499.lo)
        have h502 := nb499.le.get _ _ hr_b305482
        have fr503 := fr_nv482.le nb499.le
        have fr504 := fk_oq459_0482.le nb499.le
        have le505 := le482.trans nb499.le
        have ob506 := ob485.le nb499.le
        refine hk496 _ _ <| .q rfl (qassign rfl) <| .l rfl (fun _ _ hk507 _ => wstore (cs := [str ((L2q459.getD i .zero).w), str ((L2q459.getD i .zero).c), num (((L2q459.getD i .zero).r : Nat) : Int), .bool ((L2q459.getD i .zero).i)]) (c' := [str ((L2q459.getD i .zero).w), str ((L2q459.getD i .zero).c), num (((L2q459.getD i .zero).r : Nat) : Int), .bool ((L2q459.getD i .zero).i)]) nb499.wf rfl rfl rfl rfl sz95 nb499.get (Nat.le_of_ble_eq_true rfl) rfl rfl fun A508 sb509 => ?_)
        have h510 := sb509.keep _ _ ne_b305_b497 h502
        have fr511 := fr503.keep sb509.keep no500
        have fr512 := fr504.keep sb509.keep no501
        have ob513 := ob506.set nb499.get sb509.n sb509.keep
        have le514 := le_store le505 wf ge_b497 sb509.n sb509.keep
        refine hk507 _ _ <| .nil <| h494 _ _ <| .seq fun K515 h516 => .region <| .q rfl (qassign rfl) <| .nil <| h516 _ _ <| .seq fun K517 h518 => .region ?_
        refine Ops.q rfl (qfieldAddr fl95_0 sz9 (by decide) rfl) <| .q rfl (qloadAt ag9 rfl rfl sb509.get rfl) <| .q rfl (qslen u9 rfl) <| .q rfl (qmove rfl) <| .nil <| h518 _ _ <| .block <| .loopD (X := Nat × Nat × List (List UInt8) × List Int × List Nat × Value × List Nat) (fun ⟨k, nd, pf2, bs2, bl2, nv2, Ds⟩ => [(15, .pointer (some ⟨b305, 0, none⟩)), (18, num ((i : Nat) : Int)), (19, .pointer (some ⟨b497, 0, none⟩)), (20, num ((nd : Nat) : Int)), (114, lv), (115, num ((L2q459.length : Nat) : Int)), (116, num ((i : Nat) : Int)), (123, num ((((L2q459.getD i .zero).w).length : Nat) : Int)), (124, num ((k : Nat) : Int))]) (fun ⟨k, nd, pf2, bs2, bl2, nv2, Ds⟩ => Ds.map V.mark) (fun ⟨k, nd, pf2, bs2, bl2, nv2, Ds⟩ B => (k ≤ (L2q459.getD i .zero).w.length ∧ (pf2, bs2) = (List.range k).foldl (tstep (L2q459.getD i .zero).w i) (pf, bs) ∧ bl2.length = bs2.length ∧ bs2.length = pf2.length ∧ PC pf2 ∧ pf2.length ≤ pf.length + k ∧ (L2q459.getD i .zero).w.take k ∈ pf2 ∧ nd = pf2.idxOf ((L2q459.getD i .zero).w.take k)) ∧ A.le B ∧ Fresh A B nv2 2 (ncells (bl2.zip bs2)) ∧ Fresh A B lv 4 (rcells L2q459) ∧ B.get b305 = some (.row true [lv, nv2, num ((mo : Nat) : Int)] 3) ∧ B.get b497 = some (.row true [str ((L2q459.getD i .zero).w), str ((L2q459.getD i .zero).c), num (((L2q459.getD i .zero).r : Nat) : Int), .bool ((L2q459.getD i .zero).i)] 4) ∧ V.blk nv2 ≠ some b305 ∧ V.blk lv ≠ some b305 ∧ V.blk nv2 ≠ some b497 ∧ V.blk lv ≠ some b497 ∧ Sep nv2 lv ∧ Defs A B Ds ∧ (Trie A B pf2 bl2)) (fun ⟨k, nd, pf2, bs2, bl2, nv2, Ds⟩ => (L2q459.getD i .zero).w.length - k) (⟨0, 0, pf, bs, bl, nv, Ds⟩) (EnvLe.cons rfl <| EnvLe.cons rfl <| EnvLe.cons rfl <| EnvLe.cons rfl <| EnvLe.cons rfl <| EnvLe.cons rfl <| EnvLe.cons rfl <| EnvLe.cons rfl <| EnvLe.cons rfl <| EnvLe.nil _) rfl (⟨⟨Nat.zero_le _, rfl, hbl, hbs, hpc, Nat.le_refl _, (by simpa using hpc.mem0), (by simpa using hpc.idx0.symm)⟩, le514, fr511, fr512, h510, sb509.get, no_nv_b305482, no_oq459_0_b305482, no500, no501, sq482_0_1, (hdf482.objs ob513), (hT.objs ob513)⟩) ?_
        rintro ⟨k, nd, pf2, bs2, bl2, nv2, Ds⟩ B520 ⟨⟨hk4, ht2, hbl2, hbs2, hpc2, hpl2, hp, hq⟩, le519, fr_nv2519, fk_oq459_0519, hr_b305519, hr_b497519, no_nv2_b305519, no_oq459_0_b305519, no_nv2_b497519, no_oq459_0_b497519, sq519_0_1, hdf519, hT2⟩
        refine Run.wf fun wf521 => ?_
        have ob522 := Objs.refl B520
        have hndl : nd < pf2.length := hq ▸ idxOf_lt hp
        have hzl : (bl2.zip bs2).length = pf2.length := by rw [List.length_zip]; omega
        have hw200 := hwx (by omega)
        refine Run.seq fun K523 h524 => .region <| .q rfl (qlssN rfl rfl) <| .nil <| h524 _ _ <| .seq fun K525 h526 => .if rfl (fun p527 => ?_) (fun p527 => ?_)
        ·
          refine Run.skip <| h526 _ _ <| .seq fun K528 h529 => .block <| .seq fun K530 h531 => .region <| .q rfl (qmove rfl) <| .q rfl (qassign rfl) <| .nil <| h531 _ _ ?_
          refine Run.seq fun K532 h533 => .drawn [0, 1, 2, 3, 4, 5, 6, 7, 8, 9, 10, 11, 12, 13, 14, 15, 16, 17] mixed (by kernel_rfl) (by kernel_rfl) rfl <| .q rfl rfl rfl (qmove rfl) <| .q rfl rfl rfl (qnil rfl) <| .q rfl rfl rfl (qfieldAddr fl103_1 sz100 (by decide) rfl) <| .q rfl rfl rfl (qloadAt ag100 rfl rfl hr_b305519 rfl) <| .q rfl rfl rfl (qmove rfl) ?_
          obtain ⟨b535, f535, rw535, r535, rc535, n535, k535, e535, l535, g535, cl535, cs535⟩ := Slc.at (i := nd) fr_nv2519.slc (by simp only [ncells_length]; omega) (by omega)
          refine DOps.q rfl rfl rfl (qindexS u100 sz99 rfl e535 rfl l535) <| .q rfl rfl rfl (qfieldAddr fl99_0 sz97 (by decide) rfl) <| .q rfl rfl rfl (qloadAt ag97 rfl rfl g535 ((cs535 0 (by decide)).trans (ncells_f0 (by omega)))) <| .q rfl rfl rfl (qfieldAddr fl95_0 sz9 (by decide) rfl) <| .q rfl rfl rfl (qloadAt ag9 rfl rfl hr_b497519 rfl) <| .q rfl rfl rfl (qmove rfl) <| .q rfl rfl rfl (qsix u9 rfl rfl (by omega)) ?_
          have hTc539 := hT2.objs ob522
          obtain ⟨es539, clk539, hgm539, hE539⟩ := hTc539.2.2.2.2 nd hndl
          refine DOps.l rfl rfl rfl (fun _ _ hk538 _ => wlookupB (q := (L2q459.getD i .zero).w.take (k + 1)) rfl rfl u97 u5 z3 (by rw [zip_fst hbl2 (by omega)]; exact hgm539) hE539 (by rw [hq, getD_idxOf hp]; exact take_next (by omega)) (fun hin => ?_) (fun hin => ?_))
          ·
            have hidx := idxOf_lt hin
            refine hk538 _ _ (HeldNow.none (by kernel_rfl)) <| .q rfl rfl rfl (qmove rfl) <| .q rfl rfl rfl (qextract rfl rfl) <| .q rfl rfl rfl (qextract rfl rfl) <| .q rfl rfl rfl (qassign rfl) <| .q rfl rfl rfl (qassign rfl) <| .done <| h533 _ _ <| .seq fun K540 h541 => .seq fun K542 h543 => ?_
            refine Run.region <| .q rfl (qmove rfl) <| .q rfl (qnot rfl) <| .nil <| h543 _ _ <| .cond_false rfl <| .skip <| h541 _ _ <| .seq fun K544 h545 => .region ?_
            refine Ops.q rfl (qmove rfl) <| .q rfl (qassign rfl) <| .nil <| h545 _ _ <| .seq fun K546 h547 => .region <| .q rfl (qmove rfl) <| .q rfl (qaddN (b := 1) rfl rfl (by omega)) <| .q rfl (qmulN (a := 2) rfl rfl (by omega)) <| .q rfl (qfieldAddr fl95_0 sz9 (by decide) rfl) ?_
            refine Ops.q rfl (qloadAt ag9 rfl rfl hr_b497519 rfl) <| .q rfl (qslen u9 rfl) <| .q rfl (qgtrN rfl rfl) <| .q rfl (qmove rfl) <| .part (t := 182) rfl (fun p548 => ?_) (fun p548 => ?_)
            ·
              refine Ops.on rfl rfl <| .q rfl (qmove rfl) <| .on rfl rfl <| .q rfl (qnil rfl) <| .on rfl rfl <| .q rfl (qfieldAddr fl103_1 sz100 (by decide) rfl) <| .on rfl rfl <| .q rfl (qloadAt ag100 rfl rfl hr_b305519 rfl) <| .on rfl rfl <| .q rfl (qmove rfl) ?_
              refine Ops.on rfl rfl ?_
              obtain ⟨b549, f549, rw549, r549, rc549, n549, k549, e549, l549, g549, cl549, cs549⟩ := Slc.at (i := pf2.idxOf ((L2q459.getD i .zero).w.take (k + 1))) fr_nv2519.slc (by simp only [ncells_length]; omega) (by omega)
              refine Ops.q rfl (qindexS u100 sz99 rfl e549 rfl l549) <| .on rfl rfl <| .q rfl (qfieldAddr fl99_1 sz3 (by decide) rfl) <| .on rfl rfl <| .q rfl (qloadAt ag3 rfl rfl g549 (((cs549 1 (by decide)).trans (ncells_f1 (by omega))).trans (congrArg (fun z => some (num z)) (zip_snd (by (try simp only [List.length_append, List.length_cons, List.length_nil]); omega) (by (try simp only [List.length_append, List.length_cons, List.length_nil]); omega))))) <| .on rfl rfl <| .q rfl (qlss rfl rfl) <| .q rfl (qpickT rfl rfl) <| .nil <| h547 _ _ ?_
              refine Run.if rfl (fun p550 => ?_) (fun p550 => ?_)
              ·
                refine Run.region <| .q rfl (qmove rfl) <| .q rfl (qnil rfl) <| .q rfl (qfieldAddr fl103_1 sz100 (by decide) rfl) <| .q rfl (qloadAt ag100 rfl rfl hr_b305519 rfl) <| .q rfl (qmove rfl) <| .q rfl (qmove rfl) ?_
                obtain ⟨b551, f551, rw551, r551, rc551, n551, k551, e551, l551, g551, cl551, cs551⟩ := Slc.at (i := pf2.idxOf ((L2q459.getD i .zero).w.take (k + 1))) fr_nv2519.slc (by simp only [ncells_length]; omega) (by omega)
                refine Ops.q rfl (qindexS u100 sz99 rfl e551 rfl l551) <| .q rfl (qfieldAddr fl99_1 sz3 (by decide) rfl) <| .l rfl (fun _ _ hk552 _ => wstoreOwn (size := 2) (i := (pf2.idxOf ((L2q459.getD i .zero).w.take (k + 1)))) (j := 1) fr_nv2519 e551 l551 (by decide) wf521 rfl rfl rfl sz3 rfl fun A553 rr556 rc556 gg556 sb554 fr555 => ?_)
                rw [ncells_set (by (try simp only [List.length_append, List.length_cons, List.length_nil]); omega) (by (try simp only [List.length_append, List.length_cons, List.length_nil]); omega)] at fr555
                have h557 := sb554.keep _ _ (fun q => no_nv2_b305519 (by rw [e551]; exact congrArg some q.symm)) hr_b305519
                have h558 := sb554.keep _ _ (fun q => no_nv2_b497519 (by rw [e551]; exact congrArg some q.symm)) hr_b497519
                have fr559 := fk_oq459_0519.keep sb554.keep (fun q => sq519_0_1 _ (by rw [e551]; rfl) q)
                have le560 := le_store le519 wf (fr_nv2519.lo _ (by rw [e551]; rfl)) sb554.n sb554.keep
                have ob561 := ob522.set gg556 sb554.n sb554.keep
                refine hk552 _ _ <| .nil <| h529 _ _ <| .region <| .q rfl (qaddN (b := 1) rfl rfl (by omega)) <| .q rfl (qmove rfl) <| .nil ?_
                exact ⟨⟨k + 1, pf2.idxOf ((L2q459.getD i .zero).w.take (k + 1)), pf2, (bs2.set (pf2.idxOf ((L2q459.getD i .zero).w.take (k + 1))) ((i : Nat) : Int)), bl2, nv2, Ds⟩, EnvLe.cons rfl <| EnvLe.cons rfl <| EnvLe.cons rfl <| EnvLe.cons rfl <| EnvLe.cons rfl <| EnvLe.cons rfl <| EnvLe.cons rfl <| EnvLe.cons rfl <| EnvLe.cons rfl <| EnvLe.nil _, rfl, ⟨⟨by omega, fold_snoc ht2 (tstep_set (if_pos hin) rfl ⟨by omega, by assumption⟩), (by (try simp only [List.length_append, List.length_set, List.length_cons, List.length_nil]); omega), (by (try simp only [List.length_append, List.length_set, List.length_cons, List.length_nil]); omega), hpc2, (by (try simp only [List.length_append, List.length_set, List.length_cons, List.length_nil]); omega), hin, rfl⟩, le560, fr555, fr559, h557, h558, no_nv2_b305519, no_oq459_0_b305519, no_nv2_b497519, no_oq459_0_b497519, sq519_0_1, (hdf519.objs ob561), (hT2.objs ob561)⟩, (by (try dsimp only); omega)⟩
              ·
                refine Run.skip <| h529 _ _ <| .region <| .q rfl (qaddN (b := 1) rfl rfl (by omega)) <| .q rfl (qmove rfl) <| .nil ?_
                exact ⟨⟨k + 1, pf2.idxOf ((L2q459.getD i .zero).w.take (k + 1)), pf2, bs2, bl2, nv2, Ds⟩, EnvLe.cons rfl <| EnvLe.cons rfl <| EnvLe.cons rfl <| EnvLe.cons rfl <| EnvLe.cons rfl <| EnvLe.cons rfl <| EnvLe.cons rfl <| EnvLe.cons rfl <| EnvLe.cons rfl <| EnvLe.nil _, rfl, ⟨⟨by omega, fold_snoc ht2 (tstep_not (if_pos hin) rfl (by rintro ⟨q1, q2⟩; omega)), (by (try simp only [List.length_append, List.length_set, List.length_cons, List.length_nil]); omega), (by (try simp only [List.length_append, List.length_set, List.length_cons, List.length_nil]); omega), hpc2, (by (try simp only [List.length_append, List.length_set, List.length_cons, List.length_nil]); omega), hin, rfl⟩, le519, fr_nv2519, fk_oq459_0519, hr_b305519, hr_b497519, no_nv2_b305519, no_oq459_0_b305519, no_nv2_b497519, no_oq459_0_b497519, sq519_0_1, (hdf519.objs ob522), (hT2.objs ob522)⟩, (by (try dsimp only); omega)⟩
            ·
              refine Ops.off rfl rfl rfl rfl <| .off rfl rfl rfl rfl <| .off rfl rfl rfl rfl <| .off rfl rfl rfl rfl <| .off rfl rfl rfl rfl <| .off rfl rfl rfl rfl <| .off rfl rfl rfl rfl <| .off rfl rfl rfl rfl <| .off rfl rfl rfl rfl <| .q rfl (qpickF rfl rfl) ?_
              refine Ops.nil <| h547 _ _ <| .cond_false rfl <| .skip <| h529 _ _ <| .region <| .q rfl (qaddN (b := 1) rfl rfl (by omega)) <| .q rfl (qmove rfl) <| .nil ?_
              exact ⟨⟨k + 1, pf2.idxOf ((L2q459.getD i .zero).w.take (k + 1)), pf2, bs2, bl2, nv2, Ds⟩, EnvLe.cons rfl <| EnvLe.cons rfl <| EnvLe.cons rfl <| EnvLe.cons rfl <| EnvLe.cons rfl <| EnvLe.cons rfl <| EnvLe.cons rfl <| EnvLe.cons rfl <| EnvLe.cons rfl <| EnvLe.nil _, rfl, ⟨⟨by omega, fold_snoc ht2 (tstep_not (if_pos hin) rfl (by rintro ⟨q1, q2⟩; omega)), (by (try simp only [List.length_append, List.length_set, List.length_cons, List.length_nil]); omega), (by (try simp only [List.length_append, List.length_set, List.length_cons, List.length_nil]); omega), hpc2, (by (try simp only [List.length_append, List.length_set, List.length_cons, List.length_nil]); omega), hin, rfl⟩, le519, fr_nv2519, fk_oq459_0519, hr_b305519, hr_b497519, no_nv2_b305519, no_oq459_0_b305519, no_nv2_b497519, no_oq459_0_b497519, sq519_0_1, (hdf519.objs ob522), (hT2.objs ob522)⟩, (by (try dsimp only); omega)⟩
          ·
            refine hk538 _ _ (HeldNow.none (by kernel_rfl)) <| .q rfl rfl rfl (qmove rfl) <| .q rfl rfl rfl (qextract rfl rfl) <| .q rfl rfl rfl (qextract rfl rfl) <| .q rfl rfl rfl (qassign rfl) <| .q rfl rfl rfl (qassign rfl) <| .done <| h533 _ _ <| .seq fun K562 h563 => .seq fun K564 h565 => ?_
            refine Run.region <| .q rfl (qmove rfl) <| .q rfl (qnot rfl) <| .nil <| h565 _ _ <| .cond_true rfl <| .seq fun K566 h567 => .region <| .q rfl (qmove rfl) <| .q rfl (qnil rfl) ?_
            refine Ops.q rfl (qfieldAddr fl103_1 sz100 (by decide) rfl) <| .q rfl (qloadAt ag100 rfl rfl hr_b305519 rfl) <| .q rfl (qlenS (n := pf2.length) u100 rfl fr_nv2519.slc (by omega) ((ncells_len _).trans (by rw [hzl]))) <| .q rfl (qassign rfl) <| .nil <| h567 _ _ <| .seq fun K568 h569 => .region <| .q rfl (qmove rfl) <| .q rfl (qmove rfl) ?_
            refine Ops.q rfl (qnil rfl) <| .q rfl (qfieldAddr fl103_1 sz100 (by decide) rfl) <| .q rfl (qloadAt ag100 rfl rfl hr_b305519 rfl) ?_
            have hTc574 := hT2.objs ob522
            refine Ops.l rfl (fun _ _ hk570 _ => wmakeMap wf521 fun A572 b571 nb573 => ?_)
            have hni := hTc574.notin wf521 nb573.lo
            have ne_b305_b571 := ne_new wf521 hr_b305519 nb573.lo
            have no575 := fr_nv2519.own.ne_new wf521 nb573.lo
            have ge_b571 := none_of wf (Nat.le_trans le519.n nb573.lo)
            have h577 := nb573.le.get _ _ hr_b305519
            have h578 := nb573.le.get _ _ hr_b497519
            have fr579 := fr_nv2519.le nb573.le
            have fr580 := fk_oq459_0519.le nb573.le
            have le581 := le519.trans nb573.le
            have ob582 := ob522.le nb573.le
            refine hk570 _ _ <| .q rfl (qbuild rfl (buildV_struct u99 z99 pl99 rfl)) <| .l rfl (fun _ _ hk583 _ => wbuildSlice (c := [.map (some b571), num (-1)]) nb573.wf rfl (buildSliceV_of u100 sz99 z99 rfl (by decide) (by decide) rfl) fun A585 b584 nb586 => ?_)
            have h589 := nb586.le.get _ _ h577
            have h590 := nb586.le.get _ _ h578
            have h591 := nb586.le.get _ _ nb573.get
            have fr592 := fr579.le nb586.le
            have fr593 := fr580.le nb586.le
            have le594 := le581.trans nb586.le
            have ob595 := ob582.le nb586.le
            refine hk583 _ _ <| .l rfl (fun _ _ hk596 _ => wappend (ys := [.map (some b571), num (-1)]) rfl rfl u100 sz99 inf99 z99 rfl (by decide) u100 (fun _ h => by cases h) fr592.own (listOf_row (n := 1) nb586.get rfl) rfl rfl (by show (_ + _) * 16 ≤ _; simp only [ncells_length, List.length_cons, List.length_nil]; (try simp only [List.length_append, List.length_cons, List.length_nil]); omega) (by simp only [ncells_length, List.length_cons, List.length_nil]; (try simp only [List.length_append, List.length_cons, List.length_nil]); omega) fun A597 v598 ap599 => ?_)
            rw [show ([.map (some b571), num (-1)] : List Value) = ncells [(b571, -1)] from rfl, ncells_append] at ap599
            obtain ⟨fr602, le603⟩ := Fresh.grow fr592 le594 wf ap599
            have h604 := ap599.keep no_nv2_b305519 h589
            have ne605 := ap599.ne no_nv2_b305519 nb586.wf h589
            have h606 := ap599.keep no_nv2_b497519 h590
            have ne607 := ap599.ne no_nv2_b497519 nb586.wf h590
            have h608 := ap599.keep no575 h591
            have ob610 := ob595.appd fr592.own ap599
            have sp612 := Sep.appd (show Sep nv2 lv from sq519_0_1) fr593.own nb586.wf ap599
            have fr611 := fr593.appd ap599 sq519_0_1
            refine hk596 _ _ <| .q rfl (qnil rfl) <| .q rfl (qfieldAddr fl103_1 sz100 (by decide) rfl) ?_
            obtain ⟨p614, l614, c614, q614, _⟩ := fr602.own.slice
            subst q614
            refine Ops.l rfl (fun _ _ hk613 _ => wstore (cs := [.slice p614 l614 c614]) (c' := [lv, .slice p614 l614 c614, num ((mo : Nat) : Int)]) ap599.wf rfl rfl rfl rfl sz100 h604 (Nat.le_of_ble_eq_true rfl) rfl rfl fun A615 sb616 => ?_)
            have h617 := sb616.keep _ _ ne_b305_b497.symm h606
            have h618 := sb616.keep _ _ ne_b305_b571.symm h608
            have fr619 := fr611.keep sb616.keep no_oq459_0_b305519
            have fr620 := fr602.keep sb616.keep ne605
            have ob621 := ob610.set h604 sb616.n sb616.keep
            have le622 := le_store le603 wf ge_b305 sb616.n sb616.keep
            refine hk613 _ _ <| .nil ?_
            have fr623 := fresh_eq fr620 (congrArg ncells (zip_snoc (b := b571) (z := -1) hbl2))
            have hzl2 : ((bl2 ++ [b571]).zip (bs2 ++ [-1])).length = pf2.length + 1 := by rw [List.length_zip]; simp; omega
            refine h569 _ _ <| .drawn [0, 1, 2, 3, 4, 5, 6, 7, 8, 9, 10, 11, 12, 13] mixed (by kernel_rfl) (by kernel_rfl) rfl <| .q rfl rfl rfl (qmove rfl) <| .q rfl rfl rfl (qnil rfl) <| .q rfl rfl rfl (qfieldAddr fl103_1 sz100 (by decide) rfl) <| .q rfl rfl rfl (qloadAt ag100 rfl rfl sb616.get rfl) <| .q rfl rfl rfl (qmove rfl) ?_
            obtain ⟨b625, f625, rw625, r625, rc625, n625, k625, e625, l625, g625, cl625, cs625⟩ := Slc.at (i := nd) fr623.slc (by simp only [ncells_length]; omega) (by omega)
            refine DOps.q rfl rfl rfl (qindexS u100 sz99 rfl e625 rfl l625) <| .q rfl rfl rfl (qfieldAddr fl99_0 sz97 (by decide) rfl) <| .q rfl rfl rfl (qloadAt ag97 rfl rfl g625 ((cs625 0 (by decide)).trans (ncells_f0 (by omega)))) <| .q rfl rfl rfl (qfieldAddr fl95_0 sz9 (by decide) rfl) <| .q rfl rfl rfl (qloadAt ag9 rfl rfl h617 rfl) <| .q rfl rfl rfl (qmove rfl) <| .q rfl rfl rfl (qsix u9 rfl rfl (by omega)) <| .q rfl rfl rfl (qmove rfl) ?_
            have hTc629 := hT2.objs ob621
            obtain ⟨es629, clk629, hgm629, hE629⟩ := hTc629.2.2.2.2 nd hndl
            have hqn : pf2.getD nd [] ++ [(L2q459.getD i .zero).w.getD k 0] = (L2q459.getD i .zero).w.take (k + 1) := by rw [hq, getD_idxOf hp]; exact take_next (by omega)
            have hnew : pf2.getD nd [] ++ [(L2q459.getD i .zero).w.getD k 0] ∉ pf2 := by rw [hqn]; exact hin
            have hmz : (((bl2 ++ [b571]).zip (bs2 ++ [-1])).getD nd (0, 0)).1 = bl2.getD nd 0 := (zip_fst (by simp; omega) (by simp; omega)).trans (getD_app (by omega))
            refine DOps.l rfl rfl rfl (fun _ _ hk628 _ => wupdateB (pf := pf2) (p := pf2.getD nd []) (n := pf2.length) sb616.wf rfl rfl rfl u97 u5 (by rw [hmz]; exact hgm629) hE629 hnew fun A630 sb631 => ?_)
            rw [hmz] at sb631
            have hTn629 := hTc629.grow hndl hnew (fun d q => hnew (hpc2.cl _ _ q)) h618 hni ge_b571 hE629 sb631
            rw [hqn] at hTn629
            have h632 := sb631.keep _ _ (ne_rowobj sb616.get hgm629) sb616.get
            have h633 := sb631.keep _ _ (ne_rowobj h617 hgm629) h617
            have fr634 := fr619.keep sb631.keep (fr619.own.ne_obj hgm629)
            have fr635 := fr623.keep sb631.keep (fr623.own.ne_obj hgm629)
            have df636 := Defs.keep (hdf519.objs ob621) sb631.keep hgm629 (fun q => by cases q)
            have le637 := le_store le622 wf (hTc629.2.2.2.1 _ (getD_lt_mem (by rw [hTc629.1]; exact hndl))) sb631.n sb631.keep
            have ob638 := Objs.refl A630
            refine hk628 _ _ (HeldNow.none (by kernel_rfl)) <| .done <| h563 _ _ <| .seq fun K639 h640 => .region <| .q rfl (qmove rfl) <| .q rfl (qassign rfl) <| .nil <| h640 _ _ <| .seq fun K641 h642 => ?_
            refine Run.region <| .q rfl (qmove rfl) <| .q rfl (qaddN (b := 1) rfl rfl (by omega)) <| .q rfl (qmulN (a := 2) rfl rfl (by omega)) <| .q rfl (qfieldAddr fl95_0 sz9 (by decide) rfl) <| .q rfl (qloadAt ag9 rfl rfl h633 rfl) <| .q rfl (qslen u9 rfl) <| .q rfl (qgtrN rfl rfl) <| .q rfl (qmove rfl) <| .part (t := 182) rfl (fun p643 => ?_) (fun p643 => ?_)
            ·
              refine Ops.on rfl rfl <| .q rfl (qmove rfl) <| .on rfl rfl <| .q rfl (qnil rfl) <| .on rfl rfl <| .q rfl (qfieldAddr fl103_1 sz100 (by decide) rfl) <| .on rfl rfl <| .q rfl (qloadAt ag100 rfl rfl h632 rfl) <| .on rfl rfl <| .q rfl (qmove rfl) ?_
              refine Ops.on rfl rfl ?_
              obtain ⟨b644, f644, rw644, r644, rc644, n644, k644, e644, l644, g644, cl644, cs644⟩ := Slc.at (i := pf2.length) fr635.slc (by simp only [ncells_length]; omega) (by omega)
              refine Ops.q rfl (qindexS u100 sz99 rfl e644 rfl l644) <| .on rfl rfl <| .q rfl (qfieldAddr fl99_1 sz3 (by decide) rfl) <| .on rfl rfl <| .q rfl (qloadAt ag3 rfl rfl g644 (((cs644 1 (by decide)).trans (ncells_f1 (by omega))).trans (congrArg (fun z => some (num z)) (zip_snd (by (try simp only [List.length_append, List.length_cons, List.length_nil]); omega) (by (try simp only [List.length_append, List.length_cons, List.length_nil]); omega))))) <| .on rfl rfl <| .q rfl (qlss rfl rfl) <| .q rfl (qpickT rfl rfl) <| .nil <| h642 _ _ ?_
              refine Run.if rfl (fun p645 => ?_) (fun p645 => ?_)
              ·
                refine Run.region <| .q rfl (qmove rfl) <| .q rfl (qnil rfl) <| .q rfl (qfieldAddr fl103_1 sz100 (by decide) rfl) <| .q rfl (qloadAt ag100 rfl rfl h632 rfl) <| .q rfl (qmove rfl) <| .q rfl (qmove rfl) ?_
                obtain ⟨b646, f646, rw646, r646, rc646, n646, k646, e646, l646, g646, cl646, cs646⟩ := Slc.at (i := pf2.length) fr635.slc (by simp only [ncells_length]; omega) (by omega)
                refine Ops.q rfl (qindexS u100 sz99 rfl e646 rfl l646) <| .q rfl (qfieldAddr fl99_1 sz3 (by decide) rfl) <| .l rfl (fun _ _ hk647 _ => wstoreOwn (size := 2) (i := pf2.length) (j := 1) fr635 e646 l646 (by decide) sb631.wf rfl rfl rfl sz3 rfl fun A648 rr651 rc651 gg651 sb649 fr650 => ?_)
                rw [ncells_set (by (try simp only [List.length_append, List.length_cons, List.length_nil]); omega) (by (try simp only [List.length_append, List.length_cons, List.length_nil]); omega)] at fr650
                have h652 := sb649.keep _ _ (fun q => ne605 (by rw [e646]; exact congrArg some q.symm)) h632
                have h653 := sb649.keep _ _ (fun q => ne607 (by rw [e646]; exact congrArg some q.symm)) h633
                have fr654 := fr634.keep sb649.keep (fun q => sp612 _ (by rw [e646]; rfl) q)
                have le655 := le_store le637 wf (fr635.lo _ (by rw [e646]; rfl)) sb649.n sb649.keep
                have ob656 := ob638.set gg651 sb649.n sb649.keep
                refine hk647 _ _ <| .nil <| h529 _ _ <| .region <| .q rfl (qaddN (b := 1) rfl rfl (by omega)) <| .q rfl (qmove rfl) <| .nil ?_
                exact ⟨⟨k + 1, pf2.length, (pf2 ++ [(L2q459.getD i .zero).w.take (k + 1)]), ((bs2 ++ [-1]).set pf2.length ((i : Nat) : Int)), (bl2 ++ [b571]), .slice p614 l614 c614, Ds⟩, EnvLe.cons rfl <| EnvLe.cons rfl <| EnvLe.cons rfl <| EnvLe.cons rfl <| EnvLe.cons rfl <| EnvLe.cons rfl <| EnvLe.cons rfl <| EnvLe.cons rfl <| EnvLe.cons rfl <| EnvLe.nil _, rfl, ⟨⟨by omega, fold_snoc ht2 (tstep_set (if_neg hin) (idxOf_snoc hin).symm ⟨by omega, by assumption⟩), (by (try simp only [List.length_append, List.length_set, List.length_cons, List.length_nil]); omega), (by (try simp only [List.length_append, List.length_set, List.length_cons, List.length_nil]); omega), (by have q := hpc2.snoc (c := (L2q459.getD i .zero).w.getD k 0) hp; rw [take_next (by omega)] at q; exact q), (by (try simp only [List.length_append, List.length_set, List.length_cons, List.length_nil]); omega), by simp, (idxOf_snoc hin).symm⟩, le655, fr650, fr654, h652, h653, ne605, no_oq459_0_b305519, ne607, no_oq459_0_b497519, sp612, (df636.objs ob656), (hTn629.objs ob656)⟩, (by (try dsimp only); omega)⟩
              ·
                refine Run.skip <| h529 _ _ <| .region <| .q rfl (qaddN (b := 1) rfl rfl (by omega)) <| .q rfl (qmove rfl) <| .nil ?_
                exact ⟨⟨k + 1, pf2.length, (pf2 ++ [(L2q459.getD i .zero).w.take (k + 1)]), (bs2 ++ [-1]), (bl2 ++ [b571]), .slice p614 l614 c614, Ds⟩, EnvLe.cons rfl <| EnvLe.cons rfl <| EnvLe.cons rfl <| EnvLe.cons rfl <| EnvLe.cons rfl <| EnvLe.cons rfl <| EnvLe.cons rfl <| EnvLe.cons rfl <| EnvLe.cons rfl <| EnvLe.nil _, rfl, ⟨⟨by omega, fold_snoc ht2 (tstep_not (if_neg hin) (idxOf_snoc hin).symm (by rintro ⟨q1, q2⟩; omega)), (by (try simp only [List.length_append, List.length_set, List.length_cons, List.length_nil]); omega), (by (try simp only [List.length_append, List.length_set, List.length_cons, List.length_nil]); omega), (by have q := hpc2.snoc (c := (L2q459.getD i .zero).w.getD k 0) hp; rw [take_next (by omega)] at q; exact q), (by (try simp only [List.length_append, List.length_set, List.length_cons, List.length_nil]); omega), by simp, (idxOf_snoc hin).symm⟩, le637, fr635, fr634, h632, h633, ne605, no_oq459_0_b305519, ne607, no_oq459_0_b497519, sp612, (df636.objs ob638), (hTn629.objs ob638)⟩, (by (try dsimp only); omega)⟩
            ·
              refine Ops.off rfl rfl rfl rfl <| .off rfl rfl rfl rfl <| .off rfl rfl rfl rfl <| .off rfl rfl rfl rfl <| .off rfl rfl rfl rfl <| .off rfl rfl rfl rfl <| .off rfl rfl rfl rfl <| .off rfl rfl rfl rfl <| .off rfl rfl rfl rfl <| .q rfl (qpickF rfl rfl) ?_
              refine Ops.nil <| h642 _ _ <| .cond_false rfl <| .skip <| h529 _ _ <| .region <| .q rfl (qaddN (b := 1) rfl rfl (by omega)) <| .q rfl (qmove rfl) <| .nil ?_
              exact ⟨⟨k + 1, pf2.length, (pf2 ++ [(L2q459.getD i .zero).w.take (k + 1)]), (bs2 ++ [-1]), (bl2 ++ [b571]), .slice p614 l614 c614, Ds⟩, EnvLe.cons rfl <| EnvLe.cons rfl <| EnvLe.cons rfl <| EnvLe.cons rfl <| EnvLe.cons rfl <| EnvLe.cons rfl <| EnvLe.cons rfl <| EnvLe.cons rfl <| EnvLe.cons rfl <| EnvLe.nil _, rfl, ⟨⟨by omega, fold_snoc ht2 (tstep_not (if_neg hin) (idxOf_snoc hin).symm (by rintro ⟨q1, q2⟩; omega)), (by (try simp only [List.length_append, List.length_set, List.length_cons, List.length_nil]); omega), (by (try simp only [List.length_append, List.length_set, List.length_cons, List.length_nil]); omega), (by have q := hpc2.snoc (c := (L2q459.getD i .zero).w.getD k 0) hp; rw [take_next (by omega)] at q; exact q), (by (try simp only [List.length_append, List.length_set, List.length_cons, List.length_nil]); omega), by simp, (idxOf_snoc hin).symm⟩, le637, fr635, fr634, h632, h633, ne605, no_oq459_0_b305519, ne607, no_oq459_0_b497519, sp612, (df636.objs ob638), (hTn629.objs ob638)⟩, (by (try dsimp only); omega)⟩
        ·
          refine Run.exit <| h492 _ _ <| .region <| .q rfl (qaddN (b := 1) rfl rfl (by omega)) <| .q rfl (qmove rfl) <| .nil ?_
          exact ⟨⟨i + 1, pf2, bs2, bl2, nv2, Ds⟩, EnvLe.cons rfl <| EnvLe.cons rfl <| EnvLe.cons rfl <| EnvLe.cons rfl <| EnvLe.nil _, rfl, ⟨⟨by omega, (by rw [List.range_succ, List.foldl_append, ← ht]; show _ = tword L2q459 (pf, bs) i; unfold tword; rw [show (L2q459.getD i .zero).w.length = k by omega]; exact ht2), hbl2, hbs2, hpc2, (by have := hwx (by omega); omega)⟩, le519, fr_nv2519, fk_oq459_0519, hr_b305519, no_nv2_b305519, no_oq459_0_b305519, sq519_0_1, (hdf519.objs ob522), (hT2.objs ob522)⟩, (by (try dsimp only); omega)⟩
      ·
        refine Run.exit <| h479 _ _ <| .seq fun K657 h658 => .region <| .q rfl (qmove rfl) <| .q rfl (qassign rfl) <| .nil <| h658 _ _ <| .ret ?_
        (repeat first | with_reducible refine thenQ_exit ?_ | with_reducible refine blockQ_same ?_ | with_reducible refine blockQ_other (by decide) ?_); exact ⟨Ds, rfl, (hdf482.objs ob485).1, (fun D hD => ((hdf482.objs ob485).2 D hD).1), [.pointer (some ⟨b305, 0, none⟩)], fun A' wf2 hn2 hk2 => ⟨rfl, _, rfl, _, _, rfl, (hdf482.objs ob485).leave le482 hn2 hk2, wf2, (Rules.leave (hdf482.objs ob485) hk2 hr_b305482 ge_b305 fk_oq459_0482 fr_nv482 (hT.objs ob485) hbs), rs_ok hok2 (fun x hx => hL4 x (hpq459.mem_iff.1 hx)) hL5 (by rw [hpq459.length_eq]; exact hL6) (by rw [ht, show i = L2q459.length by omega]; rfl) hpc.root, (hpq459.trans hperm).trans (by rw [hE, show k = l.length by omega]; exact .refl _), hsq459⟩⟩
end Go.Proofs.YtaccklloepfemaaGreatDoor

namespace Go.Proofs.YtaccklloepfemaaGreatDoor
set_option linter.unusedVariables false
set_option linter.unusedSimpArgs false
open Go Go.RowKit V

theorem drun_small {L : List Rot} {m : Nat} (hx : ∀ x ∈ L, x.c.length ≤ 1000) : ∀ (f : Nat) (l : List UInt8) (d : List DCell) (p : Nat), l.length ≤ 6000 →
    (drun L m f l d p).1.length ≤ l.length ∧ (drun L m f l d p).2.length + (drun L m f l d p).1.length ≤ d.length + l.length ∧ ∀ c ∈ (drun L m f l d p).2, c ∈ d ∨ c.conj.length ≤ 7000
  | 0, l, d, p, _ => ⟨Nat.le_refl _, Nat.le_refl _, fun c h => .inl h⟩
  | f + 1, l, d, p, hl => by
    rw [drun]
    by_cases hp : p < l.length
    · rw [if_pos hp]
      by_cases h : 0 ≤ (longF L (l.drop p)).1
      · rw [if_pos h]
        have hlt := repl_lt hp h
        obtain ⟨h1, h2, h3⟩ := drun_small (m := m) hx f (repl l p (L.getD (longF L (l.drop p)).1.toNat .zero)).1 (d ++ [repC l p (L.getD (longF L (l.drop p)).1.toNat .zero)]) ((repl l p (L.getD (longF L (l.drop p)).1.toNat .zero)).2 - m) (by omega)
        refine ⟨by omega, by simp only [List.length_append, List.length_cons, List.length_nil] at h2; omega, fun c hc => ?_⟩
        rcases h3 c hc with q | q
        · rcases List.mem_append.1 q with q | q
          · exact .inl q
          · simp only [List.mem_singleton] at q
            subst q
            right
            have e1 := hx _ (getD_mem (d := Rot.zero) (longF_pos h).1)
            have e2 := wReduce_length (l.take p ++ (L.getD (longF L (l.drop p)).1.toNat .zero).c)
            rw [List.length_append, List.length_take] at e2
            show (wReduce _).length ≤ 7000
            omega
        · exact .inr q
      · rw [if_neg h]; exact drun_small (m := m) hx f l d (p + 1) hl
    · rw [if_neg hp]; exact ⟨Nat.le_refl _, Nat.le_refl _, fun c h => .inl h⟩
theorem conjs_le {d : List DCell} {n : Nat} (h : ∀ c ∈ d, c.conj.length ≤ n) : conjs d ≤ d.length * n := by
  induction d with
  | nil => simp [conjs]
  | cons c d ih =>
    have h1 := ih fun c hc => h c (List.mem_cons_of_mem _ hc)
    have h2 := h c List.mem_cons_self
    simp only [conjs, List.map_cons, List.sum_cons, List.length_cons] at h1 ⊢
    rw [Nat.add_mul]; omega
theorem dsh_small {S : RS} (hS : RSok S) {w : List UInt8} (hw : w.length ≤ 6000) : (dsh S w).1.length ≤ 6000 ∧ (dsh S w).2.length ≤ 100000000 ∧ conjs (dsh S w).2 ≤ 100000000 := by
  have hr := red_length w
  obtain ⟨h1, h2, h3⟩ := drun_small (m := S.most) (fun x hx => (hS.isw x hx).2.2) (fuel (red w).length) (red w) [] 0 (by omega)
  have h4 : ∀ c ∈ (dsh S w).2, c.conj.length ≤ 7000 := fun c hc => (h3 c hc).elim (fun q => by cases q) id
  have h5 := conjs_le h4
  change (dsh S w).1.length ≤ _ at h1
  change (dsh S w).2.length + (dsh S w).1.length ≤ _ at h2
  simp only [List.length_nil] at h2
  have : (dsh S w).2.length * 7000 ≤ 6000 * 7000 := Nat.mul_le_mul_right _ (by omega)
  omega
/-- What is so of the rules of a presentation. -/
def SOk (l : List (List UInt8)) (S : RS) : Prop := RSok S ∧ S.list.Perm (allR l) ∧ S.list.Pairwise (fun x y => ¬ cmpw y.w x.w < 0)
def Heavy (d : List DCell) : Prop := 1000000 < conjs d ∨ 100000 < d.length
instance (d : List DCell) : Decidable (Heavy d) := inferInstanceAs (Decidable (_ ∨ _))
def shOf (S : RS) (w : List UInt8) : List UInt8 × List DCell × Nat := if Heavy (dsh S w).2 then ([], [], 2) else ((dsh S w).1, (dsh S w).2, 0)
def ShR (g : Int) (l : List (List UInt8)) (w : List UInt8) (r : List UInt8 × List DCell × Nat) : Prop :=
  if ¬ rasked g l w = 0 then r = ([], [], rasked g l w) else ∃ S, SOk l S ∧ r = shOf S w
theorem ShR.no {g : Int} {l : List (List UInt8)} {w : List UInt8} (h : ¬ rasked g l w = 0) : ShR g l w ([], [], rasked g l w) := by rw [ShR, if_pos h]
theorem ShR.heavy {g : Int} {l : List (List UInt8)} {w : List UInt8} {S : RS} (h : ¬ ¬ rasked g l w = 0) (hS : SOk l S) (hh : Heavy (dsh S w).2) : ShR g l w ([], [], 2) := by rw [ShR, if_neg h]; exact ⟨S, hS, by rw [shOf, if_pos hh]⟩
theorem ShR.ok {g : Int} {l : List (List UInt8)} {w : List UInt8} {S : RS} (h : ¬ ¬ rasked g l w = 0) (hS : SOk l S) (hh : ¬ Heavy (dsh S w).2) : ShR g l w ((dsh S w).1, (dsh S w).2, 0) := by rw [ShR, if_neg h]; exact ⟨S, hS, by rw [shOf, if_neg hh]⟩
def StR (g : Int) (l : List (List UInt8)) (w : List UInt8) (r : Bool × Nat) : Prop :=
  if ¬ rasked g l w = 0 then r = (false, rasked g l w) else if wReduce w = w then ∃ S, SOk l S ∧ r = (decide ((dsh S w).2.length = 0), 0) else r = (false, 0)
theorem StR.no {g : Int} {l : List (List UInt8)} {w : List UInt8} (h : ¬ rasked g l w = 0) : StR g l w (false, rasked g l w) := by rw [StR, if_pos h]
theorem StR.ok {g : Int} {l : List (List UInt8)} {w : List UInt8} {S : RS} (h : ¬ ¬ rasked g l w = 0) (hw : wReduce w = w) (hS : SOk l S) {b : Bool} (hb : b = decide ((dsh S w).2.length = 0)) : StR g l w (b, 0) := by rw [StR, if_neg h, if_pos hw]; exact ⟨S, hS, by rw [hb]⟩
theorem StR.un {g : Int} {l : List (List UInt8)} {w : List UInt8} (h : ¬ ¬ rasked g l w = 0) (hw : ¬ wReduce w = w) : StR g l w (false, 0) := by rw [StR, if_neg h, if_neg hw]
/-- The words in the order of bytes. -/
def srt (d : List (List UInt8)) : List (List UInt8) := d.mergeSort fun x y => decide (x ≤ y)
theorem srt_perm (d : List (List UInt8)) : (srt d).Perm d := List.mergeSort_perm _ _
def badAt (d : List (List UInt8)) (i : Nat) : Prop := (d.getD (i - 1) []).length ≤ 6 * cmn (d.getD (i - 1) []) (d.getD i []) ∨ (d.getD i []).length ≤ 6 * cmn (d.getD (i - 1) []) (d.getD i [])
instance (d : List (List UInt8)) (i : Nat) : Decidable (badAt d i) := inferInstanceAs (Decidable (_ ∨ _))
def dverW (d : List (List UInt8)) : Bool := (List.range d.length).all fun i => decide (i = 0 ∨ ¬ badAt d i)
def dver (S : RS) : Bool := dverW (srt (S.list.map (·.w)))
theorem dverW_no {d : List (List UInt8)} {i : Nat} (h1 : 1 ≤ i) (hi : i < d.length) (h : badAt d i) : dverW d = false := by
  rw [dverW, List.all_eq_false]
  exact ⟨i, by simpa using hi, by rw [decide_eq_true_eq]; rintro (q | q); omega; exact q h⟩
theorem dverW_yes {d : List (List UInt8)} {i : Nat} (hi : d.length ≤ i) (h : ∀ j, 1 ≤ j → j < i → ¬ badAt d j) : dverW d = true := by
  rw [dverW, List.all_eq_true]
  intro j hj
  rw [decide_eq_true_eq]
  by_cases q : j = 0
  · exact .inl q
  · exact .inr (h j (by omega) (by have := List.mem_range.1 hj; omega))
def VeR (g : Int) (l : List (List UInt8)) (c : Nat) : Prop := if ¬ pcheck g l = 0 then c = pcheck g l else ∃ S, SOk l S ∧ c = if dver S = true then 0 else 230
theorem VeR.no {g : Int} {l : List (List UInt8)} (h : ¬ pcheck g l = 0) : VeR g l (pcheck g l) := by rw [VeR, if_pos h]
theorem VeR.ok {g : Int} {l : List (List UInt8)} {S : RS} {c : Nat} (h : ¬ ¬ pcheck g l = 0) (hS : SOk l S) (hc : c = if dver S = true then 0 else 230) : VeR g l c := by rw [VeR, if_neg h]; exact ⟨S, hS, hc⟩
def trOf (S : RS) (w : List UInt8) : Bool × List DCell × Nat := if dver S = true then (if (dsh S w).1 = [] then (if Heavy (dsh S w).2 then (false, [], 2) else (true, (dsh S w).2, 0)) else (false, [], 0)) else (false, [], 230)
def TrR (g : Int) (l : List (List UInt8)) (w : List UInt8) (r : Bool × List DCell × Nat) : Prop :=
  if ¬ rasked g l w = 0 then r = (false, [], rasked g l w) else ∃ S, SOk l S ∧ r = trOf S w
theorem TrR.no {g : Int} {l : List (List UInt8)} {w : List UInt8} (h : ¬ rasked g l w = 0) : TrR g l w (false, [], rasked g l w) := by rw [TrR, if_pos h]
theorem TrR.ok {g : Int} {l : List (List UInt8)} {w : List UInt8} {S : RS} {r : Bool × List DCell × Nat} (h : ¬ ¬ rasked g l w = 0) (hS : SOk l S) (hr : r = trOf S w) : TrR g l w r := by rw [TrR, if_neg h]; exact ⟨S, hS, hr⟩
section
variable {g : Int} {l : List (List UInt8)} {w : List UInt8} {S : RS}
theorem TrR.a (h : ¬ ¬ rasked g l w = 0) (hS : SOk l S) (hv : (!dver S) = true) : TrR g l w (false, [], 230) := TrR.ok h hS (by rw [trOf, if_neg (by intro q; rw [q] at hv; cases hv)])
theorem TrR.b (h : ¬ ¬ rasked g l w = 0) (hS : SOk l S) (hv : (!dver S) = false) (hd : ¬ (dsh S w).1 = []) : TrR g l w (false, [], 0) := TrR.ok h hS (by rw [trOf, if_pos (by simpa using hv), if_neg hd])
theorem TrR.c (h : ¬ ¬ rasked g l w = 0) (hS : SOk l S) (hv : (!dver S) = false) (hd : ¬ ¬ (dsh S w).1 = []) (hh : Heavy (dsh S w).2) : TrR g l w (false, [], 2) := TrR.ok h hS (by rw [trOf, if_pos (by simpa using hv), if_pos (Decidable.not_not.1 hd), if_pos hh])
theorem TrR.d (h : ¬ ¬ rasked g l w = 0) (hS : SOk l S) (hv : (!dver S) = false) (hd : ¬ ¬ (dsh S w).1 = []) (hh : ¬ Heavy (dsh S w).2) : TrR g l w (true, (dsh S w).2, 0) := TrR.ok h hS (by rw [trOf, if_pos (by simpa using hv), if_pos (Decidable.not_not.1 hd), if_neg hh])
end
end Go.Proofs.YtaccklloepfemaaGreatDoor

namespace Go.Proofs.YtaccklloepfemaaGreatDoor
open Go Go.RowKit V
set_option maxRecDepth 100000
set_option linter.unusedVariables false
set_option linter.unusedSimpArgs false
theorem fl36_0 : fldOf Tryz.prog 36 0 = some (9, 0) := by kernel_rfl
theorem fl36_1 : fldOf Tryz.prog 36 1 = some (3, 1) := by kernel_rfl
theorem fl36_2 : fldOf Tryz.prog 36 2 = some (34, 2) := by kernel_rfl

theorem s_Sh (g : Int) (u : Value) (l : List (List UInt8)) (w : List UInt8) (A : AH) (hn : l.length ≤ 1000000) (hL : Lets A) (hw : w.length ≤ 100000) (hu : Slc A 1 u (strs l)) : RetA Tryz.prog 11 #[.agg #[num (g), u], str (w)] A (fun v A1 => ∃ W d c dv, v = .tuple #[.agg #[str W, num ((d.length : Nat) : Int), dv], num ((c : Nat) : Int)] ∧ A.le A1 ∧ A1.wf ∧ Fresh A A1 dv 3 (dcells d) ∧ ShR g l w (W, d, c)) := by
 refine enterA (e := [(0, .agg #[num (g), u]), (1, str (w))]) (args := [.agg #[num (g), u], str (w)]) Tryz.call11 Tryz.func11 rfl Tryz.results11 Tryz.ntmps11 rfl rfl rfl (fun wf => ?_)
 have le_ := AH.le.refl A
 refine Run.seq fun K1 h2 => .region <| .l rfl (fun _ _ hk3 _ => wbox wf rfl rfl fun A5 b4 nb6 => ?_)
 have le7 := le_.trans nb6.le
 refine hk3 _ _ <| .l rfl (fun _ _ hk8 _ => walloc nb6.wf z36 rfl fun A10 b9 nb11 => ?_)
 have ge_b9 := none_of wf (Nat.le_trans le7.n nb11.lo)
 have h12 := nb11.le.get _ _ nb6.get
 have le13 := le7.trans nb11.le
 refine hk8 _ _ <| .q rfl (qassign rfl) <| .nil <| h2 _ _ <| .seq fun K14 h15 => .seq fun K16 h17 => .region <| .q rfl (qloadAggAt ag24 sz24 rfl rfl h12 rfl) <| .q rfl (qmove rfl) <| .l rfl (fun _ _ hk18 _ => vcallF rfl (s_refused ((g)) u l w A10 (by omega) (hL.le le13) (by first | omega | (simp only [List.length_append, List.length_drop, List.length_take, inv_length]; omega)) (hu.le le13)) ?_)
 rintro v19 A20 ⟨rfl, leq21, wfq21⟩
 have h22 := leq21.get _ _ h12
 have h23 := leq21.get _ _ nb11.get
 have le24 := le13.trans leq21
 refine hk18 _ _ <| .q rfl (qassign rfl) <| .nil <| h17 _ _ <| .seq fun K25 h26 => .region <| .q rfl (qmove rfl) <| .q rfl (qneqN (b := 0) rfl rfl) <| .nil <| h26 _ _ ?_
 refine Run.if rfl (fun p27 => ?_) (fun p27 => ?_)
 ·
  refine Run.seq fun K28 h29 => .region <| .q rfl (qbuild rfl (buildV_struct u36 z36 pl36 rfl)) <| .q rfl (qmove rfl) <| .l rfl (fun _ _ hk30 _ => wstore (cs := [str ([]), num ((0 : Nat) : Int), .slice none 0 0]) (c' := [str ([]), num ((0 : Nat) : Int), .slice none 0 0]) wfq21 rfl rfl rfl rfl sz36 h23 (Nat.le_of_ble_eq_true rfl) rfl rfl fun A31 sb32 => ?_)
  have le34 := le_store le24 wf ge_b9 sb32.n sb32.keep
  refine hk30 _ _ <| .q rfl (qassign rfl) <| .nil <| h29 _ _ <| .ret ?_
  repeat first | with_reducible refine thenQ_ret ?_ | with_reducible refine blockQ_ret ?_
  exact retQ (resCell ag36 sz36 rfl sb32.get rfl (resTmp rfl resNil)) (⟨[], [], rasked ((g)) l w, _, rfl, le34, sb32.wf, Fresh.nil _ _ _, ShR.no ‹¬ rasked g l w = 0›⟩)
 ·
  refine Run.skip <| h15 _ _ <| .seq fun K35 h36 => .region <| .q rfl (qloadAggAt ag24 sz24 rfl rfl h22 rfl) <| .l rfl (fun _ _ hk37 _ => vcallF rfl (s_newRules ((g)) u l A20 (hL.le le24) (rasked_pres ‹¬ ¬ rasked g l w = 0›) (hu.le le24)) ?_)
  rintro v38 A39 ⟨brq40, Sq40, rfl, leq40, wfq40, hRq40, hSq40, hPq40, hWq40⟩
  have h42 := leq40.get _ _ h23
  have le43 := le24.trans leq40
  have hR := hRq40
  have hS := hSq40
  have hP := hPq40
  have hW := hWq40
  have hRlq40 := Rules.all hRq40
  have leRq40 := le43
  have hSOq40 : SOk l Sq40 := ⟨hSq40, hPq40, hWq40⟩
  refine hk37 _ _ <| .q rfl (qmove rfl) <| .l rfl (fun _ _ hk44 _ => vcallF rfl (s_dshort brq40 Sq40 w A39 (hRlq40.le (by first | exact AH.le.refl _ | assumption)) hSq40 (hL.le le43) (by have := (rasked_word ‹¬ ¬ rasked g l w = 0›).2; omega)) ?_)
  rintro v45 A46 ⟨dvq47, rfl, leq47, wfq47, frq47⟩
  have h49 := leq47.get _ _ h42
  have le50 := le43.trans leq47
  have fr51 := frq47.base le43
  have no53 := frq47.ne wfq40 h42
  refine hk44 _ _ <| .l rfl (fun _ _ hk54 _ => walloc wfq47 z36 rfl fun A56 b55 nb57 => ?_)
  have ne_b9_b55 := ne_new wfq47 h49 nb57.lo
  have no58 := fr51.own.ne_new wfq47 nb57.lo
  have ge_b55 := none_of wf (Nat.le_trans le50.n nb57.lo)
  have h60 := nb57.le.get _ _ h49
  have fr61 := fr51.le nb57.le
  have le62 := le50.trans nb57.le
  refine hk54 _ _ ?_
  obtain ⟨p64, l64, c64, q64, _⟩ := fr61.own.slice
  subst q64
  refine Ops.l rfl (fun _ _ hk63 _ => wstore (cs := [str ((dsh Sq40 w).1), num (((dsh Sq40 w).2.length : Nat) : Int), .slice p64 l64 c64]) (c' := [str ((dsh Sq40 w).1), num (((dsh Sq40 w).2.length : Nat) : Int), .slice p64 l64 c64]) nb57.wf rfl rfl rfl rfl sz36 nb57.get (Nat.le_of_ble_eq_true rfl) rfl rfl fun A65 sb66 => ?_)
  have h68 := sb66.keep _ _ ne_b9_b55 h60
  have fr69 := fr61.keep sb66.keep no58
  have le70 := le_store le62 wf ge_b55 sb66.n sb66.keep
  refine hk63 _ _ <| .nil <| h36 _ _ <| .seq fun K71 h72 => .seq fun K73 h74 => .region <| .q rfl (qfieldAddr fl36_2 sz34 (by decide) rfl) <| .q rfl (qloadAt ag34 rfl rfl sb66.get rfl) <| .l rfl (fun _ _ hk75 _ => vcallF rfl (s_heavy (.slice p64 l64 c64) ((dsh Sq40 w).2) A65 (dsh_small hSq40 (by have := (rasked_word ‹¬ ¬ rasked g l w = 0›).2; omega)).2.1 (Nat.le_trans (dsh_small hSq40 (by have := (rasked_word ‹¬ ¬ rasked g l w = 0›).2; omega)).2.2 (by decide)) fr69.slc) ?_)
  rintro v76 A77 ⟨rfl, leq78, wfq78⟩
  have h80 := leq78.get _ _ h68
  have h81 := leq78.get _ _ sb66.get
  have fr82 := fr69.le leq78
  have le83 := le70.trans leq78
  refine hk75 _ _ <| .nil <| h74 _ _ <| .if rfl (fun p84 => ?_) (fun p84 => ?_)
  ·
   refine Run.seq fun K85 h86 => .region <| .q rfl (qbuild rfl (buildV_struct u36 z36 pl36 rfl)) <| .l rfl (fun _ _ hk87 _ => wstore (cs := [str ([]), num ((0 : Nat) : Int), .slice none 0 0]) (c' := [str ([]), num ((0 : Nat) : Int), .slice none 0 0]) wfq78 rfl rfl rfl rfl sz36 h80 (Nat.le_of_ble_eq_true rfl) rfl rfl fun A88 sb89 => ?_)
   have le93 := le_store le83 wf ge_b9 sb89.n sb89.keep
   refine hk87 _ _ <| .q rfl (qassign rfl) <| .nil <| h86 _ _ <| .ret ?_
   repeat first | with_reducible refine thenQ_ret ?_ | with_reducible refine blockQ_ret ?_
   exact retQ (resCell ag36 sz36 rfl sb89.get rfl (resTmp rfl resNil)) (⟨[], [], 2, _, rfl, le93, sb89.wf, Fresh.nil _ _ _, ShR.heavy ‹¬ ¬ rasked g l w = 0› hSOq40 ‹1000000 < conjs _ ∨ 100000 < _›⟩)
  ·
   refine Run.skip <| h72 _ _ <| .seq fun K94 h95 => .region <| .q rfl (qloadAggAt ag36 sz36 rfl rfl h81 rfl) <| .l rfl (fun _ _ hk96 _ => wstore (cs := [str ((dsh Sq40 w).1), num (((dsh Sq40 w).2.length : Nat) : Int), .slice p64 l64 c64]) (c' := [str ((dsh Sq40 w).1), num (((dsh Sq40 w).2.length : Nat) : Int), .slice p64 l64 c64]) wfq78 rfl rfl rfl rfl sz36 h80 (Nat.le_of_ble_eq_true rfl) rfl rfl fun A97 sb98 => ?_)
   have fr101 := fr82.keep sb98.keep no53
   have le102 := le_store le83 wf ge_b9 sb98.n sb98.keep
   refine hk96 _ _ <| .q rfl (qassign rfl) <| .nil <| h95 _ _ <| .ret ?_
   repeat first | with_reducible refine thenQ_ret ?_ | with_reducible refine blockQ_ret ?_
   exact retQ (resCell ag36 sz36 rfl sb98.get rfl (resTmp rfl resNil)) (⟨(dsh Sq40 w).1, (dsh Sq40 w).2, 0, _, rfl, le102, sb98.wf, fr101, ShR.ok ‹¬ ¬ rasked g l w = 0› hSOq40 ‹¬ (1000000 < conjs _ ∨ 100000 < _)›⟩)

theorem s_St (g : Int) (u : Value) (l : List (List UInt8)) (w : List UInt8) (A : AH) (hn : l.length ≤ 1000000) (hL : Lets A) (hw : w.length ≤ 100000) (hu : Slc A 1 u (strs l)) : RetA Tryz.prog 12 #[.agg #[num (g), u], str (w)] A (fun v A1 => ∃ (b : Bool) (c : Nat), v = .tuple #[.bool b, num ((c : Nat) : Int)] ∧ A.le A1 ∧ A1.wf ∧ StR g l w (b, c)) := by
 refine enterA (e := [(0, .agg #[num (g), u]), (1, str (w))]) (args := [.agg #[num (g), u], str (w)]) Tryz.call12 Tryz.func12 rfl Tryz.results12 Tryz.ntmps12 rfl rfl rfl (fun wf => ?_)
 have le_ := AH.le.refl A
 refine Run.seq fun K1 h2 => .region <| .l rfl (fun _ _ hk3 _ => wbox wf rfl rfl fun A5 b4 nb6 => ?_)
 have le7 := le_.trans nb6.le
 refine hk3 _ _ <| .q rfl (qassign rfl) <| .q rfl (qassign rfl) <| .nil <| h2 _ _ <| .seq fun K8 h9 => .seq fun K10 h11 => .region <| .q rfl (qloadAggAt ag24 sz24 rfl rfl nb6.get rfl) <| .q rfl (qmove rfl) ?_
 refine Ops.l rfl (fun _ _ hk12 _ => vcallF rfl (s_refused ((g)) u l w A5 (by omega) (hL.le le7) (by first | omega | (simp only [List.length_append, List.length_drop, List.length_take, inv_length]; omega)) (hu.le le7)) ?_)
 rintro v13 A14 ⟨rfl, leq15, wfq15⟩
 have h16 := leq15.get _ _ nb6.get
 have le17 := le7.trans leq15
 refine hk12 _ _ <| .q rfl (qassign rfl) <| .nil <| h11 _ _ <| .seq fun K18 h19 => .region <| .q rfl (qmove rfl) <| .q rfl (qneqN (b := 0) rfl rfl) <| .nil <| h19 _ _ ?_
 refine Run.if rfl (fun p20 => ?_) (fun p20 => ?_)
 ·
  refine Run.seq fun K21 h22 => .region <| .q rfl (qmove rfl) <| .q rfl (qassign rfl) <| .q rfl (qassign rfl) <| .nil <| h22 _ _ <| .ret ?_
  repeat first | with_reducible refine thenQ_ret ?_ | with_reducible refine blockQ_ret ?_
  exact retQ rfl (⟨false, rasked ((g)) l w, rfl, le17, wfq15, StR.no ‹¬ rasked g l w = 0›⟩)
 ·
  refine Run.skip <| h9 _ _ <| .seq fun K23 h24 => .region <| .q rfl (qmove rfl) <| .l rfl (fun _ _ hk25 _ => vcallF rfl (s_Reduce w A14 (by first | omega | (simp only [List.length_append, List.length_drop, List.length_take, inv_length]; omega)) (hL.le le17)) ?_)
  rintro v26 A27 ⟨rfl, leq28, wfq28⟩
  have h29 := leq28.get _ _ h16
  have le30 := le17.trans leq28
  refine hk25 _ _ <| .q rfl (qmove rfl) <| .q rfl (qseql rfl rfl) <| .q rfl (qmove rfl) <| .part (t := 17) rfl (fun p31 => ?_) (fun p31 => ?_)
  ·
   refine Ops.on rfl rfl <| .q rfl (qloadAggAt ag24 sz24 rfl rfl h29 rfl) <| .on rfl rfl <| .l rfl (fun _ _ hk32 _ => vcallF rfl (s_newRules ((g)) u l A27 (hL.le le30) (rasked_pres ‹¬ ¬ rasked g l w = 0›) (hu.le le30)) ?_)
   rintro v33 A34 ⟨brq35, Sq35, rfl, leq35, wfq35, hRq35, hSq35, hPq35, hWq35⟩
   have le37 := le30.trans leq35
   have hR := hRq35
   have hS := hSq35
   have hP := hPq35
   have hW := hWq35
   have hRlq35 := Rules.all hRq35
   have leRq35 := le37
   have hSOq35 : SOk l Sq35 := ⟨hSq35, hPq35, hWq35⟩
   refine hk32 _ _ <| .on rfl rfl <| .q rfl (qmove rfl) <| .on rfl rfl <| .l rfl (fun _ _ hk38 _ => vcallF rfl (s_dshort brq35 Sq35 w A34 (hRlq35.le (by first | exact AH.le.refl _ | assumption)) hSq35 (hL.le le37) (by have := (rasked_word ‹¬ ¬ rasked g l w = 0›).2; omega)) ?_)
   rintro v39 A40 ⟨dvq41, rfl, leq41, wfq41, frq41⟩
   have le43 := le37.trans leq41
   refine hk38 _ _ <| .on rfl rfl <| .q rfl (qfield1 (cs := [str ((dsh Sq35 w).1), num (((dsh Sq35 w).2.length : Nat) : Int), dvq41]) fl36_1 ag3 rfl rfl) <| .on rfl rfl <| .q rfl (qeqlN (b := 0) rfl rfl) <| .q rfl (qpickT rfl rfl) <| .q rfl (qassign rfl) <| .q rfl (qassign rfl) <| .nil <| h24 _ _ ?_
   refine Run.ret ?_
   repeat first | with_reducible refine thenQ_ret ?_ | with_reducible refine blockQ_ret ?_
   exact retQ rfl (⟨decide ((dsh Sq35 w).2.length = 0), 0, rfl, le43, wfq41, StR.ok ‹¬ ¬ rasked g l w = 0› ‹wReduce w = w› hSOq35 rfl⟩)
  ·
   refine Ops.off rfl rfl rfl rfl <| .off rfl rfl rfl rfl <| .off rfl rfl rfl rfl <| .off rfl rfl rfl rfl <| .off rfl rfl rfl rfl <| .off rfl rfl rfl rfl <| .q rfl (qpickF rfl rfl) <| .q rfl (qassign rfl) <| .q rfl (qassign rfl) <| .nil ?_
   refine h24 _ _ <| .ret ?_
   repeat first | with_reducible refine thenQ_ret ?_ | with_reducible refine blockQ_ret ?_
   exact retQ rfl (⟨false, 0, rfl, le30, wfq28, StR.un ‹¬ ¬ rasked g l w = 0› ‹¬ wReduce w = w›⟩)

theorem s_sortS (d : List (List UInt8)) (lv : Value) (A0 A : AH) (le : A0.le A) (wf0 : A0.wf) (own : Fresh A0 A lv 1 (strs d)) (hl : d.length ≤ 1000000) :
    RetA Tryz.prog 69 #[lv] A (fun v A1 => v = .tuple #[] ∧ A0.le A1 ∧ A1.wf ∧ Fresh A0 A1 lv 1 (strs (srt d))) :=
  (sort_ret Tryz.sortS Tryz.call69 (by omega) le own).mono fun v A1 h => ⟨h.1, h.2.1, h.2.2.1, h.2.2.2.1⟩


theorem s_ver (br : Nat) (S : RS) (A : AH) (hR : Rules A br S) (hS : RSok S) : RetA Tryz.prog 38 #[.pointer (some ⟨br, 0, none⟩)] A (fun v A1 => v = .bool (dver S) ∧ A.le A1 ∧ A1.wf) := by
 refine enterA (e := [(0, .pointer (some ⟨br, 0, none⟩))]) (args := [.pointer (some ⟨br, 0, none⟩)]) Tryz.call38 Tryz.func38 rfl Tryz.results38 Tryz.ntmps38 rfl rfl rfl (fun wf => ?_)
 have le_ := AH.le.refl A
 obtain ⟨rwr, capr, lsv, nv, bl, hbr, hls, hnv, hN⟩ := hR
 have hsm := hS.small
 refine Run.seq fun K1 h2 => .region <| .q rfl (qassign rfl) <| .nil <| h2 _ _ <| .seq fun K3 h4 => .region <| .q rfl (qassign rfl) <| .nil <| h4 _ _ ?_
 refine Run.seq fun K5 h6 => .seq fun K7 h8 => .region <| .q rfl (qmove rfl) <| .q rfl (qnil rfl) <| .q rfl (qfieldAddr fl103_0 sz101 (by decide) rfl) <| .q rfl (qloadAt ag101 rfl rfl (le_.get _ _ hbr) rfl) <| .q rfl (qlenS (n := S.list.length) u101 rfl (hls.le le_) (by omega) (rcells_len _)) <| .q rfl (qmove rfl) <| .nil ?_
 refine h8 _ _ <| .block <| .loop (X := Nat × List (List UInt8) × Value) (fun ⟨k, ls, sv⟩ => [(3, sv), (11, lsv), (12, num ((S.list.length : Nat) : Int)), (13, num ((k : Nat) : Int))]) (fun ⟨k, ls, sv⟩ B => (k ≤ S.list.length ∧ ls = (S.list.map (·.w)).take k) ∧ A.le B ∧ Fresh A B sv 1 (strs ls)) (fun ⟨k, ls, sv⟩ => S.list.length - k) (⟨0, [], .slice none 0 0⟩) (EnvLe.cons rfl <| EnvLe.cons rfl <| EnvLe.cons rfl <| EnvLe.cons rfl <| EnvLe.nil _) (⟨⟨Nat.zero_le _, rfl⟩, le_, (Fresh.nil A A 1)⟩) ?_
 rintro ⟨k, ls, sv⟩ B10 ⟨⟨hk, hlq⟩, le9, fr_sv9⟩
 refine Run.wf fun wf11 => ?_
 have hlk : ls.length ≤ 30000 := by rw [hlq, List.length_take, List.length_map]; omega
 refine Run.seq fun K12 h13 => .region <| .q rfl (qlssN rfl rfl) <| .nil <| h13 _ _ <| .seq fun K14 h15 => .if rfl (fun p16 => ?_) (fun p16 => ?_)
 ·
  refine Run.skip <| h15 _ _ <| .seq fun K17 h18 => .block <| .seq fun K19 h20 => .region ?_
  obtain ⟨b21, f21, rw21, r21, rc21, n21, k21, e21, l21, g21, cl21, cs21⟩ := Slc.at (i := k) (hls.le le9) (by simp only [rcells_length]; omega) (by omega)
  refine Ops.q rfl (qindexS u101 sz95 rfl e21 rfl l21) <| .q rfl (qloadAggAt ag95 sz95 rfl rfl g21 (cl21.trans (congrArg some (rcells_at (by omega))))) <| .l rfl (fun _ _ hk22 _ => walloc wf11 z95 rfl fun A24 b23 nb25 => ?_)
  have no26 := fr_sv9.own.ne_new wf11 nb25.lo
  have ge_b23 := none_of wf (Nat.le_trans le9.n nb25.lo)
  have fr27 := fr_sv9.le nb25.le
  have le28 := le9.trans nb25.le
  refine hk22 _ _ <| .l rfl (fun _ _ hk29 _ => wstore (cs := [str ((S.list.getD k .zero).w), str ((S.list.getD k .zero).c), num (((S.list.getD k .zero).r : Nat) : Int), .bool ((S.list.getD k .zero).i)]) (c' := [str ((S.list.getD k .zero).w), str ((S.list.getD k .zero).c), num (((S.list.getD k .zero).r : Nat) : Int), .bool ((S.list.getD k .zero).i)]) nb25.wf rfl rfl rfl rfl sz95 nb25.get (Nat.le_of_ble_eq_true rfl) rfl rfl fun A30 sb31 => ?_)
  have fr32 := fr27.keep sb31.keep no26
  have le33 := le_store le28 wf ge_b23 sb31.n sb31.keep
  refine hk29 _ _ <| .nil <| h20 _ _ <| .region <| .q rfl (qmove rfl) <| .q rfl (qfieldAddr fl95_0 sz9 (by decide) rfl) <| .q rfl (qloadAt ag9 rfl rfl sb31.get rfl) <| .l rfl (fun _ _ hk34 _ => wbuildSlice (c := [str ((S.list.getD k .zero).w)]) sb31.wf rfl (buildSliceV_of u22 sz9 z9 rfl (by decide) (by decide) rfl) fun A36 b35 nb37 => ?_)
  have fr40 := fr32.le nb37.le
  have le41 := le33.trans nb37.le
  refine hk34 _ _ <| .l rfl (fun _ _ hk42 _ => wappend (ys := [str ((S.list.getD k .zero).w)]) rfl rfl u22 sz9 inf9 z9 rfl (by decide) u22 (fun _ h => by cases h) fr40.own (listOf_row (n := 1) nb37.get rfl) rfl rfl (by show (_ + _) * 16 ≤ _; simp only [strs_length, List.length_cons, List.length_nil]; (try simp only [List.length_append, List.length_cons, List.length_nil]); omega) (by simp only [strs_length, List.length_cons, List.length_nil]; (try simp only [List.length_append, List.length_cons, List.length_nil]); omega) fun A43 v44 ap45 => ?_)
  rw [show ([str ((S.list.getD k .zero).w)] : List Value) = strs [(S.list.getD k .zero).w] from rfl, strs_append] at ap45
  obtain ⟨fr48, le49⟩ := Fresh.grow fr40 le41 wf ap45
  refine hk42 _ _ <| .q rfl (qassign rfl) <| .nil <| h18 _ _ <| .region <| .q rfl (qaddN (b := 1) rfl rfl (by omega)) <| .q rfl (qmove rfl) <| .nil ?_
  exact ⟨⟨k + 1, ls ++ [(S.list.getD k .zero).w], v44⟩, EnvLe.cons rfl <| EnvLe.cons rfl <| EnvLe.cons rfl <| EnvLe.cons rfl <| EnvLe.nil _, rfl, ⟨⟨by omega, by rw [hlq, List.take_add_one, List.getElem?_map, List.getElem?_eq_getElem (by omega)]; simp [show k < S.list.length by omega]⟩, le49, fr48⟩, (by (try dsimp only); omega)⟩
 ·
  refine Run.exit <| h6 _ _ <| .seq fun K52 h53 => .region <| .q rfl (qmove rfl) ?_
  have hls2 : ls = S.list.map (·.w) := by rw [hlq, List.take_of_length_le (by rw [List.length_map]; omega)]
  have hpm := srt_perm ls
  have hpl : (srt ls).length = S.list.length := by rw [hpm.length_eq, hls2, List.length_map]
  have hwl : ∀ i, ((srt ls).getD i []).length ≤ 200 := getD_le fun r hr => by have := hpm.mem_iff.1 hr; rw [hls2] at this; obtain ⟨x, hx, rfl⟩ := List.mem_map.1 this; have := hS.most x hx; omega
  have le58 := le_hide (bs := [blk sv]) le9 (hoV fr_sv9.lo ho0)
  refine Ops.l rfl (fun _ _ hk54 _ => vcallF rfl (s_sortS ls sv (B10.hide [blk sv]) B10 (hide_le B10 [blk sv]) (hide_wf wf11) (fr_sv9.hide (by simp)) (by omega)) ?_)
  rintro v55 A56 ⟨rfl, leq57, wfq57, foq57_0⟩
  have fr59 := foq57_0.base le58
  have le60 := le58.trans leq57
  refine hk54 _ _ <| .nil <| h53 _ _ <| .seq fun K61 h62 => .seq fun K63 h64 => .region <| .q rfl (qassign rfl) <| .nil <| h64 _ _ <| .block ?_
  refine Run.loop (X := Nat) (fun i => [(3, sv), (6, num ((i : Nat) : Int))]) (fun i B => (1 ≤ i ∧ ∀ j, 1 ≤ j → j < i → ¬ badAt (srt ls) j) ∧ A.le B ∧ Fresh A B sv 1 (strs (srt ls))) (fun i => (srt ls).length - i) 1 (EnvLe.cons rfl <| EnvLe.cons rfl <| EnvLe.nil _) (⟨⟨Nat.le_refl _, fun j h1 h2 => by omega⟩, le60, fr59⟩) ?_
  rintro i B66 ⟨⟨hi, hgood⟩, le65, fk_oq57_065⟩
  refine Run.wf fun wf67 => ?_
  have hw1 := hwl (i - 1)
  have hw2 := hwl i
  have hcm := cmn_le ((srt ls).getD (i - 1) []) ((srt ls).getD i [])
  refine Run.seq fun K68 h69 => .seq fun K70 h71 => .region <| .q rfl (qmove rfl) <| .q rfl (qmove rfl) <| .q rfl (qlenS (n := (srt ls).length) u22 rfl fk_oq57_065.slc (by omega) (strs_len _)) <| .q rfl (qlssN rfl rfl) <| .nil <| h71 _ _ <| .if rfl (fun p72 => ?_) (fun p72 => ?_)
  ·
   refine Run.skip <| h69 _ _ <| .seq fun K73 h74 => .block <| .seq fun K75 h76 => .drawn [0, 1, 2, 3, 4, 5, 6, 7, 8, 9, 10, 11] mixed (by kernel_rfl) (by kernel_rfl) rfl <| .q rfl rfl rfl (qmove rfl) <| .q rfl rfl rfl (qmove rfl) <| .q rfl rfl rfl (qsubN (b := 1) rfl rfl (by omega)) ?_
   obtain ⟨b77, f77, rw77, r77, rc77, n77, k77, e77, l77, g77, cl77, cs77⟩ := Slc.at (i := i - 1) fk_oq57_065.slc (by simp only [strs_length]; omega) (by omega)
   refine DOps.q rfl rfl rfl (qindexS u22 sz9 rfl e77 rfl l77) <| .q rfl rfl rfl (qloadAt ag9 rfl rfl g77 ((elt0 cs77).trans (strs_get (by omega)))) <| .q rfl rfl rfl (qmove rfl) <| .q rfl rfl rfl (qmove rfl) ?_
   obtain ⟨b79, f79, rw79, r79, rc79, n79, k79, e79, l79, g79, cl79, cs79⟩ := Slc.at (i := i) fk_oq57_065.slc (by simp only [strs_length]; omega) (by omega)
   refine DOps.q rfl rfl rfl (qindexS u22 sz9 rfl e79 rfl l79) <| .q rfl rfl rfl (qloadAt ag9 rfl rfl g79 ((elt0 cs79).trans (strs_get (by omega)))) <| .l rfl rfl rfl (fun _ _ hk81 _ => vcallF rfl (s_common ((srt ls).getD (i - 1) []) ((srt ls).getD i []) B66 (by first | omega | (simp only [List.length_append, List.length_drop, List.length_take, inv_length]; omega)) (by first | omega | (simp only [List.length_append, List.length_drop, List.length_take, inv_length]; omega))) ?_)
   rintro v82 A83 ⟨rfl, rfl⟩
   refine hk81 _ _ (HeldNow.none (by kernel_rfl)) <| .q rfl rfl rfl (qmulN (a := 6) rfl rfl (by omega)) <| .q rfl rfl rfl (qassign rfl) <| .done <| h76 _ _ <| .seq fun K85 h86 => .region <| .q rfl (qmove rfl) <| .q rfl (qmove rfl) <| .q rfl (qmove rfl) ?_
   refine Ops.q rfl (qsubN (b := 1) rfl rfl (by omega)) ?_
   obtain ⟨b87, f87, rw87, r87, rc87, n87, k87, e87, l87, g87, cl87, cs87⟩ := Slc.at (i := i - 1) fk_oq57_065.slc (by simp only [strs_length]; omega) (by omega)
   refine Ops.q rfl (qindexS u22 sz9 rfl e87 rfl l87) <| .q rfl (qloadAt ag9 rfl rfl g87 ((elt0 cs87).trans (strs_get (by omega)))) <| .q rfl (qslen u9 rfl) <| .q rfl (qgeqN rfl rfl) <| .q rfl (qmove rfl) <| .part (t := 50) rfl (fun p88 => ?_) (fun p88 => ?_)
   ·
    refine Ops.off rfl rfl rfl rfl <| .off rfl rfl rfl rfl <| .off rfl rfl rfl rfl <| .off rfl rfl rfl rfl <| .off rfl rfl rfl rfl <| .off rfl rfl rfl rfl <| .off rfl rfl rfl rfl <| .q rfl (qpickT rfl rfl) <| .nil <| h86 _ _ ?_
    refine Run.cond_true rfl <| .seq fun K89 h90 => .region <| .q rfl (qassign rfl) <| .nil <| h90 _ _ <| .ret ?_
    repeat first | with_reducible refine thenQ_ret ?_ | with_reducible refine blockQ_ret ?_
    exact retQ rfl (⟨by first | (rw [dver, ← hls2, dverW_yes (by omega) hgood]; rfl) | (rw [dver, ← hls2, dverW_no hi (by omega) (by unfold badAt; omega)]; rfl), le65, wf67⟩)
   ·
    refine Ops.on rfl rfl <| .q rfl (qmove rfl) <| .on rfl rfl <| .q rfl (qmove rfl) <| .on rfl rfl <| .q rfl (qmove rfl) <| .on rfl rfl ?_
    obtain ⟨b91, f91, rw91, r91, rc91, n91, k91, e91, l91, g91, cl91, cs91⟩ := Slc.at (i := i) fk_oq57_065.slc (by simp only [strs_length]; omega) (by omega)
    refine Ops.q rfl (qindexS u22 sz9 rfl e91 rfl l91) <| .on rfl rfl <| .q rfl (qloadAt ag9 rfl rfl g91 ((elt0 cs91).trans (strs_get (by omega)))) <| .on rfl rfl <| .q rfl (qslen u9 rfl) <| .on rfl rfl <| .q rfl (qgeqN rfl rfl) <| .q rfl (qpickF rfl rfl) <| .nil <| h86 _ _ ?_
    refine Run.if rfl (fun p92 => ?_) (fun p92 => ?_)
    ·
     refine Run.seq fun K93 h94 => .region <| .q rfl (qassign rfl) <| .nil <| h94 _ _ <| .ret ?_
     repeat first | with_reducible refine thenQ_ret ?_ | with_reducible refine blockQ_ret ?_
     exact retQ rfl (⟨by first | (rw [dver, ← hls2, dverW_yes (by omega) hgood]; rfl) | (rw [dver, ← hls2, dverW_no hi (by omega) (by unfold badAt; omega)]; rfl), le65, wf67⟩)
    ·
     refine Run.skip <| h74 _ _ <| .region <| .q rfl (qmove rfl) <| .q rfl (qaddN (b := 1) rfl rfl (by omega)) <| .q rfl (qassign rfl) <| .nil ?_
     exact ⟨i + 1, EnvLe.cons rfl <| EnvLe.cons rfl <| EnvLe.nil _, rfl, ⟨⟨by omega, fun j h1 h2 => (Nat.lt_succ_iff_lt_or_eq.1 h2).elim (hgood j h1) (fun q => by subst q; unfold badAt; omega)⟩, le65, fk_oq57_065⟩, (by (try dsimp only); omega)⟩
  ·
   refine Run.exit <| h62 _ _ <| .seq fun K95 h96 => .region <| .q rfl (qassign rfl) <| .nil <| h96 _ _ <| .ret ?_
   repeat first | with_reducible refine thenQ_ret ?_ | with_reducible refine blockQ_ret ?_
   exact retQ rfl (⟨by first | (rw [dver, ← hls2, dverW_yes (by omega) hgood]; rfl) | (rw [dver, ← hls2, dverW_no hi (by omega) (by unfold badAt; omega)]; rfl), le65, wf67⟩)

theorem s_Ve (g : Int) (u : Value) (l : List (List UInt8)) (A : AH) (hn : l.length ≤ 1000000) (hL : Lets A) (hu : Slc A 1 u (strs l)) : RetA Tryz.prog 13 #[.agg #[num (g), u]] A (fun v A1 => ∃ (c : Nat), v = num ((c : Nat) : Int) ∧ A.le A1 ∧ A1.wf ∧ VeR g l c) := by
 refine enterA (e := [(0, .agg #[num (g), u])]) (args := [.agg #[num (g), u]]) Tryz.call13 Tryz.func13 rfl Tryz.results13 Tryz.ntmps13 rfl rfl rfl (fun wf => ?_)
 have le_ := AH.le.refl A
 refine Run.seq fun K1 h2 => .region <| .l rfl (fun _ _ hk3 _ => wbox wf rfl rfl fun A5 b4 nb6 => ?_)
 have le7 := le_.trans nb6.le
 refine hk3 _ _ <| .q rfl (qassign rfl) <| .nil <| h2 _ _ <| .seq fun K8 h9 => .seq fun K10 h11 => .region <| .q rfl (qloadAggAt ag24 sz24 rfl rfl nb6.get rfl) <| .l rfl (fun _ _ hk12 _ => vcallF rfl (s_pCheck ((g)) u l A5 (by omega) (hL.le le7) (hu.le le7)) ?_)
 rintro v13 A14 ⟨rfl, leq15, wfq15⟩
 have h16 := leq15.get _ _ nb6.get
 have le17 := le7.trans leq15
 refine hk12 _ _ <| .q rfl (qassign rfl) <| .nil <| h11 _ _ <| .seq fun K18 h19 => .region <| .q rfl (qmove rfl) <| .q rfl (qneqN (b := 0) rfl rfl) <| .nil <| h19 _ _ ?_
 refine Run.if rfl (fun p20 => ?_) (fun p20 => ?_)
 ·
  refine Run.seq fun K21 h22 => .region <| .q rfl (qmove rfl) <| .q rfl (qassign rfl) <| .nil <| h22 _ _ <| .ret ?_
  repeat first | with_reducible refine thenQ_ret ?_ | with_reducible refine blockQ_ret ?_
  exact retQ rfl (⟨pcheck ((g)) l, rfl, le17, wfq15, VeR.no ‹¬ pcheck g l = 0›⟩)
 ·
  refine Run.skip <| h9 _ _ <| .seq fun K23 h24 => .seq fun K25 h26 => .region <| .q rfl (qloadAggAt ag24 sz24 rfl rfl h16 rfl) <| .l rfl (fun _ _ hk27 _ => vcallF rfl (s_newRules ((g)) u l A14 (hL.le le17) (Decidable.not_not.1 ‹¬ ¬ pcheck g l = 0›) (hu.le le17)) ?_)
  rintro v28 A29 ⟨brq30, Sq30, rfl, leq30, wfq30, hRq30, hSq30, hPq30, hWq30⟩
  have le32 := le17.trans leq30
  have hR := hRq30
  have hS := hSq30
  have hP := hPq30
  have hW := hWq30
  have hRlq30 := Rules.all hRq30
  have leRq30 := le32
  have hSOq30 : SOk l Sq30 := ⟨hSq30, hPq30, hWq30⟩
  refine hk27 _ _ <| .l rfl (fun _ _ hk33 _ => vcallF rfl (s_ver brq30 Sq30 A29 (hRlq30.le (by first | exact AH.le.refl _ | assumption)) hSq30) ?_)
  rintro v34 A35 ⟨rfl, leq36, wfq36⟩
  have le38 := le32.trans leq36
  refine hk33 _ _ <| .q rfl (qnot rfl) <| .nil <| h26 _ _ <| .ifB rfl (fun p39 => ?_) (fun p39 => ?_)
  ·
   refine Run.seq fun K40 h41 => .region <| .q rfl (qassign rfl) <| .nil <| h41 _ _ <| .ret ?_
   repeat first | with_reducible refine thenQ_ret ?_ | with_reducible refine blockQ_ret ?_
   exact retQ rfl (⟨230, rfl, le38, wfq36, VeR.ok ‹¬ ¬ pcheck g l = 0› hSOq30 (by rw [if_neg (by have := ‹(!dver _) = true›; intro q; rw [q] at this; cases this)])⟩)
  ·
   refine Run.skip <| h24 _ _ <| .seq fun K42 h43 => .region <| .q rfl (qassign rfl) <| .nil <| h43 _ _ <| .ret ?_
   repeat first | with_reducible refine thenQ_ret ?_ | with_reducible refine blockQ_ret ?_
   exact retQ rfl (⟨0, rfl, le38, wfq36, VeR.ok ‹¬ ¬ pcheck g l = 0› hSOq30 (by rw [if_pos (by have := ‹(!dver _) = false›; simpa using this)])⟩)

theorem s_Tr (g : Int) (u : Value) (l : List (List UInt8)) (w : List UInt8) (A : AH) (hn : l.length ≤ 1000000) (hL : Lets A) (hw : w.length ≤ 100000) (hu : Slc A 1 u (strs l)) : RetA Tryz.prog 16 #[.agg #[num (g), u], str (w)] A (fun v A1 => ∃ (b : Bool) (d : List DCell) (c : Nat) (dv : Value), v = .tuple #[.bool b, dv, num ((c : Nat) : Int)] ∧ A.le A1 ∧ A1.wf ∧ Fresh A A1 dv 3 (dcells d) ∧ TrR g l w (b, d, c)) := by
 refine enterA (e := [(0, .agg #[num (g), u]), (1, str (w))]) (args := [.agg #[num (g), u], str (w)]) Tryz.call16 Tryz.func16 rfl Tryz.results16 Tryz.ntmps16 rfl rfl rfl (fun wf => ?_)
 have le_ := AH.le.refl A
 refine Run.seq fun K1 h2 => .region <| .l rfl (fun _ _ hk3 _ => wbox wf rfl rfl fun A5 b4 nb6 => ?_)
 have le7 := le_.trans nb6.le
 refine hk3 _ _ <| .q rfl (qassign rfl) <| .q rfl (qassign rfl) <| .q rfl (qassign rfl) <| .nil <| h2 _ _ <| .seq fun K8 h9 => .seq fun K10 h11 => .region <| .q rfl (qloadAggAt ag24 sz24 rfl rfl nb6.get rfl) ?_
 refine Ops.q rfl (qmove rfl) <| .l rfl (fun _ _ hk12 _ => vcallF rfl (s_refused ((g)) u l w A5 (by omega) (hL.le le7) (by first | omega | (simp only [List.length_append, List.length_drop, List.length_take, inv_length]; omega)) (hu.le le7)) ?_)
 rintro v13 A14 ⟨rfl, leq15, wfq15⟩
 have h16 := leq15.get _ _ nb6.get
 have le17 := le7.trans leq15
 refine hk12 _ _ <| .q rfl (qassign rfl) <| .nil <| h11 _ _ <| .seq fun K18 h19 => .region <| .q rfl (qmove rfl) <| .q rfl (qneqN (b := 0) rfl rfl) <| .nil <| h19 _ _ ?_
 refine Run.if rfl (fun p20 => ?_) (fun p20 => ?_)
 ·
  refine Run.seq fun K21 h22 => .region <| .q rfl (qmove rfl) <| .q rfl (qassign rfl) <| .q rfl (qassign rfl) <| .q rfl (qassign rfl) <| .nil <| h22 _ _ <| .ret ?_
  repeat first | with_reducible refine thenQ_ret ?_ | with_reducible refine blockQ_ret ?_
  exact retQ rfl (⟨false, [], rasked ((g)) l w, _, rfl, le17, wfq15, Fresh.nil _ _ _, TrR.no ‹¬ rasked g l w = 0›⟩)
 ·
  refine Run.skip <| h9 _ _ <| .seq fun K23 h24 => .region <| .q rfl (qloadAggAt ag24 sz24 rfl rfl h16 rfl) <| .l rfl (fun _ _ hk25 _ => vcallF rfl (s_newRules ((g)) u l A14 (hL.le le17) (rasked_pres ‹¬ ¬ rasked g l w = 0›) (hu.le le17)) ?_)
  rintro v26 A27 ⟨brq28, Sq28, rfl, leq28, wfq28, hRq28, hSq28, hPq28, hWq28⟩
  have le30 := le17.trans leq28
  have hR := hRq28
  have hS := hSq28
  have hP := hPq28
  have hW := hWq28
  have hRlq28 := Rules.all hRq28
  have leRq28 := le30
  have hSOq28 : SOk l Sq28 := ⟨hSq28, hPq28, hWq28⟩
  refine hk25 _ _ <| .q rfl (qassign rfl) <| .nil <| h24 _ _ <| .seq fun K31 h32 => .seq fun K33 h34 => .region <| .q rfl (qmove rfl) <| .l rfl (fun _ _ hk35 _ => vcallF rfl (s_ver brq28 Sq28 A27 (hRlq28.le (by first | exact AH.le.refl _ | assumption)) hSq28) ?_)
  rintro v36 A37 ⟨rfl, leq38, wfq38⟩
  have le40 := le30.trans leq38
  refine hk35 _ _ <| .q rfl (qnot rfl) <| .nil <| h34 _ _ <| .ifB rfl (fun p41 => ?_) (fun p41 => ?_)
  ·
   refine Run.seq fun K42 h43 => .region <| .q rfl (qassign rfl) <| .q rfl (qassign rfl) <| .q rfl (qassign rfl) <| .nil <| h43 _ _ <| .ret ?_
   repeat first | with_reducible refine thenQ_ret ?_ | with_reducible refine blockQ_ret ?_
   exact retQ rfl (⟨false, [], 230, _, rfl, le40, wfq38, Fresh.nil _ _ _, TrR.a ‹¬ ¬ rasked g l w = 0› hSOq28 ‹(!dver _) = true›⟩)
  ·
   refine Run.skip <| h32 _ _ <| .seq fun K44 h45 => .region <| .q rfl (qmove rfl) <| .q rfl (qmove rfl) <| .l rfl (fun _ _ hk46 _ => vcallF rfl (s_dshort brq28 Sq28 w A37 (hRlq28.le (by first | exact AH.le.refl _ | assumption)) hSq28 (hL.le le40) (by have := (rasked_word ‹¬ ¬ rasked g l w = 0›).2; omega)) ?_)
   rintro v47 A48 ⟨dvq49, rfl, leq49, wfq49, frq49⟩
   have le51 := le40.trans leq49
   have fr52 := frq49.base le40
   refine hk46 _ _ <| .l rfl (fun _ _ hk54 _ => walloc wfq49 z36 rfl fun A56 b55 nb57 => ?_)
   have no58 := fr52.own.ne_new wfq49 nb57.lo
   have ge_b55 := none_of wf (Nat.le_trans le51.n nb57.lo)
   have fr60 := fr52.le nb57.le
   have le61 := le51.trans nb57.le
   refine hk54 _ _ ?_
   obtain ⟨p63, l63, c63, q63, _⟩ := fr60.own.slice
   subst q63
   refine Ops.l rfl (fun _ _ hk62 _ => wstore (cs := [str ((dsh Sq28 w).1), num (((dsh Sq28 w).2.length : Nat) : Int), .slice p63 l63 c63]) (c' := [str ((dsh Sq28 w).1), num (((dsh Sq28 w).2.length : Nat) : Int), .slice p63 l63 c63]) nb57.wf rfl rfl rfl rfl sz36 nb57.get (Nat.le_of_ble_eq_true rfl) rfl rfl fun A64 sb65 => ?_)
   have fr67 := fr60.keep sb65.keep no58
   have le68 := le_store le61 wf ge_b55 sb65.n sb65.keep
   refine hk62 _ _ <| .nil <| h45 _ _ <| .seq fun K69 h70 => .seq fun K71 h72 => .region <| .q rfl (qfieldAddr fl36_0 sz9 (by decide) rfl) <| .q rfl (qloadAt ag9 rfl rfl sb65.get rfl) <| .q rfl (qsneq rfl rfl) <| .nil ?_
   refine h72 _ _ <| .if rfl (fun p73 => ?_) (fun p73 => ?_)
   ·
    refine Run.seq fun K74 h75 => .region <| .q rfl (qassign rfl) <| .q rfl (qassign rfl) <| .q rfl (qassign rfl) <| .nil <| h75 _ _ <| .ret ?_
    repeat first | with_reducible refine thenQ_ret ?_ | with_reducible refine blockQ_ret ?_
    exact retQ rfl (⟨false, [], 0, _, rfl, le68, sb65.wf, Fresh.nil _ _ _, TrR.b ‹¬ ¬ rasked g l w = 0› hSOq28 ‹(!dver _) = false› ‹¬ (dsh _ w).1 = []›⟩)
   ·
    refine Run.skip <| h70 _ _ <| .seq fun K76 h77 => .seq fun K78 h79 => .region <| .q rfl (qfieldAddr fl36_2 sz34 (by decide) rfl) <| .q rfl (qloadAt ag34 rfl rfl sb65.get rfl) <| .l rfl (fun _ _ hk80 _ => vcallF rfl (s_heavy (.slice p63 l63 c63) ((dsh Sq28 w).2) A64 (dsh_small hSq28 (by have := (rasked_word ‹¬ ¬ rasked g l w = 0›).2; omega)).2.1 (Nat.le_trans (dsh_small hSq28 (by have := (rasked_word ‹¬ ¬ rasked g l w = 0›).2; omega)).2.2 (by decide)) fr67.slc) ?_)
    rintro v81 A82 ⟨rfl, leq83, wfq83⟩
    have h85 := leq83.get _ _ sb65.get
    have fr86 := fr67.le leq83
    have le87 := le68.trans leq83
    refine hk80 _ _ <| .nil <| h79 _ _ <| .if rfl (fun p88 => ?_) (fun p88 => ?_)
    ·
     refine Run.seq fun K89 h90 => .region <| .q rfl (qassign rfl) <| .q rfl (qassign rfl) <| .q rfl (qassign rfl) <| .nil <| h90 _ _ <| .ret ?_
     repeat first | with_reducible refine thenQ_ret ?_ | with_reducible refine blockQ_ret ?_
     exact retQ rfl (⟨false, [], 2, _, rfl, le87, wfq83, Fresh.nil _ _ _, TrR.c ‹¬ ¬ rasked g l w = 0› hSOq28 ‹(!dver _) = false› ‹¬ ¬ (dsh _ w).1 = []› ‹1000000 < conjs _ ∨ 100000 < _›⟩)
    ·
     refine Run.skip <| h77 _ _ <| .seq fun K91 h92 => .drawn [0, 1, 2, 3, 4] mixed (by kernel_rfl) (by kernel_rfl) rfl <| .q rfl rfl rfl (qfieldAddr fl36_2 sz34 (by decide) rfl) <| .q rfl rfl rfl (qloadAt ag34 rfl rfl h85 rfl) <| .q rfl rfl rfl (qassign rfl) <| .q rfl rfl rfl (qassign rfl) <| .q rfl rfl rfl (qassign rfl) <| .done ?_
     refine h92 _ _ <| .ret ?_
     repeat first | with_reducible refine thenQ_ret ?_ | with_reducible refine blockQ_ret ?_
     exact retQ rfl (⟨true, (dsh Sq28 w).2, 0, _, rfl, le87, wfq83, fr86, TrR.d ‹¬ ¬ rasked g l w = 0› hSOq28 ‹(!dver _) = false› ‹¬ ¬ (dsh _ w).1 = []› ‹¬ (1000000 < conjs _ ∨ 100000 < _)›⟩)
end Go.Proofs.YtaccklloepfemaaGreatDoor

namespace Go.Proofs.YtaccklloepfemaaGreatDoor
set_option linter.unusedVariables false
set_option linter.unusedSimpArgs false
open Go Go.RowKit V

theorem rot_at {w : List UInt8} {p i : Nat} (hp : p < w.length) (hi : i < w.length) : (rot w p).getD i 0 = w.getD ((p + i) % w.length) 0 := by
  simp only [rot, List.getD_eq_getElem?_getD]
  by_cases h : p + i < w.length
  · rw [List.getElem?_append_left (by simp; omega), List.getElem?_drop, Nat.mod_eq_of_lt h]
  · rw [List.getElem?_append_right (by simp; omega), List.length_drop, List.getElem?_take_of_lt (by omega), Nat.mod_eq_sub_mod (by omega), Nat.mod_eq_of_lt (by omega)]
    congr 2; omega
theorem rot_end {w : List UInt8} {p i : Nat} (hi : w.length ≤ i) : (rot w p).getD i 0 = 0 ∧ decide (i < (rot w p).length) = false := by
  rw [rot_length]
  refine ⟨?_, decide_eq_false (by omega)⟩
  rw [List.getD_eq_getElem?_getD, List.getElem?_eq_none (by rw [rot_length]; exact hi)]; rfl
def turnA (w : List UInt8) (i n : Nat) : Int := if ((i + n : Nat) : Int) - ((w.length : Nat) : Int) > 0 then ((i + n : Nat) : Int) - ((w.length : Nat) : Int) else 0
def turnU (L : List Rot) (w : List UInt8) : Nat → Int
  | 0 => -1
  | i + 1 => if 0 < (longF L (rot w i)).2 then (if turnU L w i < 0 ∨ turnA w i (longF L (rot w i)).2 < turnU L w i then turnA w i (longF L (rot w i)).2 else turnU L w i) else turnU L w i
theorem turnU_a {L : List Rot} {w : List UInt8} {i : Nat} {c : Int} (hc : c = turnU L w i) (h : (longF L (rot w i)).2 > 0) (h2 : c < 0 ∨ turnA w i (longF L (rot w i)).2 < c) : turnA w i (longF L (rot w i)).2 = turnU L w (i + 1) := by
  subst hc; rw [turnU, if_pos h, if_pos h2]
theorem turnU_b {L : List Rot} {w : List UInt8} {i : Nat} {c : Int} (hc : c = turnU L w i) (h : (longF L (rot w i)).2 > 0) (h2 : ¬ c < 0) (h3 : ¬ turnA w i (longF L (rot w i)).2 < c) : c = turnU L w (i + 1) := by
  subst hc; rw [turnU, if_pos h, if_neg (fun q => q.elim h2 h3)]
theorem turnU_c {L : List Rot} {w : List UInt8} {i : Nat} {c : Int} (hc : c = turnU L w i) (h : ¬ (longF L (rot w i)).2 > 0) : c = turnU L w (i + 1) := by
  subst hc; rw [turnU, if_neg h]
def dturn (L : List Rot) (w : List UInt8) : Int := turnU L w w.length
theorem longU_le (l : List Rot) (s : List UInt8) : ∀ i, (longU l s i).2 ≤ i
  | 0 => Nat.le_refl _
  | i + 1 => by
    have := longU_le l s i
    simp only [longU, longStep]
    split
    · split
      · exact Nat.le_refl _
      · dsimp only; omega
    · omega
theorem longF_le (l : List Rot) (s : List UInt8) : (longF l s).2 ≤ s.length := longU_le l s _
theorem turnU_bound (L : List Rot) (w : List UInt8) : ∀ i, i ≤ w.length → -1 ≤ turnU L w i ∧ turnU L w i < w.length + 1 ∧ (0 ≤ turnU L w i → turnU L w i < w.length)
  | 0, _ => by simp only [turnU]; omega
  | i + 1, hi => by
    have h := turnU_bound L w i (by omega)
    have h2 := longF_le L (rot w i)
    rw [rot_length] at h2
    rw [turnU]
    split
    · split
      · unfold turnA; split <;> omega
      · exact h
    · exact h
/-- Two words, less what cancels between them. -/
def jn : Nat → List UInt8 → List UInt8 → List UInt8 × List UInt8
  | 0, x, y => (x, y)
  | f + 1, x, y => if ¬ x = [] ∧ ¬ y = [] ∧ x.getD (x.length - 1) 0 = y.getD 0 0 ^^^ 32 then jn f (x.take (x.length - 1)) (y.drop 1) else (x, y)
theorem jn_go {f : Nat} {x y : List UInt8} {R : List UInt8 × List UInt8} (hf : x.length < f) (h : ¬ x = [] ∧ ¬ y = [] ∧ x.getD (x.length - 1) 0 = y.getD 0 0 ^^^ 32) (e : jn f x y = R) : jn (f - 1) (x.take (x.length - 1)) (y.drop 1) = R := by
  cases f with
  | zero => omega
  | succ f => rw [jn, if_pos h] at e; exact e
theorem jn_stop {f : Nat} {x y : List UInt8} {R : List UInt8 × List UInt8} (h : ¬ (¬ x = [] ∧ ¬ y = [] ∧ x.getD (x.length - 1) 0 = y.getD 0 0 ^^^ 32)) (e : jn f x y = R) : R = (x, y) := by
  cases f with
  | zero => exact e.symm
  | succ f => rw [jn, if_neg h] at e; exact e.symm
def jnd (x y : List UInt8) : List UInt8 := (jn (x.length + 1) x y).1 ++ (jn (x.length + 1) x y).2
theorem ne_len {x : List UInt8} (h : ¬ x = []) : 0 < x.length := by
  cases x with
  | nil => exact absurd rfl h
  | cons a x => simp
end Go.Proofs.YtaccklloepfemaaGreatDoor

namespace Go.Proofs.YtaccklloepfemaaGreatDoor
set_option linter.unusedVariables false
set_option linter.unusedSimpArgs false
open Go Go.RowKit V

theorem longU_some {L : List Rot} {s : List UInt8} : ∀ i, i ≤ s.length → 0 < (longU L s i).2 → (longU L s i).2 ≤ i ∧ ∃ x ∈ L, s.take (longU L s i).2 <+: x.w ∧ x.w.length < 2 * (longU L s i).2
  | 0, _, h => by simp [longU] at h
  | i + 1, hi, h => by
    have ih := longU_some (L := L) (s := s) i (by omega)
    simp only [longU, longStep] at h ⊢
    by_cases hb : 0 ≤ bestOf L (s.take (i + 1))
    · rw [if_pos hb] at h ⊢
      by_cases hc : (longU L s i).1 < 0
      · rw [if_pos hc] at h ⊢
        obtain ⟨j, _, h2, h3, h4, _⟩ := bestOf_spec hb
        refine ⟨Nat.le_refl _, _, getD_mem (d := Rot.zero) h2, h3, ?_⟩
        rw [List.length_take] at h4
        show _ < 2 * (i + 1)
        omega
      · rw [if_neg hc] at h ⊢
        dsimp only at h ⊢
        obtain ⟨h1, h2⟩ := ih h
        exact ⟨by omega, h2⟩
    · rw [if_neg hb] at h ⊢
      obtain ⟨h1, h2⟩ := ih h
      exact ⟨by omega, h2⟩
theorem longF_some {L : List Rot} {s : List UInt8} (h : 0 < (longF L s).2) : (longF L s).2 ≤ s.length ∧ ∃ x ∈ L, s.take (longF L s).2 <+: x.w ∧ x.w.length < 2 * (longF L s).2 := longU_some s.length (Nat.le_refl _) h
theorem part_pos {L : List Rot} {s : List UInt8} {x : Rot} {n : Nat} (hx : x ∈ L) (hn : n ≤ s.length) (hp : s.take n <+: x.w) (hl : x.w.length < 2 * n) : 0 ≤ (longF L s).1 := by
  apply Classical.byContradiction
  intro q
  have h1 := longF_neg q x hx
  have h2 := (cmn_prefix s x.w n hn).1 hp
  omega
theorem drun_le {L : List Rot} {m : Nat} : ∀ (f : Nat) (l : List UInt8) (d : List DCell) (p : Nat), (drun L m f l d p).1.length ≤ l.length
  | 0, l, d, p => Nat.le_refl _
  | f + 1, l, d, p => by
    rw [drun]
    by_cases hp : p < l.length
    · rw [if_pos hp]
      by_cases h : 0 ≤ (longF L (l.drop p)).1
      · rw [if_pos h]
        exact Nat.le_trans (drun_le f _ _ _) (Nat.le_of_lt (repl_lt hp h))
      · rw [if_neg h]; exact drun_le f l d (p + 1)
    · rw [if_neg hp]; exact Nat.le_refl _
theorem drun_lt {L : List Rot} {m : Nat} : ∀ (f : Nat) (l : List UInt8) (d : List DCell) (p q : Nat), l.length - p < f → p ≤ q → q < l.length → 0 ≤ (longF L (l.drop q)).1 → (drun L m f l d p).1.length < l.length
  | 0, _, _, _, _, hf, _, _, _ => by omega
  | f + 1, l, d, p, q, hf, hpq, hq, h => by
    rw [drun, if_pos (by omega)]
    by_cases hp : 0 ≤ (longF L (l.drop p)).1
    · rw [if_pos hp]
      have hlt := repl_lt (show p < l.length by omega) hp
      refine Nat.lt_of_le_of_lt ?_ hlt
      exact drun_le f _ _ _
    · rw [if_neg hp]
      exact drun_lt f l d (p + 1) q (by omega) (by rcases Nat.lt_or_eq_of_le hpq with e | e; exact e; subst e; exact absurd h hp) hq h
theorem dsh_le (S : RS) (w : List UInt8) : (dsh S w).1.length ≤ (red w).length := drun_le _ _ _ _
theorem dsh_lt {S : RS} {w : List UInt8} {q : Nat} (hq : q < w.length) (h : 0 ≤ (longF S.list (w.drop q)).1) : (dsh S w).1.length < w.length := by
  have h1 := red_length w
  have h2 := dsh_le S w
  rcases Nat.lt_or_eq_of_le h1 with e | e
  · omega
  · have e2 : red w = w := (red_len_eq w []).2 (by simpa [red] using e)
    unfold dsh
    rw [e2]
    exact drun_lt _ _ _ 0 q (by unfold fuel; omega) (Nat.zero_le _) hq h
theorem turnU_mem {L : List Rot} {w : List UInt8} : ∀ i, i ≤ w.length → 0 ≤ turnU L w i → ∃ j, j < i ∧ 0 < (longF L (rot w j)).2 ∧ turnU L w i = turnA w j (longF L (rot w j)).2
  | 0, _, h => by simp [turnU] at h
  | i + 1, hi, h => by
    rw [turnU] at h ⊢
    by_cases hn : 0 < (longF L (rot w i)).2
    · rw [if_pos hn] at h ⊢
      split at h
      · rename_i hc
        rw [if_pos hc]
        exact ⟨i, by omega, hn, rfl⟩
      · rename_i hc
        rw [if_neg hc]
        obtain ⟨j, h1, h2⟩ := turnU_mem i (by omega) h
        exact ⟨j, by omega, h2⟩
    · rw [if_neg hn] at h ⊢
      obtain ⟨j, h1, h2⟩ := turnU_mem i (by omega) h
      exact ⟨j, by omega, h2⟩
/-- Where a turned word has its part. -/
theorem rot_part {w : List UInt8} {i k n : Nat} (hi : i < w.length) (hk : k ≤ i) (hn : i + n ≤ w.length + k) : ((rot w k).drop (i - k)).take n = (rot w i).take n := by
  have e1 : (rot w k).drop (i - k) = w.drop i ++ w.take k := by
    rw [rot, List.drop_append_of_le_length (by rw [List.length_drop]; omega), List.drop_drop, show k + (i - k) = i by omega]
  rw [e1, rot]
  have e2 : w.take i = w.take k ++ (w.take i).drop k := by
    have := (List.take_append_drop k (w.take i)).symm
    rw [List.take_take, Nat.min_eq_left hk] at this; exact this
  rw [e2, ← List.append_assoc, List.take_append_of_le_length (l₁ := w.drop i ++ w.take k)]
  simp; omega
theorem turn_lt {S : RS} {r : List UInt8} {k : Nat} (hz : ((k : Nat) : Int) = dturn S.list r) : k < r.length ∧ (dsh S (rot r k)).1.length < r.length := by
  have hb := turnU_bound S.list r r.length (Nat.le_refl _)
  unfold dturn at hz
  obtain ⟨j, hj, hn, e⟩ := turnU_mem r.length (Nat.le_refl _) (by omega : 0 ≤ turnU S.list r r.length)
  obtain ⟨h1, x, hx, h2, h3⟩ := longF_some hn
  rw [rot_length] at h1
  rw [e] at hz
  have hk : (k = 0 ∧ j + (longF S.list (rot r j)).2 ≤ r.length) ∨ k + r.length = j + (longF S.list (rot r j)).2 := by
    unfold turnA at hz
    split at hz <;> omega
  have hkj : k ≤ j := by omega
  have hp := rot_part (w := r) (i := j) (k := k) (n := (longF S.list (rot r j)).2) hj hkj (by omega)
  refine ⟨by omega, ?_⟩
  have hlt := dsh_lt (S := S) (w := rot r k) (q := j - k) (by rw [rot_length]; omega) (part_pos hx (by rw [List.length_drop, rot_length]; omega) (by rw [hp]; exact h2) h3)
  rw [rot_length] at hlt
  exact hlt

def cellJ (c1 : List UInt8) (c : DCell) : DCell := ⟨jnd c1 c.conj, c.rel, c.inv⟩
def fitsJ (c1 : List UInt8) (ds : List DCell) : Bool := ds.all fun c => decide ((jnd c1 c.conj).length ≤ 100000)
def cyF (S : RS) : Nat → List UInt8 → List UInt8 → List DCell → List UInt8 × List DCell × List UInt8 × Nat
  | 0, _, _, _ => ([], [], [], 2)
  | f + 1, r, cj, d =>
    if dturn S.list r < 0 then (if Heavy d then ([], [], [], 2) else (r, d, cj, 0))
    else if fitsJ (jnd cj (r.take (dturn S.list r).toNat)) (dsh S (rot r (dturn S.list r).toNat)).2 = false then ([], [], [], 2)
    else if (jnd cj (r.take (dturn S.list r).toNat)).length ≤ 100000 ∧ (jnd (jnd cj (r.take (dturn S.list r).toNat)) (wConj (dsh S (rot r (dturn S.list r).toNat)).1)).length ≤ 100000
      then cyF S f (wCore (dsh S (rot r (dturn S.list r).toNat)).1) (jnd (jnd cj (r.take (dturn S.list r).toNat)) (wConj (dsh S (rot r (dturn S.list r).toNat)).1)) (d ++ (dsh S (rot r (dturn S.list r).toNat)).2.map (cellJ (jnd cj (r.take (dturn S.list r).toNat))))
      else ([], [], [], 2)
section
variable {S : RS} {f k : Nat} {r cj : List UInt8} {d : List DCell} {R : List UInt8 × List DCell × List UInt8 × Nat}
theorem cyF_end (hf : 0 < f) (h : dturn S.list r < 0) (e : cyF S f r cj d = R) : R = if Heavy d then ([], [], [], 2) else (r, d, cj, 0) := by
  cases f with
  | zero => omega
  | succ f => rw [cyF, if_pos h] at e; exact e.symm
theorem fitsJ_no {c1 : List UInt8} {ds : List DCell} {j : Nat} (hj : j < ds.length) (h : ¬ (jnd c1 (ds.getD j .zero).conj).length ≤ 100000) : fitsJ c1 ds = false := by
  rw [fitsJ, List.all_eq_false]
  exact ⟨_, getD_mem hj, by rw [decide_eq_true_eq]; exact h⟩
theorem fitsJ_yes {c1 : List UInt8} {ds : List DCell} {k : Nat} (hk : ds.length ≤ k) (h : ∀ j, j < k → (jnd c1 (ds.getD j .zero).conj).length ≤ 100000) : fitsJ c1 ds = true := by
  rw [fitsJ, List.all_eq_true]
  intro c hc
  obtain ⟨j, hj, rfl⟩ := List.getElem_of_mem hc
  have := h j (by omega)
  rw [decide_eq_true_eq]
  simpa [hj] using this
theorem cyF_no1 (hz : ((k : Nat) : Int) = dturn S.list r) (hf : 0 < f) (e : cyF S f r cj d = R) (h : fitsJ (jnd cj (r.take k)) (dsh S (rot r k)).2 = false) : R = ([], [], [], 2) := by
  cases f with
  | zero => omega
  | succ f => rw [cyF, ← hz, if_neg (by omega), Int.toNat_natCast, if_pos h] at e; exact e.symm
theorem cyF_no2 (hz : ((k : Nat) : Int) = dturn S.list r) (hf : 0 < f) (e : cyF S f r cj d = R) (h0 : fitsJ (jnd cj (r.take k)) (dsh S (rot r k)).2 = true) (h : ¬ ((jnd cj (r.take k)).length ≤ 100000 ∧ (jnd (jnd cj (r.take k)) (wConj (dsh S (rot r k)).1)).length ≤ 100000)) : R = ([], [], [], 2) := by
  cases f with
  | zero => omega
  | succ f => rw [cyF, ← hz, if_neg (by omega), Int.toNat_natCast, if_neg (by rw [h0]; decide), if_neg h] at e; exact e.symm
theorem cyF_go (hz : ((k : Nat) : Int) = dturn S.list r) (hf : 0 < f) (e : cyF S f r cj d = R) (h0 : fitsJ (jnd cj (r.take k)) (dsh S (rot r k)).2 = true) (h : (jnd cj (r.take k)).length ≤ 100000 ∧ (jnd (jnd cj (r.take k)) (wConj (dsh S (rot r k)).1)).length ≤ 100000) :
    cyF S (f - 1) (wCore (dsh S (rot r k)).1) (jnd (jnd cj (r.take k)) (wConj (dsh S (rot r k)).1)) (d ++ (dsh S (rot r k)).2.map (cellJ (jnd cj (r.take k)))) = R := by
  cases f with
  | zero => omega
  | succ f => rw [cyF, ← hz, if_neg (by omega), Int.toNat_natCast, if_neg (by rw [h0]; decide), if_pos h] at e; exact e
end
def cyOf (S : RS) (w : List UInt8) : List UInt8 × List DCell × List UInt8 × Nat := cyF S ((wCore (dsh S w).1).length + 1) (wCore (dsh S w).1) (wConj (dsh S w).1) (dsh S w).2
def CyR (g : Int) (l : List (List UInt8)) (w : List UInt8) (r : List UInt8 × List DCell × List UInt8 × Nat) : Prop :=
  if ¬ rasked g l w = 0 then r = ([], [], [], rasked g l w) else ∃ S, SOk l S ∧ r = cyOf S w
theorem CyR.no {g : Int} {l : List (List UInt8)} {w : List UInt8} (h : ¬ rasked g l w = 0) : CyR g l w ([], [], [], rasked g l w) := by rw [CyR, if_pos h]
theorem CyR.ok {g : Int} {l : List (List UInt8)} {w : List UInt8} {S : RS} {r : List UInt8 × List DCell × List UInt8 × Nat} (h : ¬ ¬ rasked g l w = 0) (hS : SOk l S) (hr : cyOf S w = r) : CyR g l w r := by rw [CyR, if_neg h]; exact ⟨S, hS, hr.symm⟩
theorem jn_len : ∀ (f : Nat) (x y : List UInt8), (jn f x y).1.length + (jn f x y).2.length ≤ x.length + y.length
  | 0, x, y => Nat.le_refl _
  | f + 1, x, y => by
    rw [jn]; split
    · have := jn_len f (x.take (x.length - 1)) (y.drop 1)
      simp only [List.length_take, List.length_drop] at this; omega
    · exact Nat.le_refl _
theorem jnd_len (x y : List UInt8) : (jnd x y).length ≤ x.length + y.length := by rw [jnd, List.length_append]; exact jn_len _ _ _
theorem dsh_all {S : RS} (hS : RSok S) {w : List UInt8} (hw : w.length ≤ 6000) : (dsh S w).1.length ≤ w.length ∧ (dsh S w).2.length + (dsh S w).1.length ≤ w.length ∧ ∀ c ∈ (dsh S w).2, c.conj.length ≤ 7000 := by
  have hr := red_length w
  obtain ⟨h1, h2, h3⟩ := drun_small (m := S.most) (fun x hx => (hS.isw x hx).2.2) (fuel (red w).length) (red w) [] 0 (by omega)
  refine ⟨?_, ?_, fun c hc => (h3 c hc).elim (fun q => by cases q) id⟩
  · show (drun _ _ _ _ _ _).1.length ≤ _; omega
  · show (drun _ _ _ _ _ _).2.length + (drun _ _ _ _ _ _).1.length ≤ _
    simp only [List.length_nil] at h2; omega
theorem getD_conj {d : List DCell} {n : Nat} (h : ∀ c ∈ d, c.conj.length ≤ n) (k : Nat) : (d.getD k .zero).conj.length ≤ n := by
  by_cases q : k < d.length
  · exact h _ (getD_mem q)
  · rw [List.getD_eq_getElem?_getD, List.getElem?_eq_none (by omega)]; simp [DCell.zero]
theorem conj_step {d : List DCell} {ds : List DCell} {k : Nat} {c1 : List UInt8} (hk : k < ds.length) : d ++ (ds.take k).map (cellJ c1) ++ [cellJ c1 (ds.getD k .zero)] = d ++ (ds.take (k + 1)).map (cellJ c1) := by
  rw [List.append_assoc, List.take_add_one, List.getElem?_eq_getElem hk, List.map_append]
  simp [hk]
theorem V.Fresh.sep0 {A B : AH} {v u : Value} {size s2 : Nat} {xs ys : List Value} (h : Fresh A B v size xs) (hu : Own A u s2 ys) : Sep v u := fun c hv hc => by
  obtain ⟨x, hx⟩ := hu.blkget hc
  have := h.lo c hv
  rw [hx] at this; cases this
end Go.Proofs.YtaccklloepfemaaGreatDoor

namespace Go.Proofs.YtaccklloepfemaaGreatDoor
open Go Go.RowKit V
set_option maxRecDepth 100000
set_option linter.unusedVariables false
set_option linter.unusedSimpArgs false


theorem s_turn1 (i : Nat) (l : List UInt8) (p b1 b2 cap1 cap2 : Nat) (rw1 rw2 : Bool) (A : AH) (ht : p < l.length ∧ l.length ≤ 100000000 ∧ i ≤ l.length) (gb1 : A.get b1 = some (.row rw1 [str l] cap1)) (gb2 : A.get b2 = some (.row rw2 [num ((p : Nat) : Int)] cap2)) : RetA Tryz.prog 79 #[num ((i : Nat) : Int), .pointer (some ⟨b1, 0, none⟩), .pointer (some ⟨b2, 0, none⟩)] A (fun v A1 => v = .tuple #[byt ((rot l p).getD i 0), .bool (decide (i < (rot l p).length))] ∧ A = A1) := by
 refine enterA (e := [(0, num ((i : Nat) : Int)), (1, .pointer (some ⟨b1, 0, none⟩)), (2, .pointer (some ⟨b2, 0, none⟩))]) (args := [num ((i : Nat) : Int), .pointer (some ⟨b1, 0, none⟩), .pointer (some ⟨b2, 0, none⟩)]) Tryz.call79 Tryz.func79 rfl Tryz.results79 Tryz.ntmps79 rfl rfl rfl (fun wf => ?_)
 have le_ := AH.le.refl A
 have hmod := Nat.mod_lt (p + i) (show 0 < l.length by omega)
 refine Run.seq fun K1 h2 => .region <| .q rfl (qassign rfl) <| .q rfl (qassign rfl) <| .nil <| h2 _ _ <| .seq fun K3 h4 => .seq fun K5 h6 => .region <| .q rfl (qmove rfl) ?_
 refine Ops.q rfl (qloadAt ag9 rfl rfl (le_.get _ _ gb1) rfl) <| .q rfl (qslen u9 rfl) <| .q rfl (qgeqN rfl rfl) <| .nil <| h6 _ _ <| .if rfl (fun p7 => ?_) (fun p7 => ?_)
 ·
  refine Run.seq fun K8 h9 => .region <| .q rfl (qassign rfl) <| .q rfl (qassign rfl) <| .nil <| h9 _ _ <| .ret ?_
  repeat first | with_reducible refine thenQ_ret ?_ | with_reducible refine blockQ_ret ?_
  exact retQ rfl (⟨by first | (rw [(rot_end (w := l) (p := p) (i := i) (by omega)).1, (rot_end (w := l) (p := p) (i := i) (by omega)).2]; rfl) | (rw [rot_at (by omega) (by omega), rot_length, decide_eq_true (show i < l.length by omega)]; rfl), rfl⟩)
 ·
  refine Run.skip <| h4 _ _ <| .seq fun K10 h11 => .drawn [0, 1, 2, 3, 4, 5, 6, 7, 8, 9] mixed (by kernel_rfl) (by kernel_rfl) rfl <| .q rfl rfl rfl (qloadAt ag9 rfl rfl (le_.get _ _ gb1) rfl) <| .q rfl rfl rfl (qloadAt ag3 rfl rfl (le_.get _ _ gb2) rfl) <| .q rfl rfl rfl (qmove rfl) <| .q rfl rfl rfl (qaddN rfl rfl (by omega)) <| .q rfl rfl rfl (qloadAt ag9 rfl rfl (le_.get _ _ gb1) rfl) <| .q rfl rfl rfl (qslen u9 rfl) ?_
  refine DOps.q rfl rfl rfl (qremN rfl rfl (by omega)) <| .q rfl rfl rfl (qsix u9 rfl rfl (by omega)) <| .q rfl rfl rfl (qassign rfl) <| .q rfl rfl rfl (qassign rfl) <| .done <| h11 _ _ <| .ret ?_
  repeat first | with_reducible refine thenQ_ret ?_ | with_reducible refine blockQ_ret ?_
  exact retQ rfl (⟨by first | (rw [(rot_end (w := l) (p := p) (i := i) (by omega)).1, (rot_end (w := l) (p := p) (i := i) (by omega)).2]; rfl) | (rw [rot_at (by omega) (by omega), rot_length, decide_eq_true (show i < l.length by omega)]; rfl), rfl⟩)

theorem s_turn (br : Nat) (S : RS) (w : List UInt8) (A : AH) (hR : Rules A br S) (hS : RSok S) (hw : w.length ≤ 1000000) : RetA Tryz.prog 46 #[.pointer (some ⟨br, 0, none⟩), str (w)] A (fun v A1 => v = num (dturn S.list w) ∧ A.le A1 ∧ A1.wf) := by
 refine enterA (e := [(0, .pointer (some ⟨br, 0, none⟩)), (1, str (w))]) (args := [.pointer (some ⟨br, 0, none⟩), str (w)]) Tryz.call46 Tryz.func46 rfl Tryz.results46 Tryz.ntmps46 rfl rfl rfl (fun wf => ?_)
 have le_ := AH.le.refl A
 refine Run.seq fun K1 h2 => .region <| .l rfl (fun _ _ hk3 _ => wbox wf rfl rfl fun A5 b4 nb6 => ?_)
 have le7 := le_.trans nb6.le
 refine hk3 _ _ <| .q rfl (qassign rfl) <| .nil <| h2 _ _ <| .seq fun K8 h9 => .region <| .q rfl (qassign rfl) <| .nil <| h9 _ _ <| .seq fun K10 h11 => ?_
 refine Run.seq fun K12 h13 => .region <| .q rfl (qloadAt ag9 rfl rfl nb6.get rfl) <| .q rfl (qslen u9 rfl) <| .q rfl (qmove rfl) <| .nil <| h13 _ _ <| .block <| .loop (X := Nat × Int) (fun ⟨j, c⟩ => [(0, .pointer (some ⟨br, 0, none⟩)), (3, .pointer (some ⟨b4, 0, none⟩)), (5, num (c)), (11, num ((w.length : Nat) : Int)), (12, num ((j : Nat) : Int))]) (fun ⟨j, c⟩ B => (j ≤ w.length ∧ c = turnU S.list w j) ∧ A.le B ∧ B.get b4 = some (.row true [str (w)] 1)) (fun ⟨j, c⟩ => w.length - j) (⟨0, -1⟩) (EnvLe.cons rfl <| EnvLe.cons rfl <| EnvLe.cons rfl <| EnvLe.cons rfl <| EnvLe.cons rfl <| EnvLe.nil _) (⟨⟨Nat.zero_le _, rfl⟩, le7, nb6.get⟩) ?_
 rintro ⟨j, c⟩ B15 ⟨⟨hj, hc⟩, le14, hr_b414⟩
 refine Run.wf fun wf16 => ?_
 have hlf := longF_le S.list (rot w j)
 rw [rot_length] at hlf
 have htb := turnU_bound S.list w j hj
 rw [← hc] at htb
 refine Run.seq fun K17 h18 => .region <| .q rfl (qlssN rfl rfl) <| .nil <| h18 _ _ <| .seq fun K19 h20 => .if rfl (fun p21 => ?_) (fun p21 => ?_)
 ·
  refine Run.skip <| h20 _ _ <| .seq fun K22 h23 => .block <| .seq fun K24 h25 => .region <| .q rfl (qmove rfl) <| .l rfl (fun _ _ hk26 _ => walloc wf16 z3 rfl fun A28 b27 nb29 => ?_)
  have ne_b4_b27 := ne_new wf16 hr_b414 nb29.lo
  have ge_b27 := none_of wf (Nat.le_trans le14.n nb29.lo)
  have h30 := nb29.le.get _ _ hr_b414
  have le31 := le14.trans nb29.le
  refine hk26 _ _ <| .l rfl (fun _ _ hk32 _ => wstore (cs := [num ((j : Nat) : Int)]) (c' := [num ((j : Nat) : Int)]) nb29.wf rfl rfl rfl rfl sz3 nb29.get (Nat.le_of_ble_eq_true rfl) rfl rfl fun A33 sb34 => ?_)
  have h35 := sb34.keep _ _ ne_b4_b27 h30
  have le36 := le_store le31 wf ge_b27 sb34.n sb34.keep
  refine hk32 _ _ <| .nil <| h25 _ _ <| .seq fun K37 h38 => .region <| .q rfl (qmove rfl) <| .q rfl (qfunc rfl rfl) <| .l rfl (fun _ _ hk39 _ => vcallF rfl (s_long br S 79 #[.pointer (some ⟨b4, 0, none⟩), .pointer (some ⟨b27, 0, none⟩)] (rot w j) A33 (hR.le le36) hS (by rw [rot_length]; omega) (fun i B hi le wf => s_turn1 i w j b4 b27 _ _ _ _ B ⟨by omega, by omega, by rw [rot_length] at hi; exact hi⟩ (le.get _ _ h35) (le.get _ _ sb34.get))) ?_)
  rintro v40 A41 ⟨rfl, rfl⟩
  refine hk39 _ _ <| .q rfl (qmove rfl) <| .q rfl (qextract rfl rfl) <| .q rfl (qextract rfl rfl) <| .q rfl (qassign rfl) <| .q rfl (qassign rfl) <| .nil <| h38 _ _ <| .seq fun K43 h44 => .region ?_
  refine Ops.q rfl (qmove rfl) <| .q rfl (qgtrN (b := 0) rfl rfl) <| .nil <| h44 _ _ <| .if rfl (fun p45 => ?_) (fun p45 => ?_)
  ·
   refine Run.seq fun K46 h47 => .region <| .q rfl (qloadAt ag3 rfl rfl sb34.get rfl) <| .q rfl (qmove rfl) <| .q rfl (qaddN rfl rfl (by omega)) <| .q rfl (qloadAt ag9 rfl rfl h35 rfl) <| .q rfl (qslen u9 rfl) <| .q rfl (qsub rfl rfl (by omega)) <| .q rfl (qmax rfl rfl) <| .q rfl (qassign rfl) ?_
   refine Ops.nil <| h47 _ _ <| .seq fun K48 h49 => .region <| .q rfl (qmove rfl) <| .q rfl (qlss rfl rfl) <| .q rfl (qmove rfl) <| .part (t := 32) rfl (fun p50 => ?_) (fun p50 => ?_)
   ·
    refine Ops.off rfl rfl rfl rfl <| .off rfl rfl rfl rfl <| .off rfl rfl rfl rfl <| .q rfl (qpickT rfl rfl) <| .nil <| h49 _ _ <| .cond_true rfl <| .region <| .q rfl (qmove rfl) <| .q rfl (qassign rfl) ?_
    refine Ops.nil <| h23 _ _ <| .region <| .q rfl (qaddN (b := 1) rfl rfl (by omega)) <| .q rfl (qmove rfl) <| .nil ?_
    exact ⟨⟨j + 1, (if (((j + ((longF S.list (rot w j)).2) : Nat) : Int) - ((w.length : Nat) : Int)) > ((0 : Nat) : Int) then (((j + ((longF S.list (rot w j)).2) : Nat) : Int) - ((w.length : Nat) : Int)) else ((0 : Nat) : Int))⟩, EnvLe.cons rfl <| EnvLe.cons rfl <| EnvLe.cons rfl <| EnvLe.cons rfl <| EnvLe.cons rfl <| EnvLe.nil _, rfl, ⟨⟨by omega, by first | exact turnU_a hc ‹(longF S.list (rot w j)).2 > 0› (.inl ‹c < 0›) | exact turnU_a hc ‹(longF S.list (rot w j)).2 > 0› (.inr ‹_ < c›) | exact turnU_b hc ‹(longF S.list (rot w j)).2 > 0› ‹¬ c < 0› ‹¬ _ < c› | exact turnU_c hc ‹¬ (longF S.list (rot w j)).2 > 0›⟩, le36, h35⟩, (by (try dsimp only); omega)⟩
   ·
    refine Ops.on rfl rfl <| .q rfl (qmove rfl) <| .on rfl rfl <| .q rfl (qmove rfl) <| .on rfl rfl <| .q rfl (qlss rfl rfl) <| .q rfl (qpickF rfl rfl) <| .nil <| h49 _ _ <| .if rfl (fun p51 => ?_) (fun p51 => ?_)
    ·
     refine Run.region <| .q rfl (qmove rfl) <| .q rfl (qassign rfl) <| .nil <| h23 _ _ <| .region <| .q rfl (qaddN (b := 1) rfl rfl (by omega)) <| .q rfl (qmove rfl) <| .nil ?_
     exact ⟨⟨j + 1, (if (((j + ((longF S.list (rot w j)).2) : Nat) : Int) - ((w.length : Nat) : Int)) > ((0 : Nat) : Int) then (((j + ((longF S.list (rot w j)).2) : Nat) : Int) - ((w.length : Nat) : Int)) else ((0 : Nat) : Int))⟩, EnvLe.cons rfl <| EnvLe.cons rfl <| EnvLe.cons rfl <| EnvLe.cons rfl <| EnvLe.cons rfl <| EnvLe.nil _, rfl, ⟨⟨by omega, by first | exact turnU_a hc ‹(longF S.list (rot w j)).2 > 0› (.inl ‹c < 0›) | exact turnU_a hc ‹(longF S.list (rot w j)).2 > 0› (.inr ‹_ < c›) | exact turnU_b hc ‹(longF S.list (rot w j)).2 > 0› ‹¬ c < 0› ‹¬ _ < c› | exact turnU_c hc ‹¬ (longF S.list (rot w j)).2 > 0›⟩, le36, h35⟩, (by (try dsimp only); omega)⟩
    ·
     refine Run.skip <| h23 _ _ <| .region <| .q rfl (qaddN (b := 1) rfl rfl (by omega)) <| .q rfl (qmove rfl) <| .nil ?_
     exact ⟨⟨j + 1, (c)⟩, EnvLe.cons rfl <| EnvLe.cons rfl <| EnvLe.cons rfl <| EnvLe.cons rfl <| EnvLe.cons rfl <| EnvLe.nil _, rfl, ⟨⟨by omega, by first | exact turnU_a hc ‹(longF S.list (rot w j)).2 > 0› (.inl ‹c < 0›) | exact turnU_a hc ‹(longF S.list (rot w j)).2 > 0› (.inr ‹_ < c›) | exact turnU_b hc ‹(longF S.list (rot w j)).2 > 0› ‹¬ c < 0› ‹¬ _ < c› | exact turnU_c hc ‹¬ (longF S.list (rot w j)).2 > 0›⟩, le36, h35⟩, (by (try dsimp only); omega)⟩
  ·
   refine Run.skip <| h23 _ _ <| .region <| .q rfl (qaddN (b := 1) rfl rfl (by omega)) <| .q rfl (qmove rfl) <| .nil ?_
   exact ⟨⟨j + 1, (c)⟩, EnvLe.cons rfl <| EnvLe.cons rfl <| EnvLe.cons rfl <| EnvLe.cons rfl <| EnvLe.cons rfl <| EnvLe.nil _, rfl, ⟨⟨by omega, by first | exact turnU_a hc ‹(longF S.list (rot w j)).2 > 0› (.inl ‹c < 0›) | exact turnU_a hc ‹(longF S.list (rot w j)).2 > 0› (.inr ‹_ < c›) | exact turnU_b hc ‹(longF S.list (rot w j)).2 > 0› ‹¬ c < 0› ‹¬ _ < c› | exact turnU_c hc ‹¬ (longF S.list (rot w j)).2 > 0›⟩, le36, h35⟩, (by (try dsimp only); omega)⟩
 ·
  refine Run.exit <| h11 _ _ <| .seq fun K52 h53 => .region <| .q rfl (qmove rfl) <| .q rfl (qassign rfl) <| .nil <| h53 _ _ <| .ret ?_
  repeat first | with_reducible refine thenQ_ret ?_ | with_reducible refine blockQ_ret ?_
  exact retQ rfl (⟨by rw [hc, show j = w.length by omega]; rfl, le14, wf16⟩)

theorem s_joined (x y : List UInt8) (A : AH) (hx : x.length ≤ 1000000) (hy : y.length ≤ 1000000) : RetA Tryz.prog 47 #[str (x), str (y)] A (fun v A1 => v = .tuple #[str (jnd x y), .bool (decide ((jnd x y).length ≤ 100000))] ∧ A = A1) := by
 refine enterA (e := [(0, str (x)), (1, str (y))]) (args := [str (x), str (y)]) Tryz.call47 Tryz.func47 rfl Tryz.results47 Tryz.ntmps47 rfl rfl rfl (fun wf => ?_)
 have le_ := AH.le.refl A
 refine Run.seq fun K1 h2 => .region <| .q rfl (qassign rfl) <| .q rfl (qassign rfl) <| .nil <| h2 _ _ <| .seq fun K3 h4 => .block <| .loop (X := Nat × List UInt8 × List UInt8) (fun ⟨f, a, c⟩ => [(0, str (a)), (1, str (c))]) (fun ⟨f, a, c⟩ B => (jn f a c = jn (x.length + 1) x y ∧ a.length < f ∧ a.length ≤ x.length ∧ c.length ≤ y.length) ∧ A = B) (fun ⟨f, a, c⟩ => a.length) (⟨x.length + 1, x, y⟩) (EnvLe.cons rfl <| EnvLe.cons rfl <| EnvLe.nil _) (⟨⟨rfl, by omega, Nat.le_refl _, Nat.le_refl _⟩, rfl⟩) ?_
 rintro ⟨f, a, c⟩ B6 ⟨⟨hj, hf, ha, hcl⟩, rfl⟩
 have hne1 := fun q : ¬ a = [] => ne_len q
 have hne2 := fun q : ¬ c = [] => ne_len q
 refine Run.seq fun K7 h8 => .seq fun K9 h10 => .drawn [0, 1, 2, 3, 4, 5, 6, 7, 8, 9, 10, 11, 12, 13, 14, 15, 16] mixed (by kernel_rfl) (by kernel_rfl) rfl <| .q rfl rfl rfl (qmove rfl) <| .q rfl rfl rfl (qsneq rfl rfl) <| .q rfl rfl rfl (qmove rfl) <| .part (t := 8) rfl (fun p11 => ?_) (fun p11 => ?_)
 ·
  refine DOps.qOn rfl rfl rfl rfl rfl (qmove rfl) <| .qOn rfl rfl rfl rfl rfl (qsneq rfl rfl) <| .q rfl rfl rfl (qpickT rfl rfl) <| .q rfl rfl rfl (qmove rfl) <| .part (t := 12) rfl (fun p12 => ?_) (fun p12 => ?_)
  ·
   refine DOps.qOn rfl rfl rfl rfl rfl (qmove rfl) <| .qOn rfl rfl rfl rfl rfl (qmove rfl) <| .qOn rfl rfl rfl rfl rfl (qslen u9 rfl) <| .qOn rfl rfl rfl rfl rfl (qsubN (b := 1) rfl rfl (by first | omega | (have := hne1 ‹¬ a = []›; have := hne2 ‹¬ c = []›; omega))) <| .qOn rfl rfl rfl rfl rfl (qsix u9 rfl rfl (by (have := hne1 ‹¬ a = []›; have := hne2 ‹¬ c = []›; omega))) <| .qOn rfl rfl rfl rfl rfl (qmove rfl) <| .qOn rfl rfl rfl rfl rfl (qsix u9 rfl rfl (by (have := hne1 ‹¬ a = []›; have := hne2 ‹¬ c = []›; omega))) <| .qOn rfl rfl rfl rfl rfl (qxorB (d := 32) rfl rfl) <| .qOn rfl rfl rfl rfl rfl (qeqlB rfl rfl) <| .q rfl rfl rfl (qpickT rfl rfl) ?_
   refine DOps.done <| h10 _ _ <| .if rfl (fun p13 => ?_) (fun p13 => ?_)
   ·
    refine Run.skip <| h8 _ _ <| .block <| .drawn [0, 1, 2, 3, 4, 5, 6, 7, 8] mixed (by kernel_rfl) (by kernel_rfl) rfl <| .q rfl rfl rfl (qmove rfl) <| .q rfl rfl rfl (qmove rfl) <| .q rfl rfl rfl (qslen u9 rfl) <| .q rfl rfl rfl (qsubN (b := 1) rfl rfl (by first | omega | (have := hne1 ‹¬ a = []›; have := hne2 ‹¬ c = []›; omega))) <| .q rfl rfl rfl (qslHi u9 rfl rfl (by (have := hne1 ‹¬ a = []›; have := hne2 ‹¬ c = []›; omega))) <| .q rfl rfl rfl (qmove rfl) ?_
    refine DOps.q rfl rfl rfl (qslLo (i := 1) u9 rfl rfl (by (have := hne1 ‹¬ a = []›; have := hne2 ‹¬ c = []›; omega))) <| .q rfl rfl rfl (qassign rfl) <| .q rfl rfl rfl (qassign rfl) <| .done ?_
    exact ⟨⟨f - 1, a.take (a.length - 1), c.drop 1⟩, EnvLe.cons rfl <| EnvLe.cons rfl <| EnvLe.nil _, rfl, ⟨⟨jn_go hf ⟨‹¬ a = []›, ‹¬ c = []›, ‹_›⟩ hj, by have := hne1 ‹¬ a = []›; rw [List.length_take]; omega, by rw [List.length_take]; omega, by rw [List.length_drop]; omega⟩, rfl⟩, (by have := hne1 ‹¬ a = []›; try dsimp only; rw [List.length_take]; omega)⟩
   ·
    refine Run.exit <| h4 _ _ <| .seq fun K14 h15 => .region <| .q rfl (qmove rfl) <| .q rfl (qmove rfl) <| .q rfl (qsadd rfl rfl (by first | omega | (have := hne1 ‹¬ a = []›; have := hne2 ‹¬ c = []›; omega))) <| .q rfl (qmove rfl) <| .q rfl (qslen u9 rfl) <| .q rfl (qmove rfl) ?_
    refine Ops.q rfl (qslen u9 rfl) <| .q rfl (qaddN rfl rfl (by first | omega | (have := hne1 ‹¬ a = []›; have := hne2 ‹¬ c = []›; omega))) <| .q rfl (qleqN (b := 100000) rfl rfl) <| .q rfl (qassign rfl) <| .q rfl (qassign rfl) <| .nil <| h15 _ _ <| .ret ?_
    repeat first | with_reducible refine thenQ_ret ?_ | with_reducible refine blockQ_ret ?_
    exact retQ rfl (⟨by have hj2 := jn_stop (by rintro ⟨q1, q2, q3⟩; first | exact absurd q1 ‹¬ ¬ a = []› | exact absurd q2 ‹¬ ¬ c = []› | exact absurd q3 ‹_›) hj; rw [jnd, hj2, List.length_append]; rfl, rfl⟩)
  ·
   refine DOps.qOff rfl rfl rfl rfl rfl rfl <| .qOff rfl rfl rfl rfl rfl rfl <| .qOff rfl rfl rfl rfl rfl rfl <| .qOff rfl rfl rfl rfl rfl rfl <| .qOff rfl rfl rfl rfl rfl rfl <| .qOff rfl rfl rfl rfl rfl rfl <| .qOff rfl rfl rfl rfl rfl rfl <| .qOff rfl rfl rfl rfl rfl rfl <| .qOff rfl rfl rfl rfl rfl rfl <| .q rfl rfl rfl (qpickF rfl rfl) ?_
   refine DOps.done <| h10 _ _ <| .cond_false rfl <| .exit <| h4 _ _ <| .seq fun K16 h17 => .region <| .q rfl (qmove rfl) <| .q rfl (qmove rfl) <| .q rfl (qsadd rfl rfl (by first | omega | (have := hne1 ‹¬ a = []›; have := hne2 ‹¬ c = []›; omega))) ?_
   refine Ops.q rfl (qmove rfl) <| .q rfl (qslen u9 rfl) <| .q rfl (qmove rfl) <| .q rfl (qslen u9 rfl) <| .q rfl (qaddN rfl rfl (by first | omega | (have := hne1 ‹¬ a = []›; have := hne2 ‹¬ c = []›; omega))) <| .q rfl (qleqN (b := 100000) rfl rfl) <| .q rfl (qassign rfl) <| .q rfl (qassign rfl) <| .nil <| h17 _ _ ?_
   refine Run.ret ?_
   repeat first | with_reducible refine thenQ_ret ?_ | with_reducible refine blockQ_ret ?_
   exact retQ rfl (⟨by have hj2 := jn_stop (by rintro ⟨q1, q2, q3⟩; first | exact absurd q1 ‹¬ ¬ a = []› | exact absurd q2 ‹¬ ¬ c = []› | exact absurd q3 ‹_›) hj; rw [jnd, hj2, List.length_append]; rfl, rfl⟩)
 ·
  refine DOps.qOff rfl rfl rfl rfl rfl rfl <| .qOff rfl rfl rfl rfl rfl rfl <| .q rfl rfl rfl (qpickF rfl rfl) <| .q rfl rfl rfl (qmove rfl) <| .qOff rfl rfl rfl rfl rfl rfl <| .qOff rfl rfl rfl rfl rfl rfl <| .qOff rfl rfl rfl rfl rfl rfl <| .qOff rfl rfl rfl rfl rfl rfl <| .qOff rfl rfl rfl rfl rfl rfl <| .qOff rfl rfl rfl rfl rfl rfl ?_
  refine DOps.qOff rfl rfl rfl rfl rfl rfl <| .qOff rfl rfl rfl rfl rfl rfl <| .qOff rfl rfl rfl rfl rfl rfl <| .q rfl rfl rfl (qpickF rfl rfl) <| .done <| h10 _ _ <| .cond_false rfl <| .exit <| h4 _ _ <| .seq fun K18 h19 => ?_
  refine Run.region <| .q rfl (qmove rfl) <| .q rfl (qmove rfl) <| .q rfl (qsadd rfl rfl (by first | omega | (have := hne1 ‹¬ a = []›; have := hne2 ‹¬ c = []›; omega))) <| .q rfl (qmove rfl) <| .q rfl (qslen u9 rfl) <| .q rfl (qmove rfl) <| .q rfl (qslen u9 rfl) <| .q rfl (qaddN rfl rfl (by first | omega | (have := hne1 ‹¬ a = []›; have := hne2 ‹¬ c = []›; omega))) <| .q rfl (qleqN (b := 100000) rfl rfl) ?_
  refine Ops.q rfl (qassign rfl) <| .q rfl (qassign rfl) <| .nil <| h19 _ _ <| .ret ?_
  repeat first | with_reducible refine thenQ_ret ?_ | with_reducible refine blockQ_ret ?_
  exact retQ rfl (⟨by have hj2 := jn_stop (by rintro ⟨q1, q2, q3⟩; first | exact absurd q1 ‹¬ ¬ a = []› | exact absurd q2 ‹¬ ¬ c = []› | exact absurd q3 ‹_›) hj; rw [jnd, hj2, List.length_append]; rfl, rfl⟩)
end Go.Proofs.YtaccklloepfemaaGreatDoor

namespace Go.Proofs.YtaccklloepfemaaGreatDoor
set_option linter.unusedVariables false
set_option linter.unusedSimpArgs false
open Go Go.RowKit
namespace V
def canonP (ops : Array Oper) : Array Bool → List Nat → Nat → Nat → List Nat → List Nat → Bool
  | listed, [], i, j, C, D => (Region.ready .any ops listed == [i, j]) && canon ops (listed.setIfInBounds i true) C && canon ops (listed.setIfInBounds j true) D && (C.length == D.length)
  | listed, q :: Cq, i, j, C, D => match ops[q]? with
    | none => false
    | some o => quietOp o.op && (Region.ready .any ops listed).contains q && Region.free .any ops listed q && canonP ops (listed.setIfInBounds q true) Cq i j C D
section
variable {P : Program} {nt : Nat} {ops : Array Oper} {Q : Exit → Fr → AH → Prop} {f : Fr} {A : AH}
def DPair (P : Program) (nt : Nat) (ops : Array Oper) (Q : Exit → Fr → AH → Prop) (listed : Array Bool) (held : List (Nat × Held)) (Cq : List Nat) (i j : Nat) (C D : List Nat) (f : Fr) (A : AH) : Prop :=
  canonP ops listed Cq i j C D = true → Region.noSelect ops = true → ∀ a w, ActOk nt f a → View A w → heldS ops held listed w → Closed ops listed →
    ∀ (A₀ : AH) (w₀ : World), Step A₀ w₀ A w → wpAnyS P ops (PostQ nt Q A₀ w₀) (heldS ops held) (Cq.length + (C.length + 1)) listed a w
theorem DPair.quiet {listed : Array Bool} {held : List (Nat × Held)} {q i j : Nat} {Cq C D : List Nat} {o : Oper} {v : Value} {T : Held} (ho : ops[q]? = some o) (hq : quietOp o.op = true) (hd : ∀ t, o.dst = some t → t < nt)
    (hv : ∀ a w, ActOk nt f a → View A w → holds T w ∧ YieldsIf P ops (holds T) o v a)
    (h : DPair P nt ops Q (listed.setIfInBounds q true) ((q, T) :: held) Cq i j C D ⟨putE f.e o.dst v, f.ds⟩ A) : DPair P nt ops Q listed held (q :: Cq) i j C D f A := by
  intro hc hn a w ha hw hh hcl A₀ w₀ hs
  simp only [canonP, ho, Bool.and_eq_true] at hc
  obtain ⟨⟨⟨_, c1⟩, c2⟩, c3⟩ := hc
  obtain ⟨t1, t2⟩ := hv a w ha hw
  have hr : q ∈ Region.ready .any ops listed := by simpa using c1
  have hheld : heldS ops ((q, T) :: held) listed w := fun p hp hj => by
    rcases List.mem_cons.1 hp with rfl | hp
    · exact t1
    · exact hh p hp hj
  have H := h c3 hn _ w (ha.put o.dst v hd) hw ((heldS_quiet ho hq _ _).2 hheld) (closed_set hcl hr) A₀ w₀ hs
  have free := Region.free_spec ho c2
  have H' : wpAnyS P ops (PostQ nt Q A₀ w₀) (heldS ops ((q, T) :: held)) (Cq.length + (C.length + 1) + 1) listed a w :=
    wpAnyS_first (T := holds T) ho (Region.noSelect_spec hn) (fun c a w g => panic_put _ _ c a w g)
      (fun l w' hcl' hun hS => hS (q, T) (List.mem_cons_self ..) fun j hl ⟨oj, hoj, _⟩ => by
        cases e : anc ops q ops.size j with
        | false => rfl
        | true =>
          have := anc_listed hcl' ops.size j oj hoj (hcl' j oj hoj hl) e
          rw [getD_false hun] at this; cases this)
      (fun l w' => heldS_quiet ho hq l w') _ listed a w hcl (fun j oj hoj hne hun hno => free j oj hoj hne hun hno) hr t2 hheld H
  have weaken : ∀ (fuel : Nat) (l : Array Bool) (a : Act) (w : World), wpAnyS P ops (PostQ nt Q A₀ w₀) (heldS ops ((q, T) :: held)) fuel l a w → wpAnyS P ops (PostQ nt Q A₀ w₀) (heldS ops held) fuel l a w := by
    intro fuel
    induction fuel with
    | zero => intro l a w h; exact h
    | succ fuel ih => intro l a w h; exact ⟨h.1, fun j hj => wpOp_mono (fun a' w' h' => ⟨fun p hp => h'.1 p (List.mem_cons_of_mem _ hp), ih _ _ _ h'.2⟩) (h.2 j hj)⟩
  rw [List.length_cons, Nat.add_right_comm]
  exact weaken _ _ _ _ H'
/-- A loud operation's step, whatever else may come up. -/
theorem loud_step {listed : Array Bool} {held : List (Nat × Held)} {i : Nat} {C : List Nat} {o : Oper} {a : Act} {w : World} {A₀ : AH} {w₀ : World} (ho : ops[i]? = some o) (hq : quietOp o.op = false) (hd : ∀ t, o.dst = some t → t < nt) (hwn : ∀ a : Act, ActOk nt f a → Region.wanted o (yielded ops a.tmps) = true)
    (c2 : canon ops (listed.setIfInBounds i true) C = true) (hn : Region.noSelect ops = true) (ha : ActOk nt f a) (hw : View A w) (hcl : Closed ops listed) (hs : Step A₀ w₀ A w) (hr : i ∈ Region.ready .any ops listed)
    (h : ∀ (K : Value → AH → Prop) (Kp : List PanicEntry → AH → Prop),
      (∀ v A', (∀ w', View A' w' → ∀ p ∈ held, anc ops p.1 ops.size i = false → holds p.2 w') → DOps P nt ops Q (listed.setIfInBounds i true) (held.filter fun p => !anc ops p.1 ops.size i) C ⟨putE f.e o.dst v, f.ds⟩ A' → K v A') →
      (∀ ch A', Q (.panic ch) ⟨[], f.ds⟩ A' → Kp ch A') → opV P f.e A o K Kp) :
    wpOp P ops (PostQ nt Q A₀ w₀) i (fun a' w' => heldS ops held (listed.setIfInBounds i true) w' ∧ wpAnyS P ops (PostQ nt Q A₀ w₀) (heldS ops held) C.length (listed.setIfInBounds i true) a' w') a w := by
  have hlt : i < listed.size := by
    have := (mem_ready.1 hr).1
    rcases Nat.lt_or_ge i listed.size with h' | h'
    · exact h'
    · simp [Array.getElem?_eq_none h'] at this
  have hl : (listed.setIfInBounds i true).getD i false = true := by simp [hlt]
  unfold wpOp
  simp only [ho, hwn a ha, if_true]
  left
  have := opV_sound (o := o) (K := fun v A' => (∀ w', View A' w' → ∀ p ∈ held, anc ops p.1 ops.size i = false → holds p.2 w') ∧ DOps P nt ops Q (listed.setIfInBounds i true) (held.filter fun p => !anc ops p.1 ops.size i) C ⟨putE f.e o.dst v, f.ds⟩ A')
    (Kp := fun ch A' => Q (.panic ch) ⟨[], f.ds⟩ A') ha hw (h _ _ (fun v A' g1 g2 => ⟨g1, g2⟩) (fun ch A' g => g))
  unfold Oper.wp at this ⊢
  have up : ∀ r, o.upon P a (After A a w o fun v A' => (∀ w', View A' w' → ∀ p ∈ held, anc ops p.1 ops.size i = false → holds p.2 w') ∧ DOps P nt ops Q (listed.setIfInBounds i true) (held.filter fun p => !anc ops p.1 ops.size i) C ⟨putE f.e o.dst v, f.ds⟩ A') (Behind A a w fun ch A' => Q (.panic ch) ⟨[], f.ds⟩ A') r →
      o.upon P a (fun a' w' => heldS ops held (listed.setIfInBounds i true) w' ∧ wpAnyS P ops (PostQ nt Q A₀ w₀) (heldS ops held) C.length (listed.setIfInBounds i true) a' w') (PostQ nt Q A₀ w₀) r := by
    have next : ∀ a' w', (After A a w o fun v A' => (∀ w', View A' w' → ∀ p ∈ held, anc ops p.1 ops.size i = false → holds p.2 w') ∧ DOps P nt ops Q (listed.setIfInBounds i true) (held.filter fun p => !anc ops p.1 ops.size i) C ⟨putE f.e o.dst v, f.ds⟩ A') a' w' →
        heldS ops held (listed.setIfInBounds i true) w' ∧ wpAnyS P ops (PostQ nt Q A₀ w₀) (heldS ops held) C.length (listed.setIfInBounds i true) a' w' := by
      rintro a' w' ⟨v, A', rfl, hv', hs', g1, g2⟩
      have hlo : V.loud ops i := ⟨o, ho, hq⟩
      have hh' : heldS ops held (listed.setIfInBounds i true) w' := fun p hp hj => g1 w' hv' p hp (hj i hl hlo)
      refine ⟨hh', ?_⟩
      have H := g2 c2 hn _ w' (ha.put o.dst v hd) hv' (fun p hp hj => hh' p (List.mem_filter.1 hp).1 hj) (closed_set hcl hr) A₀ w₀ (hs.trans hs')
      refine wpAnyS_mono (x := i) (fun l w hx hS p hp hj => hS p (List.mem_filter.2 ⟨hp, ?_⟩) hj) _ _ _ _ hl H
      simp [hj i hx hlo]
    have pan : ∀ x a' w', Behind A a w (fun ch A' => Q (.panic ch) ⟨[], f.ds⟩ A') x a' w' → PostQ nt Q A₀ w₀ x a' w' := by
      rintro x a' w' ⟨ch, A', rfl, rfl, hv', hs', g⟩
      exact ⟨⟨[], f.ds⟩, A', ⟨ha.size, (fun _ _ q => by cases q), ha.ds⟩, hv', hs.trans hs', g, fun _ _ => rfl⟩
    intro r hr'
    cases r with
    | ok n w' =>
      cases n <;> simp only [Oper.upon] at hr' ⊢ <;> (try exact hr'.elim)
      case value v => exact next _ _ hr'
      case skip => exact next _ _ hr'
      case defer d => exact next _ _ hr'
      case enter f' args =>
        refine hr'.mono fun e w'' he => ?_
        cases e with
        | returned v => exact next _ _ he
        | panicked ch => exact pan _ _ _ he
        | outgrown => obtain ⟨a₁, w₁, ch, A', q, _⟩ := he; cases q
      case row row args => exact hr'.mono fun v w'' he => next _ _ he
    | halt x w' =>
      cases x <;> simp only [Oper.upon] at hr' ⊢ <;> (try exact hr'.elim)
      case panic v => exact pan _ _ _ hr'
  exact up _ this
variable {e : Env} {ds : List Deferred}
theorem DPair.q {listed : Array Bool} {held : List (Nat × Held)} {i j k d : Nat} {Cq C D : List Nat} {op : Op} {ty : TypeId} {ps : String} {af : Array Edge} {v : Value} {T : Held} (ho : ops[k]? = some { dst := some d, op := op, type := ty, pos := ps, after := af, guard := none }) (hq : quietOp op = true) (hd : Nat.blt d nt = true) (hv : quietV P e A op = some (v, T))
    (h : DPair P nt ops Q (listed.setIfInBounds k true) ((k, T) :: held) Cq i j C D ⟨(d, v) :: e, ds⟩ A) : DPair P nt ops Q listed held (k :: Cq) i j C D ⟨e, ds⟩ A :=
  DPair.quiet (f := ⟨e, ds⟩) (T := T) (v := v) ho hq (dstOk_spec (d := some d) hd) (fun a w ha hw => by
    have key := quietV_sound (P := P) (f := (⟨e, ds⟩ : Fr)) (o := { dst := some d, op := op, type := ty, pos := ps, after := af, guard := none }) hv ha hw
    exact ⟨key.1, .inl ⟨by simp [Region.wanted], key.2⟩⟩) h
theorem DPair.both {listed : Array Bool} {held : List (Nat × Held)} {i j : Nat} {C D : List Nat} {di dj : Option Nat} {opi opj : Op} {ti tj : TypeId} {pi pj : String} {afi afj : Array Edge}
    (hoi : ops[i]? = some { dst := di, op := opi, type := ti, pos := pi, after := afi, guard := none }) (hoj : ops[j]? = some { dst := dj, op := opj, type := tj, pos := pj, after := afj, guard := none }) (hqi : quietOp opi = false) (hqj : quietOp opj = false) (hdi : dstOk nt di = true) (hdj : dstOk nt dj = true)
    (hi : ∀ (K : Value → AH → Prop) (Kp : List PanicEntry → AH → Prop), (∀ v A', HeldNow ops held i A' → DOps P nt ops Q (listed.setIfInBounds i true) (held.filter fun p => !anc ops p.1 ops.size i) C ⟨putE e di v, ds⟩ A' → K v A') →
      (∀ ch A', Q (.panic ch) ⟨[], ds⟩ A' → Kp ch A') → opV P e A { dst := di, op := opi, type := ti, pos := pi, after := afi, guard := none } K Kp)
    (hj : ∀ (K : Value → AH → Prop) (Kp : List PanicEntry → AH → Prop), (∀ v A', HeldNow ops held j A' → DOps P nt ops Q (listed.setIfInBounds j true) (held.filter fun p => !anc ops p.1 ops.size j) D ⟨putE e dj v, ds⟩ A' → K v A') →
      (∀ ch A', Q (.panic ch) ⟨[], ds⟩ A' → Kp ch A') → opV P e A { dst := dj, op := opj, type := tj, pos := pj, after := afj, guard := none } K Kp) : DPair P nt ops Q listed held [] i j C D ⟨e, ds⟩ A := by
  intro hc hn a w ha hw hh hcl A₀ w₀ hs
  simp only [canonP, Bool.and_eq_true, beq_iff_eq] at hc
  obtain ⟨⟨⟨c1, c2⟩, c3⟩, c4⟩ := hc
  rw [List.length_nil, Nat.zero_add]
  refine ⟨fun h0 => (by rw [c1] at h0; cases h0), fun k hk => ?_⟩
  have hk' := hk
  rw [c1] at hk'
  simp only [List.mem_cons, List.not_mem_nil, or_false] at hk'
  rcases hk' with rfl | rfl
  · exact loud_step (C := C) hoi hqi (dstOk_spec hdi) (fun a _ => by simp [Region.wanted]) c2 hn ha hw hcl hs hk hi
  · rw [c4]; exact loud_step (C := D) hoj hqj (dstOk_spec hdj) (fun a _ => by simp [Region.wanted]) c3 hn ha hw hcl hs hk hj
theorem Run.drawnP {id : Nat} (Cq : List Nat) (i j : Nat) (C D : List Nat) (hm : P.follows .mixedOrders = true) (hc : canonP ops (Array.replicate ops.size false) Cq i j C D = true) (hn : Region.noSelect ops = true) (hl : Cq.length + (C.length + 1) = ops.size)
    (h : DPair P nt ops Q (Array.replicate ops.size false) [] Cq i j C D f A) : Run P nt (.region id ops true) Q f A := by
  intro a w ha hw
  obtain ⟨v1, s1⟩ := view_drawn hw
  refine wp_region_any hm (wpAny_of_S (S := heldS ops []) _ _ _ _ ?_)
  have key := h hc hn a _ ha v1 (fun p hp => by cases hp) (fun j o _ hj => by
    exfalso
    rcases Nat.lt_or_ge j ops.size with q | q
    · simp [q] at hj
    · simp [q] at hj) A w s1
  rw [hl] at key
  exact key
end
end V
end Go.Proofs.YtaccklloepfemaaGreatDoor
