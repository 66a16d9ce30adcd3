/- The making of the rules: the words that are met, the map of them, its iterator. -/
import Derived.Test.YtaccklloepfemaaGreatDoorDehnRules
import Derived.Test.YtaccklloepfemaaGreatDoorVObjs
namespace Go.Proofs.YtaccklloepfemaaGreatDoor
set_option linter.unusedVariables false
set_option linter.unusedSimpArgs false
open Go Go.RowKit V

def mkR (i : Nat) (iv : Bool) (core cj : List UInt8) (j : Nat) : Rot := ⟨core.drop j ++ core.take j, wReduce (wInverse (core.take j) ++ wInverse cj), i, iv⟩
def addE (E : List Rot) (x : Rot) : List Rot := if E.any (fun y => decide (y.w = x.w)) then E else E ++ [x]
def addJ (i : Nat) (iv : Bool) (core cj : List UInt8) (E : List Rot) (n : Nat) : List Rot := (List.range n).foldl (fun E j => addE E (mkR i iv core cj j)) E
def wOf (r : List UInt8) (iv : Bool) : List UInt8 := if iv then wInverse r else r
theorem wOf_length (r : List UInt8) (iv : Bool) : (wOf r iv).length ≤ r.length := by
  unfold wOf; split
  · exact wInverse_length r
  · exact Nat.le_refl _
theorem wConj_length (w : List UInt8) : (wConj w).length ≤ w.length := by
  unfold wConj; split
  · have := red_length w
    simp only [conj, List.length_take]; omega
  · simp
def addV (i : Nat) (r : List UInt8) (E : List Rot) (iv : Bool) : List Rot := addJ i iv (wCore (wOf r iv)) (wConj (wOf r iv)) E (wCore (wOf r iv)).length
def addR (l : List (List UInt8)) (E : List Rot) (k : Nat) : List Rot := addV k (l.getD k []) (addV k (l.getD k []) E false) true
def allR (l : List (List UInt8)) : List Rot := (List.range l.length).foldl (addR l) []
theorem addJ_succ (i : Nat) (iv : Bool) (core cj : List UInt8) (E : List Rot) (n : Nat) : addJ i iv core cj E (n + 1) = addE (addJ i iv core cj E n) (mkR i iv core cj n) := by
  simp [addJ, List.range_succ]
theorem addE_met {E : List Rot} {x : Rot} {y : Rot} (h : y ∈ E) (e : y.w = x.w) : addE E x = E := by
  rw [addE, if_pos]; exact List.any_eq_true.2 ⟨y, h, by simp [e]⟩
theorem addE_new {E : List Rot} {x : Rot} (h : ∀ y ∈ E, y.w ≠ x.w) : addE E x = E ++ [x] := by
  rw [addE, if_neg]
  intro q
  obtain ⟨y, h1, h2⟩ := List.any_eq_true.1 q
  exact h y h1 (by simpa using h2)
theorem addE_len (E : List Rot) (x : Rot) : (addE E x).length ≤ E.length + 1 := by unfold addE; split <;> simp
theorem addJ_len (i : Nat) (iv : Bool) (core cj : List UInt8) (E : List Rot) (n : Nat) : (addJ i iv core cj E n).length ≤ E.length + n := by
  induction n with
  | zero => simp [addJ]
  | succ n ih => rw [addJ_succ]; have := addE_len (addJ i iv core cj E n) (mkR i iv core cj n); omega
def mEnt (x : Rot) (k : Nat) : MapEntry := { key := str x.w, val := .agg (rcell x).toArray, born := k }
def mes (E : List Rot) : Array MapEntry := (E.mapIdx fun k x => mEnt x k).toArray
theorem mes_push (E : List Rot) (x : Rot) : mes (E ++ [x]) = (mes E).push (mEnt x E.length) := by
  simp [mes, List.mapIdx_concat]
theorem same_str (a c : List UInt8) : Instr.sameNow .string (str a) (str c) = some (decide (a = c)) := by
  simp only [Instr.sameNow]
  congr 1
  have e : (bs a == bs c) = ((bs a).data == (bs c).data) := rfl
  rw [e, Bool.eq_iff_iff, beq_iff_eq, decide_eq_true_iff]
  constructor
  · intro h
    have : (bs a).data.toList = (bs c).data.toList := by rw [h]
    exact this
  · intro h; rw [h]
theorem find_str (t : List UInt8) : ∀ (E : List Rot) (g : Nat → Nat) (n : Nat), (∃ i y, Instr.findNow .string (str t) (E.mapIdx fun k x => mEnt x (g k)) n = some (some (i, .agg (rcell y).toArray)) ∧ y ∈ E ∧ y.w = t) ∨ (Instr.findNow .string (str t) (E.mapIdx fun k x => mEnt x (g k)) n = some none ∧ ∀ y ∈ E, y.w ≠ t) := by
  intro E
  induction E with
  | nil => intro g n; right; exact ⟨rfl, fun _ h => by cases h⟩
  | cons x E ih =>
    intro g n
    rw [List.mapIdx_cons]
    by_cases q : t = x.w
    · left
      exact ⟨n, x, by simp only [Instr.findNow, mEnt, same_str, decide_eq_true q], List.mem_cons_self, q.symm⟩
    · rcases ih (fun k => g (k + 1)) (n + 1) with ⟨i, y, h1, h2, h3⟩ | ⟨h1, h2⟩
      · left; exact ⟨i, y, by simp only [Instr.findNow, mEnt, same_str, decide_eq_false q]; exact h1, List.mem_cons_of_mem _ h2, h3⟩
      · right
        refine ⟨by simp only [Instr.findNow, mEnt, same_str, decide_eq_false q]; exact h1, fun y hy => ?_⟩
        rcases List.mem_cons.1 hy with rfl | hy
        · exact fun h => q h.symm
        · exact h2 y hy
def mobj (E : List Rot) : Obj := .map (mes E) E.length
section
variable {P : Program} {e : Env} {A : AH} {x y z : Operand} {t kt et : TypeId} {ty : TypeId} {ps : String} {af : Array Edge} {dst : Option Nat} {K : Value → AH → Prop} {Kp : List PanicEntry → AH → Prop} {g : Option (Nat × Bool)} {m : Nat} {E : List Rot} {w : List UInt8}
theorem wlookupS {zv : Value} (hx : opd e x = some (.map (some m))) (hy : opd e y = some (str w)) (hu : P.underlying t = some (.map kt et)) (hk : P.underlying kt = some .string) (hz : zeroOf P et = some zv) (hg : A.get m = some (.obj true (mobj E)))
    (h1 : ∀ r ∈ E, r.w = w → K (.tuple #[.agg (rcell r).toArray, .bool true]) A) (h2 : (∀ r ∈ E, r.w ≠ w) → K (.tuple #[zv, .bool false]) A) : opV P e A { dst := dst, op := .lookup t x y true, type := ty, pos := ps, after := af, guard := g } K Kp := by
  rcases find_str w E id 0 with ⟨i, r, g1, g2, g3⟩ | ⟨g1, g2⟩
  · exact ⟨_, _, hx, hy, kt, et, .string, zv, mes E, some (i, .agg (rcell r).toArray), hu, hk, rfl, hz, .inr ⟨m, true, E.length, rfl, hg⟩, by simpa [mes] using g1, h1 r g2 g3⟩
  · exact ⟨_, _, hx, hy, kt, et, .string, zv, mes E, none, hu, hk, rfl, hz, .inr ⟨m, true, E.length, rfl, hg⟩, by simpa [mes] using g1, h2 g2⟩
theorem wupdateS {r : Rot} {v : Value} (wf : A.wf) (hx : opd e x = some (.map (some m))) (hy : opd e y = some (str r.w)) (hz : opd e z = some v) (hv : v = .agg (rcell r).toArray) (hu : P.underlying t = some (.map kt et)) (hk : P.underlying kt = some .string) (hg : A.get m = some (.obj true (mobj E))) (hn : ∀ q ∈ E, q.w ≠ r.w)
    (h : ∀ A1, SetB A A1 m (.obj true (mobj (E ++ [r]))) → K undef A1) : opV P e A { dst := dst, op := .mapUpdate t x y z, type := ty, pos := ps, after := af, guard := g } K Kp := by
  subst hv
  rcases find_str r.w E id 0 with ⟨i, q, g1, g2, g3⟩ | ⟨g1, g2⟩
  · exact absurd g3 (hn q g2)
  · refine ⟨_, _, _, hx, hy, hz, kt, et, .string, m, mes E, E.length, none, hu, hk, rfl, rfl, hg, by simpa [mes] using g1, ?_⟩
    have := h _ (setB wf hg (.obj true (mobj (E ++ [r]))))
    simp only [mobj, mes_push, List.length_append, List.length_cons, List.length_nil] at this
    exact this
theorem wrangeM (wf : A.wf) (hx : opd e x = some (.map (some m))) (hu : P.underlying t = some (.map kt et)) (hg : A.get m = some (.obj true (mobj E)))
    (h : ∀ A1 b, NewB A A1 b (.obj true (.mapIter (some m) E.length #[] E.length)) → K (.pointer (some ⟨b, 0, none⟩)) A1) : opV P e A { dst := dst, op := .range t x, type := ty, pos := ps, after := af, guard := g } K Kp :=
  ⟨_, hx, by simp only [rangeV, hu]; exact ⟨true, mes E, E.length, hg, h _ _ (newB wf _)⟩⟩
theorem mes_mem {E : List Rot} {en : MapEntry} (h : en ∈ mes E) : ∃ k, k < E.length ∧ en = mEnt (E.getD k .zero) k := by
  simp only [mes, List.mem_toArray, List.mem_mapIdx] at h
  obtain ⟨k, hk, rfl⟩ := h
  exact ⟨k, hk, by simp [hk]⟩
theorem mes_at {E : List Rot} {k : Nat} (h : k < E.length) : mEnt (E.getD k .zero) k ∈ mes E := by
  simp only [mes, List.mem_toArray, List.mem_mapIdx]
  exact ⟨k, h, by simp [h]⟩
theorem wnextM {b : Nat} {idx : List Nat} (wf : A.wf) (hx : opd e x = some (.pointer (some ⟨b, 0, none⟩))) (hb : A.get b = some (.obj true (.mapIter (some m) E.length idx.toArray E.length))) (hg : A.get m = some (.obj true (mobj E))) (hm : m ≠ b)
    (h1 : ∀ k, k < E.length → k ∉ idx → ∀ A1, SetB A A1 b (.obj true (.mapIter (some m) E.length (idx ++ [k]).toArray E.length)) → K (.tuple #[.bool true, str (E.getD k .zero).w, .agg (rcell (E.getD k .zero)).toArray]) A1)
    (h2 : (∀ k, k < E.length → k ∈ idx) → K (.tuple #[.bool false]) A) : opV P e A { dst := dst, op := .next x false, type := ty, pos := ps, after := af, guard := g } K Kp := by
  refine ⟨_, hx, b, rfl, .inr (.inr ⟨rfl, m, E.length, idx.toArray, E.length, true, mes E, E.length, hb, hg, hm, fun x hx => ?_, ?_, fun x hx => ?_, fun hnil => ?_⟩)⟩
  · obtain ⟨k, hk, rfl⟩ := mes_mem hx; exact hk
  · right
    cases E with
    | nil => left; rfl
    | cons a E =>
      right
      intro hall
      have := Array.all_eq_true'.1 hall (mEnt a 0) (by simpa using mes_at (E := a :: E) (k := 0) (by simp))
      simp [mEnt] at this
  · simp only [V.leftOf, Array.mem_filter, Bool.not_eq_true'] at hx
    obtain ⟨hm1, hm2⟩ := hx
    obtain ⟨k, hk, rfl⟩ := mes_mem hm1
    have hki : k ∉ idx := fun q => by
      have : idx.toArray.contains k = true := by simpa using q
      rw [show (mEnt (E.getD k .zero) k).born = k from rfl, this] at hm2; cases hm2
    have := h1 k hk hki _ (setB wf hb _)
    have e1 : (idx ++ [k]).toArray = idx.toArray.push k := by simp
    rw [e1] at this
    exact this
  · refine h2 fun k hk => ?_
    apply Classical.byContradiction
    intro hki
    have : mEnt (E.getD k .zero) k ∈ V.leftOf (mes E) idx.toArray := by
      simp only [V.leftOf, Array.mem_filter, Bool.not_eq_true']
      refine ⟨mes_at hk, ?_⟩
      rw [show (mEnt (E.getD k .zero) k).born = k from rfl]
      simpa using hki
    rw [hnil] at this; simp at this
theorem wentryM {b k : Nat} {idx : List Nat} (hx : opd e x = some (.pointer (some ⟨b, 0, none⟩))) (hb : A.get b = some (.obj true (.mapIter (some m) E.length (idx ++ [k]).toArray E.length))) (hg : A.get m = some (.obj true (mobj E))) (hm : m ≠ b) (hk : k < E.length)
    (h : K (.tuple #[str (E.getD k .zero).w, .agg (rcell (E.getD k .zero)).toArray]) A) : opV P e A { dst := dst, op := .entry x, type := ty, pos := ps, after := af, guard := g } K Kp := by
  refine ⟨_, hx, b, m, E.length, (idx ++ [k]).toArray, E.length, true, mes E, mEnt (E.getD k .zero) k, rfl, hb, hg, hm, by simp [mEnt], ?_, h⟩
  rw [Array.find?_eq_some_iff_getElem]
  refine ⟨by simp [mEnt], k, by simpa [mes] using hk, by simp [mes, hk], fun j hj => ?_⟩
  simp [mes, mEnt]; omega
end

/-! ### The trie -/
/-- The nodes' maps, in blocks of the call's own. -/
def Trie (A0 A : AH) (pf : List (List UInt8)) (bl : List Nat) : Prop :=
  bl.length = pf.length ∧ bl.Nodup ∧ pf.Nodup ∧ (∀ b ∈ bl, A0.get b = none) ∧ ∀ j, j < pf.length → ∃ es clock, A.get (bl.getD j 0) = some (.obj true (.map es clock)) ∧ Ents pf (pf.getD j []) es
theorem Trie.objs {A0 A B : AH} {pf : List (List UInt8)} {bl : List Nat} (h : Trie A0 A pf bl) (ob : Objs A B) : Trie A0 B pf bl :=
  ⟨h.1, h.2.1, h.2.2.1, h.2.2.2.1, fun j hj => by obtain ⟨es, k, g1, g2⟩ := h.2.2.2.2 j hj; exact ⟨es, k, ob.get _ _ g1, g2⟩⟩
theorem getD_lt_mem {bl : List Nat} {j : Nat} (h : j < bl.length) : bl.getD j 0 ∈ bl := getD_mem h
theorem nodup_getD {α : Type} {bl : List α} {d : α} (h : bl.Nodup) {i j : Nat} (hi : i < bl.length) (hj : j < bl.length) (e : bl.getD i d = bl.getD j d) : i = j := by
  simp only [List.getD_eq_getElem?_getD, List.getElem?_eq_getElem hi, List.getElem?_eq_getElem hj, Option.getD_some] at e
  rcases Nat.lt_trichotomy i j with q | q | q
  · exact absurd e (List.pairwise_iff_getElem.1 h i j hi hj q)
  · exact q
  · exact absurd e.symm (List.pairwise_iff_getElem.1 h j i hj hi q)
theorem Ents.weak {pf : List (List UInt8)} {p q : List UInt8} {es : Array MapEntry} (h : Ents pf p es) (hq : q ∉ pf) (hp : ∀ c, p ++ [c] ≠ q) : Ents (pf ++ [q]) p es := by
  obtain ⟨l, h1, h2⟩ := h
  refine ⟨l, h1, fun c => ?_⟩
  rw [h2 c]
  by_cases hm : p ++ [c] ∈ pf
  · rw [if_pos hm, if_pos (List.mem_append_left _ hm), List.idxOf_append, if_pos hm]
  · rw [if_neg hm, if_neg]
    simp only [List.mem_append, List.mem_singleton, not_or]
    exact ⟨hm, hp c⟩
theorem Ents.push {pf : List (List UInt8)} {p : List UInt8} {c : UInt8} {es : Array MapEntry} {clock : Nat} (h : Ents pf p es) (hq : p ++ [c] ∉ pf) : Ents (pf ++ [p ++ [c]]) p (es.push { key := byt c, val := num ((pf.length : Nat) : Int), born := clock }) := by
  obtain ⟨l, h1, h2⟩ := h
  refine ⟨l ++ [(c, pf.length, clock)], by simp [h1], fun d => ?_⟩
  have hn : l.find? (fun x => x.1 == c) = none := by
    have := h2 c
    rw [if_neg hq] at this
    cases hf : l.find? (fun x => x.1 == c) with
    | none => rfl
    | some z => rw [hf] at this; cases this
  rw [List.find?_append]
  by_cases hd : d = c
  · subst hd
    have : pf.idxOf (p ++ [d]) = pf.length := List.idxOf_eq_length hq
    rw [hn, if_pos (by simp)]
    rw [List.idxOf_append, if_neg hq]; simp
  · have e := h2 d
    have hx : List.find? (fun x : UInt8 × Nat × Nat => x.1 == d) [(c, pf.length, clock)] = none := by simp; exact fun h => hd h.symm
    rw [hx, Option.or_none, e]
    have hne : p ++ [d] ≠ p ++ [c] := fun h => hd (by simpa using h)
    by_cases hm : p ++ [d] ∈ pf
    · rw [if_pos hm, if_pos (List.mem_append_left _ hm), List.idxOf_append, if_pos hm]
    · rw [if_neg hm, if_neg]
      simp only [List.mem_append, List.mem_singleton, not_or]
      exact ⟨hm, hne⟩
theorem Ents.fresh (pf : List (List UInt8)) {q : List UInt8} (h : ∀ c, q ++ [c] ∉ pf) : Ents (pf ++ [q]) q #[] := by
  refine ⟨[], rfl, fun c => ?_⟩
  rw [if_neg]
  · rfl
  · simp only [List.mem_append, List.mem_singleton, not_or]
    refine ⟨h c, fun e => ?_⟩
    have := congrArg List.length e
    simp at this
/-- A node more, and the letter that leads to it. -/
theorem Trie.grow {A0 A B : AH} {pf : List (List UInt8)} {bl : List Nat} {nd b : Nat} {c : UInt8} {es : Array MapEntry} {clock : Nat} (h : Trie A0 A pf bl) (hnd : nd < pf.length) (hq : pf.getD nd [] ++ [c] ∉ pf) (hcl : ∀ d, (pf.getD nd [] ++ [c]) ++ [d] ∉ pf)
    (hb : A.get b = some (.obj true (.map #[] 0))) (hbl : b ∉ bl) (h0 : A0.get b = none) (hes : Ents pf (pf.getD nd []) es)
    (sb : SetB A B (bl.getD nd 0) (.obj true (.map (es.push { key := byt c, val := num ((pf.length : Nat) : Int), born := clock }) (clock + 1)))) :
    Trie A0 B (pf ++ [pf.getD nd [] ++ [c]]) (bl ++ [b]) := by
  obtain ⟨h1, h2, h3, h4, h5⟩ := h
  refine ⟨by simp [h1], List.nodup_append.2 ⟨h2, by simp, fun x hx y hy => by simp at hy; rw [hy]; exact fun e => hbl (e ▸ hx)⟩, List.nodup_append.2 ⟨h3, by simp, fun x hx y hy => by simp at hy; rw [hy]; exact fun e => hq (e ▸ hx)⟩, fun x hx => ?_, fun j hj => ?_⟩
  · rcases List.mem_append.1 hx with hx | hx
    · exact h4 x hx
    · simp at hx; rw [hx]; exact h0
  · have hbn : b ≠ bl.getD nd 0 := fun e => hbl (e ▸ getD_lt_mem (by omega))
    simp only [List.length_append, List.length_cons, List.length_nil] at hj
    by_cases hlast : j = pf.length
    · subst hlast
      have e1 : (bl ++ [b]).getD pf.length 0 = b := by rw [← h1]; simp
      have e2 : (pf ++ [pf.getD nd [] ++ [c]]).getD pf.length [] = pf.getD nd [] ++ [c] := by simp
      rw [e1, e2]
      exact ⟨#[], 0, sb.keep b _ hbn hb, Ents.fresh pf hcl⟩
    · have hj2 : j < pf.length := by omega
      have e1 : (bl ++ [b]).getD j 0 = bl.getD j 0 := by
        have : j < bl.length := by omega
        simp [List.getElem?_append_left this]
      have e2 : (pf ++ [pf.getD nd [] ++ [c]]).getD j [] = pf.getD j [] := by simp [List.getElem?_append_left hj2]
      rw [e1, e2]
      by_cases hjn : j = nd
      · subst hjn
        exact ⟨_, _, sb.get, Ents.push hes hq⟩
      · obtain ⟨es', k', g1, g2⟩ := h5 j hj2
        refine ⟨es', k', sb.keep _ _ (fun e => hjn (nodup_getD h2 (by omega) (by omega) e)) g1, Ents.weak g2 hq fun d e => ?_⟩
        have e3 : pf.getD j [] = pf.getD nd [] := (List.append_inj' e rfl).1
        exact hjn (nodup_getD h3 hj2 hnd e3)
theorem wupdateB {P : Program} {e : Env} {A : AH} {x y z : Operand} {t kt et : TypeId} {ty : TypeId} {ps : String} {af : Array Edge} {dst : Option Nat} {K : Value → AH → Prop} {Kp : List PanicEntry → AH → Prop} {g : Option (Nat × Bool)} {m clock n : Nat} {es : Array MapEntry} {pf : List (List UInt8)} {p : List UInt8} {c : UInt8}
    (wf : A.wf) (hx : opd e x = some (.map (some m))) (hy : opd e y = some (byt c)) (hz : opd e z = some (num ((n : Nat) : Int))) (hu : P.underlying t = some (.map kt et)) (hk : P.underlying kt = some (.int .u8)) (hg : A.get m = some (.obj true (.map es clock))) (hE : Ents pf p es) (hq : p ++ [c] ∉ pf)
    (h : ∀ A1, SetB A A1 m (.obj true (.map (es.push { key := byt c, val := num ((n : Nat) : Int), born := clock }) (clock + 1))) → K undef A1) : opV P e A { dst := dst, op := .mapUpdate t x y z, type := ty, pos := ps, after := af, guard := g } K Kp := by
  obtain ⟨l, hl, hf⟩ := hE
  obtain ⟨r, g1, g2⟩ := find_key c l 0
  have hf := hf c
  rw [if_neg hq] at hf
  cases hfind : l.find? fun x => x.1 == c with
  | some w => rw [hfind] at hf; cases hf
  | none =>
    rw [hfind] at g2
    cases r with
    | some w => cases g2
    | none => exact ⟨_, _, _, hx, hy, hz, kt, et, .int .u8, m, es, clock, none, hu, hk, rfl, rfl, hg, by rw [hl]; exact g1, h _ (setB wf hg _)⟩

theorem two_get {m : Nat} (h : m < 2) : ([.bool false, .bool true] : List Value)[0 + m * 1]? = some (.bool (decide (m = 1))) := by
  rcases m with _ | _ | m
  · rfl
  · rfl
  · omega
theorem Lets.hide {A : AH} {m : Nat} {o : Obj} {rw : Bool} (h : Lets A) (g : A.get m = some (.obj rw o)) : Lets (A.hide [some m]) := by
  obtain ⟨r, c, h⟩ := h
  exact ⟨r, c, hide_get h (nmB (by rintro rfl; rw [h] at g; cases g) nm0)⟩
theorem Lets.hideLe {A B : AH} {m : Nat} {o : Obj} {rw : Bool} (h : Lets A) (le : A.le B) (g : B.get m = some (.obj rw o)) : Lets (B.hide [some m]) := Lets.hide (h.le le) g
theorem nodup_bound : ∀ (n : Nat) (l : List Nat), l.Nodup → (∀ x ∈ l, x < n) → l.length ≤ n
  | 0, l, _, h => by
    cases l with
    | nil => exact Nat.le_refl _
    | cons a l => exact absurd (h a List.mem_cons_self) (by omega)
  | n + 1, l, hn, h => by
    have h1 := nodup_bound n (l.erase n) (hn.erase n) (fun x hx => by
      have h2 := h x (List.mem_of_mem_erase hx)
      have h3 : x ≠ n := by rintro rfl; exact hn.not_mem_erase hx
      omega)
    by_cases hm : n ∈ l
    · rw [List.length_erase_of_mem hm] at h1; omega
    · rw [List.erase_of_not_mem hm] at h1; omega
theorem picks_perm {E : List Rot} {idx : List Nat} (hn : idx.Nodup) (hb : ∀ j ∈ idx, j < E.length) (hall : ∀ k, k < E.length → k ∈ idx) : (idx.map fun j => E.getD j .zero).Perm E := by
  have h1 : idx.Perm (List.range E.length) := by
    refine (List.perm_ext_iff_of_nodup hn List.nodup_range).2 fun a => ?_
    rw [List.mem_range]
    exact ⟨hb a, hall a⟩
  have h2 := h1.map fun j => E.getD j .zero
  have h3 : ((List.range E.length).map fun j => E.getD j .zero) = E := by
    apply List.ext_getElem (by simp)
    intro i h1 h2
    simp [h2]
  rw [h3] at h2; exact h2
theorem nodup_snoc {l : List Nat} {k : Nat} (h : l.Nodup) (hk : k ∉ l) : (l ++ [k]).Nodup := List.nodup_append.2 ⟨h, by simp, fun x hx y hy => by simp at hy; rw [hy]; exact fun e => hk (e ▸ hx)⟩
/-- What is so of the words that are met. -/
def okR (x : Rot) : Prop := x.w.length ≤ 200 ∧ isw x.w = true ∧ isw x.c = true ∧ x.c.length ≤ 1000
/-- The paths and the bests of a trie, word by word, letter by letter. -/
def tstep (x : List UInt8) (i : Nat) (t : List (List UInt8) × List Int) (k : Nat) : List (List UInt8) × List Int :=
  let q := x.take (k + 1)
  let t1 := if q ∈ t.1 then t else (t.1 ++ [q], t.2 ++ [-1])
  if x.length < 2 * (k + 1) ∧ t1.2.getD (t1.1.idxOf q) 0 < 0 then (t1.1, t1.2.set (t1.1.idxOf q) ((i : Nat) : Int)) else t1
def tword (L : List Rot) (t : List (List UInt8) × List Int) (i : Nat) : List (List UInt8) × List Int := (List.range (L.getD i .zero).w.length).foldl (tstep (L.getD i .zero).w i) t
def tall (L : List Rot) : List (List UInt8) × List Int := (List.range L.length).foldl (tword L) ([[]], [-1])
end Go.Proofs.YtaccklloepfemaaGreatDoor
