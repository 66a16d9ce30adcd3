/- The contracts of the functions, one by one: what each comes to. -/
import Derived.Test.YtaccklloepfemaaGreatDoorDehnFN
import Derived.Test.YtaccklloepfemaaGreatDoorDehnSane
namespace Go.Proofs.YtaccklloepfemaaGreatDoor
open Go Go.RowKit V
set_option maxRecDepth 100000
set_option linter.unusedVariables false
set_option linter.unusedSimpArgs false
theorem pl24 : structPlaces Tryz.prog 24 = some [(0, 1), (1, 1)] := by kernel_rfl
theorem u24 : type_of% @Tryz.underlying24 := @Tryz.underlying24
theorem z24 : zeroOf Tryz.prog 24 = some (.agg #[.int .i64 0, .slice none 0 0]) := by kernel_rfl

theorem s_Sh2 {g : Int} {u : Value} {l : List (List UInt8)} {w : List UInt8} {A : AH} (hn : l.length ≤ 1000000) (hL : Lets A) (hu : Slc A 1 u (strs l)) (h60 : w.length ≤ 60 ∨ 5000 < w.length) (hw : w.length ≤ 100000) : RetA Tryz.prog 11 #[.agg #[num g, u], str w] A (fun v A1 => ∃ d dv, v = .tuple #[.agg #[str (rS g l w).1, num (((rS g l w).2.1 : Nat) : Int), dv], num (((rS g l w).2.2 : Nat) : Int)] ∧ A.le A1 ∧ A1.wf ∧ Fresh A A1 dv 3 (dcells d) ∧ d.length = (rS g l w).2.1) :=
  (s_Sh g u l w A hn hL hw hu).mono fun v A1 h => by
    obtain ⟨W, d, c, dv, e1, e2, e3, e4, e5⟩ := h
    obtain ⟨a, b, c'⟩ := sh_eq e5 h60
    exact ⟨d, dv, by rw [e1, ← a, ← b, ← c'], e2, e3, e4, b⟩
theorem s_ShC {g : Int} {u : Value} {l : List (List UInt8)} {w : List UInt8} {A : AH} (hn : l.length ≤ 1000000) (hL : Lets A) (hu : Slc A 1 u (strs l)) {W : List UInt8} (e : rS g l w = (W, 1, 0)) (hw : w.length ≤ 60) : RetA Tryz.prog 11 #[.agg #[num g, u], str w] A (fun v A1 => ∃ c dv, v = .tuple #[.agg #[str W, num ((1 : Nat) : Int), dv], num ((0 : Nat) : Int)] ∧ A.le A1 ∧ A1.wf ∧ Fresh A A1 dv 3 (dcells [c])) :=
  (s_Sh2 hn hL hu (.inl hw) (by omega)).mono fun v A1 h => by
    obtain ⟨d, dv, e1, e2, e3, e4, e5⟩ := h
    rw [e] at e1 e5
    obtain ⟨c, rfl⟩ : ∃ c, d = [c] := List.length_eq_one_iff.1 e5
    exact ⟨c, dv, e1, e2, e3, e4⟩
theorem s_ShD {g : Int} {u : Value} {l : List (List UInt8)} {w : List UInt8} {A : AH} (hn : l.length ≤ 1000000) (hL : Lets A) (hu : Slc A 1 u (strs l)) {W : List UInt8} (e : (rS g l w).1 = W ∧ (rS g l w).2.2 = 0) (hw : w.length ≤ 60) : RetA Tryz.prog 11 #[.agg #[num g, u], str w] A (fun v A1 => ∃ (n : Nat) (d : List DCell) (dv : Value), v = .tuple #[.agg #[str W, num ((n : Nat) : Int), dv], num ((0 : Nat) : Int)] ∧ A.le A1 ∧ A1.wf ∧ Fresh A A1 dv 3 (dcells d)) :=
  (s_Sh2 hn hL hu (.inl hw) (by omega)).mono fun v A1 h => by
    obtain ⟨d, dv, e1, e2, e3, e4, e5⟩ := h
    rw [e.1, e.2] at e1
    exact ⟨_, d, dv, e1, e2, e3, e4⟩
theorem s_St2 {g : Int} {u : Value} {l : List (List UInt8)} {w : List UInt8} {A : AH} (hn : l.length ≤ 1000000) (hL : Lets A) (hu : Slc A 1 u (strs l)) (hw : w.length ≤ 100000) : RetA Tryz.prog 12 #[.agg #[num g, u], str w] A (fun v A1 => v = .tuple #[.bool (rStuck g l w).1, num (((rStuck g l w).2 : Nat) : Int)] ∧ A.le A1 ∧ A1.wf) :=
  (s_St g u l w A hn hL hw hu).mono fun v A1 h => by
    obtain ⟨b, c, e1, e2, e3, e4⟩ := h
    have := st_eq e4
    exact ⟨by rw [e1, ← this], e2, e3⟩
theorem s_StC {g : Int} {u : Value} {l : List (List UInt8)} {w : List UInt8} {A : AH} (hn : l.length ≤ 1000000) (hL : Lets A) (hu : Slc A 1 u (strs l)) {b : Bool} {c : Nat} (e : rStuck g l w = (b, c)) (hw : w.length ≤ 100000) : RetA Tryz.prog 12 #[.agg #[num g, u], str w] A (fun v A1 => v = .tuple #[.bool b, num ((c : Nat) : Int)] ∧ A.le A1 ∧ A1.wf) :=
  (s_St2 hn hL hu hw).mono fun v A1 h => by rw [e] at h; exact h
theorem s_Ve2 {g : Int} {u : Value} {l : List (List UInt8)} {A : AH} (hn : l.length ≤ 1000000) (hL : Lets A) (hu : Slc A 1 u (strs l)) : RetA Tryz.prog 13 #[.agg #[num g, u]] A (fun v A1 => v = num ((rVerified g l : Nat) : Int) ∧ A.le A1 ∧ A1.wf) :=
  (s_Ve g u l A hn hL hu).mono fun v A1 h => by
    obtain ⟨c, e1, e2, e3, e4⟩ := h
    exact ⟨by rw [e1, ve_eq e4], e2, e3⟩
theorem s_VeC {g : Int} {u : Value} {l : List (List UInt8)} {A : AH} (hn : l.length ≤ 1000000) (hL : Lets A) (hu : Slc A 1 u (strs l)) {c : Nat} (e : rVerified g l = c) : RetA Tryz.prog 13 #[.agg #[num g, u]] A (fun v A1 => v = num ((c : Nat) : Int) ∧ A.le A1 ∧ A1.wf) :=
  (s_Ve2 hn hL hu).mono fun v A1 h => by rw [e] at h; exact h
theorem s_Tr2 {g : Int} {u : Value} {l : List (List UInt8)} {w : List UInt8} {A : AH} (hn : l.length ≤ 1000000) (hL : Lets A) (hu : Slc A 1 u (strs l)) (hw : w.length ≤ 60) : RetA Tryz.prog 16 #[.agg #[num g, u], str w] A (fun v A1 => ∃ d dv, v = .tuple #[.bool (rTrivial g l w).1, dv, num (((rTrivial g l w).2 : Nat) : Int)] ∧ A.le A1 ∧ A1.wf ∧ Fresh A A1 dv 3 (dcells d) ∧ d.length = if (rTrivial g l w).1 = true then (rS g l w).2.1 else 0) :=
  (s_Tr g u l w A hn hL (by omega) hu).mono fun v A1 h => by
    obtain ⟨b, d, c, dv, e1, e2, e3, e4, e5⟩ := h
    obtain ⟨a, a2⟩ := tr_eq e5 hw
    have a1 : (rTrivial g l w).1 = b := by rw [← a]
    have a3 : (rTrivial g l w).2 = c := by rw [← a]
    exact ⟨d, dv, by rw [a1, a3]; exact e1, e2, e3, e4, by rw [a1]; exact a2⟩
theorem s_TrC {g : Int} {u : Value} {l : List (List UInt8)} {w : List UInt8} {A : AH} (hn : l.length ≤ 1000000) (hL : Lets A) (hu : Slc A 1 u (strs l)) (e : rTrivial g l w = (true, 0) ∧ (rS g l w).2.1 = 1) (hw : w.length ≤ 60) : RetA Tryz.prog 16 #[.agg #[num g, u], str w] A (fun v A1 => ∃ c dv, v = .tuple #[.bool true, dv, num ((0 : Nat) : Int)] ∧ A.le A1 ∧ A1.wf ∧ Fresh A A1 dv 3 (dcells [c])) :=
  (s_Tr2 hn hL hu hw).mono fun v A1 h => by
    obtain ⟨d, dv, e1, e2, e3, e4, e5⟩ := h
    rw [e.1] at e1 e5
    rw [if_pos rfl, e.2] at e5
    obtain ⟨c, rfl⟩ : ∃ c, d = [c] := List.length_eq_one_iff.1 e5
    exact ⟨c, dv, e1, e2, e3, e4⟩
theorem s_TrD {g : Int} {u : Value} {l : List (List UInt8)} {w : List UInt8} {A : AH} (hn : l.length ≤ 1000000) (hL : Lets A) (hu : Slc A 1 u (strs l)) {b : Bool} (e : rTrivial g l w = (b, 0)) (hw : w.length ≤ 60) : RetA Tryz.prog 16 #[.agg #[num g, u], str w] A (fun v A1 => ∃ d dv, v = .tuple #[.bool b, dv, num ((0 : Nat) : Int)] ∧ A.le A1 ∧ A1.wf ∧ Fresh A A1 dv 3 (dcells d)) :=
  (s_Tr2 hn hL hu hw).mono fun v A1 h => by
    obtain ⟨d, dv, e1, e2, e3, e4, e5⟩ := h
    rw [e] at e1
    exact ⟨d, dv, e1, e2, e3, e4⟩
theorem s_Cy2 {g : Int} {u : Value} {l : List (List UInt8)} {w : List UInt8} {A : AH} (hn : l.length ≤ 1000000) (hL : Lets A) (hu : Slc A 1 u (strs l)) (hw : w.length ≤ 60) : RetA Tryz.prog 19 #[.agg #[num g, u], str w] A (fun v A1 => ∃ d cj dv, v = .tuple #[.agg #[str (rCyclic g l w).1, num (((rCyclic g l w).2.1 : Nat) : Int), dv], str cj, num (((rCyclic g l w).2.2 : Nat) : Int)] ∧ A.le A1 ∧ A1.wf ∧ Fresh A A1 dv 3 (dcells d) ∧ d.length = (rCyclic g l w).2.1) :=
  (s_Cy g u l w A hn hL (by omega) hu).mono fun v A1 h => by
    obtain ⟨W, d, cj, c, dv, e1, e2, e3, e4, e5⟩ := h
    have a := cy_eq e5 hw
    exact ⟨d, cj, dv, by rw [← a]; exact e1, e2, e3, e4, by rw [← a]⟩
theorem s_CyC {g : Int} {u : Value} {l : List (List UInt8)} {w : List UInt8} {A : AH} (hn : l.length ≤ 1000000) (hL : Lets A) (hu : Slc A 1 u (strs l)) {W : List UInt8} {n c : Nat} (e : rCyclic g l w = (W, n, c)) (hw : w.length ≤ 60) : RetA Tryz.prog 19 #[.agg #[num g, u], str w] A (fun v A1 => ∃ d cj dv, v = .tuple #[.agg #[str W, num ((n : Nat) : Int), dv], str cj, num ((c : Nat) : Int)] ∧ A.le A1 ∧ A1.wf ∧ Fresh A A1 dv 3 (dcells d)) :=
  (s_Cy2 hn hL hu hw).mono fun v A1 h => by
    obtain ⟨d, cj, dv, e1, e2, e3, e4, e5⟩ := h
    rw [e] at e1
    exact ⟨d, cj, dv, e1, e2, e3, e4⟩
def small (l ws : List (List UInt8)) : Bool := decide (l.length ≤ 8) && decide (¬ 0 ≤ ifl (fun r => decide (40 < r.length)) l) && decide (¬ 0 ≤ ifl (fun r => decide (60 < r.length)) ws)
theorem small_len {l ws : List (List UInt8)} (h : small l ws = true) : l.length ≤ 8 ∧ (∀ r ∈ l, r.length ≤ 40) ∧ ∀ r ∈ ws, r.length ≤ 60 := by
  simp only [small, Bool.and_eq_true, decide_eq_true_eq] at h
  obtain ⟨⟨h1, h2⟩, h3⟩ := h
  refine ⟨h1, fun r hr => ?_, fun r hr => ?_⟩
  · apply Classical.byContradiction
    intro q
    exact h2 ((ifl_any _ _).2 (List.any_eq_true.2 ⟨r, hr, by simp; omega⟩))
  · apply Classical.byContradiction
    intro q
    exact h3 ((ifl_any _ _).2 (List.any_eq_true.2 ⟨r, hr, by simp; omega⟩))


theorem s_small (g : Int) (u : Value) (l : List (List UInt8)) (wv : Value) (ws : List (List UInt8)) (A : AH) (hn : l.length ≤ 9223372036854775807) (hnw : ws.length ≤ 9223372036854775807) (hu : Slc A 1 u (strs l)) (hv : Slc A 1 wv (strs ws)) : RetA Tryz.prog 7 #[.agg #[num (g), u], wv] A (fun v A1 => v = .bool (small l ws) ∧ A.le A1 ∧ A1.wf) := by
 refine enterA (e := [(0, .agg #[num (g), u]), (1, wv)]) (args := [.agg #[num (g), u], wv]) Tryz.call7 Tryz.func7 rfl Tryz.results7 Tryz.ntmps7 rfl rfl rfl (fun wf => ?_)
 have le_ := AH.le.refl A
 refine Run.seq fun K1 h2 => ?_
 refine Run.region ?_
 refine Ops.l rfl (fun _ _ hk3 _ => wbox wf rfl rfl fun A5 b4 nb6 => ?_)
 have ge_b4 := none_of wf (Nat.le_trans le_.n nb6.lo)
 have le7 := le_.trans nb6.le
 refine hk3 _ _ ?_
 refine Ops.q rfl (qassign rfl) ?_
 refine Ops.nil ?_
 refine h2 _ _ ?_
 refine Run.seq fun K8 h9 => ?_
 refine Run.region ?_
 refine Ops.q rfl (qfieldAddr fl24_1 sz22 (by decide) rfl) ?_
 refine Ops.q rfl (qloadAt ag22 rfl rfl nb6.get rfl) ?_
 refine Ops.q rfl (qlenS (n := l.length) u22 rfl (hu.le le7) (by omega) (strs_len _)) ?_
 refine Ops.q rfl (qleqN (b := 8) rfl rfl) ?_
 refine Ops.q rfl (qmove rfl) ?_
 refine Ops.part (t := 9) rfl (fun p10 => ?_) (fun p10 => ?_)
 ·
  refine Ops.on rfl rfl ?_
  refine Ops.q rfl (qfieldAddr fl24_1 sz22 (by decide) rfl) ?_
  refine Ops.on rfl rfl ?_
  refine Ops.q rfl (qloadAt ag22 rfl rfl nb6.get rfl) ?_
  refine Ops.on rfl rfl ?_
  refine Ops.l rfl (fun _ _ hk11 _ => vcallF rfl (s_ContainsFuncL 25 #[] (fun r => decide (40 < r.length)) u l A5 (by omega) (hu.le le7) (fun s hs B le wf => s_small1 s B)) ?_)
  rintro v12 A13 ⟨rfl, leq14, wfq14⟩
  have h15 := leq14.get _ _ nb6.get
  have le16 := le7.trans leq14
  refine hk11 _ _ ?_
  refine Ops.on rfl rfl ?_
  refine Ops.q rfl (qnotP rfl) ?_
  refine Ops.q rfl (qpickT rfl rfl) ?_
  refine Ops.q rfl (qmove rfl) ?_
  refine Ops.part (t := 15) rfl (fun p17 => ?_) (fun p17 => ?_)
  ·
   refine Ops.on rfl rfl ?_
   refine Ops.q rfl (qmove rfl) ?_
   refine Ops.on rfl rfl ?_
   refine Ops.l rfl (fun _ _ hk18 _ => vcallF rfl (s_ContainsFuncL 26 #[] (fun r => decide (60 < r.length)) wv ws A13 (by omega) (hv.le le16) (fun s hs B le wf => s_small2 s B)) ?_)
   rintro v19 A20 ⟨rfl, leq21, wfq21⟩
   have h22 := leq21.get _ _ h15
   have le23 := le16.trans leq21
   refine hk18 _ _ ?_
   refine Ops.on rfl rfl ?_
   refine Ops.q rfl (qnotP rfl) ?_
   refine Ops.q rfl (qpickT rfl rfl) ?_
   refine Ops.q rfl (qassign rfl) ?_
   refine Ops.nil ?_
   refine h9 _ _ ?_
   refine Run.ret ?_
   repeat first | with_reducible refine thenQ_ret ?_ | with_reducible refine blockQ_ret ?_
   exact retQ rfl (⟨by first | (rw [small, decide_eq_false ‹¬ l.length ≤ 8›]; rfl) | (rw [small, decide_eq_true ‹l.length ≤ 8›, decide_eq_false ‹¬ ¬ 0 ≤ ifl (fun r => decide (40 < r.length)) l›]; rfl) | (rw [small, decide_eq_true ‹l.length ≤ 8›, decide_eq_true ‹¬ 0 ≤ ifl (fun r => decide (40 < r.length)) l›]; rfl), le23, wfq21⟩)
  ·
   refine Ops.off rfl rfl rfl rfl ?_
   refine Ops.off rfl rfl rfl rfl ?_
   refine Ops.off rfl rfl rfl rfl ?_
   refine Ops.q rfl (qpickF rfl rfl) ?_
   refine Ops.q rfl (qassign rfl) ?_
   refine Ops.nil ?_
   refine h9 _ _ ?_
   refine Run.ret ?_
   repeat first | with_reducible refine thenQ_ret ?_ | with_reducible refine blockQ_ret ?_
   exact retQ rfl (⟨by first | (rw [small, decide_eq_false ‹¬ l.length ≤ 8›]; rfl) | (rw [small, decide_eq_true ‹l.length ≤ 8›, decide_eq_false ‹¬ ¬ 0 ≤ ifl (fun r => decide (40 < r.length)) l›]; rfl) | (rw [small, decide_eq_true ‹l.length ≤ 8›, decide_eq_true ‹¬ 0 ≤ ifl (fun r => decide (40 < r.length)) l›]; rfl), le16, wfq14⟩)
 ·
  refine Ops.off rfl rfl rfl rfl ?_
  refine Ops.off rfl rfl rfl rfl ?_
  refine Ops.off rfl rfl rfl rfl ?_
  refine Ops.off rfl rfl rfl rfl ?_
  refine Ops.q rfl (qpickF rfl rfl) ?_
  refine Ops.q rfl (qmove rfl) ?_
  refine Ops.off rfl rfl rfl rfl ?_
  refine Ops.off rfl rfl rfl rfl ?_
  refine Ops.off rfl rfl rfl rfl ?_
  refine Ops.q rfl (qpickF rfl rfl) ?_
  refine Ops.q rfl (qassign rfl) ?_
  refine Ops.nil ?_
  refine h9 _ _ ?_
  refine Run.ret ?_
  repeat first | with_reducible refine thenQ_ret ?_ | with_reducible refine blockQ_ret ?_
  exact retQ rfl (⟨by first | (rw [small, decide_eq_false ‹¬ l.length ≤ 8›]; rfl) | (rw [small, decide_eq_true ‹l.length ≤ 8›, decide_eq_false ‹¬ ¬ 0 ≤ ifl (fun r => decide (40 < r.length)) l›]; rfl) | (rw [small, decide_eq_true ‹l.length ≤ 8›, decide_eq_true ‹¬ 0 ≤ ifl (fun r => decide (40 < r.length)) l›]; rfl), le7, nb6.wf⟩)

theorem s_Surf (A : AH) : RetA Tryz.prog 27 #[] A (fun v A1 => ∃ u, v = .agg #[num ((4 : Nat) : Int), u] ∧ A.le A1 ∧ A1.wf ∧ Fresh A A1 u 1 (strs sf)) := by
 refine enterA (e := []) (args := []) Tryz.call27 Tryz.func27 rfl Tryz.results27 Tryz.ntmps27 rfl rfl rfl (fun wf => ?_)
 have le_ := AH.le.refl A
 refine Run.seq fun K1 h2 => ?_
 refine Run.region ?_
 refine Ops.l rfl (fun _ _ hk3 _ => walloc wf z24 rfl fun A5 b4 nb6 => ?_)
 have ge_b4 := none_of wf (Nat.le_trans le_.n nb6.lo)
 have le7 := le_.trans nb6.le
 refine hk3 _ _ ?_
 refine Ops.nil ?_
 refine h2 _ _ ?_
 refine Run.seq fun K8 h9 => ?_
 refine Run.region ?_
 refine Ops.l rfl (fun _ _ hk10 _ => wbuildSlice (c := [str ([97, 98, 65, 66, 99, 100, 67, 68])]) nb6.wf rfl (buildSliceV_of u22 sz9 z9 rfl (by decide) (by decide) rfl) fun A12 b11 nb13 => ?_)
 have ne_b4_b11 := ne_new nb6.wf nb6.get nb13.lo
 have ge_b11 := none_of wf (Nat.le_trans le7.n nb13.lo)
 have h14 := nb13.le.get _ _ nb6.get
 have le15 := le7.trans nb13.le
 refine hk10 _ _ ?_
 refine Ops.q rfl (qbuild rfl (buildV_struct u24 z24 pl24 rfl)) ?_
 refine Ops.l rfl (fun _ _ hk16 _ => wstore (cs := [num ((4 : Nat) : Int), .slice (some ⟨b11, 0, none⟩) 1 1]) (c' := [num ((4 : Nat) : Int), .slice (some ⟨b11, 0, none⟩) 1 1]) nb13.wf rfl rfl rfl rfl sz24 h14 (Nat.le_of_ble_eq_true rfl) rfl rfl fun A17 sb18 => ?_)
 have h19 := sb18.keep _ _ ne_b4_b11.symm nb13.get
 have le20 := le_store le15 wf ge_b4 sb18.n sb18.keep
 refine hk16 _ _ ?_
 refine Ops.nil ?_
 refine h9 _ _ ?_
 refine Run.ret ?_
 repeat first | with_reducible refine thenQ_ret ?_ | with_reducible refine blockQ_ret ?_
 exact retQ (resCell ag24 sz24 rfl sb18.get rfl resNil) (⟨_, rfl, le20, sb18.wf, (Fresh.lit h19 ge_b11 rfl (Nat.le_refl _) : Fresh A _ _ 1 [str [97, 98, 65, 66, 99, 100, 67, 68]])⟩)

theorem s_sane (A : AH) (hL : Lets A) : RetA Tryz.prog 8 #[] A (fun v A1 => v = .bool true ∧ A.le A1 ∧ A1.wf) := by
 refine enterA (e := []) (args := []) Tryz.call8 Tryz.func8 rfl Tryz.results8 Tryz.ntmps8 rfl rfl rfl (fun wf => ?_)
 have le_ := AH.le.refl A
 refine Run.seq fun K1 h2 => ?_
 refine Run.region ?_
 refine Ops.q rfl (qassign rfl) ?_
 refine Ops.nil ?_
 refine h2 _ _ ?_
 refine Run.seq fun K3 h4 => ?_
 refine Run.region ?_
 refine Ops.l rfl (fun _ _ hk5 _ => vcallF rfl (s_Surf A) ?_)
 rintro v6 A7 ⟨uq8, rfl, leq8, wfq8, frq8⟩
 have le9 := le_.trans leq8
 have fr10 := frq8.base le_
 refine hk5 _ _ ?_
 refine Ops.l rfl (fun _ _ hk11 _ => walloc wfq8 z24 rfl fun A13 b12 nb14 => ?_)
 have no15 := fr10.own.ne_new wfq8 nb14.lo
 have ge_b12 := none_of wf (Nat.le_trans le9.n nb14.lo)
 have fr16 := fr10.le nb14.le
 have le17 := le9.trans nb14.le
 refine hk11 _ _ ?_
 obtain ⟨p19, l19, c19, q19, _⟩ := fr16.own.slice
 subst q19
 refine Ops.l rfl (fun _ _ hk18 _ => wstore (cs := [num ((4 : Nat) : Int), .slice p19 l19 c19]) (c' := [num ((4 : Nat) : Int), .slice p19 l19 c19]) nb14.wf rfl rfl rfl rfl sz24 nb14.get (Nat.le_of_ble_eq_true rfl) rfl rfl fun A20 sb21 => ?_)
 have fr22 := fr16.keep sb21.keep no15
 have le23 := le_store le17 wf ge_b12 sb21.n sb21.keep
 refine hk18 _ _ ?_
 refine Ops.nil ?_
 refine h4 _ _ ?_
 refine Run.seq fun K24 h25 => ?_
 refine Run.region ?_
 refine Ops.q rfl (qloadAggAt ag24 sz24 rfl rfl sb21.get rfl) ?_
 refine Ops.l rfl (fun _ _ hk26 _ => vcallF rfl (s_ShC (g := ((4 : Nat) : Int)) (w := [97, 98, 65, 66, 99]) (by decide) (hL.le le23) fr22.slc sane_1 (by decide)) ?_)
 rintro v27 A28 ⟨cq29, dvq29, rfl, leq29, wfq29, frq29⟩
 have h30 := leq29.get _ _ sb21.get
 have fr31 := fr22.le leq29
 have le32 := le23.trans leq29
 have fr33 := frq29.base le23
 have no34 := frq29.ne sb21.wf sb21.get
 refine hk26 _ _ ?_
 refine Ops.q rfl (qmove rfl) ?_
 refine Ops.q rfl (qextract rfl rfl) ?_
 refine Ops.q rfl (qextract rfl rfl) ?_
 refine Ops.l rfl (fun _ _ hk35 _ => walloc wfq29 z36 rfl fun A37 b36 nb38 => ?_)
 have ne_b12_b36 := ne_new wfq29 h30 nb38.lo
 have no39 := fr31.own.ne_new wfq29 nb38.lo
 have no40 := fr33.own.ne_new wfq29 nb38.lo
 have ge_b36 := none_of wf (Nat.le_trans le32.n nb38.lo)
 have h41 := nb38.le.get _ _ h30
 have fr42 := fr31.le nb38.le
 have fr43 := fr33.le nb38.le
 have le44 := le32.trans nb38.le
 refine hk35 _ _ ?_
 obtain ⟨p46, l46, c46, q46, _⟩ := fr43.own.slice
 subst q46
 refine Ops.l rfl (fun _ _ hk45 _ => wstore (cs := [str ([100, 99, 68]), num ((1 : Nat) : Int), .slice p46 l46 c46]) (c' := [str ([100, 99, 68]), num ((1 : Nat) : Int), .slice p46 l46 c46]) nb38.wf rfl rfl rfl rfl sz36 nb38.get (Nat.le_of_ble_eq_true rfl) rfl rfl fun A47 sb48 => ?_)
 have h49 := sb48.keep _ _ ne_b12_b36 h41
 have fr50 := fr42.keep sb48.keep no39
 have fr51 := fr43.keep sb48.keep no40
 have le52 := le_store le44 wf ge_b36 sb48.n sb48.keep
 refine hk45 _ _ ?_
 refine Ops.q rfl (qassign rfl) ?_
 refine Ops.nil ?_
 refine h25 _ _ ?_
 refine Run.seq fun K53 h54 => ?_
 refine Run.region ?_
 refine Ops.q rfl (qloadAggAt ag24 sz24 rfl rfl h49 rfl) ?_
 refine Ops.l rfl (fun _ _ hk55 _ => vcallF rfl (s_TrC (g := ((4 : Nat) : Int)) (w := [97, 98, 65, 66, 99, 100, 67, 68]) (by decide) (hL.le le52) fr50.slc sane_2 (by decide)) ?_)
 rintro v56 A57 ⟨cq58, dvq58, rfl, leq58, wfq58, frq58⟩
 have h59 := leq58.get _ _ h49
 have h60 := leq58.get _ _ sb48.get
 have fr61 := fr50.le leq58
 have fr62 := fr51.le leq58
 have le63 := le52.trans leq58
 have fr64 := frq58.base le52
 have no65 := frq58.ne sb48.wf h49
 have no66 := frq58.ne sb48.wf sb48.get
 refine hk55 _ _ ?_
 refine Ops.q rfl (qmove rfl) ?_
 refine Ops.q rfl (qextract rfl rfl) ?_
 refine Ops.q rfl (qextract rfl rfl) ?_
 refine Ops.q rfl (qextract rfl rfl) ?_
 refine Ops.q rfl (qassign rfl) ?_
 refine Ops.q rfl (qassign rfl) ?_
 refine Ops.q rfl (qassign rfl) ?_
 refine Ops.nil ?_
 refine h54 _ _ ?_
 refine Run.seq fun K67 h68 => ?_
 refine Run.region ?_
 refine Ops.q rfl (qloadAggAt ag24 sz24 rfl rfl h59 rfl) ?_
 refine Ops.l rfl (fun _ _ hk69 _ => vcallF rfl (s_TrD (g := ((4 : Nat) : Int)) (w := [97, 98]) (by decide) (hL.le le63) fr61.slc sane_3 (by decide)) ?_)
 rintro v70 A71 ⟨dq72, dvq72, rfl, leq72, wfq72, frq72⟩
 have h73 := leq72.get _ _ h59
 have h74 := leq72.get _ _ h60
 have fr75 := fr61.le leq72
 have fr76 := fr62.le leq72
 have fr77 := fr64.le leq72
 have le78 := le63.trans leq72
 have fr79 := frq72.base le63
 have no80 := frq72.ne wfq58 h59
 have no81 := frq72.ne wfq58 h60
 refine hk69 _ _ ?_
 refine Ops.q rfl (qmove rfl) ?_
 refine Ops.q rfl (qextract rfl rfl) ?_
 refine Ops.q rfl (qextract rfl rfl) ?_
 refine Ops.q rfl (qextract rfl rfl) ?_
 refine Ops.q rfl (qassign rfl) ?_
 refine Ops.q rfl (qassign rfl) ?_
 refine Ops.q rfl (qassign rfl) ?_
 refine Ops.nil ?_
 refine h68 _ _ ?_
 refine Run.seq fun K82 h83 => ?_
 refine Run.region ?_
 refine Ops.q rfl (qloadAggAt ag24 sz24 rfl rfl h73 rfl) ?_
 refine Ops.l rfl (fun _ _ hk84 _ => vcallF rfl (s_StC (g := ((4 : Nat) : Int)) (w := [97, 98, 65, 66]) (by decide) (hL.le le78) fr75.slc sane_4 (by decide)) ?_)
 rintro v85 A86 ⟨rfl, leq87, wfq87⟩
 have h88 := leq87.get _ _ h73
 have h89 := leq87.get _ _ h74
 have fr90 := fr75.le leq87
 have fr91 := fr76.le leq87
 have fr92 := fr77.le leq87
 have fr93 := fr79.le leq87
 have le94 := le78.trans leq87
 refine hk84 _ _ ?_
 refine Ops.q rfl (qmove rfl) ?_
 refine Ops.q rfl (qextract rfl rfl) ?_
 refine Ops.q rfl (qextract rfl rfl) ?_
 refine Ops.q rfl (qassign rfl) ?_
 refine Ops.q rfl (qassign rfl) ?_
 refine Ops.nil ?_
 refine h83 _ _ ?_
 refine Run.seq fun K95 h96 => ?_
 refine Run.seq fun K97 h98 => ?_
 refine Run.region ?_
 refine Ops.q rfl (qmove rfl) ?_
 refine Ops.q rfl (((qneqN (a := 0) (b := 0) rfl rfl).trans (congrArg (fun z => some (Value.bool z, [])) (decide_eq_false (fun q => q rfl))))) ?_
 refine Ops.q rfl (qmove rfl) ?_
 refine Ops.on rfl rfl ?_
 refine Ops.q rfl (qmove rfl) ?_
 refine Ops.on rfl rfl ?_
 refine Ops.q rfl (((qneqN (a := 0) (b := 0) rfl rfl).trans (congrArg (fun z => some (Value.bool z, [])) (decide_eq_false (fun q => q rfl))))) ?_
 refine Ops.q rfl (qpickF rfl rfl) ?_
 refine Ops.q rfl (qmove rfl) ?_
 refine Ops.on rfl rfl ?_
 refine Ops.q rfl (qmove rfl) ?_
 refine Ops.on rfl rfl ?_
 refine Ops.q rfl (((qneqN (a := 0) (b := 0) rfl rfl).trans (congrArg (fun z => some (Value.bool z, [])) (decide_eq_false (fun q => q rfl))))) ?_
 refine Ops.q rfl (qpickF rfl rfl) ?_
 refine Ops.q rfl (qmove rfl) ?_
 refine Ops.on rfl rfl ?_
 refine Ops.q rfl (qmove rfl) ?_
 refine Ops.on rfl rfl ?_
 refine Ops.q rfl (((qneqN (a := 0) (b := 0) rfl rfl).trans (congrArg (fun z => some (Value.bool z, [])) (decide_eq_false (fun q => q rfl))))) ?_
 refine Ops.q rfl (qpickF rfl rfl) ?_
 refine Ops.q rfl (qmove rfl) ?_
 refine Ops.on rfl rfl ?_
 refine Ops.q rfl (qfieldAddr fl36_0 sz9 (by decide) rfl) ?_
 refine Ops.on rfl rfl ?_
 refine Ops.q rfl (qloadAt ag9 rfl rfl h89 rfl) ?_
 refine Ops.on rfl rfl ?_
 refine Ops.q rfl (((qsneq rfl rfl).trans (congrArg (fun z => some (Value.bool z, [])) (decide_eq_false (fun q => q rfl))))) ?_
 refine Ops.q rfl (qpickF rfl rfl) ?_
 refine Ops.q rfl (qmove rfl) ?_
 refine Ops.on rfl rfl ?_
 refine Ops.q rfl (qfieldAddr fl36_1 sz3 (by decide) rfl) ?_
 refine Ops.on rfl rfl ?_
 refine Ops.q rfl (qloadAt ag3 rfl rfl h89 rfl) ?_
 refine Ops.on rfl rfl ?_
 refine Ops.q rfl (((qneqN (a := 1) (b := 1) rfl rfl).trans (congrArg (fun z => some (Value.bool z, [])) (decide_eq_false (fun q => q rfl))))) ?_
 refine Ops.q rfl (qpickF rfl rfl) ?_
 refine Ops.q rfl (qmove rfl) ?_
 refine Ops.on rfl rfl ?_
 refine Ops.q rfl (qfieldAddr fl36_2 sz34 (by decide) rfl) ?_
 refine Ops.on rfl rfl ?_
 refine Ops.q rfl (qloadAt ag34 rfl rfl h89 rfl) ?_
 refine Ops.on rfl rfl ?_
 refine Ops.q rfl (qlenS (n := 1) u34 rfl fr91.slc (by decide) rfl) ?_
 refine Ops.on rfl rfl ?_
 refine Ops.q rfl (((qneqN (a := 1) (b := 1) rfl rfl).trans (congrArg (fun z => some (Value.bool z, [])) (decide_eq_false (fun q => q rfl))))) ?_
 refine Ops.q rfl (qpickF rfl rfl) ?_
 refine Ops.q rfl (qmove rfl) ?_
 refine Ops.on rfl rfl ?_
 refine Ops.q rfl (qmove rfl) ?_
 refine Ops.on rfl rfl ?_
 refine Ops.q rfl (qnot rfl) ?_
 refine Ops.q rfl (qpickF rfl rfl) ?_
 refine Ops.q rfl (qmove rfl) ?_
 refine Ops.on rfl rfl ?_
 refine Ops.q rfl (qmove rfl) ?_
 refine Ops.on rfl rfl ?_
 refine Ops.q rfl (qlenS (n := 1) u34 rfl fr92.slc (by decide) rfl) ?_
 refine Ops.on rfl rfl ?_
 refine Ops.q rfl (((qneqN (a := 1) (b := 1) rfl rfl).trans (congrArg (fun z => some (Value.bool z, [])) (decide_eq_false (fun q => q rfl))))) ?_
 refine Ops.q rfl (qpickF rfl rfl) ?_
 refine Ops.q rfl (qmove rfl) ?_
 refine Ops.on rfl rfl ?_
 refine Ops.q rfl (qmove rfl) ?_
 refine Ops.q rfl (qpickF rfl rfl) ?_
 refine Ops.q rfl (qmove rfl) ?_
 refine Ops.on rfl rfl ?_
 refine Ops.q rfl (qmove rfl) ?_
 refine Ops.on rfl rfl ?_
 refine Ops.q rfl (qnot rfl) ?_
 refine Ops.q rfl (qpickF rfl rfl) ?_
 refine Ops.nil ?_
 refine h98 _ _ ?_
 refine Run.cond_false rfl ?_
 refine Run.skip ?_
 refine h96 _ _ ?_
 refine Run.seq fun K99 h100 => ?_
 refine Run.region ?_
 refine Ops.q rfl (qloadAggAt ag24 sz24 rfl rfl h88 rfl) ?_
 refine Ops.l rfl (fun _ _ hk101 _ => vcallF rfl (s_CyC (g := ((4 : Nat) : Int)) (w := [98, 97, 98, 65, 66, 99, 100, 67, 68, 66]) (by decide) (hL.le le94) fr90.slc sane_5 (by decide)) ?_)
 rintro v102 A103 ⟨dq104, cjq104, dvq104, rfl, leq104, wfq104, frq104⟩
 have h105 := leq104.get _ _ h88
 have h106 := leq104.get _ _ h89
 have fr107 := fr90.le leq104
 have fr108 := fr91.le leq104
 have fr109 := fr92.le leq104
 have fr110 := fr93.le leq104
 have le111 := le94.trans leq104
 have fr112 := frq104.base le94
 have no113 := frq104.ne wfq87 h88
 have no114 := frq104.ne wfq87 h89
 refine hk101 _ _ ?_
 refine Ops.q rfl (qmove rfl) ?_
 refine Ops.q rfl (qextract rfl rfl) ?_
 refine Ops.q rfl (qextract rfl rfl) ?_
 refine Ops.q rfl (qextract rfl rfl) ?_
 refine Ops.l rfl (fun _ _ hk115 _ => walloc wfq104 z36 rfl fun A117 b116 nb118 => ?_)
 have ne_b12_b116 := ne_new wfq104 h105 nb118.lo
 have ne_b36_b116 := ne_new wfq104 h106 nb118.lo
 have no119 := fr107.own.ne_new wfq104 nb118.lo
 have no120 := fr108.own.ne_new wfq104 nb118.lo
 have no121 := fr109.own.ne_new wfq104 nb118.lo
 have no122 := fr110.own.ne_new wfq104 nb118.lo
 have no123 := fr112.own.ne_new wfq104 nb118.lo
 have ge_b116 := none_of wf (Nat.le_trans le111.n nb118.lo)
 have h124 := nb118.le.get _ _ h105
 have h125 := nb118.le.get _ _ h106
 have fr126 := fr107.le nb118.le
 have fr127 := fr108.le nb118.le
 have fr128 := fr109.le nb118.le
 have fr129 := fr110.le nb118.le
 have fr130 := fr112.le nb118.le
 have le131 := le111.trans nb118.le
 refine hk115 _ _ ?_
 obtain ⟨p133, l133, c133, q133, _⟩ := fr130.own.slice
 subst q133
 refine Ops.l rfl (fun _ _ hk132 _ => wstore (cs := [str ([]), num ((1 : Nat) : Int), .slice p133 l133 c133]) (c' := [str ([]), num ((1 : Nat) : Int), .slice p133 l133 c133]) nb118.wf rfl rfl rfl rfl sz36 nb118.get (Nat.le_of_ble_eq_true rfl) rfl rfl fun A134 sb135 => ?_)
 have h136 := sb135.keep _ _ ne_b12_b116 h124
 have h137 := sb135.keep _ _ ne_b36_b116 h125
 have fr138 := fr126.keep sb135.keep no119
 have fr139 := fr127.keep sb135.keep no120
 have fr140 := fr128.keep sb135.keep no121
 have fr141 := fr129.keep sb135.keep no122
 have fr142 := fr130.keep sb135.keep no123
 have le143 := le_store le131 wf ge_b116 sb135.n sb135.keep
 refine hk132 _ _ ?_
 refine Ops.q rfl (qassign rfl) ?_
 refine Ops.q rfl (qassign rfl) ?_
 refine Ops.nil ?_
 refine h100 _ _ ?_
 refine Run.seq fun K144 h145 => ?_
 refine Run.region ?_
 refine Ops.l rfl (fun _ _ hk146 _ => wbuildSlice (c := [str ([97, 97, 97, 97, 97])]) sb135.wf rfl (buildSliceV_of u22 sz9 z9 rfl (by decide) (by decide) rfl) fun A148 b147 nb149 => ?_)
 have ne_b12_b147 := ne_new sb135.wf h136 nb149.lo
 have ne_b36_b147 := ne_new sb135.wf h137 nb149.lo
 have ne_b116_b147 := ne_new sb135.wf sb135.get nb149.lo
 have no150 := fr138.own.ne_new sb135.wf nb149.lo
 have no151 := fr139.own.ne_new sb135.wf nb149.lo
 have no152 := fr140.own.ne_new sb135.wf nb149.lo
 have no153 := fr141.own.ne_new sb135.wf nb149.lo
 have no154 := fr142.own.ne_new sb135.wf nb149.lo
 have ge_b147 := none_of wf (Nat.le_trans le143.n nb149.lo)
 have h155 := nb149.le.get _ _ h136
 have h156 := nb149.le.get _ _ h137
 have h157 := nb149.le.get _ _ sb135.get
 have fr158 := fr138.le nb149.le
 have fr159 := fr139.le nb149.le
 have fr160 := fr140.le nb149.le
 have fr161 := fr141.le nb149.le
 have fr162 := fr142.le nb149.le
 have le163 := le143.trans nb149.le
 refine hk146 _ _ ?_
 refine Ops.q rfl (qbuild rfl (buildV_struct u24 z24 pl24 rfl)) ?_
 refine Ops.l rfl (fun _ _ hk164 _ => walloc nb149.wf z24 rfl fun A166 b165 nb167 => ?_)
 have ne_b12_b165 := ne_new nb149.wf h155 nb167.lo
 have ne_b36_b165 := ne_new nb149.wf h156 nb167.lo
 have ne_b116_b165 := ne_new nb149.wf h157 nb167.lo
 have ne_b147_b165 := ne_new nb149.wf nb149.get nb167.lo
 have no168 := fr158.own.ne_new nb149.wf nb167.lo
 have no169 := fr159.own.ne_new nb149.wf nb167.lo
 have no170 := fr160.own.ne_new nb149.wf nb167.lo
 have no171 := fr161.own.ne_new nb149.wf nb167.lo
 have no172 := fr162.own.ne_new nb149.wf nb167.lo
 have ge_b165 := none_of wf (Nat.le_trans le163.n nb167.lo)
 have h173 := nb167.le.get _ _ h155
 have h174 := nb167.le.get _ _ h156
 have h175 := nb167.le.get _ _ h157
 have h176 := nb167.le.get _ _ nb149.get
 have fr177 := fr158.le nb167.le
 have fr178 := fr159.le nb167.le
 have fr179 := fr160.le nb167.le
 have fr180 := fr161.le nb167.le
 have fr181 := fr162.le nb167.le
 have le182 := le163.trans nb167.le
 refine hk164 _ _ ?_
 refine Ops.l rfl (fun _ _ hk183 _ => wstore (cs := [num ((1 : Nat) : Int), .slice (some ⟨b147, 0, none⟩) 1 1]) (c' := [num ((1 : Nat) : Int), .slice (some ⟨b147, 0, none⟩) 1 1]) nb167.wf rfl rfl rfl rfl sz24 nb167.get (Nat.le_of_ble_eq_true rfl) rfl rfl fun A184 sb185 => ?_)
 have h186 := sb185.keep _ _ ne_b12_b165 h173
 have h187 := sb185.keep _ _ ne_b36_b165 h174
 have h188 := sb185.keep _ _ ne_b116_b165 h175
 have h189 := sb185.keep _ _ ne_b147_b165 h176
 have fr190 := fr177.keep sb185.keep no168
 have fr191 := fr178.keep sb185.keep no169
 have fr192 := fr179.keep sb185.keep no170
 have fr193 := fr180.keep sb185.keep no171
 have fr194 := fr181.keep sb185.keep no172
 have le195 := le_store le182 wf ge_b165 sb185.n sb185.keep
 refine hk183 _ _ ?_
 refine Ops.nil ?_
 refine h145 _ _ ?_
 refine Run.seq fun K196 h197 => ?_
 refine Run.region ?_
 refine Ops.q rfl (qloadAggAt ag24 sz24 rfl rfl sb185.get rfl) ?_
 refine Ops.l rfl (fun _ _ hk198 _ => vcallF rfl (s_ShD (g := ((1 : Nat) : Int)) (w := [97, 97, 97]) (by simp) (hL.le le195) (slc_row (n := 1) h189 rfl (Nat.le_refl _)) sane_6 (by decide)) ?_)
 rintro v199 A200 ⟨nq201, dq201, dvq201, rfl, leq201, wfq201, frq201⟩
 have h202 := leq201.get _ _ h186
 have h203 := leq201.get _ _ h187
 have h204 := leq201.get _ _ h188
 have h205 := leq201.get _ _ h189
 have h206 := leq201.get _ _ sb185.get
 have fr207 := fr190.le leq201
 have fr208 := fr191.le leq201
 have fr209 := fr192.le leq201
 have fr210 := fr193.le leq201
 have fr211 := fr194.le leq201
 have le212 := le195.trans leq201
 have fr213 := frq201.base le195
 have no214 := frq201.ne sb185.wf h186
 have no215 := frq201.ne sb185.wf h187
 have no216 := frq201.ne sb185.wf h188
 have no217 := frq201.ne sb185.wf h189
 have no218 := frq201.ne sb185.wf sb185.get
 refine hk198 _ _ ?_
 refine Ops.q rfl (qmove rfl) ?_
 refine Ops.q rfl (qextract rfl rfl) ?_
 refine Ops.q rfl (qextract rfl rfl) ?_
 refine Ops.l rfl (fun _ _ hk219 _ => walloc wfq201 z36 rfl fun A221 b220 nb222 => ?_)
 have ne_b12_b220 := ne_new wfq201 h202 nb222.lo
 have ne_b36_b220 := ne_new wfq201 h203 nb222.lo
 have ne_b116_b220 := ne_new wfq201 h204 nb222.lo
 have ne_b147_b220 := ne_new wfq201 h205 nb222.lo
 have ne_b165_b220 := ne_new wfq201 h206 nb222.lo
 have no223 := fr207.own.ne_new wfq201 nb222.lo
 have no224 := fr208.own.ne_new wfq201 nb222.lo
 have no225 := fr209.own.ne_new wfq201 nb222.lo
 have no226 := fr210.own.ne_new wfq201 nb222.lo
 have no227 := fr211.own.ne_new wfq201 nb222.lo
 have no228 := fr213.own.ne_new wfq201 nb222.lo
 have ge_b220 := none_of wf (Nat.le_trans le212.n nb222.lo)
 have h229 := nb222.le.get _ _ h202
 have h230 := nb222.le.get _ _ h203
 have h231 := nb222.le.get _ _ h204
 have h232 := nb222.le.get _ _ h205
 have h233 := nb222.le.get _ _ h206
 have fr234 := fr207.le nb222.le
 have fr235 := fr208.le nb222.le
 have fr236 := fr209.le nb222.le
 have fr237 := fr210.le nb222.le
 have fr238 := fr211.le nb222.le
 have fr239 := fr213.le nb222.le
 have le240 := le212.trans nb222.le
 refine hk219 _ _ ?_
 obtain ⟨p242, l242, c242, q242, _⟩ := fr239.own.slice
 subst q242
 refine Ops.l rfl (fun _ _ hk241 _ => wstore (cs := [str ([65, 65]), num ((nq201 : Nat) : Int), .slice p242 l242 c242]) (c' := [str ([65, 65]), num ((nq201 : Nat) : Int), .slice p242 l242 c242]) nb222.wf rfl rfl rfl rfl sz36 nb222.get (Nat.le_of_ble_eq_true rfl) rfl rfl fun A243 sb244 => ?_)
 have h245 := sb244.keep _ _ ne_b12_b220 h229
 have h246 := sb244.keep _ _ ne_b36_b220 h230
 have h247 := sb244.keep _ _ ne_b116_b220 h231
 have h248 := sb244.keep _ _ ne_b147_b220 h232
 have h249 := sb244.keep _ _ ne_b165_b220 h233
 have fr250 := fr234.keep sb244.keep no223
 have fr251 := fr235.keep sb244.keep no224
 have fr252 := fr236.keep sb244.keep no225
 have fr253 := fr237.keep sb244.keep no226
 have fr254 := fr238.keep sb244.keep no227
 have fr255 := fr239.keep sb244.keep no228
 have le256 := le_store le240 wf ge_b220 sb244.n sb244.keep
 refine hk241 _ _ ?_
 refine Ops.q rfl (qassign rfl) ?_
 refine Ops.nil ?_
 refine h197 _ _ ?_
 refine Run.seq fun K257 h258 => ?_
 refine Run.region ?_
 refine Ops.q rfl (qmove rfl) ?_
 refine Ops.q rfl (((qeqlN (a := 0) (b := 0) rfl rfl).trans (congrArg (fun z => some (Value.bool z, [])) (decide_eq_true rfl)))) ?_
 refine Ops.q rfl (qmove rfl) ?_
 refine Ops.on rfl rfl ?_
 refine Ops.q rfl (qmove rfl) ?_
 refine Ops.on rfl rfl ?_
 refine Ops.q rfl (((qeqlN (a := 0) (b := 0) rfl rfl).trans (congrArg (fun z => some (Value.bool z, [])) (decide_eq_true rfl)))) ?_
 refine Ops.q rfl (qpickT rfl rfl) ?_
 refine Ops.q rfl (qmove rfl) ?_
 refine Ops.on rfl rfl ?_
 refine Ops.q rfl (qfieldAddr fl36_0 sz9 (by decide) rfl) ?_
 refine Ops.on rfl rfl ?_
 refine Ops.q rfl (qloadAt ag9 rfl rfl h247 rfl) ?_
 refine Ops.on rfl rfl ?_
 refine Ops.q rfl (((qseql rfl rfl).trans (congrArg (fun z => some (Value.bool z, [])) (decide_eq_true rfl)))) ?_
 refine Ops.q rfl (qpickT rfl rfl) ?_
 refine Ops.q rfl (qmove rfl) ?_
 refine Ops.on rfl rfl ?_
 refine Ops.q rfl (qfieldAddr fl36_1 sz3 (by decide) rfl) ?_
 refine Ops.on rfl rfl ?_
 refine Ops.q rfl (qloadAt ag3 rfl rfl h247 rfl) ?_
 refine Ops.on rfl rfl ?_
 refine Ops.q rfl (((qeqlN (a := 1) (b := 1) rfl rfl).trans (congrArg (fun z => some (Value.bool z, [])) (decide_eq_true rfl)))) ?_
 refine Ops.q rfl (qpickT rfl rfl) ?_
 refine Ops.q rfl (qmove rfl) ?_
 refine Ops.on rfl rfl ?_
 refine Ops.q rfl (qfieldAddr fl36_0 sz9 (by decide) rfl) ?_
 refine Ops.on rfl rfl ?_
 refine Ops.q rfl (qloadAt ag9 rfl rfl sb244.get rfl) ?_
 refine Ops.on rfl rfl ?_
 refine Ops.q rfl (((qseql rfl rfl).trans (congrArg (fun z => some (Value.bool z, [])) (decide_eq_true rfl)))) ?_
 refine Ops.q rfl (qpickT rfl rfl) ?_
 refine Ops.q rfl (qmove rfl) ?_
 refine Ops.on rfl rfl ?_
 refine Ops.q rfl (qloadAggAt ag24 sz24 rfl rfl h245 rfl) ?_
 refine Ops.on rfl rfl ?_
 refine Ops.l rfl (fun _ _ hk259 _ => vcallF rfl (s_VeC (g := ((4 : Nat) : Int)) (by decide) (hL.le le256) fr250.slc sane_7) ?_)
 rintro v260 A261 ⟨rfl, leq262, wfq262⟩
 have h263 := leq262.get _ _ h245
 have h264 := leq262.get _ _ h246
 have h265 := leq262.get _ _ h247
 have h266 := leq262.get _ _ h248
 have h267 := leq262.get _ _ h249
 have h268 := leq262.get _ _ sb244.get
 have fr269 := fr250.le leq262
 have fr270 := fr251.le leq262
 have fr271 := fr252.le leq262
 have fr272 := fr253.le leq262
 have fr273 := fr254.le leq262
 have fr274 := fr255.le leq262
 have le275 := le256.trans leq262
 refine hk259 _ _ ?_
 refine Ops.on rfl rfl ?_
 refine Ops.q rfl (((qeqlN (a := 0) (b := 0) rfl rfl).trans (congrArg (fun z => some (Value.bool z, [])) (decide_eq_true rfl)))) ?_
 refine Ops.q rfl (qpickT rfl rfl) ?_
 refine Ops.q rfl (qmove rfl) ?_
 refine Ops.on rfl rfl ?_
 refine Ops.q rfl (qloadAggAt ag24 sz24 rfl rfl h267 rfl) ?_
 refine Ops.on rfl rfl ?_
 refine Ops.l rfl (fun _ _ hk276 _ => vcallF rfl (s_VeC (g := ((1 : Nat) : Int)) (by simp) (hL.le le275) (slc_row (n := 1) h266 rfl (Nat.le_refl _)) sane_8) ?_)
 rintro v277 A278 ⟨rfl, leq279, wfq279⟩
 have h280 := leq279.get _ _ h263
 have h281 := leq279.get _ _ h264
 have h282 := leq279.get _ _ h265
 have h283 := leq279.get _ _ h266
 have h284 := leq279.get _ _ h267
 have h285 := leq279.get _ _ h268
 have fr286 := fr269.le leq279
 have fr287 := fr270.le leq279
 have fr288 := fr271.le leq279
 have fr289 := fr272.le leq279
 have fr290 := fr273.le leq279
 have fr291 := fr274.le leq279
 have le292 := le275.trans leq279
 refine hk276 _ _ ?_
 refine Ops.on rfl rfl ?_
 refine Ops.q rfl (((qeqlN (a := 0) (b := 0) rfl rfl).trans (congrArg (fun z => some (Value.bool z, [])) (decide_eq_true rfl)))) ?_
 refine Ops.q rfl (qpickT rfl rfl) ?_
 refine Ops.q rfl (qmove rfl) ?_
 refine Ops.on rfl rfl ?_
 refine Ops.l rfl (fun _ _ hk293 _ => wbuildSlice (c := [str ([97, 98, 65, 66])]) wfq279 rfl (buildSliceV_of u22 sz9 z9 rfl (by decide) (by decide) rfl) fun A295 b294 nb296 => ?_)
 have ne_b12_b294 := ne_new wfq279 h280 nb296.lo
 have ne_b36_b294 := ne_new wfq279 h281 nb296.lo
 have ne_b116_b294 := ne_new wfq279 h282 nb296.lo
 have ne_b147_b294 := ne_new wfq279 h283 nb296.lo
 have ne_b165_b294 := ne_new wfq279 h284 nb296.lo
 have ne_b220_b294 := ne_new wfq279 h285 nb296.lo
 have no297 := fr286.own.ne_new wfq279 nb296.lo
 have no298 := fr287.own.ne_new wfq279 nb296.lo
 have no299 := fr288.own.ne_new wfq279 nb296.lo
 have no300 := fr289.own.ne_new wfq279 nb296.lo
 have no301 := fr290.own.ne_new wfq279 nb296.lo
 have no302 := fr291.own.ne_new wfq279 nb296.lo
 have ge_b294 := none_of wf (Nat.le_trans le292.n nb296.lo)
 have h303 := nb296.le.get _ _ h280
 have h304 := nb296.le.get _ _ h281
 have h305 := nb296.le.get _ _ h282
 have h306 := nb296.le.get _ _ h283
 have h307 := nb296.le.get _ _ h284
 have h308 := nb296.le.get _ _ h285
 have fr309 := fr286.le nb296.le
 have fr310 := fr287.le nb296.le
 have fr311 := fr288.le nb296.le
 have fr312 := fr289.le nb296.le
 have fr313 := fr290.le nb296.le
 have fr314 := fr291.le nb296.le
 have le315 := le292.trans nb296.le
 refine hk293 _ _ ?_
 refine Ops.on rfl rfl ?_
 refine Ops.q rfl (qbuild rfl (buildV_struct u24 z24 pl24 rfl)) ?_
 refine Ops.on rfl rfl ?_
 refine Ops.l rfl (fun _ _ hk316 _ => vcallF rfl (s_VeC (g := ((2 : Nat) : Int)) (by simp) (hL.le le315) (slc_row (n := 1) nb296.get rfl (Nat.le_refl _)) sane_9) ?_)
 rintro v317 A318 ⟨rfl, leq319, wfq319⟩
 have h320 := leq319.get _ _ h303
 have h321 := leq319.get _ _ h304
 have h322 := leq319.get _ _ h305
 have h323 := leq319.get _ _ h306
 have h324 := leq319.get _ _ h307
 have h325 := leq319.get _ _ h308
 have h326 := leq319.get _ _ nb296.get
 have fr327 := fr309.le leq319
 have fr328 := fr310.le leq319
 have fr329 := fr311.le leq319
 have fr330 := fr312.le leq319
 have fr331 := fr313.le leq319
 have fr332 := fr314.le leq319
 have le333 := le315.trans leq319
 refine hk316 _ _ ?_
 refine Ops.on rfl rfl ?_
 refine Ops.q rfl (((qeqlN (a := 230) (b := 230) rfl rfl).trans (congrArg (fun z => some (Value.bool z, [])) (decide_eq_true rfl)))) ?_
 refine Ops.q rfl (qpickT rfl rfl) ?_
 refine Ops.q rfl (qassign rfl) ?_
 refine Ops.nil ?_
 refine h258 _ _ ?_
 refine Run.ret ?_
 repeat first | with_reducible refine thenQ_ret ?_ | with_reducible refine blockQ_ret ?_
 exact retQ rfl (⟨rfl, le333, wfq319⟩)
end Go.Proofs.YtaccklloepfemaaGreatDoor
