/- The contracts of the functions, one by one: what each comes to. -/
import Derived.Test.YtaccklloepfemaaGreatDoorDehnFO
import Derived.Test.YtaccklloepfemaaGreatDoorDehnLaw6
namespace Go.Proofs.YtaccklloepfemaaGreatDoor
open Go Go.RowKit V
set_option maxRecDepth 100000
set_option linter.unusedVariables false
set_option linter.unusedSimpArgs false
theorem fl32_0 : fldOf Tryz.prog 32 0 = some (4, 0) := by kernel_rfl
theorem fl32_1 : fldOf Tryz.prog 32 1 = some (27, 1) := by kernel_rfl

theorem tr_all {g : Int} {l : List (List UInt8)} {w : List UInt8} {d : List DCell} {c : Nat} (h : TrR g l w (true, d, c)) (hw : w.length ≤ 60) : proves g l d w = 0 ∧ d.length ≤ w.length ∧ conjs d ≤ 1000000 := by
  unfold TrR at h
  by_cases ha : ¬ rasked g l w = 0
  · rw [if_pos ha] at h; cases h
  · rw [if_neg ha] at h
    obtain ⟨S, hS, h⟩ := h
    have hl := light hS.1 hw
    have hda := dsh_all hS.1 (w := w) (by omega)
    have hpv := sh_proves (Decidable.not_not.1 ha) hS hw
    unfold trOf at h
    split at h
    · split at h
      · rename_i he
        try rw [if_neg hl] at h
        cases h
        rw [he] at hpv
        have e : w ++ inv [] = w := List.append_nil w
        rw [e] at hpv
        unfold Heavy at hl
        exact ⟨hpv, by omega, by omega⟩
      · cases h
    · cases h
theorem long_asked {g : Int} {l : List (List UInt8)} {w : List UInt8} (h : 5000 < w.length) : ¬ rasked g l w = 0 := fun q => by
  have := (rasked_word (fun z => z q)).2
  omega
theorem tr_long {g : Int} {l : List (List UInt8)} {w : List UInt8} {b : Bool} {d : List DCell} {c : Nat} (h : TrR g l w (b, d, c)) (hl : 5000 < w.length) : b = false ∧ d = [] ∧ rTrivial g l w = (false, c) := by
  have ha := long_asked (g := g) (l := l) hl
  unfold TrR at h
  rw [if_pos ha] at h
  cases h
  refine ⟨rfl, rfl, ?_⟩
  unfold rTrivial rS
  rw [if_pos ha]
  dsimp only
  rw [if_pos ha]
theorem triv_len {g : Int} {l : List (List UInt8)} {w : List UInt8} (hb : (rTrivial g l w).1 = true) : w.length ≤ 5000 := by
  apply Classical.byContradiction
  intro q
  have ha := long_asked (g := g) (l := l) (show 5000 < w.length by omega)
  unfold rTrivial rS at hb
  rw [if_pos ha] at hb
  dsimp only at hb
  rw [if_pos ha] at hb
  cases hb
theorem cy_long {g : Int} {l : List (List UInt8)} {w W cj : List UInt8} {d : List DCell} {c : Nat} (h : CyR g l w (W, d, cj, c)) (hl : 5000 < w.length) : W = [] ∧ d = [] ∧ cj = [] ∧ rCyclic g l w = ([], 0, c) ∧ ¬ c = 0 := by
  have ha := long_asked (g := g) (l := l) hl
  unfold CyR at h
  rw [if_pos ha] at h
  cases h
  refine ⟨rfl, rfl, rfl, ?_, ha⟩
  unfold rCyclic rS
  rw [if_pos ha]
  dsimp only
  rw [if_pos ha]
theorem s_TrT {g : Int} {u : Value} {l : List (List UInt8)} {w : List UInt8} {A : AH} (hn : l.length ≤ 1000000) (hL : Lets A) (hu : Slc A 1 u (strs l)) (hb : (rTrivial g l w).1 = true) (hw : w.length ≤ 60) : RetA Tryz.prog 16 #[.agg #[num g, u], str w] A (fun v A1 => ∃ d dv, v = .tuple #[.bool true, dv, num (((rTrivial g l w).2 : Nat) : Int)] ∧ A.le A1 ∧ A1.wf ∧ Fresh A A1 dv 3 (dcells d) ∧ proves g l d w = 0 ∧ d.length ≤ w.length ∧ conjs d ≤ 1000000) :=
  (s_Tr g u l w A hn hL (by omega) hu).mono fun v A1 h => by
    obtain ⟨b, d, c, dv, e1, e2, e3, e4, e5⟩ := h
    obtain ⟨a, _⟩ := tr_eq e5 hw
    rw [← a] at hb
    simp only at hb
    subst hb
    exact ⟨d, dv, by rw [← a]; exact e1, e2, e3, e4, tr_all e5 hw⟩
theorem s_TrF {g : Int} {u : Value} {l : List (List UInt8)} {w : List UInt8} {A : AH} (hn : l.length ≤ 1000000) (hL : Lets A) (hu : Slc A 1 u (strs l)) (hb : (rTrivial g l w).1 = false) (hw0 : w.length ≤ 60 ∨ 5000 < w.length) (hw1 : w.length ≤ 100000) : RetA Tryz.prog 16 #[.agg #[num g, u], str w] A (fun v A1 => ∃ dv, v = .tuple #[.bool false, dv, num (((rTrivial g l w).2 : Nat) : Int)] ∧ A.le A1 ∧ A1.wf ∧ Fresh A A1 dv 3 (dcells [])) := by
  rcases hw0 with hw | hw
  · refine (s_Tr2 hn hL hu hw).mono fun v A1 h => ?_
    obtain ⟨d, dv, e1, e2, e3, e4, e5⟩ := h
    rw [hb] at e1 e5
    rw [if_neg (by decide)] at e5
    have : d = [] := List.length_eq_zero_iff.1 e5
    subst this
    exact ⟨dv, e1, e2, e3, e4⟩
  · refine (s_Tr g u l w A hn hL hw1 hu).mono fun v A1 h => ?_
    obtain ⟨b, d, c, dv, e1, e2, e3, e4, e5⟩ := h
    obtain ⟨rfl, rfl, hr⟩ := tr_long e5 hw
    exact ⟨dv, by rw [hr]; exact e1, e2, e3, e4⟩
theorem s_RTrB {g : Int} {u : Value} {l : List (List UInt8)} {w : List UInt8} {A : AH} {b : Bool} (hb : (rTrivial g l w).1 = b) (hn : l.length ≤ 1000000) (hw : w.length ≤ 100000) (hu : Slc A 1 u (strs l)) : RetA Tryz.prog 15 #[.agg #[num g, u], str w] A (fun v A1 => v = .agg #[.bool b, num (((rTrivial g l w).2 : Nat) : Int)] ∧ A.le A1 ∧ A1.wf) :=
  (s_RTrivial g u l w A hn hw hu).mono fun v A1 h => by rw [hb] at h; exact h
theorem cy_all {g : Int} {l : List (List UInt8)} {w W cj : List UInt8} {d : List DCell} {c : Nat} (h : CyR g l w (W, d, cj, c)) (hw : w.length ≤ 60) : (¬ c = 0 → cj = [] ∧ d = []) ∧ (c = 0 → proves g l d (w ++ cj ++ wInverse W ++ wInverse cj) = 0 ∧ wReduce cj = cj ∧ cj.length ≤ 7900 ∧ W.length ≤ 60 ∧ conjs d ≤ 1000000 ∧ d.length ≤ 60) := by
  unfold CyR at h
  by_cases ha : ¬ rasked g l w = 0
  · rw [if_pos ha] at h
    cases h
    exact ⟨fun _ => ⟨rfl, rfl⟩, fun q => absurd q ha⟩
  · rw [if_neg ha] at h
    obtain ⟨S, hS, h⟩ := h
    obtain ⟨W', d', cj', e, f⟩ := cy_proves (Decidable.not_not.1 ha) hS hw
    rw [e] at h
    cases h
    exact ⟨fun q => absurd rfl q, fun _ => f⟩
theorem s_Cy3 {g : Int} {u : Value} {l : List (List UInt8)} {w : List UInt8} {A : AH} (hn : l.length ≤ 1000000) (hL : Lets A) (hu : Slc A 1 u (strs l)) (hw0 : w.length ≤ 60 ∨ 5000 < w.length) (hw1 : w.length ≤ 100000) : RetA Tryz.prog 19 #[.agg #[num g, u], str w] A (fun v A1 => ∃ d cj dv, v = .tuple #[.agg #[str (rCyclic g l w).1, num (((rCyclic g l w).2.1 : Nat) : Int), dv], str cj, num (((rCyclic g l w).2.2 : Nat) : Int)] ∧ A.le A1 ∧ A1.wf ∧ Fresh A A1 dv 3 (dcells d) ∧ d.length = (rCyclic g l w).2.1 ∧ (¬ (rCyclic g l w).2.2 = 0 → cj = [] ∧ d = []) ∧ ((rCyclic g l w).2.2 = 0 → proves g l d (w ++ cj ++ wInverse (rCyclic g l w).1 ++ wInverse cj) = 0 ∧ wReduce cj = cj ∧ cj.length ≤ 7900 ∧ (rCyclic g l w).1.length ≤ 60 ∧ conjs d ≤ 1000000 ∧ d.length ≤ 60)) := by
  refine (s_Cy g u l w A hn hL hw1 hu).mono fun v A1 h => ?_
  obtain ⟨W, d, cj, c, dv, e1, e2, e3, e4, e5⟩ := h
  rcases hw0 with hw | hw
  · have a := cy_eq e5 hw
    have f := cy_all e5 hw
    exact ⟨d, cj, dv, by rw [← a]; exact e1, e2, e3, e4, by rw [← a], by rw [← a]; exact f.1, by rw [← a]; exact f.2⟩
  · obtain ⟨rfl, rfl, rfl, hr, hne⟩ := cy_long e5 hw
    exact ⟨[], [], dv, by rw [hr]; exact e1, e2, e3, e4, by rw [hr]; rfl, fun _ => ⟨rfl, rfl⟩, fun q => absurd (by rw [hr] at q; exact q) hne⟩


theorem s_PvC {g : Int} {u : Value} {l : List (List UInt8)} {dv : Value} {d : List DCell} {w : List UInt8} {A : AH} (e : proves g l d w = 0) (hn : l.length ≤ 8) (hll : ∀ x ∈ l, x.length ≤ 40) (hw : w.length ≤ 100000000) (hdn : d.length ≤ 100000000) (hcn : conjs d ≤ 100000000) (hu : Slc A 1 u (strs l)) (hv : Slc A 3 dv (dcells d)) : RetA Tryz.prog 17 #[.agg #[num g, u], dv, str w] A (fun v A1 => v = num ((0 : Nat) : Int) ∧ A.le A1 ∧ A1.wf) :=
  (s_Proves g u l dv d w A (by omega) (fun x hx => by have := hll x hx; omega) hw hdn hcn hu hv).mono fun v A1 h => by rw [e] at h; exact h


theorem s_DecT (g : Int) (u : Value) (l : List (List UInt8)) (w : List UInt8) (A : AH) (hn : l.length ≤ 9223372036854775807) (hL : Lets A) (hu : Slc A 1 u (strs l)) (hb : (rTrivial g l w).1 = true) : RetA Tryz.prog 4 #[.agg #[num (g), u], str (w)] A (fun v A1 => v = .bool true ∧ A.le A1 ∧ A1.wf) := by
 refine enterA (e := [(0, .agg #[num (g), u]), (1, str (w))]) (args := [.agg #[num (g), u], str (w)]) Tryz.call4 Tryz.func4 rfl Tryz.results4 Tryz.ntmps4 rfl rfl rfl (fun wf => ?_)
 have le_ := AH.le.refl A
 refine Run.seq fun K1 h2 => ?_
 refine Run.region ?_
 refine Ops.l rfl (fun _ _ hk3 _ => wbox wf rfl rfl fun A5 b4 nb6 => ?_)
 have ge_b4 := none_of wf (Nat.le_trans le_.n nb6.lo)
 have le7 := le_.trans nb6.le
 refine hk3 _ _ ?_
 refine Ops.q rfl (qassign rfl) ?_
 refine Ops.nil ?_
 refine h2 _ _ ?_
 refine Run.seq fun K8 h9 => ?_
 refine Run.seq fun K10 h11 => ?_
 refine Run.region ?_
 refine Ops.q rfl (qloadAggAt ag24 sz24 rfl rfl nb6.get rfl) ?_
 refine Ops.l rfl (fun _ _ hk12 _ => vcallF rfl (s_small ((g)) u l (.slice none 0 0) ([]) A5 (by omega) (by first | omega | simp) (hu.le le7) (Fresh.nil A A5 1).slc) ?_)
 rintro v13 A14 ⟨rfl, leq15, wfq15⟩
 have h16 := leq15.get _ _ nb6.get
 have le17 := le7.trans leq15
 refine hk12 _ _ ?_
 refine Ops.q rfl (qnot rfl) ?_
 refine Ops.q rfl (qmove rfl) ?_
 refine Ops.partB (t := 16) rfl (fun p18 => ?_) (fun p18 => ?_)
 ·
  refine Ops.off rfl rfl rfl rfl ?_
  refine Ops.off rfl rfl rfl rfl ?_
  refine Ops.off rfl rfl rfl rfl ?_
  refine Ops.off rfl rfl rfl rfl ?_
  refine Ops.und rfl rfl rfl ?_
  refine Ops.und rfl rfl rfl ?_
  refine Ops.und rfl rfl rfl ?_
  refine Ops.off rfl rfl rfl rfl ?_
  refine Ops.q rfl (qpickT rfl rfl) ?_
  refine Ops.q rfl (qmove rfl) ?_
  refine Ops.off rfl rfl rfl rfl ?_
  refine Ops.off rfl rfl rfl rfl ?_
  refine Ops.off rfl rfl rfl rfl ?_
  refine Ops.q rfl (qpickT rfl rfl) ?_
  refine Ops.nil ?_
  refine h11 _ _ ?_
  refine Run.cond_true rfl ?_
  refine Run.seq fun K19 h20 => ?_
  refine Run.region ?_
  refine Ops.l rfl (fun _ _ hk21 _ => vcallF rfl (s_sane A14 (hL.le le17)) ?_)
  rintro v22 A23 ⟨rfl, leq24, wfq24⟩
  have h25 := leq24.get _ _ h16
  have le26 := le17.trans leq24
  refine hk21 _ _ ?_
  refine Ops.q rfl (qassign rfl) ?_
  refine Ops.nil ?_
  refine h20 _ _ ?_
  refine Run.ret ?_
  repeat first | with_reducible refine thenQ_ret ?_ | with_reducible refine blockQ_ret ?_
  exact retQ rfl (⟨rfl, le26, wfq24⟩)
 ·
  refine Ops.on rfl rfl ?_
  refine Ops.q rfl (qmove rfl) ?_
  refine Ops.on rfl rfl ?_
  refine Ops.q rfl (qslen u9 rfl) ?_
  refine Ops.on rfl rfl ?_
  refine Ops.q rfl (qgtrN (b := 60) rfl rfl) ?_
  refine Ops.on rfl rfl ?_
  refine Ops.q rfl (qmove rfl) ?_
  refine Ops.part (t := 20) rfl (fun p27 => ?_) (fun p27 => ?_)
  ·
   refine Ops.on rfl rfl ?_
   refine Ops.q rfl (qmove rfl) ?_
   refine Ops.on rfl rfl ?_
   refine Ops.q rfl (qslen u9 rfl) ?_
   refine Ops.on rfl rfl ?_
   refine Ops.q rfl (qleqN (b := 5000) rfl rfl) ?_
   refine Ops.on rfl rfl ?_
   refine Ops.q rfl (qpickT rfl rfl) ?_
   refine Ops.q rfl (qpickF rfl rfl) ?_
   refine Ops.q rfl (qmove rfl) ?_
   refine Ops.part (t := 26) rfl (fun p28 => ?_) (fun p28 => ?_)
   ·
    refine Ops.off rfl rfl rfl rfl ?_
    refine Ops.off rfl rfl rfl rfl ?_
    refine Ops.off rfl rfl rfl rfl ?_
    refine Ops.q rfl (qpickT rfl rfl) ?_
    refine Ops.nil ?_
    refine h11 _ _ ?_
    refine Run.cond_true rfl ?_
    refine Run.seq fun K29 h30 => ?_
    refine Run.region ?_
    refine Ops.l rfl (fun _ _ hk31 _ => vcallF rfl (s_sane A14 (hL.le le17)) ?_)
    rintro v32 A33 ⟨rfl, leq34, wfq34⟩
    have h35 := leq34.get _ _ h16
    have le36 := le17.trans leq34
    refine hk31 _ _ ?_
    refine Ops.q rfl (qassign rfl) ?_
    refine Ops.nil ?_
    refine h30 _ _ ?_
    refine Run.ret ?_
    repeat first | with_reducible refine thenQ_ret ?_ | with_reducible refine blockQ_ret ?_
    exact retQ rfl (⟨rfl, le36, wfq34⟩)
   ·
    refine Ops.on rfl rfl ?_
    refine Ops.q rfl (qmove rfl) ?_
    refine Ops.on rfl rfl ?_
    refine Ops.q rfl (qslen u9 rfl) ?_
    refine Ops.on rfl rfl ?_
    refine Ops.q rfl (qgtrN (b := 5100) rfl rfl) ?_
    refine Ops.q rfl (qpickF rfl rfl) ?_
    refine Ops.nil ?_
    refine h11 _ _ ?_
    refine Run.if rfl (fun p37 => ?_) (fun p37 => ?_)
    ·
     refine Run.seq fun K38 h39 => ?_
     refine Run.region ?_
     refine Ops.l rfl (fun _ _ hk40 _ => vcallF rfl (s_sane A14 (hL.le le17)) ?_)
     rintro v41 A42 ⟨rfl, leq43, wfq43⟩
     have h44 := leq43.get _ _ h16
     have le45 := le17.trans leq43
     refine hk40 _ _ ?_
     refine Ops.q rfl (qassign rfl) ?_
     refine Ops.nil ?_
     refine h39 _ _ ?_
     refine Run.ret ?_
     repeat first | with_reducible refine thenQ_ret ?_ | with_reducible refine blockQ_ret ?_
     exact retQ rfl (⟨rfl, le45, wfq43⟩)
    ·
     refine Run.skip ?_
     refine h9 _ _ ?_
     refine Run.seq fun K46 h47 => ?_
     have hsl := small_len (l := l) (ws := []) (by simpa using ‹(!small l []) = false›)
     have hl8 := hsl.1
     have hw5 := triv_len hb
     refine Run.region ?_
     refine Ops.q rfl (qloadAggAt ag24 sz24 rfl rfl h16 rfl) ?_
     refine Ops.q rfl (qmove rfl) ?_
     refine Ops.l rfl (fun _ _ hk48 _ => vcallF rfl (s_RTrB hb (by omega) (by omega) (hu.le le17)) ?_)
     rintro v49 A50 ⟨rfl, leq51, wfq51⟩
     have h52 := leq51.get _ _ h16
     have le53 := le17.trans leq51
     refine hk48 _ _ ?_
     refine Ops.l rfl (fun _ _ hk54 _ => walloc wfq51 z32 rfl fun A56 b55 nb57 => ?_)
     have ne_b4_b55 := ne_new wfq51 h52 nb57.lo
     have ge_b55 := none_of wf (Nat.le_trans le53.n nb57.lo)
     have h58 := nb57.le.get _ _ h52
     have le59 := le53.trans nb57.le
     refine hk54 _ _ ?_
     refine Ops.l rfl (fun _ _ hk60 _ => wstore (cs := [.bool (true), num (((rTrivial ((g)) l w).2 : Nat) : Int)]) (c' := [.bool (true), num (((rTrivial ((g)) l w).2 : Nat) : Int)]) nb57.wf rfl rfl rfl rfl sz32 nb57.get (Nat.le_of_ble_eq_true rfl) rfl rfl fun A61 sb62 => ?_)
     have h63 := sb62.keep _ _ ne_b4_b55 h58
     have le64 := le_store le59 wf ge_b55 sb62.n sb62.keep
     refine hk60 _ _ ?_
     refine Ops.nil ?_
     refine h47 _ _ ?_
     refine Run.seq fun K65 h66 => ?_
     refine Run.region ?_
     refine Ops.q rfl (qloadAggAt ag24 sz24 rfl rfl h63 rfl) ?_
     refine Ops.q rfl (qmove rfl) ?_
     refine Ops.l rfl (fun _ _ hk67 _ => vcallF rfl (s_TrT (g := (g)) (w := w) (by omega) (hL.le le64) (hu.le le64) hb (by omega)) ?_)
     rintro v68 A69 ⟨dq70, dvq70, rfl, leq70, wfq70, frq70, htpq70, htlq70, htcq70⟩
     have h71 := leq70.get _ _ h63
     have h72 := leq70.get _ _ sb62.get
     have le73 := le64.trans leq70
     have fr74 := frq70.base le64
     have no75 := frq70.ne sb62.wf h63
     have no76 := frq70.ne sb62.wf sb62.get
     have htp := htpq70
     have htl := htlq70
     have htc := htcq70
     refine hk67 _ _ ?_
     refine Ops.q rfl (qmove rfl) ?_
     refine Ops.q rfl (qextract rfl rfl) ?_
     refine Ops.q rfl (qextract rfl rfl) ?_
     refine Ops.q rfl (qextract rfl rfl) ?_
     refine Ops.q rfl (qassign rfl) ?_
     refine Ops.q rfl (qassign rfl) ?_
     refine Ops.q rfl (qassign rfl) ?_
     refine Ops.nil ?_
     refine h66 _ _ ?_
     refine Run.seq fun K77 h78 => ?_
     refine Run.seq fun K79 h80 => ?_
     refine Run.region ?_
     refine Ops.q rfl (qmove rfl) ?_
     refine Ops.q rfl (qfieldAddr fl32_1 sz27 (by decide) rfl) ?_
     refine Ops.q rfl (qloadAt ag27 rfl rfl h72 rfl) ?_
     refine Ops.q rfl (((qneqN rfl rfl).trans (congrArg (fun z => some (Value.bool z, [])) (decide_eq_false (fun q => q rfl))))) ?_
     refine Ops.q rfl (qmove rfl) ?_
     refine Ops.on rfl rfl ?_
     refine Ops.q rfl (qmove rfl) ?_
     refine Ops.on rfl rfl ?_
     refine Ops.q rfl (qfieldAddr fl32_0 sz4 (by decide) rfl) ?_
     refine Ops.on rfl rfl ?_
     refine Ops.q rfl (qloadAt ag4 rfl rfl h72 rfl) ?_
     refine Ops.on rfl rfl ?_
     refine Ops.q rfl (qbneq u4 rfl rfl) ?_
     refine Ops.q rfl (qpickF rfl rfl) ?_
     refine Ops.q rfl (qmove rfl) ?_
     refine Ops.on rfl rfl ?_
     refine Ops.q rfl (qmove rfl) ?_
     refine Ops.on rfl rfl ?_
     refine Ops.q rfl (qmove rfl) ?_
     refine Ops.on rfl rfl ?_
     refine Ops.q rfl (qloadAggAt ag24 sz24 rfl rfl h71 rfl) ?_
     refine Ops.on rfl rfl ?_
     refine Ops.q rfl (qmove rfl) ?_
     refine Ops.on rfl rfl ?_
     refine Ops.q rfl (qmove rfl) ?_
     refine Ops.on rfl rfl ?_
     refine Ops.l rfl (fun _ _ hk81 _ => vcallF rfl (s_PvC (w := w) htp (by omega) hsl.2.1 (by omega) (by omega) (by omega) (hu.le le73) fr74.slc) ?_)
     rintro v82 A83 ⟨rfl, leq84, wfq84⟩
     have h85 := leq84.get _ _ h71
     have h86 := leq84.get _ _ h72
     have fr87 := fr74.le leq84
     have le88 := le73.trans leq84
     refine hk81 _ _ ?_
     refine Ops.on rfl rfl ?_
     refine Ops.q rfl (((qneqN (a := 0) (b := 0) rfl rfl).trans (congrArg (fun z => some (Value.bool z, [])) (decide_eq_false (fun q => q rfl))))) ?_
     refine Ops.on rfl rfl ?_
     refine Ops.q rfl (qmove rfl) ?_
     refine Ops.on rfl rfl ?_
     refine Ops.q rfl (qmove rfl) ?_
     refine Ops.on rfl rfl ?_
     refine Ops.q rfl (qlenS (n := dq70.length) u34 rfl fr87.slc (by omega) (dcells_len _)) ?_
     refine Ops.on rfl rfl ?_
     refine Ops.q rfl (qmove rfl) ?_
     refine Ops.on rfl rfl ?_
     refine Ops.q rfl (qslen u9 rfl) ?_
     refine Ops.on rfl rfl ?_
     refine Ops.q rfl (((qgtrN rfl rfl).trans (congrArg (fun z => some (Value.bool z, [])) (decide_eq_false (by omega))))) ?_
     refine Ops.on rfl rfl ?_
     refine Ops.q rfl (qpickF rfl rfl) ?_
     refine Ops.on rfl rfl ?_
     refine Ops.q rfl (qpickT rfl rfl) ?_
     refine Ops.q rfl (qpickF rfl rfl) ?_
     refine Ops.q rfl (qmove rfl) ?_
     refine Ops.on rfl rfl ?_
     refine Ops.q rfl (qmove rfl) ?_
     refine Ops.on rfl rfl ?_
     refine Ops.q rfl (qnot rfl) ?_
     refine Ops.on rfl rfl ?_
     refine Ops.q rfl (qmove rfl) ?_
     refine Ops.off rfl rfl rfl rfl ?_
     refine Ops.off rfl rfl rfl rfl ?_
     refine Ops.off rfl rfl rfl rfl ?_
     refine Ops.on rfl rfl ?_
     refine Ops.q rfl (qpickF rfl rfl) ?_
     refine Ops.q rfl (qpickF rfl rfl) ?_
     refine Ops.nil ?_
     refine h80 _ _ ?_
     refine Run.cond_false rfl ?_
     refine Run.skip ?_
     refine h78 _ _ ?_
     refine Run.seq fun K89 h90 => ?_
     refine Run.region ?_
     refine Ops.q rfl (qloadAggAt ag24 sz24 rfl rfl h85 rfl) ?_
     refine Ops.q rfl (qmove rfl) ?_
     refine Ops.l rfl (fun _ _ hk91 _ => vcallF rfl (s_RCyc ((g)) u l w A83 (by omega) (by omega) (hu.le le88)) ?_)
     rintro v92 A93 ⟨rfl, leq94, wfq94⟩
     have h95 := leq94.get _ _ h85
     have h96 := leq94.get _ _ h86
     have fr97 := fr87.le leq94
     have le98 := le88.trans leq94
     refine hk91 _ _ ?_
     refine Ops.l rfl (fun _ _ hk99 _ => walloc wfq94 z29 rfl fun A101 b100 nb102 => ?_)
     have ne_b4_b100 := ne_new wfq94 h95 nb102.lo
     have ne_b55_b100 := ne_new wfq94 h96 nb102.lo
     have no103 := fr97.own.ne_new wfq94 nb102.lo
     have ge_b100 := none_of wf (Nat.le_trans le98.n nb102.lo)
     have h104 := nb102.le.get _ _ h95
     have h105 := nb102.le.get _ _ h96
     have fr106 := fr97.le nb102.le
     have le107 := le98.trans nb102.le
     refine hk99 _ _ ?_
     refine Ops.l rfl (fun _ _ hk108 _ => wstore (cs := [str ((rCyclic ((g)) l w).1), num (((rCyclic ((g)) l w).2.1 : Nat) : Int), num (((rCyclic ((g)) l w).2.2 : Nat) : Int)]) (c' := [str ((rCyclic ((g)) l w).1), num (((rCyclic ((g)) l w).2.1 : Nat) : Int), num (((rCyclic ((g)) l w).2.2 : Nat) : Int)]) nb102.wf rfl rfl rfl rfl sz29 nb102.get (Nat.le_of_ble_eq_true rfl) rfl rfl fun A109 sb110 => ?_)
     have h111 := sb110.keep _ _ ne_b4_b100 h104
     have h112 := sb110.keep _ _ ne_b55_b100 h105
     have fr113 := fr106.keep sb110.keep no103
     have le114 := le_store le107 wf ge_b100 sb110.n sb110.keep
     refine hk108 _ _ ?_
     refine Ops.nil ?_
     refine h90 _ _ ?_
     refine Run.seq fun K115 h116 => ?_
     refine Run.region ?_
     refine Ops.q rfl (qloadAggAt ag24 sz24 rfl rfl h111 rfl) ?_
     refine Ops.q rfl (qmove rfl) ?_
     refine Ops.l rfl (fun _ _ hk117 _ => vcallF rfl (s_Cy3 (g := (g)) (w := w) (by omega) (hL.le le114) (hu.le le114) (by omega) (by omega)) ?_)
     rintro v118 A119 ⟨dq120, cjq120, dvq120, rfl, leq120, wfq120, frq120, hclq120, hc0q120, hc1q120⟩
     have h121 := leq120.get _ _ h111
     have h122 := leq120.get _ _ h112
     have h123 := leq120.get _ _ sb110.get
     have fr124 := fr113.le leq120
     have le125 := le114.trans leq120
     have fr126 := frq120.base le114
     have no127 := frq120.ne sb110.wf h111
     have no128 := frq120.ne sb110.wf h112
     have no129 := frq120.ne sb110.wf sb110.get
     have hcl := hclq120
     have hc0 := hc0q120
     have hc1 := hc1q120
     refine hk117 _ _ ?_
     refine Ops.q rfl (qmove rfl) ?_
     refine Ops.q rfl (qextract rfl rfl) ?_
     refine Ops.q rfl (qextract rfl rfl) ?_
     refine Ops.q rfl (qextract rfl rfl) ?_
     refine Ops.l rfl (fun _ _ hk130 _ => walloc wfq120 z36 rfl fun A132 b131 nb133 => ?_)
     have ne_b4_b131 := ne_new wfq120 h121 nb133.lo
     have ne_b55_b131 := ne_new wfq120 h122 nb133.lo
     have ne_b100_b131 := ne_new wfq120 h123 nb133.lo
     have no134 := fr124.own.ne_new wfq120 nb133.lo
     have no135 := fr126.own.ne_new wfq120 nb133.lo
     have ge_b131 := none_of wf (Nat.le_trans le125.n nb133.lo)
     have h136 := nb133.le.get _ _ h121
     have h137 := nb133.le.get _ _ h122
     have h138 := nb133.le.get _ _ h123
     have fr139 := fr124.le nb133.le
     have fr140 := fr126.le nb133.le
     have le141 := le125.trans nb133.le
     refine hk130 _ _ ?_
     obtain ⟨p143, l143, c143, q143, _⟩ := fr140.own.slice
     subst q143
     refine Ops.l rfl (fun _ _ hk142 _ => wstore (cs := [str ((rCyclic ((g)) l w).1), num (((rCyclic ((g)) l w).2.1 : Nat) : Int), .slice p143 l143 c143]) (c' := [str ((rCyclic ((g)) l w).1), num (((rCyclic ((g)) l w).2.1 : Nat) : Int), .slice p143 l143 c143]) nb133.wf rfl rfl rfl rfl sz36 nb133.get (Nat.le_of_ble_eq_true rfl) rfl rfl fun A144 sb145 => ?_)
     have h146 := sb145.keep _ _ ne_b4_b131 h136
     have h147 := sb145.keep _ _ ne_b55_b131 h137
     have h148 := sb145.keep _ _ ne_b100_b131 h138
     have fr149 := fr139.keep sb145.keep no134
     have fr150 := fr140.keep sb145.keep no135
     have le151 := le_store le141 wf ge_b131 sb145.n sb145.keep
     refine hk142 _ _ ?_
     refine Ops.q rfl (qassign rfl) ?_
     refine Ops.q rfl (qassign rfl) ?_
     refine Ops.nil ?_
     refine h116 _ _ ?_
     refine Run.seq fun K152 h153 => ?_
     refine Run.seq fun K154 h155 => ?_
     refine Run.region ?_
     refine Ops.q rfl (qmove rfl) ?_
     refine Ops.q rfl (qfieldAddr fl29_2 sz27 (by decide) rfl) ?_
     refine Ops.q rfl (qloadAt ag27 rfl rfl h148 rfl) ?_
     refine Ops.q rfl (((qneqN rfl rfl).trans (congrArg (fun z => some (Value.bool z, [])) (decide_eq_false (fun q => q rfl))))) ?_
     refine Ops.q rfl (qmove rfl) ?_
     refine Ops.on rfl rfl ?_
     refine Ops.q rfl (qfieldAddr fl36_0 sz9 (by decide) rfl) ?_
     refine Ops.on rfl rfl ?_
     refine Ops.q rfl (qloadAt ag9 rfl rfl sb145.get rfl) ?_
     refine Ops.on rfl rfl ?_
     refine Ops.q rfl (qfieldAddr fl29_0 sz9 (by decide) rfl) ?_
     refine Ops.on rfl rfl ?_
     refine Ops.q rfl (qloadAt ag9 rfl rfl h148 rfl) ?_
     refine Ops.on rfl rfl ?_
     refine Ops.q rfl (((qsneq rfl rfl).trans (congrArg (fun z => some (Value.bool z, [])) (decide_eq_false (fun q => q rfl))))) ?_
     refine Ops.q rfl (qpickF rfl rfl) ?_
     refine Ops.q rfl (qmove rfl) ?_
     refine Ops.on rfl rfl ?_
     refine Ops.q rfl (qfieldAddr fl36_1 sz3 (by decide) rfl) ?_
     refine Ops.on rfl rfl ?_
     refine Ops.q rfl (qloadAt ag3 rfl rfl sb145.get rfl) ?_
     refine Ops.on rfl rfl ?_
     refine Ops.q rfl (qfieldAddr fl29_1 sz3 (by decide) rfl) ?_
     refine Ops.on rfl rfl ?_
     refine Ops.q rfl (qloadAt ag3 rfl rfl h148 rfl) ?_
     refine Ops.on rfl rfl ?_
     refine Ops.q rfl (((qneqN rfl rfl).trans (congrArg (fun z => some (Value.bool z, [])) (decide_eq_false (fun q => q rfl))))) ?_
     refine Ops.q rfl (qpickF rfl rfl) ?_
     refine Ops.nil ?_
     refine h155 _ _ ?_
     refine Run.cond_false rfl ?_
     refine Run.skip ?_
     refine h153 _ _ ?_
     refine Run.seq fun K156 h157 => ?_
     refine Run.seq fun K158 h159 => ?_
     refine Run.region ?_
     refine Ops.q rfl (qmove rfl) ?_
     refine Ops.q rfl (qneqN (b := 0) rfl rfl) ?_
     refine Ops.nil ?_
     refine h159 _ _ ?_
     refine Run.if rfl (fun p160 => ?_) (fun p160 => ?_)
     ·
      refine Run.seq fun K161 h162 => ?_
      have hcc := hc0 ‹¬ (rCyclic (g) l w).2.2 = 0›
      refine Run.region ?_
      refine Ops.l rfl (fun _ _ hk163 _ => vcallF rfl (s_sane A144 (hL.le le151)) ?_)
      rintro v164 A165 ⟨rfl, leq166, wfq166⟩
      have h167 := leq166.get _ _ h146
      have h168 := leq166.get _ _ h147
      have h169 := leq166.get _ _ h148
      have h170 := leq166.get _ _ sb145.get
      have fr171 := fr149.le leq166
      have fr172 := fr150.le leq166
      have le173 := le151.trans leq166
      refine hk163 _ _ ?_
      refine Ops.q rfl (qmove rfl) ?_
      refine Ops.on rfl rfl ?_
      refine Ops.q rfl (qmove rfl) ?_
      refine Ops.on rfl rfl ?_
      refine Ops.q rfl (((qseql rfl rfl).trans (congrArg (fun z => some (Value.bool z, [])) (decide_eq_true hcc.1)))) ?_
      refine Ops.q rfl (qpickT rfl rfl) ?_
      refine Ops.q rfl (qmove rfl) ?_
      refine Ops.on rfl rfl ?_
      refine Ops.q rfl (qfieldAddr fl36_2 sz34 (by decide) rfl) ?_
      refine Ops.on rfl rfl ?_
      refine Ops.q rfl (qloadAt ag34 rfl rfl h170 rfl) ?_
      refine Ops.on rfl rfl ?_
      refine Ops.q rfl (qlenS (n := 0) u34 rfl fr172.slc (by omega) ((dcells_length _).trans (by rw [hcc.2]; rfl))) ?_
      refine Ops.on rfl rfl ?_
      refine Ops.q rfl (((qeqlN (a := 0) (b := 0) rfl rfl).trans (congrArg (fun z => some (Value.bool z, [])) (decide_eq_true rfl)))) ?_
      refine Ops.q rfl (qpickT rfl rfl) ?_
      refine Ops.q rfl (qassign rfl) ?_
      refine Ops.nil ?_
      refine h162 _ _ ?_
      refine Run.ret ?_
      repeat first | with_reducible refine thenQ_ret ?_ | with_reducible refine blockQ_ret ?_
      exact retQ rfl (⟨rfl, le173, wfq166⟩)
     ·
      refine Run.skip ?_
      refine h157 _ _ ?_
      refine Run.seq fun K174 h175 => ?_
      have hcc := hc1 (Decidable.not_not.1 ‹¬ ¬ (rCyclic (g) l w).2.2 = 0›)
      have hcb := hcc.2.2
      have hwi := wInverse_length (rCyclic (g) l w).1
      have hwj := wInverse_length cjq120
      refine Run.drawn [0, 1, 2, 4, 3, 5, 6, 7, 8, 9, 10, 11, 12, 13, 14, 15, 16, 17, 18, 19, 20, 21, 22, 23, 26, 24, 25, 27, 28, 29, 30, 31, 32] mixed (by kernel_rfl) (by kernel_rfl) rfl ?_
      refine DOps.l rfl rfl rfl (fun _ _ hk176 _ => vcallF rfl (s_sane A144 (hL.le le151)) ?_)
      rintro v177 A178 ⟨rfl, leq179, wfq179⟩
      have h180 := leq179.get _ _ h146
      have h181 := leq179.get _ _ h147
      have h182 := leq179.get _ _ h148
      have h183 := leq179.get _ _ sb145.get
      have fr184 := fr149.le leq179
      have fr185 := fr150.le leq179
      have le186 := le151.trans leq179
      refine hk176 _ _ (HeldNow.none (by kernel_rfl)) ?_
      refine DOps.q rfl rfl rfl (qmove rfl) ?_
      refine DOps.qOn rfl rfl rfl rfl rfl (qmove rfl) ?_
      refine DOps.qOn rfl rfl rfl rfl rfl (qmove rfl) ?_
      refine DOps.lOn rfl rfl rfl rfl rfl (fun _ _ hk187 _ => vcallF rfl (s_RReduce cjq120 A178 (by first | omega | (simp only [List.length_append]; omega))) ?_)
      rintro v188 A189 ⟨rfl, leq190, wfq190⟩
      have h191 := leq190.get _ _ h180
      have h192 := leq190.get _ _ h181
      have h193 := leq190.get _ _ h182
      have h194 := leq190.get _ _ h183
      have fr195 := fr184.le leq190
      have fr196 := fr185.le leq190
      have le197 := le186.trans leq190
      refine hk187 _ _ (HeldNow.none (by kernel_rfl)) ?_
      refine DOps.qOn rfl rfl rfl rfl rfl (((qseql rfl rfl).trans (congrArg (fun z => some (Value.bool z, [])) (decide_eq_true hcc.2.1)))) ?_
      refine DOps.q rfl rfl rfl (qpickT rfl rfl) ?_
      refine DOps.q rfl rfl rfl (qmove rfl) ?_
      refine DOps.qOn rfl rfl rfl rfl rfl (qfieldAddr fl36_2 sz34 (by decide) rfl) ?_
      have hc198 := cellOf (off := 2) h194 (show _ = some (.slice p143 l143 c143) from rfl)
      refine DOps.qOn rfl rfl rfl rfl rfl (qloadAt ag34 rfl rfl h194 rfl) ?_
      refine DOps.qOn rfl rfl rfl rfl rfl (qlenS (n := (rCyclic ((g)) l w).2.1) u34 rfl fr196.slc (by omega) ((dcells_length _).trans (by rw [hcl]))) ?_
      refine DOps.qOn rfl rfl rfl rfl rfl (qfieldAddr fl36_1 sz3 (by decide) rfl) ?_
      have hc199 := cellOf (off := 1) h194 (show _ = some (num (((rCyclic ((g)) l w).2.1 : Nat) : Int)) from rfl)
      refine DOps.qOn rfl rfl rfl rfl rfl (qloadAt ag3 rfl rfl h194 rfl) ?_
      refine DOps.qOn rfl rfl rfl rfl rfl (((qeqlN rfl rfl).trans (congrArg (fun z => some (Value.bool z, [])) (decide_eq_true rfl)))) ?_
      refine DOps.q rfl rfl rfl (qpickT rfl rfl) ?_
      refine DOps.q rfl rfl rfl (qmove rfl) ?_
      have hc200 := cellOf (off := 0) h191 (show _ = some (num (g)) from rfl)
      have hc201 := cellOf (off := 1) h191 (show _ = some (u) from rfl)
      refine DOps.qOn rfl rfl rfl rfl rfl (qloadAggAt ag24 sz24 rfl rfl h191 rfl) ?_
      refine DOps.qOn rfl rfl rfl rfl rfl (qfieldAddr fl36_2 sz34 (by decide) rfl) ?_
      have hc202 := cellOf (off := 2) h194 (show _ = some (.slice p143 l143 c143) from rfl)
      refine DOps.qOn rfl rfl rfl rfl rfl (qloadAt ag34 rfl rfl h194 rfl) ?_
      refine DOps.qOn rfl rfl rfl rfl rfl (qmove rfl) ?_
      refine DOps.qOn rfl rfl rfl rfl rfl (qmove rfl) ?_
      refine DOps.qOn rfl rfl rfl rfl rfl (qsadd rfl rfl (by (try simp only [List.length_append, List.length_drop, List.length_take]); omega)) ?_
      refine DOps.qOn rfl rfl rfl rfl rfl (qfieldAddr fl36_0 sz9 (by decide) rfl) ?_
      have hc203 := cellOf (off := 0) h194 (show _ = some (str ((rCyclic ((g)) l w).1)) from rfl)
      refine DOps.qOn rfl rfl rfl rfl rfl (qloadAt ag9 rfl rfl h194 rfl) ?_
      refine DOps.qOn rfl rfl rfl rfl rfl (qmove rfl) ?_
      refine DOps.lOn rfl rfl rfl rfl rfl (fun _ _ hk204 _ => vcallF rfl (s_RInverse ((rCyclic ((g)) l w).1) A189 (by first | omega | (simp only [List.length_append]; omega))) ?_)
      rintro v205 A206 ⟨rfl, leq207, wfq207⟩
      have h208 := leq207.get _ _ h191
      have h209 := leq207.get _ _ h192
      have h210 := leq207.get _ _ h193
      have h211 := leq207.get _ _ h194
      have fr212 := fr195.le leq207
      have fr213 := fr196.le leq207
      have hc214 := cell_le leq207 hc198
      have hc215 := cell_le leq207 hc199
      have hc216 := cell_le leq207 hc200
      have hc217 := cell_le leq207 hc201
      have hc218 := cell_le leq207 hc202
      have hc219 := cell_le leq207 hc203
      have le220 := le197.trans leq207
      refine hk204 _ _ (HeldNow.list (L := [(⟨b131, 2, none⟩, .slice p143 l143 c143), (⟨b4, 0, none⟩, num (g)), (⟨b4, 1, none⟩, u)]) (by kernel_rfl) (heldCons hc218 (heldCons hc216 (heldCons hc217 heldNil)))) ?_
      refine DOps.qOn rfl rfl rfl rfl rfl (qsadd rfl rfl (by (try simp only [List.length_append, List.length_drop, List.length_take]); omega)) ?_
      refine DOps.lOn rfl rfl rfl rfl rfl (fun _ _ hk221 _ => vcallF rfl (s_RInverse cjq120 A206 (by first | omega | (simp only [List.length_append]; omega))) ?_)
      rintro v222 A223 ⟨rfl, leq224, wfq224⟩
      have h225 := leq224.get _ _ h208
      have h226 := leq224.get _ _ h209
      have h227 := leq224.get _ _ h210
      have h228 := leq224.get _ _ h211
      have fr229 := fr212.le leq224
      have fr230 := fr213.le leq224
      have hc231 := cell_le leq224 hc216
      have hc232 := cell_le leq224 hc217
      have hc233 := cell_le leq224 hc218
      have le234 := le220.trans leq224
      refine hk221 _ _ (HeldNow.list (L := [(⟨b131, 2, none⟩, .slice p143 l143 c143), (⟨b4, 0, none⟩, num (g)), (⟨b4, 1, none⟩, u)]) (by kernel_rfl) (heldCons hc233 (heldCons hc231 (heldCons hc232 heldNil)))) ?_
      refine DOps.qOn rfl rfl rfl rfl rfl (qsadd rfl rfl (by (try simp only [List.length_append, List.length_drop, List.length_take]); omega)) ?_
      refine DOps.lOn rfl rfl rfl rfl rfl (fun _ _ hk235 _ => vcallF rfl (s_PvC (w := ((w ++ cjq120) ++ (wInverse ((rCyclic ((g)) l w).1))) ++ (wInverse cjq120)) hcc.1 (by omega) hsl.2.1 (by simp only [List.length_append]; omega) (by omega) (by omega) (hu.le le234) fr230.slc) ?_)
      rintro v236 A237 ⟨rfl, leq238, wfq238⟩
      have h239 := leq238.get _ _ h225
      have h240 := leq238.get _ _ h226
      have h241 := leq238.get _ _ h227
      have h242 := leq238.get _ _ h228
      have fr243 := fr229.le leq238
      have fr244 := fr230.le leq238
      have hc245 := cell_le leq238 hc231
      have hc246 := cell_le leq238 hc232
      have hc247 := cell_le leq238 hc233
      have le248 := le234.trans leq238
      refine hk235 _ _ (HeldNow.none (by kernel_rfl)) ?_
      refine DOps.qOn rfl rfl rfl rfl rfl (((qeqlN (a := 0) (b := 0) rfl rfl).trans (congrArg (fun z => some (Value.bool z, [])) (decide_eq_true rfl)))) ?_
      refine DOps.q rfl rfl rfl (qpickT rfl rfl) ?_
      refine DOps.q rfl rfl rfl (qassign rfl) ?_
      refine DOps.done ?_
      refine h175 _ _ ?_
      refine Run.ret ?_
      repeat first | with_reducible refine thenQ_ret ?_ | with_reducible refine blockQ_ret ?_
      exact retQ rfl (⟨rfl, le248, wfq238⟩)
  ·
   refine Ops.off rfl rfl rfl rfl ?_
   refine Ops.off rfl rfl rfl rfl ?_
   refine Ops.off rfl rfl rfl rfl ?_
   refine Ops.on rfl rfl ?_
   refine Ops.q rfl (qpickF rfl rfl) ?_
   refine Ops.q rfl (qpickF rfl rfl) ?_
   refine Ops.q rfl (qmove rfl) ?_
   refine Ops.on rfl rfl ?_
   refine Ops.q rfl (qmove rfl) ?_
   refine Ops.on rfl rfl ?_
   refine Ops.q rfl (qslen u9 rfl) ?_
   refine Ops.on rfl rfl ?_
   refine Ops.q rfl (qgtrN (b := 5100) rfl rfl) ?_
   refine Ops.q rfl (qpickF rfl rfl) ?_
   refine Ops.nil ?_
   refine h11 _ _ ?_
   refine Run.if rfl (fun p249 => ?_) (fun p249 => ?_)
   ·
    refine Run.seq fun K250 h251 => ?_
    refine Run.region ?_
    refine Ops.l rfl (fun _ _ hk252 _ => vcallF rfl (s_sane A14 (hL.le le17)) ?_)
    rintro v253 A254 ⟨rfl, leq255, wfq255⟩
    have h256 := leq255.get _ _ h16
    have le257 := le17.trans leq255
    refine hk252 _ _ ?_
    refine Ops.q rfl (qassign rfl) ?_
    refine Ops.nil ?_
    refine h251 _ _ ?_
    refine Run.ret ?_
    repeat first | with_reducible refine thenQ_ret ?_ | with_reducible refine blockQ_ret ?_
    exact retQ rfl (⟨rfl, le257, wfq255⟩)
   ·
    refine Run.skip ?_
    refine h9 _ _ ?_
    refine Run.seq fun K258 h259 => ?_
    have hsl := small_len (l := l) (ws := []) (by simpa using ‹(!small l []) = false›)
    have hl8 := hsl.1
    have hw5 := triv_len hb
    refine Run.region ?_
    refine Ops.q rfl (qloadAggAt ag24 sz24 rfl rfl h16 rfl) ?_
    refine Ops.q rfl (qmove rfl) ?_
    refine Ops.l rfl (fun _ _ hk260 _ => vcallF rfl (s_RTrB hb (by omega) (by omega) (hu.le le17)) ?_)
    rintro v261 A262 ⟨rfl, leq263, wfq263⟩
    have h264 := leq263.get _ _ h16
    have le265 := le17.trans leq263
    refine hk260 _ _ ?_
    refine Ops.l rfl (fun _ _ hk266 _ => walloc wfq263 z32 rfl fun A268 b267 nb269 => ?_)
    have ne_b4_b267 := ne_new wfq263 h264 nb269.lo
    have ge_b267 := none_of wf (Nat.le_trans le265.n nb269.lo)
    have h270 := nb269.le.get _ _ h264
    have le271 := le265.trans nb269.le
    refine hk266 _ _ ?_
    refine Ops.l rfl (fun _ _ hk272 _ => wstore (cs := [.bool (true), num (((rTrivial ((g)) l w).2 : Nat) : Int)]) (c' := [.bool (true), num (((rTrivial ((g)) l w).2 : Nat) : Int)]) nb269.wf rfl rfl rfl rfl sz32 nb269.get (Nat.le_of_ble_eq_true rfl) rfl rfl fun A273 sb274 => ?_)
    have h275 := sb274.keep _ _ ne_b4_b267 h270
    have le276 := le_store le271 wf ge_b267 sb274.n sb274.keep
    refine hk272 _ _ ?_
    refine Ops.nil ?_
    refine h259 _ _ ?_
    refine Run.seq fun K277 h278 => ?_
    refine Run.region ?_
    refine Ops.q rfl (qloadAggAt ag24 sz24 rfl rfl h275 rfl) ?_
    refine Ops.q rfl (qmove rfl) ?_
    refine Ops.l rfl (fun _ _ hk279 _ => vcallF rfl (s_TrT (g := (g)) (w := w) (by omega) (hL.le le276) (hu.le le276) hb (by omega)) ?_)
    rintro v280 A281 ⟨dq282, dvq282, rfl, leq282, wfq282, frq282, htpq282, htlq282, htcq282⟩
    have h283 := leq282.get _ _ h275
    have h284 := leq282.get _ _ sb274.get
    have le285 := le276.trans leq282
    have fr286 := frq282.base le276
    have no287 := frq282.ne sb274.wf h275
    have no288 := frq282.ne sb274.wf sb274.get
    have htp := htpq282
    have htl := htlq282
    have htc := htcq282
    refine hk279 _ _ ?_
    refine Ops.q rfl (qmove rfl) ?_
    refine Ops.q rfl (qextract rfl rfl) ?_
    refine Ops.q rfl (qextract rfl rfl) ?_
    refine Ops.q rfl (qextract rfl rfl) ?_
    refine Ops.q rfl (qassign rfl) ?_
    refine Ops.q rfl (qassign rfl) ?_
    refine Ops.q rfl (qassign rfl) ?_
    refine Ops.nil ?_
    refine h278 _ _ ?_
    refine Run.seq fun K289 h290 => ?_
    refine Run.seq fun K291 h292 => ?_
    refine Run.region ?_
    refine Ops.q rfl (qmove rfl) ?_
    refine Ops.q rfl (qfieldAddr fl32_1 sz27 (by decide) rfl) ?_
    refine Ops.q rfl (qloadAt ag27 rfl rfl h284 rfl) ?_
    refine Ops.q rfl (((qneqN rfl rfl).trans (congrArg (fun z => some (Value.bool z, [])) (decide_eq_false (fun q => q rfl))))) ?_
    refine Ops.q rfl (qmove rfl) ?_
    refine Ops.on rfl rfl ?_
    refine Ops.q rfl (qmove rfl) ?_
    refine Ops.on rfl rfl ?_
    refine Ops.q rfl (qfieldAddr fl32_0 sz4 (by decide) rfl) ?_
    refine Ops.on rfl rfl ?_
    refine Ops.q rfl (qloadAt ag4 rfl rfl h284 rfl) ?_
    refine Ops.on rfl rfl ?_
    refine Ops.q rfl (qbneq u4 rfl rfl) ?_
    refine Ops.q rfl (qpickF rfl rfl) ?_
    refine Ops.q rfl (qmove rfl) ?_
    refine Ops.on rfl rfl ?_
    refine Ops.q rfl (qmove rfl) ?_
    refine Ops.on rfl rfl ?_
    refine Ops.q rfl (qmove rfl) ?_
    refine Ops.on rfl rfl ?_
    refine Ops.q rfl (qloadAggAt ag24 sz24 rfl rfl h283 rfl) ?_
    refine Ops.on rfl rfl ?_
    refine Ops.q rfl (qmove rfl) ?_
    refine Ops.on rfl rfl ?_
    refine Ops.q rfl (qmove rfl) ?_
    refine Ops.on rfl rfl ?_
    refine Ops.l rfl (fun _ _ hk293 _ => vcallF rfl (s_PvC (w := w) htp (by omega) hsl.2.1 (by omega) (by omega) (by omega) (hu.le le285) fr286.slc) ?_)
    rintro v294 A295 ⟨rfl, leq296, wfq296⟩
    have h297 := leq296.get _ _ h283
    have h298 := leq296.get _ _ h284
    have fr299 := fr286.le leq296
    have le300 := le285.trans leq296
    refine hk293 _ _ ?_
    refine Ops.on rfl rfl ?_
    refine Ops.q rfl (((qneqN (a := 0) (b := 0) rfl rfl).trans (congrArg (fun z => some (Value.bool z, [])) (decide_eq_false (fun q => q rfl))))) ?_
    refine Ops.on rfl rfl ?_
    refine Ops.q rfl (qmove rfl) ?_
    refine Ops.on rfl rfl ?_
    refine Ops.q rfl (qmove rfl) ?_
    refine Ops.on rfl rfl ?_
    refine Ops.q rfl (qlenS (n := dq282.length) u34 rfl fr299.slc (by omega) (dcells_len _)) ?_
    refine Ops.on rfl rfl ?_
    refine Ops.q rfl (qmove rfl) ?_
    refine Ops.on rfl rfl ?_
    refine Ops.q rfl (qslen u9 rfl) ?_
    refine Ops.on rfl rfl ?_
    refine Ops.q rfl (((qgtrN rfl rfl).trans (congrArg (fun z => some (Value.bool z, [])) (decide_eq_false (by omega))))) ?_
    refine Ops.on rfl rfl ?_
    refine Ops.q rfl (qpickF rfl rfl) ?_
    refine Ops.on rfl rfl ?_
    refine Ops.q rfl (qpickT rfl rfl) ?_
    refine Ops.q rfl (qpickF rfl rfl) ?_
    refine Ops.q rfl (qmove rfl) ?_
    refine Ops.on rfl rfl ?_
    refine Ops.q rfl (qmove rfl) ?_
    refine Ops.on rfl rfl ?_
    refine Ops.q rfl (qnot rfl) ?_
    refine Ops.on rfl rfl ?_
    refine Ops.q rfl (qmove rfl) ?_
    refine Ops.off rfl rfl rfl rfl ?_
    refine Ops.off rfl rfl rfl rfl ?_
    refine Ops.off rfl rfl rfl rfl ?_
    refine Ops.on rfl rfl ?_
    refine Ops.q rfl (qpickF rfl rfl) ?_
    refine Ops.q rfl (qpickF rfl rfl) ?_
    refine Ops.nil ?_
    refine h292 _ _ ?_
    refine Run.cond_false rfl ?_
    refine Run.skip ?_
    refine h290 _ _ ?_
    refine Run.seq fun K301 h302 => ?_
    refine Run.region ?_
    refine Ops.q rfl (qloadAggAt ag24 sz24 rfl rfl h297 rfl) ?_
    refine Ops.q rfl (qmove rfl) ?_
    refine Ops.l rfl (fun _ _ hk303 _ => vcallF rfl (s_RCyc ((g)) u l w A295 (by omega) (by omega) (hu.le le300)) ?_)
    rintro v304 A305 ⟨rfl, leq306, wfq306⟩
    have h307 := leq306.get _ _ h297
    have h308 := leq306.get _ _ h298
    have fr309 := fr299.le leq306
    have le310 := le300.trans leq306
    refine hk303 _ _ ?_
    refine Ops.l rfl (fun _ _ hk311 _ => walloc wfq306 z29 rfl fun A313 b312 nb314 => ?_)
    have ne_b4_b312 := ne_new wfq306 h307 nb314.lo
    have ne_b267_b312 := ne_new wfq306 h308 nb314.lo
    have no315 := fr309.own.ne_new wfq306 nb314.lo
    have ge_b312 := none_of wf (Nat.le_trans le310.n nb314.lo)
    have h316 := nb314.le.get _ _ h307
    have h317 := nb314.le.get _ _ h308
    have fr318 := fr309.le nb314.le
    have le319 := le310.trans nb314.le
    refine hk311 _ _ ?_
    refine Ops.l rfl (fun _ _ hk320 _ => wstore (cs := [str ((rCyclic ((g)) l w).1), num (((rCyclic ((g)) l w).2.1 : Nat) : Int), num (((rCyclic ((g)) l w).2.2 : Nat) : Int)]) (c' := [str ((rCyclic ((g)) l w).1), num (((rCyclic ((g)) l w).2.1 : Nat) : Int), num (((rCyclic ((g)) l w).2.2 : Nat) : Int)]) nb314.wf rfl rfl rfl rfl sz29 nb314.get (Nat.le_of_ble_eq_true rfl) rfl rfl fun A321 sb322 => ?_)
    have h323 := sb322.keep _ _ ne_b4_b312 h316
    have h324 := sb322.keep _ _ ne_b267_b312 h317
    have fr325 := fr318.keep sb322.keep no315
    have le326 := le_store le319 wf ge_b312 sb322.n sb322.keep
    refine hk320 _ _ ?_
    refine Ops.nil ?_
    refine h302 _ _ ?_
    refine Run.seq fun K327 h328 => ?_
    refine Run.region ?_
    refine Ops.q rfl (qloadAggAt ag24 sz24 rfl rfl h323 rfl) ?_
    refine Ops.q rfl (qmove rfl) ?_
    refine Ops.l rfl (fun _ _ hk329 _ => vcallF rfl (s_Cy3 (g := (g)) (w := w) (by omega) (hL.le le326) (hu.le le326) (by omega) (by omega)) ?_)
    rintro v330 A331 ⟨dq332, cjq332, dvq332, rfl, leq332, wfq332, frq332, hclq332, hc0q332, hc1q332⟩
    have h333 := leq332.get _ _ h323
    have h334 := leq332.get _ _ h324
    have h335 := leq332.get _ _ sb322.get
    have fr336 := fr325.le leq332
    have le337 := le326.trans leq332
    have fr338 := frq332.base le326
    have no339 := frq332.ne sb322.wf h323
    have no340 := frq332.ne sb322.wf h324
    have no341 := frq332.ne sb322.wf sb322.get
    have hcl := hclq332
    have hc0 := hc0q332
    have hc1 := hc1q332
    refine hk329 _ _ ?_
    refine Ops.q rfl (qmove rfl) ?_
    refine Ops.q rfl (qextract rfl rfl) ?_
    refine Ops.q rfl (qextract rfl rfl) ?_
    refine Ops.q rfl (qextract rfl rfl) ?_
    refine Ops.l rfl (fun _ _ hk342 _ => walloc wfq332 z36 rfl fun A344 b343 nb345 => ?_)
    have ne_b4_b343 := ne_new wfq332 h333 nb345.lo
    have ne_b267_b343 := ne_new wfq332 h334 nb345.lo
    have ne_b312_b343 := ne_new wfq332 h335 nb345.lo
    have no346 := fr336.own.ne_new wfq332 nb345.lo
    have no347 := fr338.own.ne_new wfq332 nb345.lo
    have ge_b343 := none_of wf (Nat.le_trans le337.n nb345.lo)
    have h348 := nb345.le.get _ _ h333
    have h349 := nb345.le.get _ _ h334
    have h350 := nb345.le.get _ _ h335
    have fr351 := fr336.le nb345.le
    have fr352 := fr338.le nb345.le
    have le353 := le337.trans nb345.le
    refine hk342 _ _ ?_
    obtain ⟨p355, l355, c355, q355, _⟩ := fr352.own.slice
    subst q355
    refine Ops.l rfl (fun _ _ hk354 _ => wstore (cs := [str ((rCyclic ((g)) l w).1), num (((rCyclic ((g)) l w).2.1 : Nat) : Int), .slice p355 l355 c355]) (c' := [str ((rCyclic ((g)) l w).1), num (((rCyclic ((g)) l w).2.1 : Nat) : Int), .slice p355 l355 c355]) nb345.wf rfl rfl rfl rfl sz36 nb345.get (Nat.le_of_ble_eq_true rfl) rfl rfl fun A356 sb357 => ?_)
    have h358 := sb357.keep _ _ ne_b4_b343 h348
    have h359 := sb357.keep _ _ ne_b267_b343 h349
    have h360 := sb357.keep _ _ ne_b312_b343 h350
    have fr361 := fr351.keep sb357.keep no346
    have fr362 := fr352.keep sb357.keep no347
    have le363 := le_store le353 wf ge_b343 sb357.n sb357.keep
    refine hk354 _ _ ?_
    refine Ops.q rfl (qassign rfl) ?_
    refine Ops.q rfl (qassign rfl) ?_
    refine Ops.nil ?_
    refine h328 _ _ ?_
    refine Run.seq fun K364 h365 => ?_
    refine Run.seq fun K366 h367 => ?_
    refine Run.region ?_
    refine Ops.q rfl (qmove rfl) ?_
    refine Ops.q rfl (qfieldAddr fl29_2 sz27 (by decide) rfl) ?_
    refine Ops.q rfl (qloadAt ag27 rfl rfl h360 rfl) ?_
    refine Ops.q rfl (((qneqN rfl rfl).trans (congrArg (fun z => some (Value.bool z, [])) (decide_eq_false (fun q => q rfl))))) ?_
    refine Ops.q rfl (qmove rfl) ?_
    refine Ops.on rfl rfl ?_
    refine Ops.q rfl (qfieldAddr fl36_0 sz9 (by decide) rfl) ?_
    refine Ops.on rfl rfl ?_
    refine Ops.q rfl (qloadAt ag9 rfl rfl sb357.get rfl) ?_
    refine Ops.on rfl rfl ?_
    refine Ops.q rfl (qfieldAddr fl29_0 sz9 (by decide) rfl) ?_
    refine Ops.on rfl rfl ?_
    refine Ops.q rfl (qloadAt ag9 rfl rfl h360 rfl) ?_
    refine Ops.on rfl rfl ?_
    refine Ops.q rfl (((qsneq rfl rfl).trans (congrArg (fun z => some (Value.bool z, [])) (decide_eq_false (fun q => q rfl))))) ?_
    refine Ops.q rfl (qpickF rfl rfl) ?_
    refine Ops.q rfl (qmove rfl) ?_
    refine Ops.on rfl rfl ?_
    refine Ops.q rfl (qfieldAddr fl36_1 sz3 (by decide) rfl) ?_
    refine Ops.on rfl rfl ?_
    refine Ops.q rfl (qloadAt ag3 rfl rfl sb357.get rfl) ?_
    refine Ops.on rfl rfl ?_
    refine Ops.q rfl (qfieldAddr fl29_1 sz3 (by decide) rfl) ?_
    refine Ops.on rfl rfl ?_
    refine Ops.q rfl (qloadAt ag3 rfl rfl h360 rfl) ?_
    refine Ops.on rfl rfl ?_
    refine Ops.q rfl (((qneqN rfl rfl).trans (congrArg (fun z => some (Value.bool z, [])) (decide_eq_false (fun q => q rfl))))) ?_
    refine Ops.q rfl (qpickF rfl rfl) ?_
    refine Ops.nil ?_
    refine h367 _ _ ?_
    refine Run.cond_false rfl ?_
    refine Run.skip ?_
    refine h365 _ _ ?_
    refine Run.seq fun K368 h369 => ?_
    refine Run.seq fun K370 h371 => ?_
    refine Run.region ?_
    refine Ops.q rfl (qmove rfl) ?_
    refine Ops.q rfl (qneqN (b := 0) rfl rfl) ?_
    refine Ops.nil ?_
    refine h371 _ _ ?_
    refine Run.if rfl (fun p372 => ?_) (fun p372 => ?_)
    ·
     refine Run.seq fun K373 h374 => ?_
     have hcc := hc0 ‹¬ (rCyclic (g) l w).2.2 = 0›
     refine Run.region ?_
     refine Ops.l rfl (fun _ _ hk375 _ => vcallF rfl (s_sane A356 (hL.le le363)) ?_)
     rintro v376 A377 ⟨rfl, leq378, wfq378⟩
     have h379 := leq378.get _ _ h358
     have h380 := leq378.get _ _ h359
     have h381 := leq378.get _ _ h360
     have h382 := leq378.get _ _ sb357.get
     have fr383 := fr361.le leq378
     have fr384 := fr362.le leq378
     have le385 := le363.trans leq378
     refine hk375 _ _ ?_
     refine Ops.q rfl (qmove rfl) ?_
     refine Ops.on rfl rfl ?_
     refine Ops.q rfl (qmove rfl) ?_
     refine Ops.on rfl rfl ?_
     refine Ops.q rfl (((qseql rfl rfl).trans (congrArg (fun z => some (Value.bool z, [])) (decide_eq_true hcc.1)))) ?_
     refine Ops.q rfl (qpickT rfl rfl) ?_
     refine Ops.q rfl (qmove rfl) ?_
     refine Ops.on rfl rfl ?_
     refine Ops.q rfl (qfieldAddr fl36_2 sz34 (by decide) rfl) ?_
     refine Ops.on rfl rfl ?_
     refine Ops.q rfl (qloadAt ag34 rfl rfl h382 rfl) ?_
     refine Ops.on rfl rfl ?_
     refine Ops.q rfl (qlenS (n := 0) u34 rfl fr384.slc (by omega) ((dcells_length _).trans (by rw [hcc.2]; rfl))) ?_
     refine Ops.on rfl rfl ?_
     refine Ops.q rfl (((qeqlN (a := 0) (b := 0) rfl rfl).trans (congrArg (fun z => some (Value.bool z, [])) (decide_eq_true rfl)))) ?_
     refine Ops.q rfl (qpickT rfl rfl) ?_
     refine Ops.q rfl (qassign rfl) ?_
     refine Ops.nil ?_
     refine h374 _ _ ?_
     refine Run.ret ?_
     repeat first | with_reducible refine thenQ_ret ?_ | with_reducible refine blockQ_ret ?_
     exact retQ rfl (⟨rfl, le385, wfq378⟩)
    ·
     refine Run.skip ?_
     refine h369 _ _ ?_
     refine Run.seq fun K386 h387 => ?_
     have hcc := hc1 (Decidable.not_not.1 ‹¬ ¬ (rCyclic (g) l w).2.2 = 0›)
     have hcb := hcc.2.2
     have hwi := wInverse_length (rCyclic (g) l w).1
     have hwj := wInverse_length cjq332
     refine Run.drawn [0, 1, 2, 4, 3, 5, 6, 7, 8, 9, 10, 11, 12, 13, 14, 15, 16, 17, 18, 19, 20, 21, 22, 23, 26, 24, 25, 27, 28, 29, 30, 31, 32] mixed (by kernel_rfl) (by kernel_rfl) rfl ?_
     refine DOps.l rfl rfl rfl (fun _ _ hk388 _ => vcallF rfl (s_sane A356 (hL.le le363)) ?_)
     rintro v389 A390 ⟨rfl, leq391, wfq391⟩
     have h392 := leq391.get _ _ h358
     have h393 := leq391.get _ _ h359
     have h394 := leq391.get _ _ h360
     have h395 := leq391.get _ _ sb357.get
     have fr396 := fr361.le leq391
     have fr397 := fr362.le leq391
     have le398 := le363.trans leq391
     refine hk388 _ _ (HeldNow.none (by kernel_rfl)) ?_
     refine DOps.q rfl rfl rfl (qmove rfl) ?_
     refine DOps.qOn rfl rfl rfl rfl rfl (qmove rfl) ?_
     refine DOps.qOn rfl rfl rfl rfl rfl (qmove rfl) ?_
     refine DOps.lOn rfl rfl rfl rfl rfl (fun _ _ hk399 _ => vcallF rfl (s_RReduce cjq332 A390 (by first | omega | (simp only [List.length_append]; omega))) ?_)
     rintro v400 A401 ⟨rfl, leq402, wfq402⟩
     have h403 := leq402.get _ _ h392
     have h404 := leq402.get _ _ h393
     have h405 := leq402.get _ _ h394
     have h406 := leq402.get _ _ h395
     have fr407 := fr396.le leq402
     have fr408 := fr397.le leq402
     have le409 := le398.trans leq402
     refine hk399 _ _ (HeldNow.none (by kernel_rfl)) ?_
     refine DOps.qOn rfl rfl rfl rfl rfl (((qseql rfl rfl).trans (congrArg (fun z => some (Value.bool z, [])) (decide_eq_true hcc.2.1)))) ?_
     refine DOps.q rfl rfl rfl (qpickT rfl rfl) ?_
     refine DOps.q rfl rfl rfl (qmove rfl) ?_
     refine DOps.qOn rfl rfl rfl rfl rfl (qfieldAddr fl36_2 sz34 (by decide) rfl) ?_
     have hc410 := cellOf (off := 2) h406 (show _ = some (.slice p355 l355 c355) from rfl)
     refine DOps.qOn rfl rfl rfl rfl rfl (qloadAt ag34 rfl rfl h406 rfl) ?_
     refine DOps.qOn rfl rfl rfl rfl rfl (qlenS (n := (rCyclic ((g)) l w).2.1) u34 rfl fr408.slc (by omega) ((dcells_length _).trans (by rw [hcl]))) ?_
     refine DOps.qOn rfl rfl rfl rfl rfl (qfieldAddr fl36_1 sz3 (by decide) rfl) ?_
     have hc411 := cellOf (off := 1) h406 (show _ = some (num (((rCyclic ((g)) l w).2.1 : Nat) : Int)) from rfl)
     refine DOps.qOn rfl rfl rfl rfl rfl (qloadAt ag3 rfl rfl h406 rfl) ?_
     refine DOps.qOn rfl rfl rfl rfl rfl (((qeqlN rfl rfl).trans (congrArg (fun z => some (Value.bool z, [])) (decide_eq_true rfl)))) ?_
     refine DOps.q rfl rfl rfl (qpickT rfl rfl) ?_
     refine DOps.q rfl rfl rfl (qmove rfl) ?_
     have hc412 := cellOf (off := 0) h403 (show _ = some (num (g)) from rfl)
     have hc413 := cellOf (off := 1) h403 (show _ = some (u) from rfl)
     refine DOps.qOn rfl rfl rfl rfl rfl (qloadAggAt ag24 sz24 rfl rfl h403 rfl) ?_
     refine DOps.qOn rfl rfl rfl rfl rfl (qfieldAddr fl36_2 sz34 (by decide) rfl) ?_
     have hc414 := cellOf (off := 2) h406 (show _ = some (.slice p355 l355 c355) from rfl)
     refine DOps.qOn rfl rfl rfl rfl rfl (qloadAt ag34 rfl rfl h406 rfl) ?_
     refine DOps.qOn rfl rfl rfl rfl rfl (qmove rfl) ?_
     refine DOps.qOn rfl rfl rfl rfl rfl (qmove rfl) ?_
     refine DOps.qOn rfl rfl rfl rfl rfl (qsadd rfl rfl (by (try simp only [List.length_append, List.length_drop, List.length_take]); omega)) ?_
     refine DOps.qOn rfl rfl rfl rfl rfl (qfieldAddr fl36_0 sz9 (by decide) rfl) ?_
     have hc415 := cellOf (off := 0) h406 (show _ = some (str ((rCyclic ((g)) l w).1)) from rfl)
     refine DOps.qOn rfl rfl rfl rfl rfl (qloadAt ag9 rfl rfl h406 rfl) ?_
     refine DOps.qOn rfl rfl rfl rfl rfl (qmove rfl) ?_
     refine DOps.lOn rfl rfl rfl rfl rfl (fun _ _ hk416 _ => vcallF rfl (s_RInverse ((rCyclic ((g)) l w).1) A401 (by first | omega | (simp only [List.length_append]; omega))) ?_)
     rintro v417 A418 ⟨rfl, leq419, wfq419⟩
     have h420 := leq419.get _ _ h403
     have h421 := leq419.get _ _ h404
     have h422 := leq419.get _ _ h405
     have h423 := leq419.get _ _ h406
     have fr424 := fr407.le leq419
     have fr425 := fr408.le leq419
     have hc426 := cell_le leq419 hc410
     have hc427 := cell_le leq419 hc411
     have hc428 := cell_le leq419 hc412
     have hc429 := cell_le leq419 hc413
     have hc430 := cell_le leq419 hc414
     have hc431 := cell_le leq419 hc415
     have le432 := le409.trans leq419
     refine hk416 _ _ (HeldNow.list (L := [(⟨b343, 2, none⟩, .slice p355 l355 c355), (⟨b4, 0, none⟩, num (g)), (⟨b4, 1, none⟩, u)]) (by kernel_rfl) (heldCons hc430 (heldCons hc428 (heldCons hc429 heldNil)))) ?_
     refine DOps.qOn rfl rfl rfl rfl rfl (qsadd rfl rfl (by (try simp only [List.length_append, List.length_drop, List.length_take]); omega)) ?_
     refine DOps.lOn rfl rfl rfl rfl rfl (fun _ _ hk433 _ => vcallF rfl (s_RInverse cjq332 A418 (by first | omega | (simp only [List.length_append]; omega))) ?_)
     rintro v434 A435 ⟨rfl, leq436, wfq436⟩
     have h437 := leq436.get _ _ h420
     have h438 := leq436.get _ _ h421
     have h439 := leq436.get _ _ h422
     have h440 := leq436.get _ _ h423
     have fr441 := fr424.le leq436
     have fr442 := fr425.le leq436
     have hc443 := cell_le leq436 hc428
     have hc444 := cell_le leq436 hc429
     have hc445 := cell_le leq436 hc430
     have le446 := le432.trans leq436
     refine hk433 _ _ (HeldNow.list (L := [(⟨b343, 2, none⟩, .slice p355 l355 c355), (⟨b4, 0, none⟩, num (g)), (⟨b4, 1, none⟩, u)]) (by kernel_rfl) (heldCons hc445 (heldCons hc443 (heldCons hc444 heldNil)))) ?_
     refine DOps.qOn rfl rfl rfl rfl rfl (qsadd rfl rfl (by (try simp only [List.length_append, List.length_drop, List.length_take]); omega)) ?_
     refine DOps.lOn rfl rfl rfl rfl rfl (fun _ _ hk447 _ => vcallF rfl (s_PvC (w := ((w ++ cjq332) ++ (wInverse ((rCyclic ((g)) l w).1))) ++ (wInverse cjq332)) hcc.1 (by omega) hsl.2.1 (by simp only [List.length_append]; omega) (by omega) (by omega) (hu.le le446) fr442.slc) ?_)
     rintro v448 A449 ⟨rfl, leq450, wfq450⟩
     have h451 := leq450.get _ _ h437
     have h452 := leq450.get _ _ h438
     have h453 := leq450.get _ _ h439
     have h454 := leq450.get _ _ h440
     have fr455 := fr441.le leq450
     have fr456 := fr442.le leq450
     have hc457 := cell_le leq450 hc443
     have hc458 := cell_le leq450 hc444
     have hc459 := cell_le leq450 hc445
     have le460 := le446.trans leq450
     refine hk447 _ _ (HeldNow.none (by kernel_rfl)) ?_
     refine DOps.qOn rfl rfl rfl rfl rfl (((qeqlN (a := 0) (b := 0) rfl rfl).trans (congrArg (fun z => some (Value.bool z, [])) (decide_eq_true rfl)))) ?_
     refine DOps.q rfl rfl rfl (qpickT rfl rfl) ?_
     refine DOps.q rfl rfl rfl (qassign rfl) ?_
     refine DOps.done ?_
     refine h387 _ _ ?_
     refine Run.ret ?_
     repeat first | with_reducible refine thenQ_ret ?_ | with_reducible refine blockQ_ret ?_
     exact retQ rfl (⟨rfl, le460, wfq450⟩)

theorem s_DecF (g : Int) (u : Value) (l : List (List UInt8)) (w : List UInt8) (A : AH) (hn : l.length ≤ 9223372036854775807) (hL : Lets A) (hu : Slc A 1 u (strs l)) (hb : (rTrivial g l w).1 = false) : RetA Tryz.prog 4 #[.agg #[num (g), u], str (w)] A (fun v A1 => v = .bool true ∧ A.le A1 ∧ A1.wf) := by
 refine enterA (e := [(0, .agg #[num (g), u]), (1, str (w))]) (args := [.agg #[num (g), u], str (w)]) Tryz.call4 Tryz.func4 rfl Tryz.results4 Tryz.ntmps4 rfl rfl rfl (fun wf => ?_)
 have le_ := AH.le.refl A
 refine Run.seq fun K1 h2 => ?_
 refine Run.region ?_
 refine Ops.l rfl (fun _ _ hk3 _ => wbox wf rfl rfl fun A5 b4 nb6 => ?_)
 have ge_b4 := none_of wf (Nat.le_trans le_.n nb6.lo)
 have le7 := le_.trans nb6.le
 refine hk3 _ _ ?_
 refine Ops.q rfl (qassign rfl) ?_
 refine Ops.nil ?_
 refine h2 _ _ ?_
 refine Run.seq fun K8 h9 => ?_
 refine Run.seq fun K10 h11 => ?_
 refine Run.region ?_
 refine Ops.q rfl (qloadAggAt ag24 sz24 rfl rfl nb6.get rfl) ?_
 refine Ops.l rfl (fun _ _ hk12 _ => vcallF rfl (s_small ((g)) u l (.slice none 0 0) ([]) A5 (by omega) (by first | omega | simp) (hu.le le7) (Fresh.nil A A5 1).slc) ?_)
 rintro v13 A14 ⟨rfl, leq15, wfq15⟩
 have h16 := leq15.get _ _ nb6.get
 have le17 := le7.trans leq15
 refine hk12 _ _ ?_
 refine Ops.q rfl (qnot rfl) ?_
 refine Ops.q rfl (qmove rfl) ?_
 refine Ops.partB (t := 16) rfl (fun p18 => ?_) (fun p18 => ?_)
 ·
  refine Ops.off rfl rfl rfl rfl ?_
  refine Ops.off rfl rfl rfl rfl ?_
  refine Ops.off rfl rfl rfl rfl ?_
  refine Ops.off rfl rfl rfl rfl ?_
  refine Ops.und rfl rfl rfl ?_
  refine Ops.und rfl rfl rfl ?_
  refine Ops.und rfl rfl rfl ?_
  refine Ops.off rfl rfl rfl rfl ?_
  refine Ops.q rfl (qpickT rfl rfl) ?_
  refine Ops.q rfl (qmove rfl) ?_
  refine Ops.off rfl rfl rfl rfl ?_
  refine Ops.off rfl rfl rfl rfl ?_
  refine Ops.off rfl rfl rfl rfl ?_
  refine Ops.q rfl (qpickT rfl rfl) ?_
  refine Ops.nil ?_
  refine h11 _ _ ?_
  refine Run.cond_true rfl ?_
  refine Run.seq fun K19 h20 => ?_
  refine Run.region ?_
  refine Ops.l rfl (fun _ _ hk21 _ => vcallF rfl (s_sane A14 (hL.le le17)) ?_)
  rintro v22 A23 ⟨rfl, leq24, wfq24⟩
  have h25 := leq24.get _ _ h16
  have le26 := le17.trans leq24
  refine hk21 _ _ ?_
  refine Ops.q rfl (qassign rfl) ?_
  refine Ops.nil ?_
  refine h20 _ _ ?_
  refine Run.ret ?_
  repeat first | with_reducible refine thenQ_ret ?_ | with_reducible refine blockQ_ret ?_
  exact retQ rfl (⟨rfl, le26, wfq24⟩)
 ·
  refine Ops.on rfl rfl ?_
  refine Ops.q rfl (qmove rfl) ?_
  refine Ops.on rfl rfl ?_
  refine Ops.q rfl (qslen u9 rfl) ?_
  refine Ops.on rfl rfl ?_
  refine Ops.q rfl (qgtrN (b := 60) rfl rfl) ?_
  refine Ops.on rfl rfl ?_
  refine Ops.q rfl (qmove rfl) ?_
  refine Ops.part (t := 20) rfl (fun p27 => ?_) (fun p27 => ?_)
  ·
   refine Ops.on rfl rfl ?_
   refine Ops.q rfl (qmove rfl) ?_
   refine Ops.on rfl rfl ?_
   refine Ops.q rfl (qslen u9 rfl) ?_
   refine Ops.on rfl rfl ?_
   refine Ops.q rfl (qleqN (b := 5000) rfl rfl) ?_
   refine Ops.on rfl rfl ?_
   refine Ops.q rfl (qpickT rfl rfl) ?_
   refine Ops.q rfl (qpickF rfl rfl) ?_
   refine Ops.q rfl (qmove rfl) ?_
   refine Ops.part (t := 26) rfl (fun p28 => ?_) (fun p28 => ?_)
   ·
    refine Ops.off rfl rfl rfl rfl ?_
    refine Ops.off rfl rfl rfl rfl ?_
    refine Ops.off rfl rfl rfl rfl ?_
    refine Ops.q rfl (qpickT rfl rfl) ?_
    refine Ops.nil ?_
    refine h11 _ _ ?_
    refine Run.cond_true rfl ?_
    refine Run.seq fun K29 h30 => ?_
    refine Run.region ?_
    refine Ops.l rfl (fun _ _ hk31 _ => vcallF rfl (s_sane A14 (hL.le le17)) ?_)
    rintro v32 A33 ⟨rfl, leq34, wfq34⟩
    have h35 := leq34.get _ _ h16
    have le36 := le17.trans leq34
    refine hk31 _ _ ?_
    refine Ops.q rfl (qassign rfl) ?_
    refine Ops.nil ?_
    refine h30 _ _ ?_
    refine Run.ret ?_
    repeat first | with_reducible refine thenQ_ret ?_ | with_reducible refine blockQ_ret ?_
    exact retQ rfl (⟨rfl, le36, wfq34⟩)
   ·
    refine Ops.on rfl rfl ?_
    refine Ops.q rfl (qmove rfl) ?_
    refine Ops.on rfl rfl ?_
    refine Ops.q rfl (qslen u9 rfl) ?_
    refine Ops.on rfl rfl ?_
    refine Ops.q rfl (qgtrN (b := 5100) rfl rfl) ?_
    refine Ops.q rfl (qpickF rfl rfl) ?_
    refine Ops.nil ?_
    refine h11 _ _ ?_
    refine Run.if rfl (fun p37 => ?_) (fun p37 => ?_)
    ·
     refine Run.seq fun K38 h39 => ?_
     refine Run.region ?_
     refine Ops.l rfl (fun _ _ hk40 _ => vcallF rfl (s_sane A14 (hL.le le17)) ?_)
     rintro v41 A42 ⟨rfl, leq43, wfq43⟩
     have h44 := leq43.get _ _ h16
     have le45 := le17.trans leq43
     refine hk40 _ _ ?_
     refine Ops.q rfl (qassign rfl) ?_
     refine Ops.nil ?_
     refine h39 _ _ ?_
     refine Run.ret ?_
     repeat first | with_reducible refine thenQ_ret ?_ | with_reducible refine blockQ_ret ?_
     exact retQ rfl (⟨rfl, le45, wfq43⟩)
    ·
     refine Run.skip ?_
     refine h9 _ _ ?_
     refine Run.seq fun K46 h47 => ?_
     have hsl := small_len (l := l) (ws := []) (by simpa using ‹(!small l []) = false›)
     have hl8 := hsl.1
     refine Run.region ?_
     refine Ops.q rfl (qloadAggAt ag24 sz24 rfl rfl h16 rfl) ?_
     refine Ops.q rfl (qmove rfl) ?_
     refine Ops.l rfl (fun _ _ hk48 _ => vcallF rfl (s_RTrB hb (by omega) (by omega) (hu.le le17)) ?_)
     rintro v49 A50 ⟨rfl, leq51, wfq51⟩
     have h52 := leq51.get _ _ h16
     have le53 := le17.trans leq51
     refine hk48 _ _ ?_
     refine Ops.l rfl (fun _ _ hk54 _ => walloc wfq51 z32 rfl fun A56 b55 nb57 => ?_)
     have ne_b4_b55 := ne_new wfq51 h52 nb57.lo
     have ge_b55 := none_of wf (Nat.le_trans le53.n nb57.lo)
     have h58 := nb57.le.get _ _ h52
     have le59 := le53.trans nb57.le
     refine hk54 _ _ ?_
     refine Ops.l rfl (fun _ _ hk60 _ => wstore (cs := [.bool (false), num (((rTrivial ((g)) l w).2 : Nat) : Int)]) (c' := [.bool (false), num (((rTrivial ((g)) l w).2 : Nat) : Int)]) nb57.wf rfl rfl rfl rfl sz32 nb57.get (Nat.le_of_ble_eq_true rfl) rfl rfl fun A61 sb62 => ?_)
     have h63 := sb62.keep _ _ ne_b4_b55 h58
     have le64 := le_store le59 wf ge_b55 sb62.n sb62.keep
     refine hk60 _ _ ?_
     refine Ops.nil ?_
     refine h47 _ _ ?_
     refine Run.seq fun K65 h66 => ?_
     refine Run.region ?_
     refine Ops.q rfl (qloadAggAt ag24 sz24 rfl rfl h63 rfl) ?_
     refine Ops.q rfl (qmove rfl) ?_
     refine Ops.l rfl (fun _ _ hk67 _ => vcallF rfl (s_TrF (g := (g)) (w := w) (by omega) (hL.le le64) (hu.le le64) hb (by omega) (by omega)) ?_)
     rintro v68 A69 ⟨dvq70, rfl, leq70, wfq70, frq70⟩
     have h71 := leq70.get _ _ h63
     have h72 := leq70.get _ _ sb62.get
     have le73 := le64.trans leq70
     have fr74 := frq70.base le64
     have no75 := frq70.ne sb62.wf h63
     have no76 := frq70.ne sb62.wf sb62.get
     refine hk67 _ _ ?_
     refine Ops.q rfl (qmove rfl) ?_
     refine Ops.q rfl (qextract rfl rfl) ?_
     refine Ops.q rfl (qextract rfl rfl) ?_
     refine Ops.q rfl (qextract rfl rfl) ?_
     refine Ops.q rfl (qassign rfl) ?_
     refine Ops.q rfl (qassign rfl) ?_
     refine Ops.q rfl (qassign rfl) ?_
     refine Ops.nil ?_
     refine h66 _ _ ?_
     refine Run.seq fun K77 h78 => ?_
     refine Run.seq fun K79 h80 => ?_
     refine Run.region ?_
     refine Ops.q rfl (qmove rfl) ?_
     refine Ops.q rfl (qfieldAddr fl32_1 sz27 (by decide) rfl) ?_
     refine Ops.q rfl (qloadAt ag27 rfl rfl h72 rfl) ?_
     refine Ops.q rfl (((qneqN rfl rfl).trans (congrArg (fun z => some (Value.bool z, [])) (decide_eq_false (fun q => q rfl))))) ?_
     refine Ops.q rfl (qmove rfl) ?_
     refine Ops.on rfl rfl ?_
     refine Ops.q rfl (qmove rfl) ?_
     refine Ops.on rfl rfl ?_
     refine Ops.q rfl (qfieldAddr fl32_0 sz4 (by decide) rfl) ?_
     refine Ops.on rfl rfl ?_
     refine Ops.q rfl (qloadAt ag4 rfl rfl h72 rfl) ?_
     refine Ops.on rfl rfl ?_
     refine Ops.q rfl (qbneq u4 rfl rfl) ?_
     refine Ops.q rfl (qpickF rfl rfl) ?_
     refine Ops.q rfl (qmove rfl) ?_
     refine Ops.on rfl rfl ?_
     refine Ops.q rfl (qmove rfl) ?_
     refine Ops.on rfl rfl ?_
     refine Ops.q rfl (qmove rfl) ?_
     refine Ops.off rfl rfl rfl rfl ?_
     refine Ops.off rfl rfl rfl rfl ?_
     refine Ops.off rfl rfl rfl rfl ?_
     refine Ops.off rfl rfl rfl rfl ?_
     refine Ops.off rfl rfl rfl rfl ?_
     refine Ops.off rfl rfl rfl rfl ?_
     refine Ops.und rfl rfl rfl ?_
     refine Ops.und rfl rfl rfl ?_
     refine Ops.und rfl rfl rfl ?_
     refine Ops.und rfl rfl rfl ?_
     refine Ops.und rfl rfl rfl ?_
     refine Ops.off rfl rfl rfl rfl ?_
     refine Ops.on rfl rfl ?_
     refine Ops.q rfl (qpickF rfl rfl) ?_
     refine Ops.q rfl (qpickF rfl rfl) ?_
     refine Ops.q rfl (qmove rfl) ?_
     refine Ops.on rfl rfl ?_
     refine Ops.q rfl (qmove rfl) ?_
     refine Ops.on rfl rfl ?_
     refine Ops.q rfl (qnot rfl) ?_
     refine Ops.on rfl rfl ?_
     refine Ops.q rfl (qmove rfl) ?_
     refine Ops.on rfl rfl ?_
     refine Ops.q rfl (qmove rfl) ?_
     refine Ops.on rfl rfl ?_
     refine Ops.q rfl (qlenS (n := 0) u34 rfl fr74.slc (by omega) rfl) ?_
     refine Ops.on rfl rfl ?_
     refine Ops.q rfl (((qgtrN (a := 0) (b := 0) rfl rfl).trans (congrArg (fun z => some (Value.bool z, [])) (decide_eq_false (by decide))))) ?_
     refine Ops.on rfl rfl ?_
     refine Ops.q rfl (qpickT rfl rfl) ?_
     refine Ops.q rfl (qpickF rfl rfl) ?_
     refine Ops.nil ?_
     refine h80 _ _ ?_
     refine Run.cond_false rfl ?_
     refine Run.skip ?_
     refine h78 _ _ ?_
     refine Run.seq fun K81 h82 => ?_
     refine Run.region ?_
     refine Ops.q rfl (qloadAggAt ag24 sz24 rfl rfl h71 rfl) ?_
     refine Ops.q rfl (qmove rfl) ?_
     refine Ops.l rfl (fun _ _ hk83 _ => vcallF rfl (s_RCyc ((g)) u l w A69 (by omega) (by omega) (hu.le le73)) ?_)
     rintro v84 A85 ⟨rfl, leq86, wfq86⟩
     have h87 := leq86.get _ _ h71
     have h88 := leq86.get _ _ h72
     have fr89 := fr74.le leq86
     have le90 := le73.trans leq86
     refine hk83 _ _ ?_
     refine Ops.l rfl (fun _ _ hk91 _ => walloc wfq86 z29 rfl fun A93 b92 nb94 => ?_)
     have ne_b4_b92 := ne_new wfq86 h87 nb94.lo
     have ne_b55_b92 := ne_new wfq86 h88 nb94.lo
     have no95 := fr89.own.ne_new wfq86 nb94.lo
     have ge_b92 := none_of wf (Nat.le_trans le90.n nb94.lo)
     have h96 := nb94.le.get _ _ h87
     have h97 := nb94.le.get _ _ h88
     have fr98 := fr89.le nb94.le
     have le99 := le90.trans nb94.le
     refine hk91 _ _ ?_
     refine Ops.l rfl (fun _ _ hk100 _ => wstore (cs := [str ((rCyclic ((g)) l w).1), num (((rCyclic ((g)) l w).2.1 : Nat) : Int), num (((rCyclic ((g)) l w).2.2 : Nat) : Int)]) (c' := [str ((rCyclic ((g)) l w).1), num (((rCyclic ((g)) l w).2.1 : Nat) : Int), num (((rCyclic ((g)) l w).2.2 : Nat) : Int)]) nb94.wf rfl rfl rfl rfl sz29 nb94.get (Nat.le_of_ble_eq_true rfl) rfl rfl fun A101 sb102 => ?_)
     have h103 := sb102.keep _ _ ne_b4_b92 h96
     have h104 := sb102.keep _ _ ne_b55_b92 h97
     have fr105 := fr98.keep sb102.keep no95
     have le106 := le_store le99 wf ge_b92 sb102.n sb102.keep
     refine hk100 _ _ ?_
     refine Ops.nil ?_
     refine h82 _ _ ?_
     refine Run.seq fun K107 h108 => ?_
     refine Run.region ?_
     refine Ops.q rfl (qloadAggAt ag24 sz24 rfl rfl h103 rfl) ?_
     refine Ops.q rfl (qmove rfl) ?_
     refine Ops.l rfl (fun _ _ hk109 _ => vcallF rfl (s_Cy3 (g := (g)) (w := w) (by omega) (hL.le le106) (hu.le le106) (by omega) (by omega)) ?_)
     rintro v110 A111 ⟨dq112, cjq112, dvq112, rfl, leq112, wfq112, frq112, hclq112, hc0q112, hc1q112⟩
     have h113 := leq112.get _ _ h103
     have h114 := leq112.get _ _ h104
     have h115 := leq112.get _ _ sb102.get
     have fr116 := fr105.le leq112
     have le117 := le106.trans leq112
     have fr118 := frq112.base le106
     have no119 := frq112.ne sb102.wf h103
     have no120 := frq112.ne sb102.wf h104
     have no121 := frq112.ne sb102.wf sb102.get
     have hcl := hclq112
     have hc0 := hc0q112
     have hc1 := hc1q112
     refine hk109 _ _ ?_
     refine Ops.q rfl (qmove rfl) ?_
     refine Ops.q rfl (qextract rfl rfl) ?_
     refine Ops.q rfl (qextract rfl rfl) ?_
     refine Ops.q rfl (qextract rfl rfl) ?_
     refine Ops.l rfl (fun _ _ hk122 _ => walloc wfq112 z36 rfl fun A124 b123 nb125 => ?_)
     have ne_b4_b123 := ne_new wfq112 h113 nb125.lo
     have ne_b55_b123 := ne_new wfq112 h114 nb125.lo
     have ne_b92_b123 := ne_new wfq112 h115 nb125.lo
     have no126 := fr116.own.ne_new wfq112 nb125.lo
     have no127 := fr118.own.ne_new wfq112 nb125.lo
     have ge_b123 := none_of wf (Nat.le_trans le117.n nb125.lo)
     have h128 := nb125.le.get _ _ h113
     have h129 := nb125.le.get _ _ h114
     have h130 := nb125.le.get _ _ h115
     have fr131 := fr116.le nb125.le
     have fr132 := fr118.le nb125.le
     have le133 := le117.trans nb125.le
     refine hk122 _ _ ?_
     obtain ⟨p135, l135, c135, q135, _⟩ := fr132.own.slice
     subst q135
     refine Ops.l rfl (fun _ _ hk134 _ => wstore (cs := [str ((rCyclic ((g)) l w).1), num (((rCyclic ((g)) l w).2.1 : Nat) : Int), .slice p135 l135 c135]) (c' := [str ((rCyclic ((g)) l w).1), num (((rCyclic ((g)) l w).2.1 : Nat) : Int), .slice p135 l135 c135]) nb125.wf rfl rfl rfl rfl sz36 nb125.get (Nat.le_of_ble_eq_true rfl) rfl rfl fun A136 sb137 => ?_)
     have h138 := sb137.keep _ _ ne_b4_b123 h128
     have h139 := sb137.keep _ _ ne_b55_b123 h129
     have h140 := sb137.keep _ _ ne_b92_b123 h130
     have fr141 := fr131.keep sb137.keep no126
     have fr142 := fr132.keep sb137.keep no127
     have le143 := le_store le133 wf ge_b123 sb137.n sb137.keep
     refine hk134 _ _ ?_
     refine Ops.q rfl (qassign rfl) ?_
     refine Ops.q rfl (qassign rfl) ?_
     refine Ops.nil ?_
     refine h108 _ _ ?_
     refine Run.seq fun K144 h145 => ?_
     refine Run.seq fun K146 h147 => ?_
     refine Run.region ?_
     refine Ops.q rfl (qmove rfl) ?_
     refine Ops.q rfl (qfieldAddr fl29_2 sz27 (by decide) rfl) ?_
     refine Ops.q rfl (qloadAt ag27 rfl rfl h140 rfl) ?_
     refine Ops.q rfl (((qneqN rfl rfl).trans (congrArg (fun z => some (Value.bool z, [])) (decide_eq_false (fun q => q rfl))))) ?_
     refine Ops.q rfl (qmove rfl) ?_
     refine Ops.on rfl rfl ?_
     refine Ops.q rfl (qfieldAddr fl36_0 sz9 (by decide) rfl) ?_
     refine Ops.on rfl rfl ?_
     refine Ops.q rfl (qloadAt ag9 rfl rfl sb137.get rfl) ?_
     refine Ops.on rfl rfl ?_
     refine Ops.q rfl (qfieldAddr fl29_0 sz9 (by decide) rfl) ?_
     refine Ops.on rfl rfl ?_
     refine Ops.q rfl (qloadAt ag9 rfl rfl h140 rfl) ?_
     refine Ops.on rfl rfl ?_
     refine Ops.q rfl (((qsneq rfl rfl).trans (congrArg (fun z => some (Value.bool z, [])) (decide_eq_false (fun q => q rfl))))) ?_
     refine Ops.q rfl (qpickF rfl rfl) ?_
     refine Ops.q rfl (qmove rfl) ?_
     refine Ops.on rfl rfl ?_
     refine Ops.q rfl (qfieldAddr fl36_1 sz3 (by decide) rfl) ?_
     refine Ops.on rfl rfl ?_
     refine Ops.q rfl (qloadAt ag3 rfl rfl sb137.get rfl) ?_
     refine Ops.on rfl rfl ?_
     refine Ops.q rfl (qfieldAddr fl29_1 sz3 (by decide) rfl) ?_
     refine Ops.on rfl rfl ?_
     refine Ops.q rfl (qloadAt ag3 rfl rfl h140 rfl) ?_
     refine Ops.on rfl rfl ?_
     refine Ops.q rfl (((qneqN rfl rfl).trans (congrArg (fun z => some (Value.bool z, [])) (decide_eq_false (fun q => q rfl))))) ?_
     refine Ops.q rfl (qpickF rfl rfl) ?_
     refine Ops.nil ?_
     refine h147 _ _ ?_
     refine Run.cond_false rfl ?_
     refine Run.skip ?_
     refine h145 _ _ ?_
     refine Run.seq fun K148 h149 => ?_
     refine Run.seq fun K150 h151 => ?_
     refine Run.region ?_
     refine Ops.q rfl (qmove rfl) ?_
     refine Ops.q rfl (qneqN (b := 0) rfl rfl) ?_
     refine Ops.nil ?_
     refine h151 _ _ ?_
     refine Run.if rfl (fun p152 => ?_) (fun p152 => ?_)
     ·
      refine Run.seq fun K153 h154 => ?_
      have hcc := hc0 ‹¬ (rCyclic (g) l w).2.2 = 0›
      refine Run.region ?_
      refine Ops.l rfl (fun _ _ hk155 _ => vcallF rfl (s_sane A136 (hL.le le143)) ?_)
      rintro v156 A157 ⟨rfl, leq158, wfq158⟩
      have h159 := leq158.get _ _ h138
      have h160 := leq158.get _ _ h139
      have h161 := leq158.get _ _ h140
      have h162 := leq158.get _ _ sb137.get
      have fr163 := fr141.le leq158
      have fr164 := fr142.le leq158
      have le165 := le143.trans leq158
      refine hk155 _ _ ?_
      refine Ops.q rfl (qmove rfl) ?_
      refine Ops.on rfl rfl ?_
      refine Ops.q rfl (qmove rfl) ?_
      refine Ops.on rfl rfl ?_
      refine Ops.q rfl (((qseql rfl rfl).trans (congrArg (fun z => some (Value.bool z, [])) (decide_eq_true hcc.1)))) ?_
      refine Ops.q rfl (qpickT rfl rfl) ?_
      refine Ops.q rfl (qmove rfl) ?_
      refine Ops.on rfl rfl ?_
      refine Ops.q rfl (qfieldAddr fl36_2 sz34 (by decide) rfl) ?_
      refine Ops.on rfl rfl ?_
      refine Ops.q rfl (qloadAt ag34 rfl rfl h162 rfl) ?_
      refine Ops.on rfl rfl ?_
      refine Ops.q rfl (qlenS (n := 0) u34 rfl fr164.slc (by omega) ((dcells_length _).trans (by rw [hcc.2]; rfl))) ?_
      refine Ops.on rfl rfl ?_
      refine Ops.q rfl (((qeqlN (a := 0) (b := 0) rfl rfl).trans (congrArg (fun z => some (Value.bool z, [])) (decide_eq_true rfl)))) ?_
      refine Ops.q rfl (qpickT rfl rfl) ?_
      refine Ops.q rfl (qassign rfl) ?_
      refine Ops.nil ?_
      refine h154 _ _ ?_
      refine Run.ret ?_
      repeat first | with_reducible refine thenQ_ret ?_ | with_reducible refine blockQ_ret ?_
      exact retQ rfl (⟨rfl, le165, wfq158⟩)
     ·
      refine Run.skip ?_
      refine h149 _ _ ?_
      refine Run.seq fun K166 h167 => ?_
      have hcc := hc1 (Decidable.not_not.1 ‹¬ ¬ (rCyclic (g) l w).2.2 = 0›)
      have hcb := hcc.2.2
      have hwi := wInverse_length (rCyclic (g) l w).1
      have hwj := wInverse_length cjq112
      refine Run.drawn [0, 1, 2, 4, 3, 5, 6, 7, 8, 9, 10, 11, 12, 13, 14, 15, 16, 17, 18, 19, 20, 21, 22, 23, 26, 24, 25, 27, 28, 29, 30, 31, 32] mixed (by kernel_rfl) (by kernel_rfl) rfl ?_
      refine DOps.l rfl rfl rfl (fun _ _ hk168 _ => vcallF rfl (s_sane A136 (hL.le le143)) ?_)
      rintro v169 A170 ⟨rfl, leq171, wfq171⟩
      have h172 := leq171.get _ _ h138
      have h173 := leq171.get _ _ h139
      have h174 := leq171.get _ _ h140
      have h175 := leq171.get _ _ sb137.get
      have fr176 := fr141.le leq171
      have fr177 := fr142.le leq171
      have le178 := le143.trans leq171
      refine hk168 _ _ (HeldNow.none (by kernel_rfl)) ?_
      refine DOps.q rfl rfl rfl (qmove rfl) ?_
      refine DOps.qOn rfl rfl rfl rfl rfl (qmove rfl) ?_
      refine DOps.qOn rfl rfl rfl rfl rfl (qmove rfl) ?_
      refine DOps.lOn rfl rfl rfl rfl rfl (fun _ _ hk179 _ => vcallF rfl (s_RReduce cjq112 A170 (by first | omega | (simp only [List.length_append]; omega))) ?_)
      rintro v180 A181 ⟨rfl, leq182, wfq182⟩
      have h183 := leq182.get _ _ h172
      have h184 := leq182.get _ _ h173
      have h185 := leq182.get _ _ h174
      have h186 := leq182.get _ _ h175
      have fr187 := fr176.le leq182
      have fr188 := fr177.le leq182
      have le189 := le178.trans leq182
      refine hk179 _ _ (HeldNow.none (by kernel_rfl)) ?_
      refine DOps.qOn rfl rfl rfl rfl rfl (((qseql rfl rfl).trans (congrArg (fun z => some (Value.bool z, [])) (decide_eq_true hcc.2.1)))) ?_
      refine DOps.q rfl rfl rfl (qpickT rfl rfl) ?_
      refine DOps.q rfl rfl rfl (qmove rfl) ?_
      refine DOps.qOn rfl rfl rfl rfl rfl (qfieldAddr fl36_2 sz34 (by decide) rfl) ?_
      have hc190 := cellOf (off := 2) h186 (show _ = some (.slice p135 l135 c135) from rfl)
      refine DOps.qOn rfl rfl rfl rfl rfl (qloadAt ag34 rfl rfl h186 rfl) ?_
      refine DOps.qOn rfl rfl rfl rfl rfl (qlenS (n := (rCyclic ((g)) l w).2.1) u34 rfl fr188.slc (by omega) ((dcells_length _).trans (by rw [hcl]))) ?_
      refine DOps.qOn rfl rfl rfl rfl rfl (qfieldAddr fl36_1 sz3 (by decide) rfl) ?_
      have hc191 := cellOf (off := 1) h186 (show _ = some (num (((rCyclic ((g)) l w).2.1 : Nat) : Int)) from rfl)
      refine DOps.qOn rfl rfl rfl rfl rfl (qloadAt ag3 rfl rfl h186 rfl) ?_
      refine DOps.qOn rfl rfl rfl rfl rfl (((qeqlN rfl rfl).trans (congrArg (fun z => some (Value.bool z, [])) (decide_eq_true rfl)))) ?_
      refine DOps.q rfl rfl rfl (qpickT rfl rfl) ?_
      refine DOps.q rfl rfl rfl (qmove rfl) ?_
      have hc192 := cellOf (off := 0) h183 (show _ = some (num (g)) from rfl)
      have hc193 := cellOf (off := 1) h183 (show _ = some (u) from rfl)
      refine DOps.qOn rfl rfl rfl rfl rfl (qloadAggAt ag24 sz24 rfl rfl h183 rfl) ?_
      refine DOps.qOn rfl rfl rfl rfl rfl (qfieldAddr fl36_2 sz34 (by decide) rfl) ?_
      have hc194 := cellOf (off := 2) h186 (show _ = some (.slice p135 l135 c135) from rfl)
      refine DOps.qOn rfl rfl rfl rfl rfl (qloadAt ag34 rfl rfl h186 rfl) ?_
      refine DOps.qOn rfl rfl rfl rfl rfl (qmove rfl) ?_
      refine DOps.qOn rfl rfl rfl rfl rfl (qmove rfl) ?_
      refine DOps.qOn rfl rfl rfl rfl rfl (qsadd rfl rfl (by (try simp only [List.length_append, List.length_drop, List.length_take]); omega)) ?_
      refine DOps.qOn rfl rfl rfl rfl rfl (qfieldAddr fl36_0 sz9 (by decide) rfl) ?_
      have hc195 := cellOf (off := 0) h186 (show _ = some (str ((rCyclic ((g)) l w).1)) from rfl)
      refine DOps.qOn rfl rfl rfl rfl rfl (qloadAt ag9 rfl rfl h186 rfl) ?_
      refine DOps.qOn rfl rfl rfl rfl rfl (qmove rfl) ?_
      refine DOps.lOn rfl rfl rfl rfl rfl (fun _ _ hk196 _ => vcallF rfl (s_RInverse ((rCyclic ((g)) l w).1) A181 (by first | omega | (simp only [List.length_append]; omega))) ?_)
      rintro v197 A198 ⟨rfl, leq199, wfq199⟩
      have h200 := leq199.get _ _ h183
      have h201 := leq199.get _ _ h184
      have h202 := leq199.get _ _ h185
      have h203 := leq199.get _ _ h186
      have fr204 := fr187.le leq199
      have fr205 := fr188.le leq199
      have hc206 := cell_le leq199 hc190
      have hc207 := cell_le leq199 hc191
      have hc208 := cell_le leq199 hc192
      have hc209 := cell_le leq199 hc193
      have hc210 := cell_le leq199 hc194
      have hc211 := cell_le leq199 hc195
      have le212 := le189.trans leq199
      refine hk196 _ _ (HeldNow.list (L := [(⟨b123, 2, none⟩, .slice p135 l135 c135), (⟨b4, 0, none⟩, num (g)), (⟨b4, 1, none⟩, u)]) (by kernel_rfl) (heldCons hc210 (heldCons hc208 (heldCons hc209 heldNil)))) ?_
      refine DOps.qOn rfl rfl rfl rfl rfl (qsadd rfl rfl (by (try simp only [List.length_append, List.length_drop, List.length_take]); omega)) ?_
      refine DOps.lOn rfl rfl rfl rfl rfl (fun _ _ hk213 _ => vcallF rfl (s_RInverse cjq112 A198 (by first | omega | (simp only [List.length_append]; omega))) ?_)
      rintro v214 A215 ⟨rfl, leq216, wfq216⟩
      have h217 := leq216.get _ _ h200
      have h218 := leq216.get _ _ h201
      have h219 := leq216.get _ _ h202
      have h220 := leq216.get _ _ h203
      have fr221 := fr204.le leq216
      have fr222 := fr205.le leq216
      have hc223 := cell_le leq216 hc208
      have hc224 := cell_le leq216 hc209
      have hc225 := cell_le leq216 hc210
      have le226 := le212.trans leq216
      refine hk213 _ _ (HeldNow.list (L := [(⟨b123, 2, none⟩, .slice p135 l135 c135), (⟨b4, 0, none⟩, num (g)), (⟨b4, 1, none⟩, u)]) (by kernel_rfl) (heldCons hc225 (heldCons hc223 (heldCons hc224 heldNil)))) ?_
      refine DOps.qOn rfl rfl rfl rfl rfl (qsadd rfl rfl (by (try simp only [List.length_append, List.length_drop, List.length_take]); omega)) ?_
      refine DOps.lOn rfl rfl rfl rfl rfl (fun _ _ hk227 _ => vcallF rfl (s_PvC (w := ((w ++ cjq112) ++ (wInverse ((rCyclic ((g)) l w).1))) ++ (wInverse cjq112)) hcc.1 (by omega) hsl.2.1 (by simp only [List.length_append]; omega) (by omega) (by omega) (hu.le le226) fr222.slc) ?_)
      rintro v228 A229 ⟨rfl, leq230, wfq230⟩
      have h231 := leq230.get _ _ h217
      have h232 := leq230.get _ _ h218
      have h233 := leq230.get _ _ h219
      have h234 := leq230.get _ _ h220
      have fr235 := fr221.le leq230
      have fr236 := fr222.le leq230
      have hc237 := cell_le leq230 hc223
      have hc238 := cell_le leq230 hc224
      have hc239 := cell_le leq230 hc225
      have le240 := le226.trans leq230
      refine hk227 _ _ (HeldNow.none (by kernel_rfl)) ?_
      refine DOps.qOn rfl rfl rfl rfl rfl (((qeqlN (a := 0) (b := 0) rfl rfl).trans (congrArg (fun z => some (Value.bool z, [])) (decide_eq_true rfl)))) ?_
      refine DOps.q rfl rfl rfl (qpickT rfl rfl) ?_
      refine DOps.q rfl rfl rfl (qassign rfl) ?_
      refine DOps.done ?_
      refine h167 _ _ ?_
      refine Run.ret ?_
      repeat first | with_reducible refine thenQ_ret ?_ | with_reducible refine blockQ_ret ?_
      exact retQ rfl (⟨rfl, le240, wfq230⟩)
  ·
   refine Ops.off rfl rfl rfl rfl ?_
   refine Ops.off rfl rfl rfl rfl ?_
   refine Ops.off rfl rfl rfl rfl ?_
   refine Ops.on rfl rfl ?_
   refine Ops.q rfl (qpickF rfl rfl) ?_
   refine Ops.q rfl (qpickF rfl rfl) ?_
   refine Ops.q rfl (qmove rfl) ?_
   refine Ops.on rfl rfl ?_
   refine Ops.q rfl (qmove rfl) ?_
   refine Ops.on rfl rfl ?_
   refine Ops.q rfl (qslen u9 rfl) ?_
   refine Ops.on rfl rfl ?_
   refine Ops.q rfl (qgtrN (b := 5100) rfl rfl) ?_
   refine Ops.q rfl (qpickF rfl rfl) ?_
   refine Ops.nil ?_
   refine h11 _ _ ?_
   refine Run.if rfl (fun p241 => ?_) (fun p241 => ?_)
   ·
    refine Run.seq fun K242 h243 => ?_
    refine Run.region ?_
    refine Ops.l rfl (fun _ _ hk244 _ => vcallF rfl (s_sane A14 (hL.le le17)) ?_)
    rintro v245 A246 ⟨rfl, leq247, wfq247⟩
    have h248 := leq247.get _ _ h16
    have le249 := le17.trans leq247
    refine hk244 _ _ ?_
    refine Ops.q rfl (qassign rfl) ?_
    refine Ops.nil ?_
    refine h243 _ _ ?_
    refine Run.ret ?_
    repeat first | with_reducible refine thenQ_ret ?_ | with_reducible refine blockQ_ret ?_
    exact retQ rfl (⟨rfl, le249, wfq247⟩)
   ·
    refine Run.skip ?_
    refine h9 _ _ ?_
    refine Run.seq fun K250 h251 => ?_
    have hsl := small_len (l := l) (ws := []) (by simpa using ‹(!small l []) = false›)
    have hl8 := hsl.1
    refine Run.region ?_
    refine Ops.q rfl (qloadAggAt ag24 sz24 rfl rfl h16 rfl) ?_
    refine Ops.q rfl (qmove rfl) ?_
    refine Ops.l rfl (fun _ _ hk252 _ => vcallF rfl (s_RTrB hb (by omega) (by omega) (hu.le le17)) ?_)
    rintro v253 A254 ⟨rfl, leq255, wfq255⟩
    have h256 := leq255.get _ _ h16
    have le257 := le17.trans leq255
    refine hk252 _ _ ?_
    refine Ops.l rfl (fun _ _ hk258 _ => walloc wfq255 z32 rfl fun A260 b259 nb261 => ?_)
    have ne_b4_b259 := ne_new wfq255 h256 nb261.lo
    have ge_b259 := none_of wf (Nat.le_trans le257.n nb261.lo)
    have h262 := nb261.le.get _ _ h256
    have le263 := le257.trans nb261.le
    refine hk258 _ _ ?_
    refine Ops.l rfl (fun _ _ hk264 _ => wstore (cs := [.bool (false), num (((rTrivial ((g)) l w).2 : Nat) : Int)]) (c' := [.bool (false), num (((rTrivial ((g)) l w).2 : Nat) : Int)]) nb261.wf rfl rfl rfl rfl sz32 nb261.get (Nat.le_of_ble_eq_true rfl) rfl rfl fun A265 sb266 => ?_)
    have h267 := sb266.keep _ _ ne_b4_b259 h262
    have le268 := le_store le263 wf ge_b259 sb266.n sb266.keep
    refine hk264 _ _ ?_
    refine Ops.nil ?_
    refine h251 _ _ ?_
    refine Run.seq fun K269 h270 => ?_
    refine Run.region ?_
    refine Ops.q rfl (qloadAggAt ag24 sz24 rfl rfl h267 rfl) ?_
    refine Ops.q rfl (qmove rfl) ?_
    refine Ops.l rfl (fun _ _ hk271 _ => vcallF rfl (s_TrF (g := (g)) (w := w) (by omega) (hL.le le268) (hu.le le268) hb (by omega) (by omega)) ?_)
    rintro v272 A273 ⟨dvq274, rfl, leq274, wfq274, frq274⟩
    have h275 := leq274.get _ _ h267
    have h276 := leq274.get _ _ sb266.get
    have le277 := le268.trans leq274
    have fr278 := frq274.base le268
    have no279 := frq274.ne sb266.wf h267
    have no280 := frq274.ne sb266.wf sb266.get
    refine hk271 _ _ ?_
    refine Ops.q rfl (qmove rfl) ?_
    refine Ops.q rfl (qextract rfl rfl) ?_
    refine Ops.q rfl (qextract rfl rfl) ?_
    refine Ops.q rfl (qextract rfl rfl) ?_
    refine Ops.q rfl (qassign rfl) ?_
    refine Ops.q rfl (qassign rfl) ?_
    refine Ops.q rfl (qassign rfl) ?_
    refine Ops.nil ?_
    refine h270 _ _ ?_
    refine Run.seq fun K281 h282 => ?_
    refine Run.seq fun K283 h284 => ?_
    refine Run.region ?_
    refine Ops.q rfl (qmove rfl) ?_
    refine Ops.q rfl (qfieldAddr fl32_1 sz27 (by decide) rfl) ?_
    refine Ops.q rfl (qloadAt ag27 rfl rfl h276 rfl) ?_
    refine Ops.q rfl (((qneqN rfl rfl).trans (congrArg (fun z => some (Value.bool z, [])) (decide_eq_false (fun q => q rfl))))) ?_
    refine Ops.q rfl (qmove rfl) ?_
    refine Ops.on rfl rfl ?_
    refine Ops.q rfl (qmove rfl) ?_
    refine Ops.on rfl rfl ?_
    refine Ops.q rfl (qfieldAddr fl32_0 sz4 (by decide) rfl) ?_
    refine Ops.on rfl rfl ?_
    refine Ops.q rfl (qloadAt ag4 rfl rfl h276 rfl) ?_
    refine Ops.on rfl rfl ?_
    refine Ops.q rfl (qbneq u4 rfl rfl) ?_
    refine Ops.q rfl (qpickF rfl rfl) ?_
    refine Ops.q rfl (qmove rfl) ?_
    refine Ops.on rfl rfl ?_
    refine Ops.q rfl (qmove rfl) ?_
    refine Ops.on rfl rfl ?_
    refine Ops.q rfl (qmove rfl) ?_
    refine Ops.off rfl rfl rfl rfl ?_
    refine Ops.off rfl rfl rfl rfl ?_
    refine Ops.off rfl rfl rfl rfl ?_
    refine Ops.off rfl rfl rfl rfl ?_
    refine Ops.off rfl rfl rfl rfl ?_
    refine Ops.off rfl rfl rfl rfl ?_
    refine Ops.und rfl rfl rfl ?_
    refine Ops.und rfl rfl rfl ?_
    refine Ops.und rfl rfl rfl ?_
    refine Ops.und rfl rfl rfl ?_
    refine Ops.und rfl rfl rfl ?_
    refine Ops.off rfl rfl rfl rfl ?_
    refine Ops.on rfl rfl ?_
    refine Ops.q rfl (qpickF rfl rfl) ?_
    refine Ops.q rfl (qpickF rfl rfl) ?_
    refine Ops.q rfl (qmove rfl) ?_
    refine Ops.on rfl rfl ?_
    refine Ops.q rfl (qmove rfl) ?_
    refine Ops.on rfl rfl ?_
    refine Ops.q rfl (qnot rfl) ?_
    refine Ops.on rfl rfl ?_
    refine Ops.q rfl (qmove rfl) ?_
    refine Ops.on rfl rfl ?_
    refine Ops.q rfl (qmove rfl) ?_
    refine Ops.on rfl rfl ?_
    refine Ops.q rfl (qlenS (n := 0) u34 rfl fr278.slc (by omega) rfl) ?_
    refine Ops.on rfl rfl ?_
    refine Ops.q rfl (((qgtrN (a := 0) (b := 0) rfl rfl).trans (congrArg (fun z => some (Value.bool z, [])) (decide_eq_false (by decide))))) ?_
    refine Ops.on rfl rfl ?_
    refine Ops.q rfl (qpickT rfl rfl) ?_
    refine Ops.q rfl (qpickF rfl rfl) ?_
    refine Ops.nil ?_
    refine h284 _ _ ?_
    refine Run.cond_false rfl ?_
    refine Run.skip ?_
    refine h282 _ _ ?_
    refine Run.seq fun K285 h286 => ?_
    refine Run.region ?_
    refine Ops.q rfl (qloadAggAt ag24 sz24 rfl rfl h275 rfl) ?_
    refine Ops.q rfl (qmove rfl) ?_
    refine Ops.l rfl (fun _ _ hk287 _ => vcallF rfl (s_RCyc ((g)) u l w A273 (by omega) (by omega) (hu.le le277)) ?_)
    rintro v288 A289 ⟨rfl, leq290, wfq290⟩
    have h291 := leq290.get _ _ h275
    have h292 := leq290.get _ _ h276
    have fr293 := fr278.le leq290
    have le294 := le277.trans leq290
    refine hk287 _ _ ?_
    refine Ops.l rfl (fun _ _ hk295 _ => walloc wfq290 z29 rfl fun A297 b296 nb298 => ?_)
    have ne_b4_b296 := ne_new wfq290 h291 nb298.lo
    have ne_b259_b296 := ne_new wfq290 h292 nb298.lo
    have no299 := fr293.own.ne_new wfq290 nb298.lo
    have ge_b296 := none_of wf (Nat.le_trans le294.n nb298.lo)
    have h300 := nb298.le.get _ _ h291
    have h301 := nb298.le.get _ _ h292
    have fr302 := fr293.le nb298.le
    have le303 := le294.trans nb298.le
    refine hk295 _ _ ?_
    refine Ops.l rfl (fun _ _ hk304 _ => wstore (cs := [str ((rCyclic ((g)) l w).1), num (((rCyclic ((g)) l w).2.1 : Nat) : Int), num (((rCyclic ((g)) l w).2.2 : Nat) : Int)]) (c' := [str ((rCyclic ((g)) l w).1), num (((rCyclic ((g)) l w).2.1 : Nat) : Int), num (((rCyclic ((g)) l w).2.2 : Nat) : Int)]) nb298.wf rfl rfl rfl rfl sz29 nb298.get (Nat.le_of_ble_eq_true rfl) rfl rfl fun A305 sb306 => ?_)
    have h307 := sb306.keep _ _ ne_b4_b296 h300
    have h308 := sb306.keep _ _ ne_b259_b296 h301
    have fr309 := fr302.keep sb306.keep no299
    have le310 := le_store le303 wf ge_b296 sb306.n sb306.keep
    refine hk304 _ _ ?_
    refine Ops.nil ?_
    refine h286 _ _ ?_
    refine Run.seq fun K311 h312 => ?_
    refine Run.region ?_
    refine Ops.q rfl (qloadAggAt ag24 sz24 rfl rfl h307 rfl) ?_
    refine Ops.q rfl (qmove rfl) ?_
    refine Ops.l rfl (fun _ _ hk313 _ => vcallF rfl (s_Cy3 (g := (g)) (w := w) (by omega) (hL.le le310) (hu.le le310) (by omega) (by omega)) ?_)
    rintro v314 A315 ⟨dq316, cjq316, dvq316, rfl, leq316, wfq316, frq316, hclq316, hc0q316, hc1q316⟩
    have h317 := leq316.get _ _ h307
    have h318 := leq316.get _ _ h308
    have h319 := leq316.get _ _ sb306.get
    have fr320 := fr309.le leq316
    have le321 := le310.trans leq316
    have fr322 := frq316.base le310
    have no323 := frq316.ne sb306.wf h307
    have no324 := frq316.ne sb306.wf h308
    have no325 := frq316.ne sb306.wf sb306.get
    have hcl := hclq316
    have hc0 := hc0q316
    have hc1 := hc1q316
    refine hk313 _ _ ?_
    refine Ops.q rfl (qmove rfl) ?_
    refine Ops.q rfl (qextract rfl rfl) ?_
    refine Ops.q rfl (qextract rfl rfl) ?_
    refine Ops.q rfl (qextract rfl rfl) ?_
    refine Ops.l rfl (fun _ _ hk326 _ => walloc wfq316 z36 rfl fun A328 b327 nb329 => ?_)
    have ne_b4_b327 := ne_new wfq316 h317 nb329.lo
    have ne_b259_b327 := ne_new wfq316 h318 nb329.lo
    have ne_b296_b327 := ne_new wfq316 h319 nb329.lo
    have no330 := fr320.own.ne_new wfq316 nb329.lo
    have no331 := fr322.own.ne_new wfq316 nb329.lo
    have ge_b327 := none_of wf (Nat.le_trans le321.n nb329.lo)
    have h332 := nb329.le.get _ _ h317
    have h333 := nb329.le.get _ _ h318
    have h334 := nb329.le.get _ _ h319
    have fr335 := fr320.le nb329.le
    have fr336 := fr322.le nb329.le
    have le337 := le321.trans nb329.le
    refine hk326 _ _ ?_
    obtain ⟨p339, l339, c339, q339, _⟩ := fr336.own.slice
    subst q339
    refine Ops.l rfl (fun _ _ hk338 _ => wstore (cs := [str ((rCyclic ((g)) l w).1), num (((rCyclic ((g)) l w).2.1 : Nat) : Int), .slice p339 l339 c339]) (c' := [str ((rCyclic ((g)) l w).1), num (((rCyclic ((g)) l w).2.1 : Nat) : Int), .slice p339 l339 c339]) nb329.wf rfl rfl rfl rfl sz36 nb329.get (Nat.le_of_ble_eq_true rfl) rfl rfl fun A340 sb341 => ?_)
    have h342 := sb341.keep _ _ ne_b4_b327 h332
    have h343 := sb341.keep _ _ ne_b259_b327 h333
    have h344 := sb341.keep _ _ ne_b296_b327 h334
    have fr345 := fr335.keep sb341.keep no330
    have fr346 := fr336.keep sb341.keep no331
    have le347 := le_store le337 wf ge_b327 sb341.n sb341.keep
    refine hk338 _ _ ?_
    refine Ops.q rfl (qassign rfl) ?_
    refine Ops.q rfl (qassign rfl) ?_
    refine Ops.nil ?_
    refine h312 _ _ ?_
    refine Run.seq fun K348 h349 => ?_
    refine Run.seq fun K350 h351 => ?_
    refine Run.region ?_
    refine Ops.q rfl (qmove rfl) ?_
    refine Ops.q rfl (qfieldAddr fl29_2 sz27 (by decide) rfl) ?_
    refine Ops.q rfl (qloadAt ag27 rfl rfl h344 rfl) ?_
    refine Ops.q rfl (((qneqN rfl rfl).trans (congrArg (fun z => some (Value.bool z, [])) (decide_eq_false (fun q => q rfl))))) ?_
    refine Ops.q rfl (qmove rfl) ?_
    refine Ops.on rfl rfl ?_
    refine Ops.q rfl (qfieldAddr fl36_0 sz9 (by decide) rfl) ?_
    refine Ops.on rfl rfl ?_
    refine Ops.q rfl (qloadAt ag9 rfl rfl sb341.get rfl) ?_
    refine Ops.on rfl rfl ?_
    refine Ops.q rfl (qfieldAddr fl29_0 sz9 (by decide) rfl) ?_
    refine Ops.on rfl rfl ?_
    refine Ops.q rfl (qloadAt ag9 rfl rfl h344 rfl) ?_
    refine Ops.on rfl rfl ?_
    refine Ops.q rfl (((qsneq rfl rfl).trans (congrArg (fun z => some (Value.bool z, [])) (decide_eq_false (fun q => q rfl))))) ?_
    refine Ops.q rfl (qpickF rfl rfl) ?_
    refine Ops.q rfl (qmove rfl) ?_
    refine Ops.on rfl rfl ?_
    refine Ops.q rfl (qfieldAddr fl36_1 sz3 (by decide) rfl) ?_
    refine Ops.on rfl rfl ?_
    refine Ops.q rfl (qloadAt ag3 rfl rfl sb341.get rfl) ?_
    refine Ops.on rfl rfl ?_
    refine Ops.q rfl (qfieldAddr fl29_1 sz3 (by decide) rfl) ?_
    refine Ops.on rfl rfl ?_
    refine Ops.q rfl (qloadAt ag3 rfl rfl h344 rfl) ?_
    refine Ops.on rfl rfl ?_
    refine Ops.q rfl (((qneqN rfl rfl).trans (congrArg (fun z => some (Value.bool z, [])) (decide_eq_false (fun q => q rfl))))) ?_
    refine Ops.q rfl (qpickF rfl rfl) ?_
    refine Ops.nil ?_
    refine h351 _ _ ?_
    refine Run.cond_false rfl ?_
    refine Run.skip ?_
    refine h349 _ _ ?_
    refine Run.seq fun K352 h353 => ?_
    refine Run.seq fun K354 h355 => ?_
    refine Run.region ?_
    refine Ops.q rfl (qmove rfl) ?_
    refine Ops.q rfl (qneqN (b := 0) rfl rfl) ?_
    refine Ops.nil ?_
    refine h355 _ _ ?_
    refine Run.if rfl (fun p356 => ?_) (fun p356 => ?_)
    ·
     refine Run.seq fun K357 h358 => ?_
     have hcc := hc0 ‹¬ (rCyclic (g) l w).2.2 = 0›
     refine Run.region ?_
     refine Ops.l rfl (fun _ _ hk359 _ => vcallF rfl (s_sane A340 (hL.le le347)) ?_)
     rintro v360 A361 ⟨rfl, leq362, wfq362⟩
     have h363 := leq362.get _ _ h342
     have h364 := leq362.get _ _ h343
     have h365 := leq362.get _ _ h344
     have h366 := leq362.get _ _ sb341.get
     have fr367 := fr345.le leq362
     have fr368 := fr346.le leq362
     have le369 := le347.trans leq362
     refine hk359 _ _ ?_
     refine Ops.q rfl (qmove rfl) ?_
     refine Ops.on rfl rfl ?_
     refine Ops.q rfl (qmove rfl) ?_
     refine Ops.on rfl rfl ?_
     refine Ops.q rfl (((qseql rfl rfl).trans (congrArg (fun z => some (Value.bool z, [])) (decide_eq_true hcc.1)))) ?_
     refine Ops.q rfl (qpickT rfl rfl) ?_
     refine Ops.q rfl (qmove rfl) ?_
     refine Ops.on rfl rfl ?_
     refine Ops.q rfl (qfieldAddr fl36_2 sz34 (by decide) rfl) ?_
     refine Ops.on rfl rfl ?_
     refine Ops.q rfl (qloadAt ag34 rfl rfl h366 rfl) ?_
     refine Ops.on rfl rfl ?_
     refine Ops.q rfl (qlenS (n := 0) u34 rfl fr368.slc (by omega) ((dcells_length _).trans (by rw [hcc.2]; rfl))) ?_
     refine Ops.on rfl rfl ?_
     refine Ops.q rfl (((qeqlN (a := 0) (b := 0) rfl rfl).trans (congrArg (fun z => some (Value.bool z, [])) (decide_eq_true rfl)))) ?_
     refine Ops.q rfl (qpickT rfl rfl) ?_
     refine Ops.q rfl (qassign rfl) ?_
     refine Ops.nil ?_
     refine h358 _ _ ?_
     refine Run.ret ?_
     repeat first | with_reducible refine thenQ_ret ?_ | with_reducible refine blockQ_ret ?_
     exact retQ rfl (⟨rfl, le369, wfq362⟩)
    ·
     refine Run.skip ?_
     refine h353 _ _ ?_
     refine Run.seq fun K370 h371 => ?_
     have hcc := hc1 (Decidable.not_not.1 ‹¬ ¬ (rCyclic (g) l w).2.2 = 0›)
     have hcb := hcc.2.2
     have hwi := wInverse_length (rCyclic (g) l w).1
     have hwj := wInverse_length cjq316
     refine Run.drawn [0, 1, 2, 4, 3, 5, 6, 7, 8, 9, 10, 11, 12, 13, 14, 15, 16, 17, 18, 19, 20, 21, 22, 23, 26, 24, 25, 27, 28, 29, 30, 31, 32] mixed (by kernel_rfl) (by kernel_rfl) rfl ?_
     refine DOps.l rfl rfl rfl (fun _ _ hk372 _ => vcallF rfl (s_sane A340 (hL.le le347)) ?_)
     rintro v373 A374 ⟨rfl, leq375, wfq375⟩
     have h376 := leq375.get _ _ h342
     have h377 := leq375.get _ _ h343
     have h378 := leq375.get _ _ h344
     have h379 := leq375.get _ _ sb341.get
     have fr380 := fr345.le leq375
     have fr381 := fr346.le leq375
     have le382 := le347.trans leq375
     refine hk372 _ _ (HeldNow.none (by kernel_rfl)) ?_
     refine DOps.q rfl rfl rfl (qmove rfl) ?_
     refine DOps.qOn rfl rfl rfl rfl rfl (qmove rfl) ?_
     refine DOps.qOn rfl rfl rfl rfl rfl (qmove rfl) ?_
     refine DOps.lOn rfl rfl rfl rfl rfl (fun _ _ hk383 _ => vcallF rfl (s_RReduce cjq316 A374 (by first | omega | (simp only [List.length_append]; omega))) ?_)
     rintro v384 A385 ⟨rfl, leq386, wfq386⟩
     have h387 := leq386.get _ _ h376
     have h388 := leq386.get _ _ h377
     have h389 := leq386.get _ _ h378
     have h390 := leq386.get _ _ h379
     have fr391 := fr380.le leq386
     have fr392 := fr381.le leq386
     have le393 := le382.trans leq386
     refine hk383 _ _ (HeldNow.none (by kernel_rfl)) ?_
     refine DOps.qOn rfl rfl rfl rfl rfl (((qseql rfl rfl).trans (congrArg (fun z => some (Value.bool z, [])) (decide_eq_true hcc.2.1)))) ?_
     refine DOps.q rfl rfl rfl (qpickT rfl rfl) ?_
     refine DOps.q rfl rfl rfl (qmove rfl) ?_
     refine DOps.qOn rfl rfl rfl rfl rfl (qfieldAddr fl36_2 sz34 (by decide) rfl) ?_
     have hc394 := cellOf (off := 2) h390 (show _ = some (.slice p339 l339 c339) from rfl)
     refine DOps.qOn rfl rfl rfl rfl rfl (qloadAt ag34 rfl rfl h390 rfl) ?_
     refine DOps.qOn rfl rfl rfl rfl rfl (qlenS (n := (rCyclic ((g)) l w).2.1) u34 rfl fr392.slc (by omega) ((dcells_length _).trans (by rw [hcl]))) ?_
     refine DOps.qOn rfl rfl rfl rfl rfl (qfieldAddr fl36_1 sz3 (by decide) rfl) ?_
     have hc395 := cellOf (off := 1) h390 (show _ = some (num (((rCyclic ((g)) l w).2.1 : Nat) : Int)) from rfl)
     refine DOps.qOn rfl rfl rfl rfl rfl (qloadAt ag3 rfl rfl h390 rfl) ?_
     refine DOps.qOn rfl rfl rfl rfl rfl (((qeqlN rfl rfl).trans (congrArg (fun z => some (Value.bool z, [])) (decide_eq_true rfl)))) ?_
     refine DOps.q rfl rfl rfl (qpickT rfl rfl) ?_
     refine DOps.q rfl rfl rfl (qmove rfl) ?_
     have hc396 := cellOf (off := 0) h387 (show _ = some (num (g)) from rfl)
     have hc397 := cellOf (off := 1) h387 (show _ = some (u) from rfl)
     refine DOps.qOn rfl rfl rfl rfl rfl (qloadAggAt ag24 sz24 rfl rfl h387 rfl) ?_
     refine DOps.qOn rfl rfl rfl rfl rfl (qfieldAddr fl36_2 sz34 (by decide) rfl) ?_
     have hc398 := cellOf (off := 2) h390 (show _ = some (.slice p339 l339 c339) from rfl)
     refine DOps.qOn rfl rfl rfl rfl rfl (qloadAt ag34 rfl rfl h390 rfl) ?_
     refine DOps.qOn rfl rfl rfl rfl rfl (qmove rfl) ?_
     refine DOps.qOn rfl rfl rfl rfl rfl (qmove rfl) ?_
     refine DOps.qOn rfl rfl rfl rfl rfl (qsadd rfl rfl (by (try simp only [List.length_append, List.length_drop, List.length_take]); omega)) ?_
     refine DOps.qOn rfl rfl rfl rfl rfl (qfieldAddr fl36_0 sz9 (by decide) rfl) ?_
     have hc399 := cellOf (off := 0) h390 (show _ = some (str ((rCyclic ((g)) l w).1)) from rfl)
     refine DOps.qOn rfl rfl rfl rfl rfl (qloadAt ag9 rfl rfl h390 rfl) ?_
     refine DOps.qOn rfl rfl rfl rfl rfl (qmove rfl) ?_
     refine DOps.lOn rfl rfl rfl rfl rfl (fun _ _ hk400 _ => vcallF rfl (s_RInverse ((rCyclic ((g)) l w).1) A385 (by first | omega | (simp only [List.length_append]; omega))) ?_)
     rintro v401 A402 ⟨rfl, leq403, wfq403⟩
     have h404 := leq403.get _ _ h387
     have h405 := leq403.get _ _ h388
     have h406 := leq403.get _ _ h389
     have h407 := leq403.get _ _ h390
     have fr408 := fr391.le leq403
     have fr409 := fr392.le leq403
     have hc410 := cell_le leq403 hc394
     have hc411 := cell_le leq403 hc395
     have hc412 := cell_le leq403 hc396
     have hc413 := cell_le leq403 hc397
     have hc414 := cell_le leq403 hc398
     have hc415 := cell_le leq403 hc399
     have le416 := le393.trans leq403
     refine hk400 _ _ (HeldNow.list (L := [(⟨b327, 2, none⟩, .slice p339 l339 c339), (⟨b4, 0, none⟩, num (g)), (⟨b4, 1, none⟩, u)]) (by kernel_rfl) (heldCons hc414 (heldCons hc412 (heldCons hc413 heldNil)))) ?_
     refine DOps.qOn rfl rfl rfl rfl rfl (qsadd rfl rfl (by (try simp only [List.length_append, List.length_drop, List.length_take]); omega)) ?_
     refine DOps.lOn rfl rfl rfl rfl rfl (fun _ _ hk417 _ => vcallF rfl (s_RInverse cjq316 A402 (by first | omega | (simp only [List.length_append]; omega))) ?_)
     rintro v418 A419 ⟨rfl, leq420, wfq420⟩
     have h421 := leq420.get _ _ h404
     have h422 := leq420.get _ _ h405
     have h423 := leq420.get _ _ h406
     have h424 := leq420.get _ _ h407
     have fr425 := fr408.le leq420
     have fr426 := fr409.le leq420
     have hc427 := cell_le leq420 hc412
     have hc428 := cell_le leq420 hc413
     have hc429 := cell_le leq420 hc414
     have le430 := le416.trans leq420
     refine hk417 _ _ (HeldNow.list (L := [(⟨b327, 2, none⟩, .slice p339 l339 c339), (⟨b4, 0, none⟩, num (g)), (⟨b4, 1, none⟩, u)]) (by kernel_rfl) (heldCons hc429 (heldCons hc427 (heldCons hc428 heldNil)))) ?_
     refine DOps.qOn rfl rfl rfl rfl rfl (qsadd rfl rfl (by (try simp only [List.length_append, List.length_drop, List.length_take]); omega)) ?_
     refine DOps.lOn rfl rfl rfl rfl rfl (fun _ _ hk431 _ => vcallF rfl (s_PvC (w := ((w ++ cjq316) ++ (wInverse ((rCyclic ((g)) l w).1))) ++ (wInverse cjq316)) hcc.1 (by omega) hsl.2.1 (by simp only [List.length_append]; omega) (by omega) (by omega) (hu.le le430) fr426.slc) ?_)
     rintro v432 A433 ⟨rfl, leq434, wfq434⟩
     have h435 := leq434.get _ _ h421
     have h436 := leq434.get _ _ h422
     have h437 := leq434.get _ _ h423
     have h438 := leq434.get _ _ h424
     have fr439 := fr425.le leq434
     have fr440 := fr426.le leq434
     have hc441 := cell_le leq434 hc427
     have hc442 := cell_le leq434 hc428
     have hc443 := cell_le leq434 hc429
     have le444 := le430.trans leq434
     refine hk431 _ _ (HeldNow.none (by kernel_rfl)) ?_
     refine DOps.qOn rfl rfl rfl rfl rfl (((qeqlN (a := 0) (b := 0) rfl rfl).trans (congrArg (fun z => some (Value.bool z, [])) (decide_eq_true rfl)))) ?_
     refine DOps.q rfl rfl rfl (qpickT rfl rfl) ?_
     refine DOps.q rfl rfl rfl (qassign rfl) ?_
     refine DOps.done ?_
     refine h371 _ _ ?_
     refine Run.ret ?_
     repeat first | with_reducible refine thenQ_ret ?_ | with_reducible refine blockQ_ret ?_
     exact retQ rfl (⟨rfl, le444, wfq434⟩)

theorem s_DehnDecides (g : Int) (u : Value) (l : List (List UInt8)) (w : List UInt8) (A : AH) (hn : l.length ≤ 9223372036854775807) (hL : Lets A) (hu : Slc A 1 u (strs l)) : RetA Tryz.prog 4 #[.agg #[num g, u], str w] A (fun v A1 => v = .bool true ∧ A.le A1 ∧ A1.wf) := by
  cases hb : (rTrivial g l w).1
  · exact s_DecF g u l w A hn hL hu hb
  · exact s_DecT g u l w A hn hL hu hb

end Go.Proofs.YtaccklloepfemaaGreatDoor
