/- The contracts of the functions, one by one: what each comes to. -/
import Derived.Test.YtaccklloepfemaaGreatDoorDehnFO
import Derived.Test.YtaccklloepfemaaGreatDoorDehnLaw5
namespace Go.Proofs.YtaccklloepfemaaGreatDoor
open Go Go.RowKit V
set_option maxRecDepth 100000
set_option linter.unusedVariables false
set_option linter.unusedSimpArgs false
theorem fl32_0 : fldOf Tryz.prog 32 0 = some (4, 0) := by kernel_rfl
theorem fl32_1 : fldOf Tryz.prog 32 1 = some (27, 1) := by kernel_rfl

theorem sh_all {g : Int} {l : List (List UInt8)} {w W : List UInt8} {d : List DCell} {c : Nat} (h : ShR g l w (W, d, c)) (hw : w.length ≤ 60) (hc : c = 0) : proves g l d (w ++ wInverse W) = 0 ∧ rStuck g l W = (true, 0) ∧ d.length + W.length ≤ w.length ∧ conjs d ≤ 1000000 := by
  unfold ShR at h
  by_cases ha : ¬ rasked g l w = 0
  · rw [if_pos ha] at h
    cases h; exact absurd hc ha
  · rw [if_neg ha] at h
    obtain ⟨S, hS, h⟩ := h
    have hl := light hS.1 hw
    rw [shOf, if_neg hl] at h
    cases h
    have ha0 := Decidable.not_not.1 ha
    have hda := dsh_all hS.1 (w := w) (by omega)
    have hst := sh_stuck ha0 hS hw
    have hz := pcheck_zero (rasked_pres ha)
    obtain ⟨_, h2, _, _⟩ := dsh_disk (rasked_pres ha) hS (rasked_word ha).1 (by omega)
    have hi : isw (dsh S w).1 = true := isw_of hz.1.2 (wcheck_all hz.1 (by omega) h2)
    unfold Heavy at hl
    refine ⟨by rw [wInverse, if_pos hi]; exact sh_proves ha0 hS hw, hst, hda.2.1, by omega⟩
theorem s_Sh3 {g : Int} {u : Value} {l : List (List UInt8)} {w : List UInt8} {A : AH} (hn : l.length ≤ 1000000) (hL : Lets A) (hu : Slc A 1 u (strs l)) (h60 : w.length ≤ 60) : RetA Tryz.prog 11 #[.agg #[num g, u], str w] A (fun v A1 => ∃ d dv, v = .tuple #[.agg #[str (rS g l w).1, num (((rS g l w).2.1 : Nat) : Int), dv], num (((rS g l w).2.2 : Nat) : Int)] ∧ A.le A1 ∧ A1.wf ∧ Fresh A A1 dv 3 (dcells d) ∧ d.length = (rS g l w).2.1 ∧ ((rS g l w).2.2 = 0 → proves g l d (w ++ wInverse (rS g l w).1) = 0 ∧ rStuck g l (rS g l w).1 = (true, 0) ∧ d.length + (rS g l w).1.length ≤ w.length ∧ conjs d ≤ 1000000)) :=
  (s_Sh g u l w A hn hL (by omega) hu).mono fun v A1 h => by
    obtain ⟨W, d, c, dv, e1, e2, e3, e4, e5⟩ := h
    obtain ⟨a, b, c'⟩ := sh_eq e5 (.inl h60)
    have hall := sh_all e5 h60
    exact ⟨d, dv, by rw [e1, ← a, ← b, ← c'], e2, e3, e4, b, fun q => by rw [← a]; exact hall (c'.trans q)⟩


theorem s_PvC {g : Int} {u : Value} {l : List (List UInt8)} {dv : Value} {d : List DCell} {w : List UInt8} {A : AH} (e : proves g l d w = 0) (hn : l.length ≤ 8) (hll : ∀ x ∈ l, x.length ≤ 40) (hw : w.length ≤ 100000000) (hdn : d.length ≤ 100000000) (hcn : conjs d ≤ 100000000) (hu : Slc A 1 u (strs l)) (hv : Slc A 3 dv (dcells d)) : RetA Tryz.prog 17 #[.agg #[num g, u], dv, str w] A (fun v A1 => v = num ((0 : Nat) : Int) ∧ A.le A1 ∧ A1.wf) :=
  (s_Proves g u l dv d w A (by omega) (fun x hx => by have := hll x hx; omega) hw hdn hcn hu hv).mono fun v A1 h => by rw [e] at h; exact h


theorem s_DehnArea (g : Int) (u : Value) (l : List (List UInt8)) (w : List UInt8) (A : AH) (hn : l.length ≤ 9223372036854775807) (hL : Lets A) (hu : Slc A 1 u (strs l)) : RetA Tryz.prog 5 #[.agg #[num (g), u], str (w)] A (fun v A1 => v = .bool true ∧ A.le A1 ∧ A1.wf) := by
 refine enterA (e := [(0, .agg #[num (g), u]), (1, str (w))]) (args := [.agg #[num (g), u], str (w)]) Tryz.call5 Tryz.func5 rfl Tryz.results5 Tryz.ntmps5 rfl rfl rfl (fun wf => ?_)
 have le_ := AH.le.refl A
 refine Run.seq fun K1 h2 => ?_
 refine Run.region ?_
 refine Ops.l rfl (fun _ _ hk3 _ => wbox wf rfl rfl fun A5 b4 nb6 => ?_)
 have ge_b4 := none_of wf (Nat.le_trans le_.n nb6.lo)
 have le7 := le_.trans nb6.le
 refine hk3 _ _ ?_
 refine Ops.q rfl (qassign rfl) ?_
 refine Ops.nil ?_
 refine h2 _ _ ?_
 refine Run.seq fun K8 h9 => ?_
 refine Run.seq fun K10 h11 => ?_
 refine Run.region ?_
 refine Ops.l rfl (fun _ _ hk12 _ => vcallF rfl (s_sane A5 (hL.le le7)) ?_)
 rintro v13 A14 ⟨rfl, leq15, wfq15⟩
 have h16 := leq15.get _ _ nb6.get
 have le17 := le7.trans leq15
 refine hk12 _ _ ?_
 refine Ops.q rfl (qnot rfl) ?_
 refine Ops.nil ?_
 refine h11 _ _ ?_
 refine Run.cond_false rfl ?_
 refine Run.skip ?_
 refine h9 _ _ ?_
 refine Run.seq fun K18 h19 => ?_
 refine Run.seq fun K20 h21 => ?_
 refine Run.region ?_
 refine Ops.q rfl (qloadAggAt ag24 sz24 rfl rfl h16 rfl) ?_
 refine Ops.q rfl (qmove rfl) ?_
 refine Ops.l rfl (fun _ _ hk22 _ => wbuildSlice (c := [str (w)]) wfq15 rfl (buildSliceV_of u22 sz9 z9 rfl (by decide) (by decide) rfl) fun A24 b23 nb25 => ?_)
 have ne_b4_b23 := ne_new wfq15 h16 nb25.lo
 have ge_b23 := none_of wf (Nat.le_trans le17.n nb25.lo)
 have h26 := nb25.le.get _ _ h16
 have le27 := le17.trans nb25.le
 refine hk22 _ _ ?_
 refine Ops.l rfl (fun _ _ hk28 _ => vcallF rfl (s_small ((g)) u l (.slice (some ⟨b23, 0, none⟩) 1 1) ([w]) A24 (by omega) (by first | omega | simp) (hu.le le27) (slc_row (n := 1) nb25.get rfl (Nat.le_refl _))) ?_)
 rintro v29 A30 ⟨rfl, leq31, wfq31⟩
 have h32 := leq31.get _ _ h26
 have h33 := leq31.get _ _ nb25.get
 have le34 := le27.trans leq31
 refine hk28 _ _ ?_
 refine Ops.q rfl (qnot rfl) ?_
 refine Ops.nil ?_
 refine h21 _ _ ?_
 refine Run.ifB rfl (fun p35 => ?_) (fun p35 => ?_)
 ·
  refine Run.seq fun K36 h37 => ?_
  refine Run.region ?_
  refine Ops.l rfl (fun _ _ hk38 _ => vcallF rfl (s_sane A30 (hL.le le34)) ?_)
  rintro v39 A40 ⟨rfl, leq41, wfq41⟩
  have h42 := leq41.get _ _ h32
  have h43 := leq41.get _ _ h33
  have le44 := le34.trans leq41
  refine hk38 _ _ ?_
  refine Ops.q rfl (qassign rfl) ?_
  refine Ops.nil ?_
  refine h37 _ _ ?_
  refine Run.ret ?_
  repeat first | with_reducible refine thenQ_ret ?_ | with_reducible refine blockQ_ret ?_
  exact retQ rfl (⟨rfl, le44, wfq41⟩)
 ·
  refine Run.skip ?_
  refine h19 _ _ ?_
  refine Run.seq fun K45 h46 => ?_
  have hsl := small_len (l := l) (ws := [w]) (by simpa using ‹(!small l [w]) = false›)
  have hl8 := hsl.1
  have hw60 := hsl.2.2 w List.mem_cons_self
  refine Run.region ?_
  refine Ops.q rfl (qloadAggAt ag24 sz24 rfl rfl h32 rfl) ?_
  refine Ops.q rfl (qmove rfl) ?_
  refine Ops.l rfl (fun _ _ hk47 _ => vcallF rfl (s_Sh3 (g := (g)) (w := w) (by omega) (hL.le le34) (hu.le le34) (by omega)) ?_)
  rintro v48 A49 ⟨dq50, dvq50, rfl, leq50, wfq50, frq50, hdlq50, hallq50⟩
  have h51 := leq50.get _ _ h32
  have h52 := leq50.get _ _ h33
  have le53 := le34.trans leq50
  have fr54 := frq50.base le34
  have no55 := frq50.ne wfq31 h32
  have no56 := frq50.ne wfq31 h33
  have hdl := hdlq50
  have hall := hallq50
  refine hk47 _ _ ?_
  refine Ops.q rfl (qmove rfl) ?_
  refine Ops.q rfl (qextract rfl rfl) ?_
  refine Ops.q rfl (qextract rfl rfl) ?_
  refine Ops.l rfl (fun _ _ hk57 _ => walloc wfq50 z36 rfl fun A59 b58 nb60 => ?_)
  have ne_b4_b58 := ne_new wfq50 h51 nb60.lo
  have ne_b23_b58 := ne_new wfq50 h52 nb60.lo
  have no61 := fr54.own.ne_new wfq50 nb60.lo
  have ge_b58 := none_of wf (Nat.le_trans le53.n nb60.lo)
  have h62 := nb60.le.get _ _ h51
  have h63 := nb60.le.get _ _ h52
  have fr64 := fr54.le nb60.le
  have le65 := le53.trans nb60.le
  refine hk57 _ _ ?_
  obtain ⟨p67, l67, c67, q67, _⟩ := fr64.own.slice
  subst q67
  refine Ops.l rfl (fun _ _ hk66 _ => wstore (cs := [str ((rS ((g)) l w).1), num (((rS ((g)) l w).2.1 : Nat) : Int), .slice p67 l67 c67]) (c' := [str ((rS ((g)) l w).1), num (((rS ((g)) l w).2.1 : Nat) : Int), .slice p67 l67 c67]) nb60.wf rfl rfl rfl rfl sz36 nb60.get (Nat.le_of_ble_eq_true rfl) rfl rfl fun A68 sb69 => ?_)
  have h70 := sb69.keep _ _ ne_b4_b58 h62
  have h71 := sb69.keep _ _ ne_b23_b58 h63
  have fr72 := fr64.keep sb69.keep no61
  have le73 := le_store le65 wf ge_b58 sb69.n sb69.keep
  refine hk66 _ _ ?_
  refine Ops.q rfl (qassign rfl) ?_
  refine Ops.nil ?_
  refine h46 _ _ ?_
  refine Run.seq fun K74 h75 => ?_
  refine Run.seq fun K76 h77 => ?_
  refine Run.region ?_
  refine Ops.q rfl (qmove rfl) ?_
  refine Ops.q rfl (qneqN (b := 0) rfl rfl) ?_
  refine Ops.nil ?_
  refine h77 _ _ ?_
  refine Run.if rfl (fun p78 => ?_) (fun p78 => ?_)
  ·
   refine Run.seq fun K79 h80 => ?_
   refine Run.region ?_
   refine Ops.l rfl (fun _ _ hk81 _ => vcallF rfl (s_sane A68 (hL.le le73)) ?_)
   rintro v82 A83 ⟨rfl, leq84, wfq84⟩
   have h85 := leq84.get _ _ h70
   have h86 := leq84.get _ _ h71
   have h87 := leq84.get _ _ sb69.get
   have fr88 := fr72.le leq84
   have le89 := le73.trans leq84
   refine hk81 _ _ ?_
   refine Ops.q rfl (qassign rfl) ?_
   refine Ops.nil ?_
   refine h80 _ _ ?_
   refine Run.ret ?_
   repeat first | with_reducible refine thenQ_ret ?_ | with_reducible refine blockQ_ret ?_
   exact retQ rfl (⟨rfl, le89, wfq84⟩)
  ·
   refine Run.skip ?_
   refine h75 _ _ ?_
   refine Run.seq fun K90 h91 => ?_
   have hall2 := hall (Decidable.not_not.1 ‹¬ ¬ (rS (g) l w).2.2 = 0›)
   have hcc := hall2.2.2
   have hwi := wInverse_length (rS (g) l w).1
   refine Run.region ?_
   refine Ops.q rfl (qloadAggAt ag24 sz24 rfl rfl h70 rfl) ?_
   refine Ops.q rfl (qfieldAddr fl36_0 sz9 (by decide) rfl) ?_
   refine Ops.q rfl (qloadAt ag9 rfl rfl sb69.get rfl) ?_
   refine Ops.l rfl (fun _ _ hk92 _ => vcallF rfl (s_StC (g := (g)) (w := ((rS ((g)) l w).1)) (by omega) (hL.le le73) (hu.le le73) hall2.2.1 (by omega)) ?_)
   rintro v93 A94 ⟨rfl, leq95, wfq95⟩
   have h96 := leq95.get _ _ h70
   have h97 := leq95.get _ _ h71
   have h98 := leq95.get _ _ sb69.get
   have fr99 := fr72.le leq95
   have le100 := le73.trans leq95
   refine hk92 _ _ ?_
   refine Ops.q rfl (qmove rfl) ?_
   refine Ops.q rfl (qextract rfl rfl) ?_
   refine Ops.q rfl (qextract rfl rfl) ?_
   refine Ops.q rfl (qassign rfl) ?_
   refine Ops.q rfl (qassign rfl) ?_
   refine Ops.nil ?_
   refine h91 _ _ ?_
   refine Run.seq fun K101 h102 => ?_
   refine Run.drawn [0, 1, 2, 3, 4, 5, 6, 7, 8, 9, 10, 11, 12, 13, 14, 15, 16, 17, 18, 19, 20, 21, 22, 23, 24, 25, 26, 27, 28, 29, 30, 31, 32, 33, 34, 35, 36, 37, 38, 39] mixed (by kernel_rfl) (by kernel_rfl) rfl ?_
   refine DOps.l rfl rfl rfl (fun _ _ hk103 _ => vcallF rfl (s_sane A94 (hL.le le100)) ?_)
   rintro v104 A105 ⟨rfl, leq106, wfq106⟩
   have h107 := leq106.get _ _ h96
   have h108 := leq106.get _ _ h97
   have h109 := leq106.get _ _ h98
   have fr110 := fr99.le leq106
   have le111 := le100.trans leq106
   refine hk103 _ _ (HeldNow.none (by kernel_rfl)) ?_
   refine DOps.q rfl rfl rfl (qmove rfl) ?_
   refine DOps.qOn rfl rfl rfl rfl rfl (qmove rfl) ?_
   refine DOps.qOn rfl rfl rfl rfl rfl (((qeqlN (a := 0) (b := 0) rfl rfl).trans (congrArg (fun z => some (Value.bool z, [])) (decide_eq_true rfl)))) ?_
   refine DOps.q rfl rfl rfl (qpickT rfl rfl) ?_
   refine DOps.q rfl rfl rfl (qmove rfl) ?_
   refine DOps.qOn rfl rfl rfl rfl rfl (qmove rfl) ?_
   refine DOps.q rfl rfl rfl (qpickT rfl rfl) ?_
   refine DOps.q rfl rfl rfl (qmove rfl) ?_
   have hc112 := cellOf (off := 0) h107 (show _ = some (num (g)) from rfl)
   have hc113 := cellOf (off := 1) h107 (show _ = some (u) from rfl)
   refine DOps.qOn rfl rfl rfl rfl rfl (qloadAggAt ag24 sz24 rfl rfl h107 rfl) ?_
   refine DOps.qOn rfl rfl rfl rfl rfl (qfieldAddr fl36_2 sz34 (by decide) rfl) ?_
   have hc114 := cellOf (off := 2) h109 (show _ = some (.slice p67 l67 c67) from rfl)
   refine DOps.qOn rfl rfl rfl rfl rfl (qloadAt ag34 rfl rfl h109 rfl) ?_
   refine DOps.qOn rfl rfl rfl rfl rfl (qmove rfl) ?_
   refine DOps.qOn rfl rfl rfl rfl rfl (qfieldAddr fl36_0 sz9 (by decide) rfl) ?_
   have hc115 := cellOf (off := 0) h109 (show _ = some (str ((rS ((g)) l w).1)) from rfl)
   refine DOps.qOn rfl rfl rfl rfl rfl (qloadAt ag9 rfl rfl h109 rfl) ?_
   refine DOps.lOn rfl rfl rfl rfl rfl (fun _ _ hk116 _ => vcallF rfl (s_RInverse ((rS ((g)) l w).1) A105 (by first | omega | (simp only [List.length_append, List.length_drop, List.length_take, inv_length]; omega))) ?_)
   rintro v117 A118 ⟨rfl, leq119, wfq119⟩
   have h120 := leq119.get _ _ h107
   have h121 := leq119.get _ _ h108
   have h122 := leq119.get _ _ h109
   have fr123 := fr110.le leq119
   have hc124 := cell_le leq119 hc112
   have hc125 := cell_le leq119 hc113
   have hc126 := cell_le leq119 hc114
   have hc127 := cell_le leq119 hc115
   have le128 := le111.trans leq119
   refine hk116 _ _ (HeldNow.list (L := [(⟨b58, 2, none⟩, .slice p67 l67 c67), (⟨b4, 0, none⟩, num (g)), (⟨b4, 1, none⟩, u)]) (by kernel_rfl) (heldCons hc126 (heldCons hc124 (heldCons hc125 heldNil)))) ?_
   refine DOps.qOn rfl rfl rfl rfl rfl (qsadd rfl rfl (by (try simp only [List.length_append, List.length_drop, List.length_take]); omega)) ?_
   refine DOps.lOn rfl rfl rfl rfl rfl (fun _ _ hk129 _ => vcallF rfl (s_PvC (w := w ++ (wInverse ((rS ((g)) l w).1))) hall2.1 (by omega) hsl.2.1 (by rw [List.length_append]; have := wInverse_length (rS (g) l w).1; omega) (by omega) (by omega) (hu.le le128) fr123.slc) ?_)
   rintro v130 A131 ⟨rfl, leq132, wfq132⟩
   have h133 := leq132.get _ _ h120
   have h134 := leq132.get _ _ h121
   have h135 := leq132.get _ _ h122
   have fr136 := fr123.le leq132
   have hc137 := cell_le leq132 hc124
   have hc138 := cell_le leq132 hc125
   have hc139 := cell_le leq132 hc126
   have le140 := le128.trans leq132
   refine hk129 _ _ (HeldNow.none (by kernel_rfl)) ?_
   refine DOps.qOn rfl rfl rfl rfl rfl (((qeqlN (a := 0) (b := 0) rfl rfl).trans (congrArg (fun z => some (Value.bool z, [])) (decide_eq_true rfl)))) ?_
   refine DOps.q rfl rfl rfl (qpickT rfl rfl) ?_
   refine DOps.q rfl rfl rfl (qmove rfl) ?_
   refine DOps.qOn rfl rfl rfl rfl rfl (qfieldAddr fl36_2 sz34 (by decide) rfl) ?_
   have hc141 := cellOf (off := 2) h135 (show _ = some (.slice p67 l67 c67) from rfl)
   refine DOps.qOn rfl rfl rfl rfl rfl (qloadAt ag34 rfl rfl h135 rfl) ?_
   refine DOps.qOn rfl rfl rfl rfl rfl (qlenS (n := (rS (g) l w).2.1) u34 rfl fr136.slc (by omega) ((dcells_length _).trans (by rw [hdl]))) ?_
   refine DOps.qOn rfl rfl rfl rfl rfl (qfieldAddr fl36_1 sz3 (by decide) rfl) ?_
   have hc142 := cellOf (off := 1) h135 (show _ = some (num (((rS ((g)) l w).2.1 : Nat) : Int)) from rfl)
   refine DOps.qOn rfl rfl rfl rfl rfl (qloadAt ag3 rfl rfl h135 rfl) ?_
   refine DOps.qOn rfl rfl rfl rfl rfl (((qeqlN rfl rfl).trans (congrArg (fun z => some (Value.bool z, [])) (decide_eq_true rfl)))) ?_
   refine DOps.q rfl rfl rfl (qpickT rfl rfl) ?_
   refine DOps.q rfl rfl rfl (qmove rfl) ?_
   refine DOps.qOn rfl rfl rfl rfl rfl (qfieldAddr fl36_1 sz3 (by decide) rfl) ?_
   have hc143 := cellOf (off := 1) h135 (show _ = some (num (((rS ((g)) l w).2.1 : Nat) : Int)) from rfl)
   refine DOps.qOn rfl rfl rfl rfl rfl (qloadAt ag3 rfl rfl h135 rfl) ?_
   refine DOps.qOn rfl rfl rfl rfl rfl (qmove rfl) ?_
   refine DOps.qOn rfl rfl rfl rfl rfl (qslen u9 rfl) ?_
   refine DOps.qOn rfl rfl rfl rfl rfl (qfieldAddr fl36_0 sz9 (by decide) rfl) ?_
   have hc144 := cellOf (off := 0) h135 (show _ = some (str ((rS ((g)) l w).1)) from rfl)
   refine DOps.qOn rfl rfl rfl rfl rfl (qloadAt ag9 rfl rfl h135 rfl) ?_
   refine DOps.qOn rfl rfl rfl rfl rfl (qslen u9 rfl) ?_
   refine DOps.qOn rfl rfl rfl rfl rfl (qsubN rfl rfl (by omega)) ?_
   refine DOps.qOn rfl rfl rfl rfl rfl (((qleqN rfl rfl).trans (congrArg (fun z => some (Value.bool z, [])) (decide_eq_true (by omega))))) ?_
   refine DOps.q rfl rfl rfl (qpickT rfl rfl) ?_
   refine DOps.q rfl rfl rfl (qassign rfl) ?_
   refine DOps.done ?_
   refine h102 _ _ ?_
   refine Run.ret ?_
   repeat first | with_reducible refine thenQ_ret ?_ | with_reducible refine blockQ_ret ?_
   exact retQ rfl (⟨rfl, le140, wfq132⟩)
end Go.Proofs.YtaccklloepfemaaGreatDoor
