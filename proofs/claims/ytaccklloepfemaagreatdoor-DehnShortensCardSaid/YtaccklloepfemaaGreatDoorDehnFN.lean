/- The contracts of the functions, one by one: what each comes to. -/
import Derived.Test.YtaccklloepfemaaGreatDoorDehnFM
import Derived.Test.YtaccklloepfemaaGreatDoorDehnCyc2
import Derived.Test.YtaccklloepfemaaGreatDoorVPair
namespace Go.Proofs.YtaccklloepfemaaGreatDoor
open Go Go.RowKit V
set_option maxRecDepth 100000
set_option linter.unusedVariables false
set_option linter.unusedSimpArgs false


theorem s_turnz (br : Nat) (S : RS) (w : List UInt8) (A : AH) (hR : Rules A br S) (hS : RSok S) (hw : w.length ≤ 1000000) : RetA Tryz.prog 46 #[.pointer (some ⟨br, 0, none⟩), str w] A (fun v A1 => ∃ z : Int, v = num z ∧ A.le A1 ∧ A1.wf ∧ z = dturn S.list w) :=
  (s_turn br S w A hR hS hw).mono fun _ _ h => ⟨_, h.1, h.2.1, h.2.2, rfl⟩


theorem s_Cy (g : Int) (u : Value) (l : List (List UInt8)) (w : List UInt8) (A : AH) (hn : l.length ≤ 1000000) (hL : Lets A) (hw : w.length ≤ 100000) (hu : Slc A 1 u (strs l)) : RetA Tryz.prog 19 #[.agg #[num (g), u], str (w)] A (fun v A1 => ∃ W d cj c dv, v = .tuple #[.agg #[str W, num ((d.length : Nat) : Int), dv], str cj, num ((c : Nat) : Int)] ∧ A.le A1 ∧ A1.wf ∧ Fresh A A1 dv 3 (dcells d) ∧ CyR g l w (W, d, cj, c)) := by
 refine enterA (e := [(0, .agg #[num (g), u]), (1, str (w))]) (args := [.agg #[num (g), u], str (w)]) Tryz.call19 Tryz.func19 rfl Tryz.results19 Tryz.ntmps19 rfl rfl rfl (fun wf => ?_)
 have le_ := AH.le.refl A
 refine Run.seq fun K1 h2 => ?_
 refine Run.region ?_
 refine Ops.l rfl (fun _ _ hk3 _ => wbox wf rfl rfl fun A5 b4 nb6 => ?_)
 have ge_b4 := none_of wf (Nat.le_trans le_.n nb6.lo)
 have le7 := le_.trans nb6.le
 refine hk3 _ _ ?_
 refine Ops.l rfl (fun _ _ hk8 _ => walloc nb6.wf z36 rfl fun A10 b9 nb11 => ?_)
 have ne_b4_b9 := ne_new nb6.wf nb6.get nb11.lo
 have ge_b9 := none_of wf (Nat.le_trans le7.n nb11.lo)
 have h12 := nb11.le.get _ _ nb6.get
 have le13 := le7.trans nb11.le
 refine hk8 _ _ ?_
 refine Ops.q rfl (qassign rfl) ?_
 refine Ops.q rfl (qassign rfl) ?_
 refine Ops.nil ?_
 refine h2 _ _ ?_
 refine Run.seq fun K14 h15 => ?_
 refine Run.seq fun K16 h17 => ?_
 refine Run.region ?_
 refine Ops.q rfl (qloadAggAt ag24 sz24 rfl rfl h12 rfl) ?_
 refine Ops.q rfl (qmove rfl) ?_
 refine Ops.l rfl (fun _ _ hk18 _ => vcallF rfl (s_refused ((g)) u l w A10 (by omega) (hL.le le13) (by first | omega | (have := hd0.1; omega)) (hu.le le13)) ?_)
 rintro v19 A20 ⟨rfl, leq21, wfq21⟩
 have h22 := leq21.get _ _ h12
 have h23 := leq21.get _ _ nb11.get
 have le24 := le13.trans leq21
 refine hk18 _ _ ?_
 refine Ops.q rfl (qassign rfl) ?_
 refine Ops.nil ?_
 refine h17 _ _ ?_
 refine Run.seq fun K25 h26 => ?_
 refine Run.region ?_
 refine Ops.q rfl (qmove rfl) ?_
 refine Ops.q rfl (qneqN (b := 0) rfl rfl) ?_
 refine Ops.nil ?_
 refine h26 _ _ ?_
 refine Run.if rfl (fun p27 => ?_) (fun p27 => ?_)
 ·
  refine Run.seq fun K28 h29 => ?_
  refine Run.region ?_
  refine Ops.q rfl (qbuild rfl (buildV_struct u36 z36 pl36 rfl)) ?_
  refine Ops.q rfl (qmove rfl) ?_
  refine Ops.l rfl (fun _ _ hk30 _ => wstore (cs := [str ([]), num ((0 : Nat) : Int), .slice none 0 0]) (c' := [str ([]), num ((0 : Nat) : Int), .slice none 0 0]) wfq21 rfl rfl rfl rfl sz36 h23 (Nat.le_of_ble_eq_true rfl) rfl rfl fun A31 sb32 => ?_)
  have h33 := sb32.keep _ _ ne_b4_b9 h22
  have le34 := le_store le24 wf ge_b9 sb32.n sb32.keep
  refine hk30 _ _ ?_
  refine Ops.q rfl (qassign rfl) ?_
  refine Ops.q rfl (qassign rfl) ?_
  refine Ops.nil ?_
  refine h29 _ _ ?_
  refine Run.ret ?_
  repeat first | with_reducible refine thenQ_ret ?_ | with_reducible refine blockQ_ret ?_
  exact retQ (resCell ag36 sz36 rfl sb32.get rfl (resTmp rfl (resTmp rfl resNil))) (⟨[], [], [], rasked ((g)) l w, _, rfl, le34, sb32.wf, Fresh.nil _ _ _, CyR.no ‹¬ rasked g l w = 0›⟩)
 ·
  refine Run.skip ?_
  refine h15 _ _ ?_
  refine Run.seq fun K35 h36 => ?_
  refine Run.region ?_
  refine Ops.q rfl (qloadAggAt ag24 sz24 rfl rfl h22 rfl) ?_
  refine Ops.l rfl (fun _ _ hk37 _ => vcallF rfl (s_newRules ((g)) u l A20 (hL.le le24) (rasked_pres ‹¬ ¬ rasked g l w = 0›) (hu.le le24)) ?_)
  rintro v38 A39 ⟨brq40, Sq40, rfl, leq40, wfq40, hRq40, hSq40, hPq40, hWq40⟩
  have h41 := leq40.get _ _ h22
  have h42 := leq40.get _ _ h23
  have le43 := le24.trans leq40
  have hR := hRq40
  have hS := hSq40
  have hP := hPq40
  have hW := hWq40
  have hRlq40 := Rules.all hRq40
  have leRq40 := le43
  have hSOq40 : SOk l Sq40 := ⟨hSq40, hPq40, hWq40⟩
  have leC : A.le (A39.hide [some b9]) := le_hide le43 (hoB ge_b9 ho0)
  have wfC := hide_wf (bs := [some b9]) wfq40
  have leCA := hide_le A39 [some b9]
  have hRC := hRq40 [some b9] (fun b hb => by simp at hb; subst hb; exact ⟨_, h23⟩)
  have hg44 := hide_get (bs := [some b9]) h41 (nmB ne_b4_b9 nm0)
  refine hk37 _ _ ?_
  refine Ops.q rfl (qassign rfl) ?_
  refine Ops.nil ?_
  refine h36 _ _ ?_
  refine Run.seq fun K45 h46 => ?_
  refine Run.region ?_
  refine Ops.q rfl (qmove rfl) ?_
  refine Ops.q rfl (qmove rfl) ?_
  refine Ops.l rfl (fun _ _ hk47 _ => vcallF rfl (s_dshort brq40 Sq40 w A39 (hRC.le leCA) hSq40 ((hL.le leC).le leCA) (by first | (have := (rasked_word ‹¬ ¬ rasked g l w = 0›).2; omega) | (rw [rot_length]; omega))) ?_)
  rintro v48 A49 ⟨dvq50, rfl, leq50, wfq50, frq50⟩
  have h51 := leq50.get _ _ h42
  have le52 := leCA.trans leq50
  have fr53 := frq50.base leCA
  have no54 := frq50.ne wfq40 h42
  refine hk47 _ _ ?_
  refine Ops.l rfl (fun _ _ hk55 _ => walloc wfq50 z36 rfl fun A57 b56 nb58 => ?_)
  have ne_b9_b56 := ne_new wfq50 h51 nb58.lo
  have no59 := fr53.own.ne_new wfq50 nb58.lo
  have ge_b56 := none_of wfC (Nat.le_trans le52.n nb58.lo)
  have h60 := nb58.le.get _ _ h51
  have fr61 := fr53.le nb58.le
  have le62 := le52.trans nb58.le
  refine hk55 _ _ ?_
  obtain ⟨p64, l64, c64, q64, _⟩ := fr61.own.slice
  subst q64
  refine Ops.l rfl (fun _ _ hk63 _ => wstore (cs := [str ((dsh Sq40 w).1), num (((dsh Sq40 w).2.length : Nat) : Int), .slice p64 l64 c64]) (c' := [str ((dsh Sq40 w).1), num (((dsh Sq40 w).2.length : Nat) : Int), .slice p64 l64 c64]) nb58.wf rfl rfl rfl rfl sz36 nb58.get (Nat.le_of_ble_eq_true rfl) rfl rfl fun A65 sb66 => ?_)
  have h67 := sb66.keep _ _ ne_b9_b56 h60
  have fr68 := fr61.keep sb66.keep no59
  have le69 := le_store le62 wfC ge_b56 sb66.n sb66.keep
  refine hk63 _ _ ?_
  refine Ops.nil ?_
  have hd0 := dsh_all hSq40 (w := w) (by have := (rasked_word ‹¬ ¬ rasked g l w = 0›).2; omega)
  have hw5 := (rasked_word ‹¬ ¬ rasked g l w = 0›).2
  refine h46 _ _ ?_
  refine Run.seq fun K70 h71 => ?_
  refine Run.region ?_
  refine Ops.q rfl (qfieldAddr fl36_0 sz9 (by decide) rfl) ?_
  refine Ops.q rfl (qloadAt ag9 rfl rfl sb66.get rfl) ?_
  refine Ops.l rfl (fun _ _ hk72 _ => vcallF rfl (s_Cyclic ((dsh Sq40 w).1) A65 (by first | omega | (have := hd0.1; omega)) ((hL.le leC).le le69)) ?_)
  rintro v73 A74 ⟨rfl, leq75, wfq75⟩
  have h76 := leq75.get _ _ h67
  have h77 := leq75.get _ _ sb66.get
  have fr78 := fr68.le leq75
  have le79 := le69.trans leq75
  refine hk72 _ _ ?_
  refine Ops.q rfl (qmove rfl) ?_
  refine Ops.q rfl (qextract rfl rfl) ?_
  refine Ops.q rfl (qextract rfl rfl) ?_
  refine Ops.q rfl (qassign rfl) ?_
  refine Ops.q rfl (qassign rfl) ?_
  refine Ops.nil ?_
  refine h71 _ _ ?_
  refine Run.block ?_
  refine Run.loop (X := Nat × List UInt8 × List UInt8 × Nat × List DCell × Value) (fun ⟨f, r, cj, n, d, cv⟩ => [(4, .pointer (some ⟨b9, 0, none⟩)), (8, .pointer (some ⟨brq40, 0, none⟩)), (9, .pointer (some ⟨b56, 0, none⟩)), (10, str (r)), (11, str (cj))]) (fun ⟨f, r, cj, n, d, cv⟩ B => (cyF Sq40 f r cj d = cyOf Sq40 w ∧ r.length < f ∧ r.length ≤ 6000 ∧ d.length + r.length ≤ 12000 ∧ n = d.length ∧ cj.length ≤ 100000 ∧ ∀ c ∈ d, c.conj.length ≤ 100000) ∧ (A39.hide [some b9]).le B ∧ Fresh (A39.hide [some b9]) B cv 3 (dcells d) ∧ B.get b56 = some (.row true [str ((dsh Sq40 w).1), num ((n : Nat) : Int), cv] 3) ∧ B.get b9 = some (.row true [str ([]), num ((0 : Nat) : Int), .slice none 0 0] 3) ∧ V.blk cv ≠ some b56 ∧ V.blk cv ≠ some b9) (fun ⟨f, r, cj, n, d, cv⟩ => r.length) (⟨(wCore (dsh Sq40 w).1).length + 1, wCore (dsh Sq40 w).1, wConj (dsh Sq40 w).1, (dsh Sq40 w).2.length, (dsh Sq40 w).2, .slice p64 l64 c64⟩) (EnvLe.cons rfl <| EnvLe.cons rfl <| EnvLe.cons rfl <| EnvLe.cons rfl <| EnvLe.cons rfl <| EnvLe.nil _) (⟨⟨rfl, by omega, by have := wCore_length (dsh Sq40 w).1; omega, by have := wCore_length (dsh Sq40 w).1; omega, rfl, by have := wConj_length (dsh Sq40 w).1; omega, fun c hc => Nat.le_trans (hd0.2.2 c hc) (by decide)⟩, le79, fr78, h77, h76, no59, no54⟩) ?_
  rintro ⟨f, r, cj, n, d, cv⟩ B81 ⟨⟨hcy, hf, hr, hdr, hnd, hcj, hdc⟩, le80, fr_cv80, hr_b5680, hr_b980, no_cv_b5680, no_cv_b980⟩
  refine Run.wf fun wf82 => ?_
  refine Run.block ?_
  refine Run.seq fun K83 h84 => ?_
  refine Run.region ?_
  refine Ops.q rfl (qmove rfl) ?_
  refine Ops.q rfl (qmove rfl) ?_
  refine Ops.l rfl (fun _ _ hk85 _ => vcallF rfl (s_turnz brq40 Sq40 r B81 (hRC.le le80) hSq40 (by omega)) ?_)
  rintro v86 A87 ⟨zq88, rfl, leq88, wfq88, hzq88⟩
  have h89 := leq88.get _ _ hr_b5680
  have h90 := leq88.get _ _ hr_b980
  have fr91 := fr_cv80.le leq88
  have le92 := le80.trans leq88
  have hz := hzq88
  refine hk85 _ _ ?_
  refine Ops.q rfl (qassign rfl) ?_
  refine Ops.nil ?_
  refine h84 _ _ ?_
  refine Run.seq fun K93 h94 => ?_
  refine Run.seq fun K95 h96 => ?_
  refine Run.region ?_
  refine Ops.q rfl (qmove rfl) ?_
  refine Ops.q rfl (qlss rfl rfl) ?_
  refine Ops.nil ?_
  refine h96 _ _ ?_
  refine Run.if rfl (fun p97 => ?_) (fun p97 => ?_)
  ·
   refine Run.seq fun K98 h99 => ?_
   refine Run.seq fun K100 h101 => ?_
   refine Run.region ?_
   refine Ops.q rfl (qfieldAddr fl36_2 sz34 (by decide) rfl) ?_
   refine Ops.q rfl (qloadAt ag34 rfl rfl h89 rfl) ?_
   refine Ops.l rfl (fun _ _ hk102 _ => vcallF rfl (s_heavy cv d A87 (by omega) (by have h1 := conjs_le hdc; have : d.length * 100000 ≤ 12000 * 100000 := Nat.mul_le_mul_right _ (by omega); omega) fr91.slc) ?_)
   rintro v103 A104 ⟨rfl, leq105, wfq105⟩
   have h106 := leq105.get _ _ h89
   have h107 := leq105.get _ _ h90
   have fr108 := fr91.le leq105
   have le109 := le92.trans leq105
   refine hk102 _ _ ?_
   refine Ops.nil ?_
   refine h101 _ _ ?_
   refine Run.if rfl (fun p110 => ?_) (fun p110 => ?_)
   ·
    refine Run.seq fun K111 h112 => ?_
    refine Run.region ?_
    refine Ops.q rfl (qbuild rfl (buildV_struct u36 z36 pl36 rfl)) ?_
    refine Ops.l rfl (fun _ _ hk113 _ => wstore (cs := [str ([]), num ((0 : Nat) : Int), .slice none 0 0]) (c' := [str ([]), num ((0 : Nat) : Int), .slice none 0 0]) wfq105 rfl rfl rfl rfl sz36 h107 (Nat.le_of_ble_eq_true rfl) rfl rfl fun A114 sb115 => ?_)
    have h116 := sb115.keep _ _ ne_b9_b56.symm h106
    have fr117 := fr108.keep sb115.keep no_cv_b980
    have le118 := le_store le109 wfC (hide_none (by simp)) sb115.n sb115.keep
    refine hk113 _ _ ?_
    refine Ops.q rfl (qassign rfl) ?_
    refine Ops.q rfl (qassign rfl) ?_
    refine Ops.nil ?_
    refine h112 _ _ ?_
    refine Run.ret ?_
    repeat first | with_reducible refine thenQ_ret ?_ | with_reducible refine blockQ_ret ?_
    exact retQ (resCell ag36 sz36 rfl sb115.get rfl (resTmp rfl (resTmp rfl resNil))) (⟨[], [], [], 2, _, (by first | rfl | (rw [hnd]; rfl)), leC.trans le118, sb115.wf, Fresh.nil _ _ _, CyR.ok ‹¬ ¬ rasked g l w = 0› hSOq40 (by first | exact (cyF_end (by omega) (by omega) hcy).trans (if_pos ‹1000000 < conjs d ∨ 100000 < d.length›) | exact cyF_no1 hz (by omega) hcy (fitsJ_no (j := k) (by omega) (by omega)) | exact cyF_no2 hz (by omega) hcy (fitsJ_yes (by omega) hfit) (by omega))⟩)
   ·
    refine Run.skip ?_
    refine h99 _ _ ?_
    refine Run.seq fun K119 h120 => ?_
    refine Run.region ?_
    refine Ops.q rfl (qmove rfl) ?_
    refine Ops.q rfl (qfieldAddr fl36_0 sz9 (by decide) rfl) ?_
    refine Ops.l rfl (fun _ _ hk121 _ => wstore (cs := [str (r)]) (c' := [str (r), num ((n : Nat) : Int), cv]) wfq105 rfl rfl rfl rfl sz9 h106 (Nat.le_of_ble_eq_true rfl) rfl rfl fun A122 sb123 => ?_)
    have h124 := sb123.keep _ _ ne_b9_b56 h107
    have fr125 := fr108.keep sb123.keep no_cv_b5680
    have le126 := le_store le109 wfC ge_b56 sb123.n sb123.keep
    refine hk121 _ _ ?_
    refine Ops.nil ?_
    refine h120 _ _ ?_
    refine Run.seq fun K127 h128 => ?_
    refine Run.region ?_
    refine Ops.q rfl (qloadAggAt ag36 sz36 rfl rfl sb123.get rfl) ?_
    refine Ops.q rfl (qmove rfl) ?_
    obtain ⟨p130, l130, c130, q130, _⟩ := fr125.own.slice
    subst q130
    refine Ops.l rfl (fun _ _ hk129 _ => wstore (cs := [str (r), num ((n : Nat) : Int), .slice p130 l130 c130]) (c' := [str (r), num ((n : Nat) : Int), .slice p130 l130 c130]) sb123.wf rfl rfl rfl rfl sz36 h124 (Nat.le_of_ble_eq_true rfl) rfl rfl fun A131 sb132 => ?_)
    have h133 := sb132.keep _ _ ne_b9_b56.symm sb123.get
    have fr134 := fr125.keep sb132.keep no_cv_b980
    have le135 := le_store le126 wfC (hide_none (by simp)) sb132.n sb132.keep
    refine hk129 _ _ ?_
    refine Ops.q rfl (qassign rfl) ?_
    refine Ops.q rfl (qassign rfl) ?_
    refine Ops.nil ?_
    refine h128 _ _ ?_
    refine Run.ret ?_
    repeat first | with_reducible refine thenQ_ret ?_ | with_reducible refine blockQ_ret ?_
    exact retQ (resCell ag36 sz36 rfl sb132.get rfl (resTmp rfl (resTmp rfl resNil))) (⟨r, d, cj, 0, _, (by first | rfl | (rw [hnd]; rfl)), leC.trans le135, sb132.wf, fr134.base leC, CyR.ok ‹¬ ¬ rasked g l w = 0› hSOq40 ((cyF_end (by omega) (by omega) hcy).trans (if_neg ‹¬ (1000000 < conjs d ∨ 100000 < d.length)›))⟩)
  ·
   refine Run.skip ?_
   refine h94 _ _ ?_
   refine Run.seq fun K136 h137 => ?_
   refine Run.region ?_
   refine Ops.q rfl (qassign rfl) ?_
   refine Ops.q rfl (qassign rfl) ?_
   refine Ops.q rfl (qassign rfl) ?_
   refine Ops.nil ?_
   obtain ⟨kt, hkt⟩ : ∃ kt : Nat, zq88 = ((kt : Nat) : Int) := ⟨zq88.toNat, by omega⟩
   subst hkt
   have htl := turn_lt hz
   have hda := dsh_all hSq40 (w := rot r kt) (by rw [rot_length]; omega)
   rw [rot_length] at hda
   have hj1 := jnd_len cj (r.take kt)
   rw [List.length_take] at hj1
   have hj2 := jnd_len (jnd cj (r.take kt)) (wConj (dsh Sq40 (rot r kt)).1)
   have hwc := wConj_length (dsh Sq40 (rot r kt)).1
   have hwk := wCore_length (dsh Sq40 (rot r kt)).1
   refine h137 _ _ ?_
   refine Run.seq fun K138 h139 => ?_
   refine Run.region ?_
   refine Ops.q rfl (qmove rfl) ?_
   refine Ops.q rfl (qmove rfl) ?_
   refine Ops.q rfl (qmove rfl) ?_
   refine Ops.q rfl (qslHi u9 rfl rfl (by omega)) ?_
   refine Ops.l rfl (fun _ _ hk140 _ => vcallF rfl (s_joined cj (r.take kt) A87 (by first | omega | (rw [List.length_take]; omega)) (by first | omega | (rw [List.length_take]; omega))) ?_)
   rintro v141 A142 ⟨rfl, rfl⟩
   refine hk140 _ _ ?_
   refine Ops.q rfl (qmove rfl) ?_
   refine Ops.q rfl (qextract rfl rfl) ?_
   refine Ops.q rfl (qextract rfl rfl) ?_
   refine Ops.q rfl (qassign rfl) ?_
   refine Ops.q rfl (qassign rfl) ?_
   refine Ops.nil ?_
   refine h139 _ _ ?_
   refine Run.seq fun K144 h145 => ?_
   refine Run.drawnP [0, 1, 2, 3, 4, 5, 6, 7] 8 9 [10] mixed (by kernel_rfl) (by kernel_rfl) rfl ?_
   refine DPair.q rfl rfl rfl (qmove rfl) ?_
   refine DPair.q rfl rfl rfl (qmove rfl) ?_
   refine DPair.q rfl rfl rfl (qmove rfl) ?_
   refine DPair.q rfl rfl rfl (qslLo u9 rfl rfl (by omega)) ?_
   refine DPair.q rfl rfl rfl (qmove rfl) ?_
   refine DPair.q rfl rfl rfl (qmove rfl) ?_
   refine DPair.q rfl rfl rfl (qslHi u9 rfl rfl (by omega)) ?_
   refine DPair.q rfl rfl rfl (qsadd rfl rfl (by (try simp only [List.length_append, List.length_drop, List.length_take]); omega)) ?_
   refine DPair.both rfl rfl rfl rfl rfl rfl ?_ ?_
   ·
    refine fun _ _ hk146 _ => vcallF rfl (s_dshort brq40 Sq40 (rot r kt) A87 (hRC.le le92) hSq40 ((hL.le leC).le le92) (by first | (have := (rasked_word ‹¬ ¬ rasked g l w = 0›).2; omega) | (rw [rot_length]; omega))) ?_
    rintro v147 A148 ⟨dvq149, rfl, leq149, wfq149, frq149⟩
    have h150 := leq149.get _ _ h89
    have h151 := leq149.get _ _ h90
    have fr152 := fr91.le leq149
    have le153 := le92.trans leq149
    have fr154 := frq149.base le92
    have sp155 := frq149.sep0 fr91.own
    have no156 := frq149.ne wfq88 h89
    have no157 := frq149.ne wfq88 h90
    refine hk146 _ _ (HeldNow.none (by kernel_rfl)) ?_
    refine DOps.l rfl rfl rfl (fun _ _ hk158 _ => walloc wfq149 z36 rfl fun A160 b159 nb161 => ?_)
    have ne_b56_b159 := ne_new wfq149 h150 nb161.lo
    have ne_b9_b159 := ne_new wfq149 h151 nb161.lo
    have no162 := fr152.own.ne_new wfq149 nb161.lo
    have no163 := fr154.own.ne_new wfq149 nb161.lo
    have ge_b159 := none_of wfC (Nat.le_trans le153.n nb161.lo)
    have h164 := nb161.le.get _ _ h150
    have h165 := nb161.le.get _ _ h151
    have fr166 := fr152.le nb161.le
    have fr167 := fr154.le nb161.le
    have le168 := le153.trans nb161.le
    refine hk158 _ _ (HeldNow.none (by kernel_rfl)) ?_
    obtain ⟨p170, l170, c170, q170, _⟩ := fr167.own.slice
    subst q170
    refine DOps.l rfl rfl rfl (fun _ _ hk169 _ => wstore (cs := [str ((dsh Sq40 (rot r kt)).1), num (((dsh Sq40 (rot r kt)).2.length : Nat) : Int), .slice p170 l170 c170]) (c' := [str ((dsh Sq40 (rot r kt)).1), num (((dsh Sq40 (rot r kt)).2.length : Nat) : Int), .slice p170 l170 c170]) nb161.wf rfl rfl rfl rfl sz36 nb161.get (Nat.le_of_ble_eq_true rfl) rfl rfl fun A171 sb172 => ?_)
    have h173 := sb172.keep _ _ ne_b56_b159 h164
    have h174 := sb172.keep _ _ ne_b9_b159 h165
    have fr175 := fr166.keep sb172.keep no162
    have fr176 := fr167.keep sb172.keep no163
    have le177 := le_store le168 wfC ge_b159 sb172.n sb172.keep
    refine hk169 _ _ (HeldNow.none (by kernel_rfl)) ?_
    refine DOps.done ?_
    refine h145 _ _ ?_
    refine Run.seq fun K178 h179 => ?_
    refine Run.seq fun K180 h181 => ?_
    refine Run.region ?_
    refine Ops.q rfl (qfieldAddr fl36_2 sz34 (by decide) rfl) ?_
    refine Ops.q rfl (qloadAt ag34 rfl rfl sb172.get rfl) ?_
    refine Ops.q rfl (qlenS (n := ((dsh Sq40 (rot r kt)).2).length) u34 rfl fr176.slc (by omega) (dcells_len _)) ?_
    refine Ops.q rfl (qmove rfl) ?_
    refine Ops.nil ?_
    refine h181 _ _ ?_
    refine Run.block ?_
    refine Run.loop (X := Nat × List DCell × Value) (fun ⟨k, e, ev⟩ => [(4, .pointer (some ⟨b9, 0, none⟩)), (8, .pointer (some ⟨brq40, 0, none⟩)), (9, .pointer (some ⟨b56, 0, none⟩)), (11, str (jnd cj (r.take kt))), (13, .bool (decide ((jnd cj (r.take kt)).length ≤ 100000))), (16, .pointer (some ⟨b159, 0, none⟩)), (70, .slice p170 l170 c170), (71, num ((((dsh Sq40 (rot r kt)).2).length : Nat) : Int)), (72, num ((k : Nat) : Int))]) (fun ⟨k, e, ev⟩ B => (k ≤ (dsh Sq40 (rot r kt)).2.length ∧ e = d ++ ((dsh Sq40 (rot r kt)).2.take k).map (cellJ (jnd cj (r.take kt))) ∧ ∀ j, j < k → (jnd (jnd cj (r.take kt)) ((dsh Sq40 (rot r kt)).2.getD j .zero).conj).length ≤ 100000) ∧ (A39.hide [some b9]).le B ∧ Fresh (A39.hide [some b9]) B ev 3 (dcells e) ∧ Fresh (A39.hide [some b9]) B (.slice p170 l170 c170) 3 (dcells ((dsh Sq40 (rot r kt)).2)) ∧ B.get b56 = some (.row true [str ((dsh Sq40 w).1), num ((n : Nat) : Int), ev] 3) ∧ B.get b9 = some (.row true [str ([]), num ((0 : Nat) : Int), .slice none 0 0] 3) ∧ B.get b159 = some (.row true [str ((dsh Sq40 (rot r kt)).1), num (((dsh Sq40 (rot r kt)).2.length : Nat) : Int), .slice p170 l170 c170] 3) ∧ V.blk ev ≠ some b56 ∧ V.blk (.slice p170 l170 c170) ≠ some b56 ∧ V.blk ev ≠ some b9 ∧ V.blk (.slice p170 l170 c170) ≠ some b9 ∧ V.blk ev ≠ some b159 ∧ V.blk (.slice p170 l170 c170) ≠ some b159 ∧ Sep ev (.slice p170 l170 c170)) (fun ⟨k, e, ev⟩ => (dsh Sq40 (rot r kt)).2.length - k) (⟨0, d, cv⟩) (EnvLe.cons rfl <| EnvLe.cons rfl <| EnvLe.cons rfl <| EnvLe.cons rfl <| EnvLe.cons rfl <| EnvLe.cons rfl <| EnvLe.cons rfl <| EnvLe.cons rfl <| EnvLe.cons rfl <| EnvLe.nil _) (⟨⟨Nat.zero_le _, (List.append_nil _).symm, fun j h => by omega⟩, le177, fr175, fr176, h173, h174, sb172.get, no_cv_b5680, no156, no_cv_b980, no157, no162, no163, (Sep.symm sp155)⟩) ?_
    rintro ⟨k, e, ev⟩ B183 ⟨⟨hk, he, hfit⟩, le182, fr_ev182, fk_oq149182, hr_b56182, hr_b9182, hr_b159182, no_ev_b56182, no_oq149_b56182, no_ev_b9182, no_oq149_b9182, no_ev_b159182, no_oq149_b159182, sq182_0_1⟩
    refine Run.wf fun wf184 => ?_
    have hel : e.length = d.length + k := by rw [he, List.length_append, List.length_map, List.length_take]; omega
    have hgc := getD_conj hda.2.2 k
    refine Run.seq fun K185 h186 => ?_
    refine Run.region ?_
    refine Ops.q rfl (qlssN rfl rfl) ?_
    refine Ops.nil ?_
    refine h186 _ _ ?_
    refine Run.seq fun K187 h188 => ?_
    refine Run.if rfl (fun p189 => ?_) (fun p189 => ?_)
    ·
     refine Run.skip ?_
     refine h188 _ _ ?_
     refine Run.seq fun K190 h191 => ?_
     refine Run.block ?_
     refine Run.seq fun K192 h193 => ?_
     refine Run.region ?_
     obtain ⟨b194, f194, rw194, r194, rc194, n194, k194, e194, l194, g194, cl194, cs194⟩ := Slc.at (i := k) fk_oq149182.slc (by simp only [dcells_length]; omega) (by omega)
     refine Ops.q rfl (qindexS u34 sz79 rfl e194 rfl l194) ?_
     refine Ops.q rfl (qloadAggAt ag79 sz79 rfl rfl g194 (cl194.trans (congrArg some (dcells_at (by omega))))) ?_
     refine Ops.l rfl (fun _ _ hk195 _ => walloc wf184 z79 rfl fun A197 b196 nb198 => ?_)
     have ne_b56_b196 := ne_new wf184 hr_b56182 nb198.lo
     have ne_b9_b196 := ne_new wf184 hr_b9182 nb198.lo
     have ne_b159_b196 := ne_new wf184 hr_b159182 nb198.lo
     have no199 := fr_ev182.own.ne_new wf184 nb198.lo
     have no200 := fk_oq149182.own.ne_new wf184 nb198.lo
     have ge_b196 := none_of wfC (Nat.le_trans le182.n nb198.lo)
     have h201 := nb198.le.get _ _ hr_b56182
     have h202 := nb198.le.get _ _ hr_b9182
     have h203 := nb198.le.get _ _ hr_b159182
     have fr204 := fr_ev182.le nb198.le
     have fr205 := fk_oq149182.le nb198.le
     have le206 := le182.trans nb198.le
     refine hk195 _ _ ?_
     refine Ops.l rfl (fun _ _ hk207 _ => wstore (cs := [str ((((dsh Sq40 (rot r kt)).2).getD k .zero).conj), num ((((dsh Sq40 (rot r kt)).2).getD k .zero).rel), .bool ((((dsh Sq40 (rot r kt)).2).getD k .zero).inv)]) (c' := [str ((((dsh Sq40 (rot r kt)).2).getD k .zero).conj), num ((((dsh Sq40 (rot r kt)).2).getD k .zero).rel), .bool ((((dsh Sq40 (rot r kt)).2).getD k .zero).inv)]) nb198.wf rfl rfl rfl rfl sz79 nb198.get (Nat.le_of_ble_eq_true rfl) rfl rfl fun A208 sb209 => ?_)
     have h210 := sb209.keep _ _ ne_b56_b196 h201
     have h211 := sb209.keep _ _ ne_b9_b196 h202
     have h212 := sb209.keep _ _ ne_b159_b196 h203
     have fr213 := fr204.keep sb209.keep no199
     have fr214 := fr205.keep sb209.keep no200
     have le215 := le_store le206 wfC ge_b196 sb209.n sb209.keep
     refine hk207 _ _ ?_
     refine Ops.nil ?_
     refine h193 _ _ ?_
     refine Run.seq fun K216 h217 => ?_
     refine Run.region ?_
     refine Ops.q rfl (qmove rfl) ?_
     refine Ops.q rfl (qfieldAddr fl79_0 sz9 (by decide) rfl) ?_
     refine Ops.q rfl (qloadAt ag9 rfl rfl sb209.get rfl) ?_
     refine Ops.l rfl (fun _ _ hk218 _ => vcallF rfl (s_joined (jnd cj (r.take kt)) ((((dsh Sq40 (rot r kt)).2).getD k .zero).conj) A208 (by first | omega | (rw [List.length_take]; omega)) (by first | omega | (rw [List.length_take]; omega))) ?_)
     rintro v219 A220 ⟨rfl, rfl⟩
     refine hk218 _ _ ?_
     refine Ops.q rfl (qmove rfl) ?_
     refine Ops.q rfl (qextract rfl rfl) ?_
     refine Ops.q rfl (qextract rfl rfl) ?_
     refine Ops.q rfl (qfieldAddr fl79_0 sz9 (by decide) rfl) ?_
     refine Ops.l rfl (fun _ _ hk222 _ => wstore (cs := [str (jnd (jnd cj (r.take kt)) ((((dsh Sq40 (rot r kt)).2).getD k .zero).conj))]) (c' := [str (jnd (jnd cj (r.take kt)) ((((dsh Sq40 (rot r kt)).2).getD k .zero).conj)), num ((((dsh Sq40 (rot r kt)).2).getD k .zero).rel), .bool ((((dsh Sq40 (rot r kt)).2).getD k .zero).inv)]) sb209.wf rfl rfl rfl rfl sz9 sb209.get (Nat.le_of_ble_eq_true rfl) rfl rfl fun A223 sb224 => ?_)
     have h225 := sb224.keep _ _ ne_b56_b196 h210
     have h226 := sb224.keep _ _ ne_b9_b196 h211
     have h227 := sb224.keep _ _ ne_b159_b196 h212
     have fr228 := fr213.keep sb224.keep no199
     have fr229 := fr214.keep sb224.keep no200
     have le230 := le_store le215 wfC ge_b196 sb224.n sb224.keep
     refine hk222 _ _ ?_
     refine Ops.q rfl (qassign rfl) ?_
     refine Ops.nil ?_
     refine h217 _ _ ?_
     refine Run.seq fun K231 h232 => ?_
     refine Run.seq fun K233 h234 => ?_
     refine Run.region ?_
     refine Ops.q rfl (qmove rfl) ?_
     refine Ops.q rfl (qnotP rfl) ?_
     refine Ops.nil ?_
     refine h234 _ _ ?_
     refine Run.if rfl (fun p235 => ?_) (fun p235 => ?_)
     ·
      refine Run.seq fun K236 h237 => ?_
      refine Run.region ?_
      refine Ops.q rfl (qbuild rfl (buildV_struct u36 z36 pl36 rfl)) ?_
      refine Ops.l rfl (fun _ _ hk238 _ => wstore (cs := [str ([]), num ((0 : Nat) : Int), .slice none 0 0]) (c' := [str ([]), num ((0 : Nat) : Int), .slice none 0 0]) sb224.wf rfl rfl rfl rfl sz36 h226 (Nat.le_of_ble_eq_true rfl) rfl rfl fun A239 sb240 => ?_)
      have h241 := sb240.keep _ _ ne_b9_b56.symm h225
      have h242 := sb240.keep _ _ ne_b9_b159.symm h227
      have h243 := sb240.keep _ _ ne_b9_b196.symm sb224.get
      have fr244 := fr228.keep sb240.keep no_ev_b9182
      have fr245 := fr229.keep sb240.keep no_oq149_b9182
      have le246 := le_store le230 wfC (hide_none (by simp)) sb240.n sb240.keep
      refine hk238 _ _ ?_
      refine Ops.q rfl (qassign rfl) ?_
      refine Ops.q rfl (qassign rfl) ?_
      refine Ops.nil ?_
      refine h237 _ _ ?_
      refine Run.ret ?_
      repeat first | with_reducible refine thenQ_ret ?_ | with_reducible refine blockQ_ret ?_
      exact retQ (resCell ag36 sz36 rfl sb240.get rfl (resTmp rfl (resTmp rfl resNil))) (⟨[], [], [], 2, _, (by first | rfl | (rw [hnd]; rfl)), leC.trans le246, sb240.wf, Fresh.nil _ _ _, CyR.ok ‹¬ ¬ rasked g l w = 0› hSOq40 (by first | exact (cyF_end (by omega) (by omega) hcy).trans (if_pos ‹1000000 < conjs d ∨ 100000 < d.length›) | exact cyF_no1 hz (by omega) hcy (fitsJ_no (j := k) (by omega) (by omega)) | exact cyF_no2 hz (by omega) hcy (fitsJ_yes (by omega) hfit) (by omega))⟩)
     ·
      refine Run.skip ?_
      refine h232 _ _ ?_
      refine Run.region ?_
      refine Ops.q rfl (qfieldAddr fl36_2 sz34 (by decide) rfl) ?_
      refine Ops.q rfl (qloadAt ag34 rfl rfl h225 rfl) ?_
      refine Ops.q rfl (qloadAggAt ag79 sz79 rfl rfl sb224.get rfl) ?_
      refine Ops.l rfl (fun _ _ hk247 _ => wbuildSlice (c := [str (jnd (jnd cj (r.take kt)) ((((dsh Sq40 (rot r kt)).2).getD k .zero).conj)), num ((((dsh Sq40 (rot r kt)).2).getD k .zero).rel), .bool ((((dsh Sq40 (rot r kt)).2).getD k .zero).inv)]) sb224.wf rfl (buildSliceV_of u34 sz79 z79 rfl (by decide) (by decide) rfl) fun A249 b248 nb250 => ?_)
      have ne_b56_b248 := ne_new sb224.wf h225 nb250.lo
      have ne_b9_b248 := ne_new sb224.wf h226 nb250.lo
      have ne_b159_b248 := ne_new sb224.wf h227 nb250.lo
      have ne_b196_b248 := ne_new sb224.wf sb224.get nb250.lo
      have no251 := fr228.own.ne_new sb224.wf nb250.lo
      have no252 := fr229.own.ne_new sb224.wf nb250.lo
      have ge_b248 := none_of wfC (Nat.le_trans le230.n nb250.lo)
      have h253 := nb250.le.get _ _ h225
      have h254 := nb250.le.get _ _ h226
      have h255 := nb250.le.get _ _ h227
      have h256 := nb250.le.get _ _ sb224.get
      have fr257 := fr228.le nb250.le
      have fr258 := fr229.le nb250.le
      have le259 := le230.trans nb250.le
      refine hk247 _ _ ?_
      refine Ops.l rfl (fun _ _ hk260 _ => wappend (ys := [str (jnd (jnd cj (r.take kt)) ((((dsh Sq40 (rot r kt)).2).getD k .zero).conj)), num ((((dsh Sq40 (rot r kt)).2).getD k .zero).rel), .bool ((((dsh Sq40 (rot r kt)).2).getD k .zero).inv)]) rfl rfl u34 sz79 inf79 z79 rfl (by decide) u34 (fun _ h => by cases h) fr257.own (listOf_row (n := 1) nb250.get rfl) rfl rfl (by show (_ + _) * 32 ≤ _; simp only [dcells_length, List.length_cons, List.length_nil]; (try simp only [List.length_append, List.length_cons, List.length_nil]); omega) (by simp only [dcells_length, List.length_cons, List.length_nil]; (try simp only [List.length_append, List.length_cons, List.length_nil]); omega) fun A261 v262 ap263 => ?_)
      rw [show ([str (jnd (jnd cj (r.take kt)) ((((dsh Sq40 (rot r kt)).2).getD k .zero).conj)), num ((((dsh Sq40 (rot r kt)).2).getD k .zero).rel), .bool ((((dsh Sq40 (rot r kt)).2).getD k .zero).inv)] : List Value) = dcells [⟨jnd (jnd cj (r.take kt)) ((((dsh Sq40 (rot r kt)).2).getD k .zero).conj), (((dsh Sq40 (rot r kt)).2).getD k .zero).rel, (((dsh Sq40 (rot r kt)).2).getD k .zero).inv⟩] from rfl, dcells_append] at ap263
      obtain ⟨fr266, le267⟩ := Fresh.grow fr257 le259 wfC ap263
      have h268 := ap263.keep no_ev_b56182 h253
      have ne269 := ap263.ne no_ev_b56182 nb250.wf h253
      have h270 := ap263.keep no_ev_b9182 h254
      have ne271 := ap263.ne no_ev_b9182 nb250.wf h254
      have h272 := ap263.keep no_ev_b159182 h255
      have ne273 := ap263.ne no_ev_b159182 nb250.wf h255
      have h274 := ap263.keep no199 h256
      have ne275 := ap263.ne no199 nb250.wf h256
      have sp277 := Sep.appd (show Sep ev (.slice p170 l170 c170) from sq182_0_1) fr258.own nb250.wf ap263
      have fr276 := fr258.appd ap263 sq182_0_1
      refine hk260 _ _ ?_
      refine Ops.q rfl (qfieldAddr fl36_2 sz34 (by decide) rfl) ?_
      obtain ⟨p279, l279, c279, q279, _⟩ := fr266.own.slice
      subst q279
      refine Ops.l rfl (fun _ _ hk278 _ => wstore (cs := [.slice p279 l279 c279]) (c' := [str ((dsh Sq40 w).1), num ((n : Nat) : Int), .slice p279 l279 c279]) ap263.wf rfl rfl rfl rfl sz34 h268 (Nat.le_of_ble_eq_true rfl) rfl rfl fun A280 sb281 => ?_)
      have h282 := sb281.keep _ _ ne_b9_b56 h270
      have h283 := sb281.keep _ _ ne_b56_b159.symm h272
      have h284 := sb281.keep _ _ ne_b56_b196.symm h274
      have fr285 := fr276.keep sb281.keep no_oq149_b56182
      have fr286 := fr266.keep sb281.keep ne269
      have le287 := le_store le267 wfC ge_b56 sb281.n sb281.keep
      refine hk278 _ _ ?_
      refine Ops.nil ?_
      refine h191 _ _ ?_
      refine Run.region ?_
      refine Ops.q rfl (qaddN (b := 1) rfl rfl (by omega)) ?_
      refine Ops.q rfl (qmove rfl) ?_
      refine Ops.nil ?_
      exact ⟨⟨k + 1, e ++ [⟨jnd (jnd cj (r.take kt)) ((((dsh Sq40 (rot r kt)).2).getD k .zero).conj), (((dsh Sq40 (rot r kt)).2).getD k .zero).rel, (((dsh Sq40 (rot r kt)).2).getD k .zero).inv⟩], .slice p279 l279 c279⟩, EnvLe.cons rfl <| EnvLe.cons rfl <| EnvLe.cons rfl <| EnvLe.cons rfl <| EnvLe.cons rfl <| EnvLe.cons rfl <| EnvLe.cons rfl <| EnvLe.cons rfl <| EnvLe.cons rfl <| EnvLe.nil _, rfl, ⟨⟨by omega, by rw [he]; exact conj_step (by omega), fun j h => (Nat.lt_succ_iff_lt_or_eq.1 h).elim (hfit j) (fun q => by subst q; omega)⟩, le287, fr286, fr285, sb281.get, h282, h283, ne269, no_oq149_b56182, ne271, no_oq149_b9182, ne273, no_oq149_b159182, sp277⟩, (by (try dsimp only); omega)⟩
    ·
     refine Run.exit ?_
     refine h179 _ _ ?_
     refine Run.seq fun K288 h289 => ?_
     refine Run.region ?_
     refine Ops.q rfl (qfieldAddr fl36_1 sz3 (by decide) rfl) ?_
     refine Ops.q rfl (qloadAt ag3 rfl rfl hr_b56182 rfl) ?_
     refine Ops.q rfl (qfieldAddr fl36_1 sz3 (by decide) rfl) ?_
     refine Ops.q rfl (qloadAt ag3 rfl rfl hr_b159182 rfl) ?_
     refine Ops.q rfl (qaddN rfl rfl (by omega)) ?_
     refine Ops.q rfl (qfieldAddr fl36_1 sz3 (by decide) rfl) ?_
     refine Ops.l rfl (fun _ _ hk290 _ => wstore (cs := [num ((n + ((dsh Sq40 (rot r kt)).2.length) : Nat) : Int)]) (c' := [str ((dsh Sq40 w).1), num ((n + ((dsh Sq40 (rot r kt)).2.length) : Nat) : Int), ev]) wf184 rfl rfl rfl rfl sz3 hr_b56182 (Nat.le_of_ble_eq_true rfl) rfl rfl fun A291 sb292 => ?_)
     have h293 := sb292.keep _ _ ne_b9_b56 hr_b9182
     have h294 := sb292.keep _ _ ne_b56_b159.symm hr_b159182
     have fr295 := fr_ev182.keep sb292.keep no_ev_b56182
     have fr296 := fk_oq149182.keep sb292.keep no_oq149_b56182
     have le297 := le_store le182 wfC ge_b56 sb292.n sb292.keep
     refine hk290 _ _ ?_
     refine Ops.nil ?_
     refine h289 _ _ ?_
     refine Run.seq fun K298 h299 => ?_
     refine Run.region ?_
     refine Ops.q rfl (qfieldAddr fl36_0 sz9 (by decide) rfl) ?_
     refine Ops.q rfl (qloadAt ag9 rfl rfl h294 rfl) ?_
     refine Ops.l rfl (fun _ _ hk300 _ => vcallF rfl (s_Cyclic ((dsh Sq40 (rot r kt)).1) A291 (by first | omega | (have := hd0.1; omega)) ((hL.le leC).le le297)) ?_)
     rintro v301 A302 ⟨rfl, leq303, wfq303⟩
     have h304 := leq303.get _ _ sb292.get
     have h305 := leq303.get _ _ h293
     have h306 := leq303.get _ _ h294
     have fr307 := fr295.le leq303
     have fr308 := fr296.le leq303
     have le309 := le297.trans leq303
     refine hk300 _ _ ?_
     refine Ops.q rfl (qmove rfl) ?_
     refine Ops.q rfl (qextract rfl rfl) ?_
     refine Ops.q rfl (qextract rfl rfl) ?_
     refine Ops.q rfl (qassign rfl) ?_
     refine Ops.q rfl (qassign rfl) ?_
     refine Ops.nil ?_
     refine h299 _ _ ?_
     refine Run.seq fun K310 h311 => ?_
     refine Run.region ?_
     refine Ops.q rfl (qmove rfl) ?_
     refine Ops.q rfl (qassign rfl) ?_
     refine Ops.nil ?_
     refine h311 _ _ ?_
     refine Run.seq fun K312 h313 => ?_
     refine Run.region ?_
     refine Ops.q rfl (qmove rfl) ?_
     refine Ops.q rfl (qmove rfl) ?_
     refine Ops.l rfl (fun _ _ hk314 _ => vcallF rfl (s_joined (jnd cj (r.take kt)) (wConj ((dsh Sq40 (rot r kt)).1)) A302 (by first | omega | (rw [List.length_take]; omega)) (by first | omega | (rw [List.length_take]; omega))) ?_)
     rintro v315 A316 ⟨rfl, rfl⟩
     refine hk314 _ _ ?_
     refine Ops.q rfl (qmove rfl) ?_
     refine Ops.q rfl (qextract rfl rfl) ?_
     refine Ops.q rfl (qextract rfl rfl) ?_
     refine Ops.q rfl (qassign rfl) ?_
     refine Ops.q rfl (qassign rfl) ?_
     refine Ops.nil ?_
     refine h313 _ _ ?_
     refine Run.seq fun K318 h319 => ?_
     refine Run.region ?_
     refine Ops.q rfl (qmove rfl) ?_
     refine Ops.q rfl (qnotP rfl) ?_
     refine Ops.q rfl (qmove rfl) ?_
     refine Ops.part (t := 115) rfl (fun p320 => ?_) (fun p320 => ?_)
     ·
      refine Ops.off rfl rfl rfl rfl ?_
      refine Ops.off rfl rfl rfl rfl ?_
      refine Ops.q rfl (qpickT rfl rfl) ?_
      refine Ops.nil ?_
      refine h319 _ _ ?_
      refine Run.cond_true rfl ?_
      refine Run.seq fun K321 h322 => ?_
      refine Run.region ?_
      refine Ops.q rfl (qbuild rfl (buildV_struct u36 z36 pl36 rfl)) ?_
      refine Ops.l rfl (fun _ _ hk323 _ => wstore (cs := [str ([]), num ((0 : Nat) : Int), .slice none 0 0]) (c' := [str ([]), num ((0 : Nat) : Int), .slice none 0 0]) wfq303 rfl rfl rfl rfl sz36 h305 (Nat.le_of_ble_eq_true rfl) rfl rfl fun A324 sb325 => ?_)
      have h326 := sb325.keep _ _ ne_b9_b56.symm h304
      have h327 := sb325.keep _ _ ne_b9_b159.symm h306
      have fr328 := fr307.keep sb325.keep no_ev_b9182
      have fr329 := fr308.keep sb325.keep no_oq149_b9182
      have le330 := le_store le309 wfC (hide_none (by simp)) sb325.n sb325.keep
      refine hk323 _ _ ?_
      refine Ops.q rfl (qassign rfl) ?_
      refine Ops.q rfl (qassign rfl) ?_
      refine Ops.nil ?_
      refine h322 _ _ ?_
      refine Run.ret ?_
      repeat first | with_reducible refine thenQ_ret ?_ | with_reducible refine blockQ_ret ?_
      exact retQ (resCell ag36 sz36 rfl sb325.get rfl (resTmp rfl (resTmp rfl resNil))) (⟨[], [], [], 2, _, (by first | rfl | (rw [hnd]; rfl)), leC.trans le330, sb325.wf, Fresh.nil _ _ _, CyR.ok ‹¬ ¬ rasked g l w = 0› hSOq40 (by first | exact (cyF_end (by omega) (by omega) hcy).trans (if_pos ‹1000000 < conjs d ∨ 100000 < d.length›) | exact cyF_no1 hz (by omega) hcy (fitsJ_no (j := k) (by omega) (by omega)) | exact cyF_no2 hz (by omega) hcy (fitsJ_yes (by omega) hfit) (by omega))⟩)
     ·
      refine Ops.on rfl rfl ?_
      refine Ops.q rfl (qmove rfl) ?_
      refine Ops.on rfl rfl ?_
      refine Ops.q rfl (qnotP rfl) ?_
      refine Ops.q rfl (qpickF rfl rfl) ?_
      refine Ops.nil ?_
      refine h319 _ _ ?_
      refine Run.if rfl (fun p331 => ?_) (fun p331 => ?_)
      ·
       refine Run.seq fun K332 h333 => ?_
       refine Run.region ?_
       refine Ops.q rfl (qbuild rfl (buildV_struct u36 z36 pl36 rfl)) ?_
       refine Ops.l rfl (fun _ _ hk334 _ => wstore (cs := [str ([]), num ((0 : Nat) : Int), .slice none 0 0]) (c' := [str ([]), num ((0 : Nat) : Int), .slice none 0 0]) wfq303 rfl rfl rfl rfl sz36 h305 (Nat.le_of_ble_eq_true rfl) rfl rfl fun A335 sb336 => ?_)
       have h337 := sb336.keep _ _ ne_b9_b56.symm h304
       have h338 := sb336.keep _ _ ne_b9_b159.symm h306
       have fr339 := fr307.keep sb336.keep no_ev_b9182
       have fr340 := fr308.keep sb336.keep no_oq149_b9182
       have le341 := le_store le309 wfC (hide_none (by simp)) sb336.n sb336.keep
       refine hk334 _ _ ?_
       refine Ops.q rfl (qassign rfl) ?_
       refine Ops.q rfl (qassign rfl) ?_
       refine Ops.nil ?_
       refine h333 _ _ ?_
       refine Run.ret ?_
       repeat first | with_reducible refine thenQ_ret ?_ | with_reducible refine blockQ_ret ?_
       exact retQ (resCell ag36 sz36 rfl sb336.get rfl (resTmp rfl (resTmp rfl resNil))) (⟨[], [], [], 2, _, (by first | rfl | (rw [hnd]; rfl)), leC.trans le341, sb336.wf, Fresh.nil _ _ _, CyR.ok ‹¬ ¬ rasked g l w = 0› hSOq40 (by first | exact (cyF_end (by omega) (by omega) hcy).trans (if_pos ‹1000000 < conjs d ∨ 100000 < d.length›) | exact cyF_no1 hz (by omega) hcy (fitsJ_no (j := k) (by omega) (by omega)) | exact cyF_no2 hz (by omega) hcy (fitsJ_yes (by omega) hfit) (by omega))⟩)
      ·
       refine Run.skip ?_
       exact ⟨⟨f - 1, wCore ((dsh Sq40 (rot r kt)).1), jnd (jnd cj (r.take kt)) (wConj ((dsh Sq40 (rot r kt)).1)), n + ((dsh Sq40 (rot r kt)).2.length), e, ev⟩, EnvLe.cons rfl <| EnvLe.cons rfl <| EnvLe.cons rfl <| EnvLe.cons rfl <| EnvLe.cons rfl <| EnvLe.nil _, rfl, ⟨⟨by rw [he, List.take_of_length_le (l := (dsh Sq40 (rot r kt)).2) (by omega)]; exact cyF_go hz (by omega) hcy (fitsJ_yes (by omega) hfit) ⟨by omega, by omega⟩, by omega, by omega, by rw [he]; simp only [List.length_append, List.length_map, List.length_take]; omega, by rw [he]; simp only [List.length_append, List.length_map, List.length_take]; omega, by omega, fun c hc => by rw [he] at hc; rcases List.mem_append.1 hc with hc | hc; exact hdc c hc; obtain ⟨c2, hc2, rfl⟩ := List.mem_map.1 hc; obtain ⟨j, hj, rfl⟩ := List.getElem_of_mem hc2; rw [List.length_take] at hj; have := hfit j (by omega); simpa [show j < (dsh Sq40 (rot r kt)).2.length by omega, cellJ] using this⟩, le309, fr307, h304, h305, no_ev_b56182, no_ev_b9182⟩, (by (try dsimp only); omega)⟩
   ·
    refine fun _ _ hk342 _ => walloc wfq88 z36 rfl fun A344 b343 nb345 => ?_
    have ne_b56_b343 := ne_new wfq88 h89 nb345.lo
    have ne_b9_b343 := ne_new wfq88 h90 nb345.lo
    have no346 := fr91.own.ne_new wfq88 nb345.lo
    have ge_b343 := none_of wfC (Nat.le_trans le92.n nb345.lo)
    have h347 := nb345.le.get _ _ h89
    have h348 := nb345.le.get _ _ h90
    have fr349 := fr91.le nb345.le
    have le350 := le92.trans nb345.le
    refine hk342 _ _ (HeldNow.none (by kernel_rfl)) ?_
    refine DOps.l rfl rfl rfl (fun _ _ hk351 _ => vcallF rfl (s_dshort brq40 Sq40 (rot r kt) A344 (hRC.le le350) hSq40 ((hL.le leC).le le350) (by first | (have := (rasked_word ‹¬ ¬ rasked g l w = 0›).2; omega) | (rw [rot_length]; omega))) ?_)
    rintro v352 A353 ⟨dvq354, rfl, leq354, wfq354, frq354⟩
    have h355 := leq354.get _ _ h347
    have h356 := leq354.get _ _ h348
    have h357 := leq354.get _ _ nb345.get
    have fr358 := fr349.le leq354
    have le359 := le350.trans leq354
    have fr360 := frq354.base le350
    have sp361 := frq354.sep0 fr349.own
    have no362 := frq354.ne nb345.wf h347
    have no363 := frq354.ne nb345.wf h348
    have no364 := frq354.ne nb345.wf nb345.get
    refine hk351 _ _ (HeldNow.none (by kernel_rfl)) ?_
    obtain ⟨p366, l366, c366, q366, _⟩ := fr360.own.slice
    subst q366
    refine DOps.l rfl rfl rfl (fun _ _ hk365 _ => wstore (cs := [str ((dsh Sq40 (rot r kt)).1), num (((dsh Sq40 (rot r kt)).2.length : Nat) : Int), .slice p366 l366 c366]) (c' := [str ((dsh Sq40 (rot r kt)).1), num (((dsh Sq40 (rot r kt)).2.length : Nat) : Int), .slice p366 l366 c366]) wfq354 rfl rfl rfl rfl sz36 h357 (Nat.le_of_ble_eq_true rfl) rfl rfl fun A367 sb368 => ?_)
    have h369 := sb368.keep _ _ ne_b56_b343 h355
    have h370 := sb368.keep _ _ ne_b9_b343 h356
    have fr371 := fr358.keep sb368.keep no346
    have fr372 := fr360.keep sb368.keep no364
    have le373 := le_store le359 wfC ge_b343 sb368.n sb368.keep
    refine hk365 _ _ (HeldNow.none (by kernel_rfl)) ?_
    refine DOps.done ?_
    refine h145 _ _ ?_
    refine Run.seq fun K374 h375 => ?_
    refine Run.seq fun K376 h377 => ?_
    refine Run.region ?_
    refine Ops.q rfl (qfieldAddr fl36_2 sz34 (by decide) rfl) ?_
    refine Ops.q rfl (qloadAt ag34 rfl rfl sb368.get rfl) ?_
    refine Ops.q rfl (qlenS (n := ((dsh Sq40 (rot r kt)).2).length) u34 rfl fr372.slc (by omega) (dcells_len _)) ?_
    refine Ops.q rfl (qmove rfl) ?_
    refine Ops.nil ?_
    refine h377 _ _ ?_
    refine Run.block ?_
    refine Run.loop (X := Nat × List DCell × Value) (fun ⟨k, e, ev⟩ => [(4, .pointer (some ⟨b9, 0, none⟩)), (8, .pointer (some ⟨brq40, 0, none⟩)), (9, .pointer (some ⟨b56, 0, none⟩)), (11, str (jnd cj (r.take kt))), (13, .bool (decide ((jnd cj (r.take kt)).length ≤ 100000))), (16, .pointer (some ⟨b343, 0, none⟩)), (70, .slice p366 l366 c366), (71, num ((((dsh Sq40 (rot r kt)).2).length : Nat) : Int)), (72, num ((k : Nat) : Int))]) (fun ⟨k, e, ev⟩ B => (k ≤ (dsh Sq40 (rot r kt)).2.length ∧ e = d ++ ((dsh Sq40 (rot r kt)).2.take k).map (cellJ (jnd cj (r.take kt))) ∧ ∀ j, j < k → (jnd (jnd cj (r.take kt)) ((dsh Sq40 (rot r kt)).2.getD j .zero).conj).length ≤ 100000) ∧ (A39.hide [some b9]).le B ∧ Fresh (A39.hide [some b9]) B ev 3 (dcells e) ∧ Fresh (A39.hide [some b9]) B (.slice p366 l366 c366) 3 (dcells ((dsh Sq40 (rot r kt)).2)) ∧ B.get b56 = some (.row true [str ((dsh Sq40 w).1), num ((n : Nat) : Int), ev] 3) ∧ B.get b9 = some (.row true [str ([]), num ((0 : Nat) : Int), .slice none 0 0] 3) ∧ B.get b343 = some (.row true [str ((dsh Sq40 (rot r kt)).1), num (((dsh Sq40 (rot r kt)).2.length : Nat) : Int), .slice p366 l366 c366] 3) ∧ V.blk ev ≠ some b56 ∧ V.blk (.slice p366 l366 c366) ≠ some b56 ∧ V.blk ev ≠ some b9 ∧ V.blk (.slice p366 l366 c366) ≠ some b9 ∧ V.blk ev ≠ some b343 ∧ V.blk (.slice p366 l366 c366) ≠ some b343 ∧ Sep ev (.slice p366 l366 c366)) (fun ⟨k, e, ev⟩ => (dsh Sq40 (rot r kt)).2.length - k) (⟨0, d, cv⟩) (EnvLe.cons rfl <| EnvLe.cons rfl <| EnvLe.cons rfl <| EnvLe.cons rfl <| EnvLe.cons rfl <| EnvLe.cons rfl <| EnvLe.cons rfl <| EnvLe.cons rfl <| EnvLe.cons rfl <| EnvLe.nil _) (⟨⟨Nat.zero_le _, (List.append_nil _).symm, fun j h => by omega⟩, le373, fr371, fr372, h369, h370, sb368.get, no_cv_b5680, no362, no_cv_b980, no363, no346, no364, (Sep.symm sp361)⟩) ?_
    rintro ⟨k, e, ev⟩ B379 ⟨⟨hk, he, hfit⟩, le378, fr_ev378, fk_oq354378, hr_b56378, hr_b9378, hr_b343378, no_ev_b56378, no_oq354_b56378, no_ev_b9378, no_oq354_b9378, no_ev_b343378, no_oq354_b343378, sq378_0_1⟩
    refine Run.wf fun wf380 => ?_
    have hel : e.length = d.length + k := by rw [he, List.length_append, List.length_map, List.length_take]; omega
    have hgc := getD_conj hda.2.2 k
    refine Run.seq fun K381 h382 => ?_
    refine Run.region ?_
    refine Ops.q rfl (qlssN rfl rfl) ?_
    refine Ops.nil ?_
    refine h382 _ _ ?_
    refine Run.seq fun K383 h384 => ?_
    refine Run.if rfl (fun p385 => ?_) (fun p385 => ?_)
    ·
     refine Run.skip ?_
     refine h384 _ _ ?_
     refine Run.seq fun K386 h387 => ?_
     refine Run.block ?_
     refine Run.seq fun K388 h389 => ?_
     refine Run.region ?_
     obtain ⟨b390, f390, rw390, r390, rc390, n390, k390, e390, l390, g390, cl390, cs390⟩ := Slc.at (i := k) fk_oq354378.slc (by simp only [dcells_length]; omega) (by omega)
     refine Ops.q rfl (qindexS u34 sz79 rfl e390 rfl l390) ?_
     refine Ops.q rfl (qloadAggAt ag79 sz79 rfl rfl g390 (cl390.trans (congrArg some (dcells_at (by omega))))) ?_
     refine Ops.l rfl (fun _ _ hk391 _ => walloc wf380 z79 rfl fun A393 b392 nb394 => ?_)
     have ne_b56_b392 := ne_new wf380 hr_b56378 nb394.lo
     have ne_b9_b392 := ne_new wf380 hr_b9378 nb394.lo
     have ne_b343_b392 := ne_new wf380 hr_b343378 nb394.lo
     have no395 := fr_ev378.own.ne_new wf380 nb394.lo
     have no396 := fk_oq354378.own.ne_new wf380 nb394.lo
     have ge_b392 := none_of wfC (Nat.le_trans le378.n nb394.lo)
     have h397 := nb394.le.get _ _ hr_b56378
     have h398 := nb394.le.get _ _ hr_b9378
     have h399 := nb394.le.get _ _ hr_b343378
     have fr400 := fr_ev378.le nb394.le
     have fr401 := fk_oq354378.le nb394.le
     have le402 := le378.trans nb394.le
     refine hk391 _ _ ?_
     refine Ops.l rfl (fun _ _ hk403 _ => wstore (cs := [str ((((dsh Sq40 (rot r kt)).2).getD k .zero).conj), num ((((dsh Sq40 (rot r kt)).2).getD k .zero).rel), .bool ((((dsh Sq40 (rot r kt)).2).getD k .zero).inv)]) (c' := [str ((((dsh Sq40 (rot r kt)).2).getD k .zero).conj), num ((((dsh Sq40 (rot r kt)).2).getD k .zero).rel), .bool ((((dsh Sq40 (rot r kt)).2).getD k .zero).inv)]) nb394.wf rfl rfl rfl rfl sz79 nb394.get (Nat.le_of_ble_eq_true rfl) rfl rfl fun A404 sb405 => ?_)
     have h406 := sb405.keep _ _ ne_b56_b392 h397
     have h407 := sb405.keep _ _ ne_b9_b392 h398
     have h408 := sb405.keep _ _ ne_b343_b392 h399
     have fr409 := fr400.keep sb405.keep no395
     have fr410 := fr401.keep sb405.keep no396
     have le411 := le_store le402 wfC ge_b392 sb405.n sb405.keep
     refine hk403 _ _ ?_
     refine Ops.nil ?_
     refine h389 _ _ ?_
     refine Run.seq fun K412 h413 => ?_
     refine Run.region ?_
     refine Ops.q rfl (qmove rfl) ?_
     refine Ops.q rfl (qfieldAddr fl79_0 sz9 (by decide) rfl) ?_
     refine Ops.q rfl (qloadAt ag9 rfl rfl sb405.get rfl) ?_
     refine Ops.l rfl (fun _ _ hk414 _ => vcallF rfl (s_joined (jnd cj (r.take kt)) ((((dsh Sq40 (rot r kt)).2).getD k .zero).conj) A404 (by first | omega | (rw [List.length_take]; omega)) (by first | omega | (rw [List.length_take]; omega))) ?_)
     rintro v415 A416 ⟨rfl, rfl⟩
     refine hk414 _ _ ?_
     refine Ops.q rfl (qmove rfl) ?_
     refine Ops.q rfl (qextract rfl rfl) ?_
     refine Ops.q rfl (qextract rfl rfl) ?_
     refine Ops.q rfl (qfieldAddr fl79_0 sz9 (by decide) rfl) ?_
     refine Ops.l rfl (fun _ _ hk418 _ => wstore (cs := [str (jnd (jnd cj (r.take kt)) ((((dsh Sq40 (rot r kt)).2).getD k .zero).conj))]) (c' := [str (jnd (jnd cj (r.take kt)) ((((dsh Sq40 (rot r kt)).2).getD k .zero).conj)), num ((((dsh Sq40 (rot r kt)).2).getD k .zero).rel), .bool ((((dsh Sq40 (rot r kt)).2).getD k .zero).inv)]) sb405.wf rfl rfl rfl rfl sz9 sb405.get (Nat.le_of_ble_eq_true rfl) rfl rfl fun A419 sb420 => ?_)
     have h421 := sb420.keep _ _ ne_b56_b392 h406
     have h422 := sb420.keep _ _ ne_b9_b392 h407
     have h423 := sb420.keep _ _ ne_b343_b392 h408
     have fr424 := fr409.keep sb420.keep no395
     have fr425 := fr410.keep sb420.keep no396
     have le426 := le_store le411 wfC ge_b392 sb420.n sb420.keep
     refine hk418 _ _ ?_
     refine Ops.q rfl (qassign rfl) ?_
     refine Ops.nil ?_
     refine h413 _ _ ?_
     refine Run.seq fun K427 h428 => ?_
     refine Run.seq fun K429 h430 => ?_
     refine Run.region ?_
     refine Ops.q rfl (qmove rfl) ?_
     refine Ops.q rfl (qnotP rfl) ?_
     refine Ops.nil ?_
     refine h430 _ _ ?_
     refine Run.if rfl (fun p431 => ?_) (fun p431 => ?_)
     ·
      refine Run.seq fun K432 h433 => ?_
      refine Run.region ?_
      refine Ops.q rfl (qbuild rfl (buildV_struct u36 z36 pl36 rfl)) ?_
      refine Ops.l rfl (fun _ _ hk434 _ => wstore (cs := [str ([]), num ((0 : Nat) : Int), .slice none 0 0]) (c' := [str ([]), num ((0 : Nat) : Int), .slice none 0 0]) sb420.wf rfl rfl rfl rfl sz36 h422 (Nat.le_of_ble_eq_true rfl) rfl rfl fun A435 sb436 => ?_)
      have h437 := sb436.keep _ _ ne_b9_b56.symm h421
      have h438 := sb436.keep _ _ ne_b9_b343.symm h423
      have h439 := sb436.keep _ _ ne_b9_b392.symm sb420.get
      have fr440 := fr424.keep sb436.keep no_ev_b9378
      have fr441 := fr425.keep sb436.keep no_oq354_b9378
      have le442 := le_store le426 wfC (hide_none (by simp)) sb436.n sb436.keep
      refine hk434 _ _ ?_
      refine Ops.q rfl (qassign rfl) ?_
      refine Ops.q rfl (qassign rfl) ?_
      refine Ops.nil ?_
      refine h433 _ _ ?_
      refine Run.ret ?_
      repeat first | with_reducible refine thenQ_ret ?_ | with_reducible refine blockQ_ret ?_
      exact retQ (resCell ag36 sz36 rfl sb436.get rfl (resTmp rfl (resTmp rfl resNil))) (⟨[], [], [], 2, _, (by first | rfl | (rw [hnd]; rfl)), leC.trans le442, sb436.wf, Fresh.nil _ _ _, CyR.ok ‹¬ ¬ rasked g l w = 0› hSOq40 (by first | exact (cyF_end (by omega) (by omega) hcy).trans (if_pos ‹1000000 < conjs d ∨ 100000 < d.length›) | exact cyF_no1 hz (by omega) hcy (fitsJ_no (j := k) (by omega) (by omega)) | exact cyF_no2 hz (by omega) hcy (fitsJ_yes (by omega) hfit) (by omega))⟩)
     ·
      refine Run.skip ?_
      refine h428 _ _ ?_
      refine Run.region ?_
      refine Ops.q rfl (qfieldAddr fl36_2 sz34 (by decide) rfl) ?_
      refine Ops.q rfl (qloadAt ag34 rfl rfl h421 rfl) ?_
      refine Ops.q rfl (qloadAggAt ag79 sz79 rfl rfl sb420.get rfl) ?_
      refine Ops.l rfl (fun _ _ hk443 _ => wbuildSlice (c := [str (jnd (jnd cj (r.take kt)) ((((dsh Sq40 (rot r kt)).2).getD k .zero).conj)), num ((((dsh Sq40 (rot r kt)).2).getD k .zero).rel), .bool ((((dsh Sq40 (rot r kt)).2).getD k .zero).inv)]) sb420.wf rfl (buildSliceV_of u34 sz79 z79 rfl (by decide) (by decide) rfl) fun A445 b444 nb446 => ?_)
      have ne_b56_b444 := ne_new sb420.wf h421 nb446.lo
      have ne_b9_b444 := ne_new sb420.wf h422 nb446.lo
      have ne_b343_b444 := ne_new sb420.wf h423 nb446.lo
      have ne_b392_b444 := ne_new sb420.wf sb420.get nb446.lo
      have no447 := fr424.own.ne_new sb420.wf nb446.lo
      have no448 := fr425.own.ne_new sb420.wf nb446.lo
      have ge_b444 := none_of wfC (Nat.le_trans le426.n nb446.lo)
      have h449 := nb446.le.get _ _ h421
      have h450 := nb446.le.get _ _ h422
      have h451 := nb446.le.get _ _ h423
      have h452 := nb446.le.get _ _ sb420.get
      have fr453 := fr424.le nb446.le
      have fr454 := fr425.le nb446.le
      have le455 := le426.trans nb446.le
      refine hk443 _ _ ?_
      refine Ops.l rfl (fun _ _ hk456 _ => wappend (ys := [str (jnd (jnd cj (r.take kt)) ((((dsh Sq40 (rot r kt)).2).getD k .zero).conj)), num ((((dsh Sq40 (rot r kt)).2).getD k .zero).rel), .bool ((((dsh Sq40 (rot r kt)).2).getD k .zero).inv)]) rfl rfl u34 sz79 inf79 z79 rfl (by decide) u34 (fun _ h => by cases h) fr453.own (listOf_row (n := 1) nb446.get rfl) rfl rfl (by show (_ + _) * 32 ≤ _; simp only [dcells_length, List.length_cons, List.length_nil]; (try simp only [List.length_append, List.length_cons, List.length_nil]); omega) (by simp only [dcells_length, List.length_cons, List.length_nil]; (try simp only [List.length_append, List.length_cons, List.length_nil]); omega) fun A457 v458 ap459 => ?_)
      rw [show ([str (jnd (jnd cj (r.take kt)) ((((dsh Sq40 (rot r kt)).2).getD k .zero).conj)), num ((((dsh Sq40 (rot r kt)).2).getD k .zero).rel), .bool ((((dsh Sq40 (rot r kt)).2).getD k .zero).inv)] : List Value) = dcells [⟨jnd (jnd cj (r.take kt)) ((((dsh Sq40 (rot r kt)).2).getD k .zero).conj), (((dsh Sq40 (rot r kt)).2).getD k .zero).rel, (((dsh Sq40 (rot r kt)).2).getD k .zero).inv⟩] from rfl, dcells_append] at ap459
      obtain ⟨fr462, le463⟩ := Fresh.grow fr453 le455 wfC ap459
      have h464 := ap459.keep no_ev_b56378 h449
      have ne465 := ap459.ne no_ev_b56378 nb446.wf h449
      have h466 := ap459.keep no_ev_b9378 h450
      have ne467 := ap459.ne no_ev_b9378 nb446.wf h450
      have h468 := ap459.keep no_ev_b343378 h451
      have ne469 := ap459.ne no_ev_b343378 nb446.wf h451
      have h470 := ap459.keep no395 h452
      have ne471 := ap459.ne no395 nb446.wf h452
      have sp473 := Sep.appd (show Sep ev (.slice p366 l366 c366) from sq378_0_1) fr454.own nb446.wf ap459
      have fr472 := fr454.appd ap459 sq378_0_1
      refine hk456 _ _ ?_
      refine Ops.q rfl (qfieldAddr fl36_2 sz34 (by decide) rfl) ?_
      obtain ⟨p475, l475, c475, q475, _⟩ := fr462.own.slice
      subst q475
      refine Ops.l rfl (fun _ _ hk474 _ => wstore (cs := [.slice p475 l475 c475]) (c' := [str ((dsh Sq40 w).1), num ((n : Nat) : Int), .slice p475 l475 c475]) ap459.wf rfl rfl rfl rfl sz34 h464 (Nat.le_of_ble_eq_true rfl) rfl rfl fun A476 sb477 => ?_)
      have h478 := sb477.keep _ _ ne_b9_b56 h466
      have h479 := sb477.keep _ _ ne_b56_b343.symm h468
      have h480 := sb477.keep _ _ ne_b56_b392.symm h470
      have fr481 := fr472.keep sb477.keep no_oq354_b56378
      have fr482 := fr462.keep sb477.keep ne465
      have le483 := le_store le463 wfC ge_b56 sb477.n sb477.keep
      refine hk474 _ _ ?_
      refine Ops.nil ?_
      refine h387 _ _ ?_
      refine Run.region ?_
      refine Ops.q rfl (qaddN (b := 1) rfl rfl (by omega)) ?_
      refine Ops.q rfl (qmove rfl) ?_
      refine Ops.nil ?_
      exact ⟨⟨k + 1, e ++ [⟨jnd (jnd cj (r.take kt)) ((((dsh Sq40 (rot r kt)).2).getD k .zero).conj), (((dsh Sq40 (rot r kt)).2).getD k .zero).rel, (((dsh Sq40 (rot r kt)).2).getD k .zero).inv⟩], .slice p475 l475 c475⟩, EnvLe.cons rfl <| EnvLe.cons rfl <| EnvLe.cons rfl <| EnvLe.cons rfl <| EnvLe.cons rfl <| EnvLe.cons rfl <| EnvLe.cons rfl <| EnvLe.cons rfl <| EnvLe.cons rfl <| EnvLe.nil _, rfl, ⟨⟨by omega, by rw [he]; exact conj_step (by omega), fun j h => (Nat.lt_succ_iff_lt_or_eq.1 h).elim (hfit j) (fun q => by subst q; omega)⟩, le483, fr482, fr481, sb477.get, h478, h479, ne465, no_oq354_b56378, ne467, no_oq354_b9378, ne469, no_oq354_b343378, sp473⟩, (by (try dsimp only); omega)⟩
    ·
     refine Run.exit ?_
     refine h375 _ _ ?_
     refine Run.seq fun K484 h485 => ?_
     refine Run.region ?_
     refine Ops.q rfl (qfieldAddr fl36_1 sz3 (by decide) rfl) ?_
     refine Ops.q rfl (qloadAt ag3 rfl rfl hr_b56378 rfl) ?_
     refine Ops.q rfl (qfieldAddr fl36_1 sz3 (by decide) rfl) ?_
     refine Ops.q rfl (qloadAt ag3 rfl rfl hr_b343378 rfl) ?_
     refine Ops.q rfl (qaddN rfl rfl (by omega)) ?_
     refine Ops.q rfl (qfieldAddr fl36_1 sz3 (by decide) rfl) ?_
     refine Ops.l rfl (fun _ _ hk486 _ => wstore (cs := [num ((n + ((dsh Sq40 (rot r kt)).2.length) : Nat) : Int)]) (c' := [str ((dsh Sq40 w).1), num ((n + ((dsh Sq40 (rot r kt)).2.length) : Nat) : Int), ev]) wf380 rfl rfl rfl rfl sz3 hr_b56378 (Nat.le_of_ble_eq_true rfl) rfl rfl fun A487 sb488 => ?_)
     have h489 := sb488.keep _ _ ne_b9_b56 hr_b9378
     have h490 := sb488.keep _ _ ne_b56_b343.symm hr_b343378
     have fr491 := fr_ev378.keep sb488.keep no_ev_b56378
     have fr492 := fk_oq354378.keep sb488.keep no_oq354_b56378
     have le493 := le_store le378 wfC ge_b56 sb488.n sb488.keep
     refine hk486 _ _ ?_
     refine Ops.nil ?_
     refine h485 _ _ ?_
     refine Run.seq fun K494 h495 => ?_
     refine Run.region ?_
     refine Ops.q rfl (qfieldAddr fl36_0 sz9 (by decide) rfl) ?_
     refine Ops.q rfl (qloadAt ag9 rfl rfl h490 rfl) ?_
     refine Ops.l rfl (fun _ _ hk496 _ => vcallF rfl (s_Cyclic ((dsh Sq40 (rot r kt)).1) A487 (by first | omega | (have := hd0.1; omega)) ((hL.le leC).le le493)) ?_)
     rintro v497 A498 ⟨rfl, leq499, wfq499⟩
     have h500 := leq499.get _ _ sb488.get
     have h501 := leq499.get _ _ h489
     have h502 := leq499.get _ _ h490
     have fr503 := fr491.le leq499
     have fr504 := fr492.le leq499
     have le505 := le493.trans leq499
     refine hk496 _ _ ?_
     refine Ops.q rfl (qmove rfl) ?_
     refine Ops.q rfl (qextract rfl rfl) ?_
     refine Ops.q rfl (qextract rfl rfl) ?_
     refine Ops.q rfl (qassign rfl) ?_
     refine Ops.q rfl (qassign rfl) ?_
     refine Ops.nil ?_
     refine h495 _ _ ?_
     refine Run.seq fun K506 h507 => ?_
     refine Run.region ?_
     refine Ops.q rfl (qmove rfl) ?_
     refine Ops.q rfl (qassign rfl) ?_
     refine Ops.nil ?_
     refine h507 _ _ ?_
     refine Run.seq fun K508 h509 => ?_
     refine Run.region ?_
     refine Ops.q rfl (qmove rfl) ?_
     refine Ops.q rfl (qmove rfl) ?_
     refine Ops.l rfl (fun _ _ hk510 _ => vcallF rfl (s_joined (jnd cj (r.take kt)) (wConj ((dsh Sq40 (rot r kt)).1)) A498 (by first | omega | (rw [List.length_take]; omega)) (by first | omega | (rw [List.length_take]; omega))) ?_)
     rintro v511 A512 ⟨rfl, rfl⟩
     refine hk510 _ _ ?_
     refine Ops.q rfl (qmove rfl) ?_
     refine Ops.q rfl (qextract rfl rfl) ?_
     refine Ops.q rfl (qextract rfl rfl) ?_
     refine Ops.q rfl (qassign rfl) ?_
     refine Ops.q rfl (qassign rfl) ?_
     refine Ops.nil ?_
     refine h509 _ _ ?_
     refine Run.seq fun K514 h515 => ?_
     refine Run.region ?_
     refine Ops.q rfl (qmove rfl) ?_
     refine Ops.q rfl (qnotP rfl) ?_
     refine Ops.q rfl (qmove rfl) ?_
     refine Ops.part (t := 115) rfl (fun p516 => ?_) (fun p516 => ?_)
     ·
      refine Ops.off rfl rfl rfl rfl ?_
      refine Ops.off rfl rfl rfl rfl ?_
      refine Ops.q rfl (qpickT rfl rfl) ?_
      refine Ops.nil ?_
      refine h515 _ _ ?_
      refine Run.cond_true rfl ?_
      refine Run.seq fun K517 h518 => ?_
      refine Run.region ?_
      refine Ops.q rfl (qbuild rfl (buildV_struct u36 z36 pl36 rfl)) ?_
      refine Ops.l rfl (fun _ _ hk519 _ => wstore (cs := [str ([]), num ((0 : Nat) : Int), .slice none 0 0]) (c' := [str ([]), num ((0 : Nat) : Int), .slice none 0 0]) wfq499 rfl rfl rfl rfl sz36 h501 (Nat.le_of_ble_eq_true rfl) rfl rfl fun A520 sb521 => ?_)
      have h522 := sb521.keep _ _ ne_b9_b56.symm h500
      have h523 := sb521.keep _ _ ne_b9_b343.symm h502
      have fr524 := fr503.keep sb521.keep no_ev_b9378
      have fr525 := fr504.keep sb521.keep no_oq354_b9378
      have le526 := le_store le505 wfC (hide_none (by simp)) sb521.n sb521.keep
      refine hk519 _ _ ?_
      refine Ops.q rfl (qassign rfl) ?_
      refine Ops.q rfl (qassign rfl) ?_
      refine Ops.nil ?_
      refine h518 _ _ ?_
      refine Run.ret ?_
      repeat first | with_reducible refine thenQ_ret ?_ | with_reducible refine blockQ_ret ?_
      exact retQ (resCell ag36 sz36 rfl sb521.get rfl (resTmp rfl (resTmp rfl resNil))) (⟨[], [], [], 2, _, (by first | rfl | (rw [hnd]; rfl)), leC.trans le526, sb521.wf, Fresh.nil _ _ _, CyR.ok ‹¬ ¬ rasked g l w = 0› hSOq40 (by first | exact (cyF_end (by omega) (by omega) hcy).trans (if_pos ‹1000000 < conjs d ∨ 100000 < d.length›) | exact cyF_no1 hz (by omega) hcy (fitsJ_no (j := k) (by omega) (by omega)) | exact cyF_no2 hz (by omega) hcy (fitsJ_yes (by omega) hfit) (by omega))⟩)
     ·
      refine Ops.on rfl rfl ?_
      refine Ops.q rfl (qmove rfl) ?_
      refine Ops.on rfl rfl ?_
      refine Ops.q rfl (qnotP rfl) ?_
      refine Ops.q rfl (qpickF rfl rfl) ?_
      refine Ops.nil ?_
      refine h515 _ _ ?_
      refine Run.if rfl (fun p527 => ?_) (fun p527 => ?_)
      ·
       refine Run.seq fun K528 h529 => ?_
       refine Run.region ?_
       refine Ops.q rfl (qbuild rfl (buildV_struct u36 z36 pl36 rfl)) ?_
       refine Ops.l rfl (fun _ _ hk530 _ => wstore (cs := [str ([]), num ((0 : Nat) : Int), .slice none 0 0]) (c' := [str ([]), num ((0 : Nat) : Int), .slice none 0 0]) wfq499 rfl rfl rfl rfl sz36 h501 (Nat.le_of_ble_eq_true rfl) rfl rfl fun A531 sb532 => ?_)
       have h533 := sb532.keep _ _ ne_b9_b56.symm h500
       have h534 := sb532.keep _ _ ne_b9_b343.symm h502
       have fr535 := fr503.keep sb532.keep no_ev_b9378
       have fr536 := fr504.keep sb532.keep no_oq354_b9378
       have le537 := le_store le505 wfC (hide_none (by simp)) sb532.n sb532.keep
       refine hk530 _ _ ?_
       refine Ops.q rfl (qassign rfl) ?_
       refine Ops.q rfl (qassign rfl) ?_
       refine Ops.nil ?_
       refine h529 _ _ ?_
       refine Run.ret ?_
       repeat first | with_reducible refine thenQ_ret ?_ | with_reducible refine blockQ_ret ?_
       exact retQ (resCell ag36 sz36 rfl sb532.get rfl (resTmp rfl (resTmp rfl resNil))) (⟨[], [], [], 2, _, (by first | rfl | (rw [hnd]; rfl)), leC.trans le537, sb532.wf, Fresh.nil _ _ _, CyR.ok ‹¬ ¬ rasked g l w = 0› hSOq40 (by first | exact (cyF_end (by omega) (by omega) hcy).trans (if_pos ‹1000000 < conjs d ∨ 100000 < d.length›) | exact cyF_no1 hz (by omega) hcy (fitsJ_no (j := k) (by omega) (by omega)) | exact cyF_no2 hz (by omega) hcy (fitsJ_yes (by omega) hfit) (by omega))⟩)
      ·
       refine Run.skip ?_
       exact ⟨⟨f - 1, wCore ((dsh Sq40 (rot r kt)).1), jnd (jnd cj (r.take kt)) (wConj ((dsh Sq40 (rot r kt)).1)), n + ((dsh Sq40 (rot r kt)).2.length), e, ev⟩, EnvLe.cons rfl <| EnvLe.cons rfl <| EnvLe.cons rfl <| EnvLe.cons rfl <| EnvLe.cons rfl <| EnvLe.nil _, rfl, ⟨⟨by rw [he, List.take_of_length_le (l := (dsh Sq40 (rot r kt)).2) (by omega)]; exact cyF_go hz (by omega) hcy (fitsJ_yes (by omega) hfit) ⟨by omega, by omega⟩, by omega, by omega, by rw [he]; simp only [List.length_append, List.length_map, List.length_take]; omega, by rw [he]; simp only [List.length_append, List.length_map, List.length_take]; omega, by omega, fun c hc => by rw [he] at hc; rcases List.mem_append.1 hc with hc | hc; exact hdc c hc; obtain ⟨c2, hc2, rfl⟩ := List.mem_map.1 hc; obtain ⟨j, hj, rfl⟩ := List.getElem_of_mem hc2; rw [List.length_take] at hj; have := hfit j (by omega); simpa [show j < (dsh Sq40 (rot r kt)).2.length by omega, cellJ] using this⟩, le505, fr503, h500, h501, no_ev_b56378, no_ev_b9378⟩, (by (try dsimp only); omega)⟩
end Go.Proofs.YtaccklloepfemaaGreatDoor
