/- A part of the proof: what the last text needs of the library, the laws and the walks. -/
import Derived.Test.YtaccklloepfemaaGreatDoorGrn4
namespace Go.Proofs.YtaccklloepfemaaGreatDoor
open Go Go.RowKit V
set_option maxRecDepth 100000
set_option linter.unusedVariables false
set_option linter.unusedSimpArgs false


theorem s_turnz (br : Nat) (S : RS) (w : List UInt8) (A : AH) (hR : Rules A br S) (hS : RSok S) (hw : w.length ≤ 1000000) : RetA Tryz.prog 46 #[.pointer (some ⟨br, 0, none⟩), str w] A (fun v A1 => ∃ z : Int, v = num z ∧ A.le A1 ∧ A1.wf ∧ z = dturn S.list w) :=
  (s_turn br S w A hR hS hw).mono fun _ _ h => ⟨_, h.1, h.2.1, h.2.2, rfl⟩


theorem s_Cy (g : Int) (u : Value) (l : List (List UInt8)) (w : List UInt8) (A : AH) (hn : l.length ≤ 1000000) (hL : Lets A) (hw : w.length ≤ 100000) (hu : Slc A 1 u (strs l)) : RetA Tryz.prog 19 #[.agg #[num (g), u], str (w)] A (fun v A1 => ∃ W d cj c dv, v = .tuple #[.agg #[str W, num ((d.length : Nat) : Int), dv], str cj, num ((c : Nat) : Int)] ∧ A.le A1 ∧ A1.wf ∧ Fresh A A1 dv 3 (dcells d) ∧ CyR g l w (W, d, cj, c)) := by
 refine enterA (e := [(0, .agg #[num (g), u]), (1, str (w))]) (args := [.agg #[num (g), u], str (w)]) Tryz.call19 Tryz.func19 rfl Tryz.results19 Tryz.ntmps19 rfl rfl rfl (fun wf => ?_)
 have le_ := AH.le.refl A
 refine Run.seq fun K1 h2 => .region <| .l rfl (fun _ _ hk3 _ => wbox wf rfl rfl fun A5 b4 nb6 => ?_)
 have le7 := le_.trans nb6.le
 refine hk3 _ _ <| .l rfl (fun _ _ hk8 _ => walloc nb6.wf z36 rfl fun A10 b9 nb11 => ?_)
 have ge_b9 := none_of wf (Nat.le_trans le7.n nb11.lo)
 have h12 := nb11.le.get _ _ nb6.get
 have le13 := le7.trans nb11.le
 refine hk8 _ _ <| .q rfl (qassign rfl) <| .q rfl (qassign rfl) <| .nil <| h2 _ _ <| .seq fun K14 h15 => .seq fun K16 h17 => .region <| .q rfl (qloadAggAt ag24 sz24 rfl rfl h12 rfl) <| .q rfl (qmove rfl) ?_
 refine Ops.l rfl (fun _ _ hk18 _ => vcallF rfl (s_refused ((g)) u l w A10 (by omega) (hL.le le13) (by first | omega | (have := hd0.1; omega)) (hu.le le13)) ?_)
 rintro v19 A20 ⟨rfl, leq21, wfq21⟩
 have h22 := leq21.get _ _ h12
 have h23 := leq21.get _ _ nb11.get
 have le24 := le13.trans leq21
 refine hk18 _ _ <| .q rfl (qassign rfl) <| .nil <| h17 _ _ <| .seq fun K25 h26 => .region <| .q rfl (qmove rfl) <| .q rfl (qneqN (b := 0) rfl rfl) <| .nil <| h26 _ _ ?_
 refine Run.if rfl (fun p27 => ?_) (fun p27 => ?_)
 ·
  refine Run.seq fun K28 h29 => .region <| .q rfl (qbuild rfl (buildV_struct u36 z36 pl36 rfl)) <| .q rfl (qmove rfl) <| .l rfl (fun _ _ hk30 _ => wstore (cs := [str ([]), num ((0 : Nat) : Int), .slice none 0 0]) (c' := [str ([]), num ((0 : Nat) : Int), .slice none 0 0]) wfq21 rfl rfl rfl rfl sz36 h23 (Nat.le_of_ble_eq_true rfl) rfl rfl fun A31 sb32 => ?_)
  have le34 := le_store le24 wf ge_b9 sb32.n sb32.keep
  refine hk30 _ _ <| .q rfl (qassign rfl) <| .q rfl (qassign rfl) <| .nil <| h29 _ _ <| .ret ?_
  repeat first | with_reducible refine thenQ_ret ?_ | with_reducible refine blockQ_ret ?_
  exact retQ (resCell ag36 sz36 rfl sb32.get rfl (resTmp rfl (resTmp rfl resNil))) (⟨[], [], [], rasked ((g)) l w, _, rfl, le34, sb32.wf, Fresh.nil _ _ _, CyR.no ‹¬ rasked g l w = 0›⟩)
 ·
  refine Run.skip <| h15 _ _ <| .seq fun K35 h36 => .region <| .q rfl (qloadAggAt ag24 sz24 rfl rfl h22 rfl) <| .l rfl (fun _ _ hk37 _ => vcallF rfl (s_newRules ((g)) u l A20 (hL.le le24) (rasked_pres ‹¬ ¬ rasked g l w = 0›) (hu.le le24)) ?_)
  rintro v38 A39 ⟨brq40, Sq40, rfl, leq40, wfq40, hRq40, hSq40, hPq40, hWq40⟩
  have h42 := leq40.get _ _ h23
  have le43 := le24.trans leq40
  have hR := hRq40
  have hS := hSq40
  have hP := hPq40
  have hW := hWq40
  have hRlq40 := Rules.all hRq40
  have leRq40 := le43
  have hSOq40 : SOk l Sq40 := ⟨hSq40, hPq40, hWq40⟩
  have leC : A.le (A39.hide [some b9]) := le_hide le43 (hoB ge_b9 ho0)
  have wfC := hide_wf (bs := [some b9]) wfq40
  have leCA := hide_le A39 [some b9]
  have hRC := hRq40 [some b9] (fun b hb => by simp at hb; subst hb; exact ⟨_, h23⟩)
  refine hk37 _ _ <| .q rfl (qassign rfl) <| .nil <| h36 _ _ <| .seq fun K45 h46 => .region <| .q rfl (qmove rfl) <| .q rfl (qmove rfl) <| .l rfl (fun _ _ hk47 _ => vcallF rfl (s_dshort brq40 Sq40 w A39 (hRC.le leCA) hSq40 ((hL.le leC).le leCA) (by first | (have := (rasked_word ‹¬ ¬ rasked g l w = 0›).2; omega) | (rw [rot_length]; omega))) ?_)
  rintro v48 A49 ⟨dvq50, rfl, leq50, wfq50, frq50⟩
  have h51 := leq50.get _ _ h42
  have le52 := leCA.trans leq50
  have fr53 := frq50.base leCA
  have no54 := frq50.ne wfq40 h42
  refine hk47 _ _ <| .l rfl (fun _ _ hk55 _ => walloc wfq50 z36 rfl fun A57 b56 nb58 => ?_)
  have ne_b9_b56 := ne_new wfq50 h51 nb58.lo
  have no59 := fr53.own.ne_new wfq50 nb58.lo
  have ge_b56 := none_of wfC (Nat.le_trans le52.n nb58.lo)
  have h60 := nb58.le.get _ _ h51
  have fr61 := fr53.le nb58.le
  have le62 := le52.trans nb58.le
  refine hk55 _ _ ?_
  obtain ⟨p64, l64, c64, q64, _⟩ := fr61.own.slice
  subst q64
  refine Ops.l rfl (fun _ _ hk63 _ => wstore (cs := [str ((dsh Sq40 w).1), num (((dsh Sq40 w).2.length : Nat) : Int), .slice p64 l64 c64]) (c' := [str ((dsh Sq40 w).1), num (((dsh Sq40 w).2.length : Nat) : Int), .slice p64 l64 c64]) nb58.wf rfl rfl rfl rfl sz36 nb58.get (Nat.le_of_ble_eq_true rfl) rfl rfl fun A65 sb66 => ?_)
  have h67 := sb66.keep _ _ ne_b9_b56 h60
  have fr68 := fr61.keep sb66.keep no59
  have le69 := le_store le62 wfC ge_b56 sb66.n sb66.keep
  refine hk63 _ _ <| .nil ?_
  have hd0 := dsh_all hSq40 (w := w) (by have := (rasked_word ‹¬ ¬ rasked g l w = 0›).2; omega)
  have hw5 := (rasked_word ‹¬ ¬ rasked g l w = 0›).2
  refine h46 _ _ <| .seq fun K70 h71 => .region <| .q rfl (qfieldAddr fl36_0 sz9 (by decide) rfl) <| .q rfl (qloadAt ag9 rfl rfl sb66.get rfl) <| .l rfl (fun _ _ hk72 _ => vcallF rfl (s_Cyclic ((dsh Sq40 w).1) A65 (by first | omega | (have := hd0.1; omega)) ((hL.le leC).le le69)) ?_)
  rintro v73 A74 ⟨rfl, leq75, wfq75⟩
  have h76 := leq75.get _ _ h67
  have h77 := leq75.get _ _ sb66.get
  have fr78 := fr68.le leq75
  have le79 := le69.trans leq75
  refine hk72 _ _ <| .q rfl (qmove rfl) <| .q rfl (qextract rfl rfl) <| .q rfl (qextract rfl rfl) <| .q rfl (qassign rfl) <| .q rfl (qassign rfl) <| .nil <| h71 _ _ <| .block <| .loop (X := Nat × List UInt8 × List UInt8 × Nat × List DCell × Value) (fun ⟨f, r, cj, n, d, cv⟩ => [(4, .pointer (some ⟨b9, 0, none⟩)), (8, .pointer (some ⟨brq40, 0, none⟩)), (9, .pointer (some ⟨b56, 0, none⟩)), (10, str (r)), (11, str (cj))]) (fun ⟨f, r, cj, n, d, cv⟩ B => (cyF Sq40 f r cj d = cyOf Sq40 w ∧ r.length < f ∧ r.length ≤ 6000 ∧ d.length + r.length ≤ 12000 ∧ n = d.length ∧ cj.length ≤ 100000 ∧ ∀ c ∈ d, c.conj.length ≤ 100000) ∧ (A39.hide [some b9]).le B ∧ Fresh (A39.hide [some b9]) B cv 3 (dcells d) ∧ B.get b56 = some (.row true [str ((dsh Sq40 w).1), num ((n : Nat) : Int), cv] 3) ∧ B.get b9 = some (.row true [str ([]), num ((0 : Nat) : Int), .slice none 0 0] 3) ∧ V.blk cv ≠ some b56 ∧ V.blk cv ≠ some b9) (fun ⟨f, r, cj, n, d, cv⟩ => r.length) (⟨(wCore (dsh Sq40 w).1).length + 1, wCore (dsh Sq40 w).1, wConj (dsh Sq40 w).1, (dsh Sq40 w).2.length, (dsh Sq40 w).2, .slice p64 l64 c64⟩) (EnvLe.cons rfl <| EnvLe.cons rfl <| EnvLe.cons rfl <| EnvLe.cons rfl <| EnvLe.cons rfl <| EnvLe.nil _) (⟨⟨rfl, by omega, by have := wCore_length (dsh Sq40 w).1; omega, by have := wCore_length (dsh Sq40 w).1; omega, rfl, by have := wConj_length (dsh Sq40 w).1; omega, fun c hc => Nat.le_trans (hd0.2.2 c hc) (by decide)⟩, le79, fr78, h77, h76, no59, no54⟩) ?_
  rintro ⟨f, r, cj, n, d, cv⟩ B81 ⟨⟨hcy, hf, hr, hdr, hnd, hcj, hdc⟩, le80, fr_cv80, hr_b5680, hr_b980, no_cv_b5680, no_cv_b980⟩
  refine Run.wf fun wf82 => .block <| .seq fun K83 h84 => .region <| .q rfl (qmove rfl) <| .q rfl (qmove rfl) <| .l rfl (fun _ _ hk85 _ => vcallF rfl (s_turnz brq40 Sq40 r B81 (hRC.le le80) hSq40 (by omega)) ?_)
  rintro v86 A87 ⟨zq88, rfl, leq88, wfq88, hzq88⟩
  have h89 := leq88.get _ _ hr_b5680
  have h90 := leq88.get _ _ hr_b980
  have fr91 := fr_cv80.le leq88
  have le92 := le80.trans leq88
  have hz := hzq88
  refine hk85 _ _ <| .q rfl (qassign rfl) <| .nil <| h84 _ _ <| .seq fun K93 h94 => .seq fun K95 h96 => .region <| .q rfl (qmove rfl) <| .q rfl (qlss rfl rfl) <| .nil ?_
  refine h96 _ _ <| .if rfl (fun p97 => ?_) (fun p97 => ?_)
  ·
   refine Run.seq fun K98 h99 => .seq fun K100 h101 => .region <| .q rfl (qfieldAddr fl36_2 sz34 (by decide) rfl) <| .q rfl (qloadAt ag34 rfl rfl h89 rfl) <| .l rfl (fun _ _ hk102 _ => vcallF rfl (s_heavy cv d A87 (by omega) (by have h1 := conjs_le hdc; have : d.length * 100000 ≤ 12000 * 100000 := Nat.mul_le_mul_right _ (by omega); omega) fr91.slc) ?_)
   rintro v103 A104 ⟨rfl, leq105, wfq105⟩
   have h106 := leq105.get _ _ h89
   have h107 := leq105.get _ _ h90
   have fr108 := fr91.le leq105
   have le109 := le92.trans leq105
   refine hk102 _ _ <| .nil <| h101 _ _ <| .if rfl (fun p110 => ?_) (fun p110 => ?_)
   ·
    refine Run.seq fun K111 h112 => .region <| .q rfl (qbuild rfl (buildV_struct u36 z36 pl36 rfl)) <| .l rfl (fun _ _ hk113 _ => wstore (cs := [str ([]), num ((0 : Nat) : Int), .slice none 0 0]) (c' := [str ([]), num ((0 : Nat) : Int), .slice none 0 0]) wfq105 rfl rfl rfl rfl sz36 h107 (Nat.le_of_ble_eq_true rfl) rfl rfl fun A114 sb115 => ?_)
    have le118 := le_store le109 wfC (hide_none (by simp)) sb115.n sb115.keep
    refine hk113 _ _ <| .q rfl (qassign rfl) <| .q rfl (qassign rfl) <| .nil <| h112 _ _ <| .ret ?_
    repeat first | with_reducible refine thenQ_ret ?_ | with_reducible refine blockQ_ret ?_
    exact retQ (resCell ag36 sz36 rfl sb115.get rfl (resTmp rfl (resTmp rfl resNil))) (⟨[], [], [], 2, _, (by first | rfl | (rw [hnd]; rfl)), leC.trans le118, sb115.wf, Fresh.nil _ _ _, CyR.ok ‹¬ ¬ rasked g l w = 0› hSOq40 (by first | exact (cyF_end (by omega) (by omega) hcy).trans (if_pos ‹1000000 < conjs d ∨ 100000 < d.length›) | exact cyF_no1 hz (by omega) hcy (fitsJ_no (j := k) (by omega) (by omega)) | exact cyF_no2 hz (by omega) hcy (fitsJ_yes (by omega) hfit) (by omega))⟩)
   ·
    refine Run.skip <| h99 _ _ <| .seq fun K119 h120 => .region <| .q rfl (qmove rfl) <| .q rfl (qfieldAddr fl36_0 sz9 (by decide) rfl) <| .l rfl (fun _ _ hk121 _ => wstore (cs := [str (r)]) (c' := [str (r), num ((n : Nat) : Int), cv]) wfq105 rfl rfl rfl rfl sz9 h106 (Nat.le_of_ble_eq_true rfl) rfl rfl fun A122 sb123 => ?_)
    have h124 := sb123.keep _ _ ne_b9_b56 h107
    have fr125 := fr108.keep sb123.keep no_cv_b5680
    have le126 := le_store le109 wfC ge_b56 sb123.n sb123.keep
    refine hk121 _ _ <| .nil <| h120 _ _ <| .seq fun K127 h128 => .region <| .q rfl (qloadAggAt ag36 sz36 rfl rfl sb123.get rfl) <| .q rfl (qmove rfl) ?_
    obtain ⟨p130, l130, c130, q130, _⟩ := fr125.own.slice
    subst q130
    refine Ops.l rfl (fun _ _ hk129 _ => wstore (cs := [str (r), num ((n : Nat) : Int), .slice p130 l130 c130]) (c' := [str (r), num ((n : Nat) : Int), .slice p130 l130 c130]) sb123.wf rfl rfl rfl rfl sz36 h124 (Nat.le_of_ble_eq_true rfl) rfl rfl fun A131 sb132 => ?_)
    have fr134 := fr125.keep sb132.keep no_cv_b980
    have le135 := le_store le126 wfC (hide_none (by simp)) sb132.n sb132.keep
    refine hk129 _ _ <| .q rfl (qassign rfl) <| .q rfl (qassign rfl) <| .nil <| h128 _ _ <| .ret ?_
    repeat first | with_reducible refine thenQ_ret ?_ | with_reducible refine blockQ_ret ?_
    exact retQ (resCell ag36 sz36 rfl sb132.get rfl (resTmp rfl (resTmp rfl resNil))) (⟨r, d, cj, 0, _, (by first | rfl | (rw [hnd]; rfl)), leC.trans le135, sb132.wf, fr134.base leC, CyR.ok ‹¬ ¬ rasked g l w = 0› hSOq40 ((cyF_end (by omega) (by omega) hcy).trans (if_neg ‹¬ (1000000 < conjs d ∨ 100000 < d.length)›))⟩)
  ·
   refine Run.skip <| h94 _ _ <| .seq fun K136 h137 => .region <| .q rfl (qassign rfl) <| .q rfl (qassign rfl) <| .q rfl (qassign rfl) <| .nil ?_
   obtain ⟨kt, hkt⟩ : ∃ kt : Nat, zq88 = ((kt : Nat) : Int) := ⟨zq88.toNat, by omega⟩
   subst hkt
   have htl := turn_lt hz
   have hda := dsh_all hSq40 (w := rot r kt) (by rw [rot_length]; omega)
   rw [rot_length] at hda
   have hj1 := jnd_len cj (r.take kt)
   rw [List.length_take] at hj1
   have hj2 := jnd_len (jnd cj (r.take kt)) (wConj (dsh Sq40 (rot r kt)).1)
   have hwc := wConj_length (dsh Sq40 (rot r kt)).1
   have hwk := wCore_length (dsh Sq40 (rot r kt)).1
   refine h137 _ _ <| .seq fun K138 h139 => .region <| .q rfl (qmove rfl) <| .q rfl (qmove rfl) <| .q rfl (qmove rfl) <| .q rfl (qslHi u9 rfl rfl (by omega)) <| .l rfl (fun _ _ hk140 _ => vcallF rfl (s_joined cj (r.take kt) A87 (by first | omega | (rw [List.length_take]; omega)) (by first | omega | (rw [List.length_take]; omega))) ?_)
   rintro v141 A142 ⟨rfl, rfl⟩
   refine hk140 _ _ <| .q rfl (qmove rfl) <| .q rfl (qextract rfl rfl) <| .q rfl (qextract rfl rfl) <| .q rfl (qassign rfl) <| .q rfl (qassign rfl) <| .nil <| h139 _ _ <| .seq fun K144 h145 => .drawnP [0, 1, 2, 3, 4, 5, 6, 7] 8 9 [9, 10] [8, 10] mixed (by kernel_rfl) (by kernel_rfl) rfl ?_
   refine DPair.q rfl rfl rfl (qmove rfl) <| .q rfl rfl rfl (qmove rfl) <| .q rfl rfl rfl (qmove rfl) <| .q rfl rfl rfl (qslLo u9 rfl rfl (by omega)) <| .q rfl rfl rfl (qmove rfl) <| .q rfl rfl rfl (qmove rfl) <| .q rfl rfl rfl (qslHi u9 rfl rfl (by omega)) <| .q rfl rfl rfl (qsadd rfl rfl (by (try simp only [List.length_append, List.length_drop, List.length_take]); omega)) <| .both rfl rfl rfl rfl rfl rfl ?_ ?_
   ·
    refine fun _ _ hk146 _ => vcallF rfl (s_dshort brq40 Sq40 (rot r kt) A87 (hRC.le le92) hSq40 ((hL.le leC).le le92) (by first | (have := (rasked_word ‹¬ ¬ rasked g l w = 0›).2; omega) | (rw [rot_length]; omega))) ?_
    rintro v147 A148 ⟨dvq149, rfl, leq149, wfq149, frq149⟩
    have h150 := leq149.get _ _ h89
    have h151 := leq149.get _ _ h90
    have fr152 := fr91.le leq149
    have le153 := le92.trans leq149
    have fr154 := frq149.base le92
    have sp155 := frq149.sep0 fr91.own
    have no156 := frq149.ne wfq88 h89
    have no157 := frq149.ne wfq88 h90
    refine hk146 _ _ (HeldNow.none (by kernel_rfl)) <| .l rfl rfl rfl (fun _ _ hk158 _ => walloc wfq149 z36 rfl fun A160 b159 nb161 => ?_)
    have ne_b56_b159 := ne_new wfq149 h150 nb161.lo
    have ne_b9_b159 := ne_new wfq149 h151 nb161.lo
    have no162 := fr152.own.ne_new wfq149 nb161.lo
    have no163 := fr154.own.ne_new wfq149 nb161.lo
    have ge_b159 := none_of wfC (Nat.le_trans le153.n nb161.lo)
    have h164 := nb161.le.get _ _ h150
    have h165 := nb161.le.get _ _ h151
    have fr166 := fr152.le nb161.le
    have fr167 := fr154.le nb161.le
    have le168 := le153.trans nb161.le
    refine hk158 _ _ (HeldNow.none (by kernel_rfl)) ?_
    obtain ⟨p170, l170, c170, q170, _⟩ := fr167.own.slice
    subst q170
    refine DOps.l rfl rfl rfl (fun _ _ hk169 _ => wstore (cs := [str ((dsh Sq40 (rot r kt)).1), num (((dsh Sq40 (rot r kt)).2.length : Nat) : Int), .slice p170 l170 c170]) (c' := [str ((dsh Sq40 (rot r kt)).1), num (((dsh Sq40 (rot r kt)).2.length : Nat) : Int), .slice p170 l170 c170]) nb161.wf rfl rfl rfl rfl sz36 nb161.get (Nat.le_of_ble_eq_true rfl) rfl rfl fun A171 sb172 => ?_)
    have h173 := sb172.keep _ _ ne_b56_b159 h164
    have h174 := sb172.keep _ _ ne_b9_b159 h165
    have fr175 := fr166.keep sb172.keep no162
    have fr176 := fr167.keep sb172.keep no163
    have le177 := le_store le168 wfC ge_b159 sb172.n sb172.keep
    refine hk169 _ _ (HeldNow.none (by kernel_rfl)) <| .done <| h145 _ _ <| .seq fun K178 h179 => .seq fun K180 h181 => .region <| .q rfl (qfieldAddr fl36_2 sz34 (by decide) rfl) <| .q rfl (qloadAt ag34 rfl rfl sb172.get rfl) <| .q rfl (qlenS (n := ((dsh Sq40 (rot r kt)).2).length) u34 rfl fr176.slc (by omega) (dcells_len _)) <| .q rfl (qmove rfl) ?_
    refine Ops.nil <| h181 _ _ <| .block <| .loop (X := Nat × List DCell × Value) (fun ⟨k, e, ev⟩ => [(4, .pointer (some ⟨b9, 0, none⟩)), (8, .pointer (some ⟨brq40, 0, none⟩)), (9, .pointer (some ⟨b56, 0, none⟩)), (11, str (jnd cj (r.take kt))), (13, .bool (decide ((jnd cj (r.take kt)).length ≤ 100000))), (16, .pointer (some ⟨b159, 0, none⟩)), (70, .slice p170 l170 c170), (71, num ((((dsh Sq40 (rot r kt)).2).length : Nat) : Int)), (72, num ((k : Nat) : Int))]) (fun ⟨k, e, ev⟩ B => (k ≤ (dsh Sq40 (rot r kt)).2.length ∧ e = d ++ ((dsh Sq40 (rot r kt)).2.take k).map (cellJ (jnd cj (r.take kt))) ∧ ∀ j, j < k → (jnd (jnd cj (r.take kt)) ((dsh Sq40 (rot r kt)).2.getD j .zero).conj).length ≤ 100000) ∧ (A39.hide [some b9]).le B ∧ Fresh (A39.hide [some b9]) B ev 3 (dcells e) ∧ Fresh (A39.hide [some b9]) B (.slice p170 l170 c170) 3 (dcells ((dsh Sq40 (rot r kt)).2)) ∧ B.get b56 = some (.row true [str ((dsh Sq40 w).1), num ((n : Nat) : Int), ev] 3) ∧ B.get b9 = some (.row true [str ([]), num ((0 : Nat) : Int), .slice none 0 0] 3) ∧ B.get b159 = some (.row true [str ((dsh Sq40 (rot r kt)).1), num (((dsh Sq40 (rot r kt)).2.length : Nat) : Int), .slice p170 l170 c170] 3) ∧ V.blk ev ≠ some b56 ∧ V.blk (.slice p170 l170 c170) ≠ some b56 ∧ V.blk ev ≠ some b9 ∧ V.blk (.slice p170 l170 c170) ≠ some b9 ∧ V.blk ev ≠ some b159 ∧ V.blk (.slice p170 l170 c170) ≠ some b159 ∧ Sep ev (.slice p170 l170 c170)) (fun ⟨k, e, ev⟩ => (dsh Sq40 (rot r kt)).2.length - k) (⟨0, d, cv⟩) (EnvLe.cons rfl <| EnvLe.cons rfl <| EnvLe.cons rfl <| EnvLe.cons rfl <| EnvLe.cons rfl <| EnvLe.cons rfl <| EnvLe.cons rfl <| EnvLe.cons rfl <| EnvLe.cons rfl <| EnvLe.nil _) (⟨⟨Nat.zero_le _, (List.append_nil _).symm, fun j h => by omega⟩, le177, fr175, fr176, h173, h174, sb172.get, no_cv_b5680, no156, no_cv_b980, no157, no162, no163, (Sep.symm sp155)⟩) ?_
    rintro ⟨k, e, ev⟩ B183 ⟨⟨hk, he, hfit⟩, le182, fr_ev182, fk_oq149182, hr_b56182, hr_b9182, hr_b159182, no_ev_b56182, no_oq149_b56182, no_ev_b9182, no_oq149_b9182, no_ev_b159182, no_oq149_b159182, sq182_0_1⟩
    refine Run.wf fun wf184 => ?_
    have hel : e.length = d.length + k := by rw [he, List.length_append, List.length_map, List.length_take]; omega
    have hgc := getD_conj hda.2.2 k
    refine Run.seq fun K185 h186 => .region <| .q rfl (qlssN rfl rfl) <| .nil <| h186 _ _ <| .seq fun K187 h188 => .if rfl (fun p189 => ?_) (fun p189 => ?_)
    ·
     refine Run.skip <| h188 _ _ <| .seq fun K190 h191 => .block <| .seq fun K192 h193 => .region ?_
     obtain ⟨b194, f194, rw194, r194, rc194, n194, k194, e194, l194, g194, cl194, cs194⟩ := Slc.at (i := k) fk_oq149182.slc (by simp only [dcells_length]; omega) (by omega)
     refine Ops.q rfl (qindexS u34 sz79 rfl e194 rfl l194) <| .q rfl (qloadAggAt ag79 sz79 rfl rfl g194 (cl194.trans (congrArg some (dcells_at (by omega))))) <| .l rfl (fun _ _ hk195 _ => walloc wf184 z79 rfl fun A197 b196 nb198 => ?_)
     have ne_b56_b196 := ne_new wf184 hr_b56182 nb198.lo
     have ne_b9_b196 := ne_new wf184 hr_b9182 nb198.lo
     have ne_b159_b196 := ne_new wf184 hr_b159182 nb198.lo
     have no199 := fr_ev182.own.ne_new wf184 nb198.lo
     have no200 := fk_oq149182.own.ne_new wf184 nb198.lo
     have ge_b196 := none_of wfC (Nat.le_trans le182.n nb198.lo)
     have h201 := nb198.le.get _ _ hr_b56182
     have h202 := nb198.le.get _ _ hr_b9182
     have h203 := nb198.le.get _ _ hr_b159182
     have fr204 := fr_ev182.le nb198.le
     have fr205 := fk_oq149182.le nb198.le
     have le206 := le182.trans nb198.le
     refine hk195 _ _ <| .l rfl (fun _ _ hk207 _ => wstore (cs := [str ((((dsh Sq40 (rot r kt)).2).getD k .zero).conj), num ((((dsh Sq40 (rot r kt)).2).getD k .zero).rel), .bool ((((dsh Sq40 (rot r kt)).2).getD k .zero).inv)]) (c' := [str ((((dsh Sq40 (rot r kt)).2).getD k .zero).conj), num ((((dsh Sq40 (rot r kt)).2).getD k .zero).rel), .bool ((((dsh Sq40 (rot r kt)).2).getD k .zero).inv)]) nb198.wf rfl rfl rfl rfl sz79 nb198.get (Nat.le_of_ble_eq_true rfl) rfl rfl fun A208 sb209 => ?_)
     have h210 := sb209.keep _ _ ne_b56_b196 h201
     have h211 := sb209.keep _ _ ne_b9_b196 h202
     have h212 := sb209.keep _ _ ne_b159_b196 h203
     have fr213 := fr204.keep sb209.keep no199
     have fr214 := fr205.keep sb209.keep no200
     have le215 := le_store le206 wfC ge_b196 sb209.n sb209.keep
     refine hk207 _ _ <| .nil <| h193 _ _ <| .seq fun K216 h217 => .region <| .q rfl (qmove rfl) <| .q rfl (qfieldAddr fl79_0 sz9 (by decide) rfl) <| .q rfl (qloadAt ag9 rfl rfl sb209.get rfl) <| .l rfl (fun _ _ hk218 _ => vcallF rfl (s_joined (jnd cj (r.take kt)) ((((dsh Sq40 (rot r kt)).2).getD k .zero).conj) A208 (by first | omega | (rw [List.length_take]; omega)) (by first | omega | (rw [List.length_take]; omega))) ?_)
     rintro v219 A220 ⟨rfl, rfl⟩
     refine hk218 _ _ <| .q rfl (qmove rfl) <| .q rfl (qextract rfl rfl) <| .q rfl (qextract rfl rfl) <| .q rfl (qfieldAddr fl79_0 sz9 (by decide) rfl) <| .l rfl (fun _ _ hk222 _ => wstore (cs := [str (jnd (jnd cj (r.take kt)) ((((dsh Sq40 (rot r kt)).2).getD k .zero).conj))]) (c' := [str (jnd (jnd cj (r.take kt)) ((((dsh Sq40 (rot r kt)).2).getD k .zero).conj)), num ((((dsh Sq40 (rot r kt)).2).getD k .zero).rel), .bool ((((dsh Sq40 (rot r kt)).2).getD k .zero).inv)]) sb209.wf rfl rfl rfl rfl sz9 sb209.get (Nat.le_of_ble_eq_true rfl) rfl rfl fun A223 sb224 => ?_)
     have h225 := sb224.keep _ _ ne_b56_b196 h210
     have h226 := sb224.keep _ _ ne_b9_b196 h211
     have h227 := sb224.keep _ _ ne_b159_b196 h212
     have fr228 := fr213.keep sb224.keep no199
     have fr229 := fr214.keep sb224.keep no200
     have le230 := le_store le215 wfC ge_b196 sb224.n sb224.keep
     refine hk222 _ _ <| .q rfl (qassign rfl) <| .nil <| h217 _ _ <| .seq fun K231 h232 => .seq fun K233 h234 => .region <| .q rfl (qmove rfl) <| .q rfl (qnotP rfl) <| .nil ?_
     refine h234 _ _ <| .if rfl (fun p235 => ?_) (fun p235 => ?_)
     ·
      refine Run.seq fun K236 h237 => .region <| .q rfl (qbuild rfl (buildV_struct u36 z36 pl36 rfl)) <| .l rfl (fun _ _ hk238 _ => wstore (cs := [str ([]), num ((0 : Nat) : Int), .slice none 0 0]) (c' := [str ([]), num ((0 : Nat) : Int), .slice none 0 0]) sb224.wf rfl rfl rfl rfl sz36 h226 (Nat.le_of_ble_eq_true rfl) rfl rfl fun A239 sb240 => ?_)
      have le246 := le_store le230 wfC (hide_none (by simp)) sb240.n sb240.keep
      refine hk238 _ _ <| .q rfl (qassign rfl) <| .q rfl (qassign rfl) <| .nil <| h237 _ _ <| .ret ?_
      repeat first | with_reducible refine thenQ_ret ?_ | with_reducible refine blockQ_ret ?_
      exact retQ (resCell ag36 sz36 rfl sb240.get rfl (resTmp rfl (resTmp rfl resNil))) (⟨[], [], [], 2, _, (by first | rfl | (rw [hnd]; rfl)), leC.trans le246, sb240.wf, Fresh.nil _ _ _, CyR.ok ‹¬ ¬ rasked g l w = 0› hSOq40 (by first | exact (cyF_end (by omega) (by omega) hcy).trans (if_pos ‹1000000 < conjs d ∨ 100000 < d.length›) | exact cyF_no1 hz (by omega) hcy (fitsJ_no (j := k) (by omega) (by omega)) | exact cyF_no2 hz (by omega) hcy (fitsJ_yes (by omega) hfit) (by omega))⟩)
     ·
      refine Run.skip <| h232 _ _ <| .region <| .q rfl (qfieldAddr fl36_2 sz34 (by decide) rfl) <| .q rfl (qloadAt ag34 rfl rfl h225 rfl) <| .q rfl (qloadAggAt ag79 sz79 rfl rfl sb224.get rfl) <| .l rfl (fun _ _ hk247 _ => wbuildSlice (c := [str (jnd (jnd cj (r.take kt)) ((((dsh Sq40 (rot r kt)).2).getD k .zero).conj)), num ((((dsh Sq40 (rot r kt)).2).getD k .zero).rel), .bool ((((dsh Sq40 (rot r kt)).2).getD k .zero).inv)]) sb224.wf rfl (buildSliceV_of u34 sz79 z79 rfl (by decide) (by decide) rfl) fun A249 b248 nb250 => ?_)
      have h253 := nb250.le.get _ _ h225
      have h254 := nb250.le.get _ _ h226
      have h255 := nb250.le.get _ _ h227
      have fr257 := fr228.le nb250.le
      have fr258 := fr229.le nb250.le
      have le259 := le230.trans nb250.le
      refine hk247 _ _ <| .l rfl (fun _ _ hk260 _ => wappend (ys := [str (jnd (jnd cj (r.take kt)) ((((dsh Sq40 (rot r kt)).2).getD k .zero).conj)), num ((((dsh Sq40 (rot r kt)).2).getD k .zero).rel), .bool ((((dsh Sq40 (rot r kt)).2).getD k .zero).inv)]) rfl rfl u34 sz79 inf79 z79 rfl (by decide) u34 (fun _ h => by cases h) fr257.own (listOf_row (n := 1) nb250.get rfl) rfl rfl (by show (_ + _) * 32 ≤ _; simp only [dcells_length, List.length_cons, List.length_nil]; (try simp only [List.length_append, List.length_cons, List.length_nil]); omega) (by simp only [dcells_length, List.length_cons, List.length_nil]; (try simp only [List.length_append, List.length_cons, List.length_nil]); omega) fun A261 v262 ap263 => ?_)
      rw [show ([str (jnd (jnd cj (r.take kt)) ((((dsh Sq40 (rot r kt)).2).getD k .zero).conj)), num ((((dsh Sq40 (rot r kt)).2).getD k .zero).rel), .bool ((((dsh Sq40 (rot r kt)).2).getD k .zero).inv)] : List Value) = dcells [⟨jnd (jnd cj (r.take kt)) ((((dsh Sq40 (rot r kt)).2).getD k .zero).conj), (((dsh Sq40 (rot r kt)).2).getD k .zero).rel, (((dsh Sq40 (rot r kt)).2).getD k .zero).inv⟩] from rfl, dcells_append] at ap263
      obtain ⟨fr266, le267⟩ := Fresh.grow fr257 le259 wfC ap263
      have h268 := ap263.keep no_ev_b56182 h253
      have ne269 := ap263.ne no_ev_b56182 nb250.wf h253
      have h270 := ap263.keep no_ev_b9182 h254
      have ne271 := ap263.ne no_ev_b9182 nb250.wf h254
      have h272 := ap263.keep no_ev_b159182 h255
      have ne273 := ap263.ne no_ev_b159182 nb250.wf h255
      have sp277 := Sep.appd (show Sep ev (.slice p170 l170 c170) from sq182_0_1) fr258.own nb250.wf ap263
      have fr276 := fr258.appd ap263 sq182_0_1
      refine hk260 _ _ <| .q rfl (qfieldAddr fl36_2 sz34 (by decide) rfl) ?_
      obtain ⟨p279, l279, c279, q279, _⟩ := fr266.own.slice
      subst q279
      refine Ops.l rfl (fun _ _ hk278 _ => wstore (cs := [.slice p279 l279 c279]) (c' := [str ((dsh Sq40 w).1), num ((n : Nat) : Int), .slice p279 l279 c279]) ap263.wf rfl rfl rfl rfl sz34 h268 (Nat.le_of_ble_eq_true rfl) rfl rfl fun A280 sb281 => ?_)
      have h282 := sb281.keep _ _ ne_b9_b56 h270
      have h283 := sb281.keep _ _ ne_b56_b159.symm h272
      have fr285 := fr276.keep sb281.keep no_oq149_b56182
      have fr286 := fr266.keep sb281.keep ne269
      have le287 := le_store le267 wfC ge_b56 sb281.n sb281.keep
      refine hk278 _ _ <| .nil <| h191 _ _ <| .region <| .q rfl (qaddN (b := 1) rfl rfl (by omega)) <| .q rfl (qmove rfl) <| .nil ?_
      exact ⟨⟨k + 1, e ++ [⟨jnd (jnd cj (r.take kt)) ((((dsh Sq40 (rot r kt)).2).getD k .zero).conj), (((dsh Sq40 (rot r kt)).2).getD k .zero).rel, (((dsh Sq40 (rot r kt)).2).getD k .zero).inv⟩], .slice p279 l279 c279⟩, EnvLe.cons rfl <| EnvLe.cons rfl <| EnvLe.cons rfl <| EnvLe.cons rfl <| EnvLe.cons rfl <| EnvLe.cons rfl <| EnvLe.cons rfl <| EnvLe.cons rfl <| EnvLe.cons rfl <| EnvLe.nil _, rfl, ⟨⟨by omega, by rw [he]; exact conj_step (by omega), fun j h => (Nat.lt_succ_iff_lt_or_eq.1 h).elim (hfit j) (fun q => by subst q; omega)⟩, le287, fr286, fr285, sb281.get, h282, h283, ne269, no_oq149_b56182, ne271, no_oq149_b9182, ne273, no_oq149_b159182, sp277⟩, (by (try dsimp only); omega)⟩
    ·
     refine Run.exit <| h179 _ _ <| .seq fun K288 h289 => .region <| .q rfl (qfieldAddr fl36_1 sz3 (by decide) rfl) <| .q rfl (qloadAt ag3 rfl rfl hr_b56182 rfl) <| .q rfl (qfieldAddr fl36_1 sz3 (by decide) rfl) <| .q rfl (qloadAt ag3 rfl rfl hr_b159182 rfl) <| .q rfl (qaddN rfl rfl (by omega)) <| .q rfl (qfieldAddr fl36_1 sz3 (by decide) rfl) ?_
     refine Ops.l rfl (fun _ _ hk290 _ => wstore (cs := [num ((n + ((dsh Sq40 (rot r kt)).2.length) : Nat) : Int)]) (c' := [str ((dsh Sq40 w).1), num ((n + ((dsh Sq40 (rot r kt)).2.length) : Nat) : Int), ev]) wf184 rfl rfl rfl rfl sz3 hr_b56182 (Nat.le_of_ble_eq_true rfl) rfl rfl fun A291 sb292 => ?_)
     have h293 := sb292.keep _ _ ne_b9_b56 hr_b9182
     have h294 := sb292.keep _ _ ne_b56_b159.symm hr_b159182
     have fr295 := fr_ev182.keep sb292.keep no_ev_b56182
     have le297 := le_store le182 wfC ge_b56 sb292.n sb292.keep
     refine hk290 _ _ <| .nil <| h289 _ _ <| .seq fun K298 h299 => .region <| .q rfl (qfieldAddr fl36_0 sz9 (by decide) rfl) <| .q rfl (qloadAt ag9 rfl rfl h294 rfl) <| .l rfl (fun _ _ hk300 _ => vcallF rfl (s_Cyclic ((dsh Sq40 (rot r kt)).1) A291 (by first | omega | (have := hd0.1; omega)) ((hL.le leC).le le297)) ?_)
     rintro v301 A302 ⟨rfl, leq303, wfq303⟩
     have h304 := leq303.get _ _ sb292.get
     have h305 := leq303.get _ _ h293
     have fr307 := fr295.le leq303
     have le309 := le297.trans leq303
     refine hk300 _ _ <| .q rfl (qmove rfl) <| .q rfl (qextract rfl rfl) <| .q rfl (qextract rfl rfl) <| .q rfl (qassign rfl) <| .q rfl (qassign rfl) <| .nil <| h299 _ _ <| .seq fun K310 h311 => .region ?_
     refine Ops.q rfl (qmove rfl) <| .q rfl (qassign rfl) <| .nil <| h311 _ _ <| .seq fun K312 h313 => .region <| .q rfl (qmove rfl) <| .q rfl (qmove rfl) <| .l rfl (fun _ _ hk314 _ => vcallF rfl (s_joined (jnd cj (r.take kt)) (wConj ((dsh Sq40 (rot r kt)).1)) A302 (by first | omega | (rw [List.length_take]; omega)) (by first | omega | (rw [List.length_take]; omega))) ?_)
     rintro v315 A316 ⟨rfl, rfl⟩
     refine hk314 _ _ <| .q rfl (qmove rfl) <| .q rfl (qextract rfl rfl) <| .q rfl (qextract rfl rfl) <| .q rfl (qassign rfl) <| .q rfl (qassign rfl) <| .nil <| h313 _ _ <| .seq fun K318 h319 => .region ?_
     refine Ops.q rfl (qmove rfl) <| .q rfl (qnotP rfl) <| .q rfl (qmove rfl) <| .part (t := 115) rfl (fun p320 => ?_) (fun p320 => ?_)
     ·
      refine Ops.off rfl rfl rfl rfl <| .off rfl rfl rfl rfl <| .q rfl (qpickT rfl rfl) <| .nil <| h319 _ _ <| .cond_true rfl <| .seq fun K321 h322 => .region <| .q rfl (qbuild rfl (buildV_struct u36 z36 pl36 rfl)) <| .l rfl (fun _ _ hk323 _ => wstore (cs := [str ([]), num ((0 : Nat) : Int), .slice none 0 0]) (c' := [str ([]), num ((0 : Nat) : Int), .slice none 0 0]) wfq303 rfl rfl rfl rfl sz36 h305 (Nat.le_of_ble_eq_true rfl) rfl rfl fun A324 sb325 => ?_)
      have le330 := le_store le309 wfC (hide_none (by simp)) sb325.n sb325.keep
      refine hk323 _ _ <| .q rfl (qassign rfl) <| .q rfl (qassign rfl) <| .nil <| h322 _ _ <| .ret ?_
      repeat first | with_reducible refine thenQ_ret ?_ | with_reducible refine blockQ_ret ?_
      exact retQ (resCell ag36 sz36 rfl sb325.get rfl (resTmp rfl (resTmp rfl resNil))) (⟨[], [], [], 2, _, (by first | rfl | (rw [hnd]; rfl)), leC.trans le330, sb325.wf, Fresh.nil _ _ _, CyR.ok ‹¬ ¬ rasked g l w = 0› hSOq40 (by first | exact (cyF_end (by omega) (by omega) hcy).trans (if_pos ‹1000000 < conjs d ∨ 100000 < d.length›) | exact cyF_no1 hz (by omega) hcy (fitsJ_no (j := k) (by omega) (by omega)) | exact cyF_no2 hz (by omega) hcy (fitsJ_yes (by omega) hfit) (by omega))⟩)
     ·
      refine Ops.on rfl rfl <| .q rfl (qmove rfl) <| .on rfl rfl <| .q rfl (qnotP rfl) <| .q rfl (qpickF rfl rfl) <| .nil <| h319 _ _ <| .if rfl (fun p331 => ?_) (fun p331 => ?_)
      ·
       refine Run.seq fun K332 h333 => .region <| .q rfl (qbuild rfl (buildV_struct u36 z36 pl36 rfl)) <| .l rfl (fun _ _ hk334 _ => wstore (cs := [str ([]), num ((0 : Nat) : Int), .slice none 0 0]) (c' := [str ([]), num ((0 : Nat) : Int), .slice none 0 0]) wfq303 rfl rfl rfl rfl sz36 h305 (Nat.le_of_ble_eq_true rfl) rfl rfl fun A335 sb336 => ?_)
       have le341 := le_store le309 wfC (hide_none (by simp)) sb336.n sb336.keep
       refine hk334 _ _ <| .q rfl (qassign rfl) <| .q rfl (qassign rfl) <| .nil <| h333 _ _ <| .ret ?_
       repeat first | with_reducible refine thenQ_ret ?_ | with_reducible refine blockQ_ret ?_
       exact retQ (resCell ag36 sz36 rfl sb336.get rfl (resTmp rfl (resTmp rfl resNil))) (⟨[], [], [], 2, _, (by first | rfl | (rw [hnd]; rfl)), leC.trans le341, sb336.wf, Fresh.nil _ _ _, CyR.ok ‹¬ ¬ rasked g l w = 0› hSOq40 (by first | exact (cyF_end (by omega) (by omega) hcy).trans (if_pos ‹1000000 < conjs d ∨ 100000 < d.length›) | exact cyF_no1 hz (by omega) hcy (fitsJ_no (j := k) (by omega) (by omega)) | exact cyF_no2 hz (by omega) hcy (fitsJ_yes (by omega) hfit) (by omega))⟩)
      ·
       refine Run.skip ?_
       exact ⟨⟨f - 1, wCore ((dsh Sq40 (rot r kt)).1), jnd (jnd cj (r.take kt)) (wConj ((dsh Sq40 (rot r kt)).1)), n + ((dsh Sq40 (rot r kt)).2.length), e, ev⟩, EnvLe.cons rfl <| EnvLe.cons rfl <| EnvLe.cons rfl <| EnvLe.cons rfl <| EnvLe.cons rfl <| EnvLe.nil _, rfl, ⟨⟨by rw [he, List.take_of_length_le (l := (dsh Sq40 (rot r kt)).2) (by omega)]; exact cyF_go hz (by omega) hcy (fitsJ_yes (by omega) hfit) ⟨by omega, by omega⟩, by omega, by omega, by rw [he]; simp only [List.length_append, List.length_map, List.length_take]; omega, by rw [he]; simp only [List.length_append, List.length_map, List.length_take]; omega, by omega, fun c hc => by rw [he] at hc; rcases List.mem_append.1 hc with hc | hc; exact hdc c hc; obtain ⟨c2, hc2, rfl⟩ := List.mem_map.1 hc; obtain ⟨j, hj, rfl⟩ := List.getElem_of_mem hc2; rw [List.length_take] at hj; have := hfit j (by omega); simpa [show j < (dsh Sq40 (rot r kt)).2.length by omega, cellJ] using this⟩, le309, fr307, h304, h305, no_ev_b56182, no_ev_b9182⟩, (by (try dsimp only); omega)⟩
   ·
    refine fun _ _ hk342 _ => walloc wfq88 z36 rfl fun A344 b343 nb345 => ?_
    have ne_b56_b343 := ne_new wfq88 h89 nb345.lo
    have ne_b9_b343 := ne_new wfq88 h90 nb345.lo
    have no346 := fr91.own.ne_new wfq88 nb345.lo
    have ge_b343 := none_of wfC (Nat.le_trans le92.n nb345.lo)
    have h347 := nb345.le.get _ _ h89
    have h348 := nb345.le.get _ _ h90
    have fr349 := fr91.le nb345.le
    have le350 := le92.trans nb345.le
    refine hk342 _ _ (HeldNow.none (by kernel_rfl)) <| .l rfl rfl rfl (fun _ _ hk351 _ => vcallF rfl (s_dshort brq40 Sq40 (rot r kt) A344 (hRC.le le350) hSq40 ((hL.le leC).le le350) (by first | (have := (rasked_word ‹¬ ¬ rasked g l w = 0›).2; omega) | (rw [rot_length]; omega))) ?_)
    rintro v352 A353 ⟨dvq354, rfl, leq354, wfq354, frq354⟩
    have h355 := leq354.get _ _ h347
    have h356 := leq354.get _ _ h348
    have h357 := leq354.get _ _ nb345.get
    have fr358 := fr349.le leq354
    have le359 := le350.trans leq354
    have fr360 := frq354.base le350
    have sp361 := frq354.sep0 fr349.own
    have no362 := frq354.ne nb345.wf h347
    have no363 := frq354.ne nb345.wf h348
    have no364 := frq354.ne nb345.wf nb345.get
    refine hk351 _ _ (HeldNow.none (by kernel_rfl)) ?_
    obtain ⟨p366, l366, c366, q366, _⟩ := fr360.own.slice
    subst q366
    refine DOps.l rfl rfl rfl (fun _ _ hk365 _ => wstore (cs := [str ((dsh Sq40 (rot r kt)).1), num (((dsh Sq40 (rot r kt)).2.length : Nat) : Int), .slice p366 l366 c366]) (c' := [str ((dsh Sq40 (rot r kt)).1), num (((dsh Sq40 (rot r kt)).2.length : Nat) : Int), .slice p366 l366 c366]) wfq354 rfl rfl rfl rfl sz36 h357 (Nat.le_of_ble_eq_true rfl) rfl rfl fun A367 sb368 => ?_)
    have h369 := sb368.keep _ _ ne_b56_b343 h355
    have h370 := sb368.keep _ _ ne_b9_b343 h356
    have fr371 := fr358.keep sb368.keep no346
    have fr372 := fr360.keep sb368.keep no364
    have le373 := le_store le359 wfC ge_b343 sb368.n sb368.keep
    refine hk365 _ _ (HeldNow.none (by kernel_rfl)) <| .done <| h145 _ _ <| .seq fun K374 h375 => .seq fun K376 h377 => .region <| .q rfl (qfieldAddr fl36_2 sz34 (by decide) rfl) <| .q rfl (qloadAt ag34 rfl rfl sb368.get rfl) <| .q rfl (qlenS (n := ((dsh Sq40 (rot r kt)).2).length) u34 rfl fr372.slc (by omega) (dcells_len _)) <| .q rfl (qmove rfl) ?_
    refine Ops.nil <| h377 _ _ <| .block <| .loop (X := Nat × List DCell × Value) (fun ⟨k, e, ev⟩ => [(4, .pointer (some ⟨b9, 0, none⟩)), (8, .pointer (some ⟨brq40, 0, none⟩)), (9, .pointer (some ⟨b56, 0, none⟩)), (11, str (jnd cj (r.take kt))), (13, .bool (decide ((jnd cj (r.take kt)).length ≤ 100000))), (16, .pointer (some ⟨b343, 0, none⟩)), (70, .slice p366 l366 c366), (71, num ((((dsh Sq40 (rot r kt)).2).length : Nat) : Int)), (72, num ((k : Nat) : Int))]) (fun ⟨k, e, ev⟩ B => (k ≤ (dsh Sq40 (rot r kt)).2.length ∧ e = d ++ ((dsh Sq40 (rot r kt)).2.take k).map (cellJ (jnd cj (r.take kt))) ∧ ∀ j, j < k → (jnd (jnd cj (r.take kt)) ((dsh Sq40 (rot r kt)).2.getD j .zero).conj).length ≤ 100000) ∧ (A39.hide [some b9]).le B ∧ Fresh (A39.hide [some b9]) B ev 3 (dcells e) ∧ Fresh (A39.hide [some b9]) B (.slice p366 l366 c366) 3 (dcells ((dsh Sq40 (rot r kt)).2)) ∧ B.get b56 = some (.row true [str ((dsh Sq40 w).1), num ((n : Nat) : Int), ev] 3) ∧ B.get b9 = some (.row true [str ([]), num ((0 : Nat) : Int), .slice none 0 0] 3) ∧ B.get b343 = some (.row true [str ((dsh Sq40 (rot r kt)).1), num (((dsh Sq40 (rot r kt)).2.length : Nat) : Int), .slice p366 l366 c366] 3) ∧ V.blk ev ≠ some b56 ∧ V.blk (.slice p366 l366 c366) ≠ some b56 ∧ V.blk ev ≠ some b9 ∧ V.blk (.slice p366 l366 c366) ≠ some b9 ∧ V.blk ev ≠ some b343 ∧ V.blk (.slice p366 l366 c366) ≠ some b343 ∧ Sep ev (.slice p366 l366 c366)) (fun ⟨k, e, ev⟩ => (dsh Sq40 (rot r kt)).2.length - k) (⟨0, d, cv⟩) (EnvLe.cons rfl <| EnvLe.cons rfl <| EnvLe.cons rfl <| EnvLe.cons rfl <| EnvLe.cons rfl <| EnvLe.cons rfl <| EnvLe.cons rfl <| EnvLe.cons rfl <| EnvLe.cons rfl <| EnvLe.nil _) (⟨⟨Nat.zero_le _, (List.append_nil _).symm, fun j h => by omega⟩, le373, fr371, fr372, h369, h370, sb368.get, no_cv_b5680, no362, no_cv_b980, no363, no346, no364, (Sep.symm sp361)⟩) ?_
    rintro ⟨k, e, ev⟩ B379 ⟨⟨hk, he, hfit⟩, le378, fr_ev378, fk_oq354378, hr_b56378, hr_b9378, hr_b343378, no_ev_b56378, no_oq354_b56378, no_ev_b9378, no_oq354_b9378, no_ev_b343378, no_oq354_b343378, sq378_0_1⟩
    refine Run.wf fun wf380 => ?_
    have hel : e.length = d.length + k := by rw [he, List.length_append, List.length_map, List.length_take]; omega
    have hgc := getD_conj hda.2.2 k
    refine Run.seq fun K381 h382 => .region <| .q rfl (qlssN rfl rfl) <| .nil <| h382 _ _ <| .seq fun K383 h384 => .if rfl (fun p385 => ?_) (fun p385 => ?_)
    ·
     refine Run.skip <| h384 _ _ <| .seq fun K386 h387 => .block <| .seq fun K388 h389 => .region ?_
     obtain ⟨b390, f390, rw390, r390, rc390, n390, k390, e390, l390, g390, cl390, cs390⟩ := Slc.at (i := k) fk_oq354378.slc (by simp only [dcells_length]; omega) (by omega)
     refine Ops.q rfl (qindexS u34 sz79 rfl e390 rfl l390) <| .q rfl (qloadAggAt ag79 sz79 rfl rfl g390 (cl390.trans (congrArg some (dcells_at (by omega))))) <| .l rfl (fun _ _ hk391 _ => walloc wf380 z79 rfl fun A393 b392 nb394 => ?_)
     have ne_b56_b392 := ne_new wf380 hr_b56378 nb394.lo
     have ne_b9_b392 := ne_new wf380 hr_b9378 nb394.lo
     have ne_b343_b392 := ne_new wf380 hr_b343378 nb394.lo
     have no395 := fr_ev378.own.ne_new wf380 nb394.lo
     have no396 := fk_oq354378.own.ne_new wf380 nb394.lo
     have ge_b392 := none_of wfC (Nat.le_trans le378.n nb394.lo)
     have h397 := nb394.le.get _ _ hr_b56378
     have h398 := nb394.le.get _ _ hr_b9378
     have h399 := nb394.le.get _ _ hr_b343378
     have fr400 := fr_ev378.le nb394.le
     have fr401 := fk_oq354378.le nb394.le
     have le402 := le378.trans nb394.le
     refine hk391 _ _ <| .l rfl (fun _ _ hk403 _ => wstore (cs := [str ((((dsh Sq40 (rot r kt)).2).getD k .zero).conj), num ((((dsh Sq40 (rot r kt)).2).getD k .zero).rel), .bool ((((dsh Sq40 (rot r kt)).2).getD k .zero).inv)]) (c' := [str ((((dsh Sq40 (rot r kt)).2).getD k .zero).conj), num ((((dsh Sq40 (rot r kt)).2).getD k .zero).rel), .bool ((((dsh Sq40 (rot r kt)).2).getD k .zero).inv)]) nb394.wf rfl rfl rfl rfl sz79 nb394.get (Nat.le_of_ble_eq_true rfl) rfl rfl fun A404 sb405 => ?_)
     have h406 := sb405.keep _ _ ne_b56_b392 h397
     have h407 := sb405.keep _ _ ne_b9_b392 h398
     have h408 := sb405.keep _ _ ne_b343_b392 h399
     have fr409 := fr400.keep sb405.keep no395
     have fr410 := fr401.keep sb405.keep no396
     have le411 := le_store le402 wfC ge_b392 sb405.n sb405.keep
     refine hk403 _ _ <| .nil <| h389 _ _ <| .seq fun K412 h413 => .region <| .q rfl (qmove rfl) <| .q rfl (qfieldAddr fl79_0 sz9 (by decide) rfl) <| .q rfl (qloadAt ag9 rfl rfl sb405.get rfl) <| .l rfl (fun _ _ hk414 _ => vcallF rfl (s_joined (jnd cj (r.take kt)) ((((dsh Sq40 (rot r kt)).2).getD k .zero).conj) A404 (by first | omega | (rw [List.length_take]; omega)) (by first | omega | (rw [List.length_take]; omega))) ?_)
     rintro v415 A416 ⟨rfl, rfl⟩
     refine hk414 _ _ <| .q rfl (qmove rfl) <| .q rfl (qextract rfl rfl) <| .q rfl (qextract rfl rfl) <| .q rfl (qfieldAddr fl79_0 sz9 (by decide) rfl) <| .l rfl (fun _ _ hk418 _ => wstore (cs := [str (jnd (jnd cj (r.take kt)) ((((dsh Sq40 (rot r kt)).2).getD k .zero).conj))]) (c' := [str (jnd (jnd cj (r.take kt)) ((((dsh Sq40 (rot r kt)).2).getD k .zero).conj)), num ((((dsh Sq40 (rot r kt)).2).getD k .zero).rel), .bool ((((dsh Sq40 (rot r kt)).2).getD k .zero).inv)]) sb405.wf rfl rfl rfl rfl sz9 sb405.get (Nat.le_of_ble_eq_true rfl) rfl rfl fun A419 sb420 => ?_)
     have h421 := sb420.keep _ _ ne_b56_b392 h406
     have h422 := sb420.keep _ _ ne_b9_b392 h407
     have h423 := sb420.keep _ _ ne_b343_b392 h408
     have fr424 := fr409.keep sb420.keep no395
     have fr425 := fr410.keep sb420.keep no396
     have le426 := le_store le411 wfC ge_b392 sb420.n sb420.keep
     refine hk418 _ _ <| .q rfl (qassign rfl) <| .nil <| h413 _ _ <| .seq fun K427 h428 => .seq fun K429 h430 => .region <| .q rfl (qmove rfl) <| .q rfl (qnotP rfl) <| .nil ?_
     refine h430 _ _ <| .if rfl (fun p431 => ?_) (fun p431 => ?_)
     ·
      refine Run.seq fun K432 h433 => .region <| .q rfl (qbuild rfl (buildV_struct u36 z36 pl36 rfl)) <| .l rfl (fun _ _ hk434 _ => wstore (cs := [str ([]), num ((0 : Nat) : Int), .slice none 0 0]) (c' := [str ([]), num ((0 : Nat) : Int), .slice none 0 0]) sb420.wf rfl rfl rfl rfl sz36 h422 (Nat.le_of_ble_eq_true rfl) rfl rfl fun A435 sb436 => ?_)
      have le442 := le_store le426 wfC (hide_none (by simp)) sb436.n sb436.keep
      refine hk434 _ _ <| .q rfl (qassign rfl) <| .q rfl (qassign rfl) <| .nil <| h433 _ _ <| .ret ?_
      repeat first | with_reducible refine thenQ_ret ?_ | with_reducible refine blockQ_ret ?_
      exact retQ (resCell ag36 sz36 rfl sb436.get rfl (resTmp rfl (resTmp rfl resNil))) (⟨[], [], [], 2, _, (by first | rfl | (rw [hnd]; rfl)), leC.trans le442, sb436.wf, Fresh.nil _ _ _, CyR.ok ‹¬ ¬ rasked g l w = 0› hSOq40 (by first | exact (cyF_end (by omega) (by omega) hcy).trans (if_pos ‹1000000 < conjs d ∨ 100000 < d.length›) | exact cyF_no1 hz (by omega) hcy (fitsJ_no (j := k) (by omega) (by omega)) | exact cyF_no2 hz (by omega) hcy (fitsJ_yes (by omega) hfit) (by omega))⟩)
     ·
      refine Run.skip <| h428 _ _ <| .region <| .q rfl (qfieldAddr fl36_2 sz34 (by decide) rfl) <| .q rfl (qloadAt ag34 rfl rfl h421 rfl) <| .q rfl (qloadAggAt ag79 sz79 rfl rfl sb420.get rfl) <| .l rfl (fun _ _ hk443 _ => wbuildSlice (c := [str (jnd (jnd cj (r.take kt)) ((((dsh Sq40 (rot r kt)).2).getD k .zero).conj)), num ((((dsh Sq40 (rot r kt)).2).getD k .zero).rel), .bool ((((dsh Sq40 (rot r kt)).2).getD k .zero).inv)]) sb420.wf rfl (buildSliceV_of u34 sz79 z79 rfl (by decide) (by decide) rfl) fun A445 b444 nb446 => ?_)
      have h449 := nb446.le.get _ _ h421
      have h450 := nb446.le.get _ _ h422
      have h451 := nb446.le.get _ _ h423
      have fr453 := fr424.le nb446.le
      have fr454 := fr425.le nb446.le
      have le455 := le426.trans nb446.le
      refine hk443 _ _ <| .l rfl (fun _ _ hk456 _ => wappend (ys := [str (jnd (jnd cj (r.take kt)) ((((dsh Sq40 (rot r kt)).2).getD k .zero).conj)), num ((((dsh Sq40 (rot r kt)).2).getD k .zero).rel), .bool ((((dsh Sq40 (rot r kt)).2).getD k .zero).inv)]) rfl rfl u34 sz79 inf79 z79 rfl (by decide) u34 (fun _ h => by cases h) fr453.own (listOf_row (n := 1) nb446.get rfl) rfl rfl (by show (_ + _) * 32 ≤ _; simp only [dcells_length, List.length_cons, List.length_nil]; (try simp only [List.length_append, List.length_cons, List.length_nil]); omega) (by simp only [dcells_length, List.length_cons, List.length_nil]; (try simp only [List.length_append, List.length_cons, List.length_nil]); omega) fun A457 v458 ap459 => ?_)
      rw [show ([str (jnd (jnd cj (r.take kt)) ((((dsh Sq40 (rot r kt)).2).getD k .zero).conj)), num ((((dsh Sq40 (rot r kt)).2).getD k .zero).rel), .bool ((((dsh Sq40 (rot r kt)).2).getD k .zero).inv)] : List Value) = dcells [⟨jnd (jnd cj (r.take kt)) ((((dsh Sq40 (rot r kt)).2).getD k .zero).conj), (((dsh Sq40 (rot r kt)).2).getD k .zero).rel, (((dsh Sq40 (rot r kt)).2).getD k .zero).inv⟩] from rfl, dcells_append] at ap459
      obtain ⟨fr462, le463⟩ := Fresh.grow fr453 le455 wfC ap459
      have h464 := ap459.keep no_ev_b56378 h449
      have ne465 := ap459.ne no_ev_b56378 nb446.wf h449
      have h466 := ap459.keep no_ev_b9378 h450
      have ne467 := ap459.ne no_ev_b9378 nb446.wf h450
      have h468 := ap459.keep no_ev_b343378 h451
      have ne469 := ap459.ne no_ev_b343378 nb446.wf h451
      have sp473 := Sep.appd (show Sep ev (.slice p366 l366 c366) from sq378_0_1) fr454.own nb446.wf ap459
      have fr472 := fr454.appd ap459 sq378_0_1
      refine hk456 _ _ <| .q rfl (qfieldAddr fl36_2 sz34 (by decide) rfl) ?_
      obtain ⟨p475, l475, c475, q475, _⟩ := fr462.own.slice
      subst q475
      refine Ops.l rfl (fun _ _ hk474 _ => wstore (cs := [.slice p475 l475 c475]) (c' := [str ((dsh Sq40 w).1), num ((n : Nat) : Int), .slice p475 l475 c475]) ap459.wf rfl rfl rfl rfl sz34 h464 (Nat.le_of_ble_eq_true rfl) rfl rfl fun A476 sb477 => ?_)
      have h478 := sb477.keep _ _ ne_b9_b56 h466
      have h479 := sb477.keep _ _ ne_b56_b343.symm h468
      have fr481 := fr472.keep sb477.keep no_oq354_b56378
      have fr482 := fr462.keep sb477.keep ne465
      have le483 := le_store le463 wfC ge_b56 sb477.n sb477.keep
      refine hk474 _ _ <| .nil <| h387 _ _ <| .region <| .q rfl (qaddN (b := 1) rfl rfl (by omega)) <| .q rfl (qmove rfl) <| .nil ?_
      exact ⟨⟨k + 1, e ++ [⟨jnd (jnd cj (r.take kt)) ((((dsh Sq40 (rot r kt)).2).getD k .zero).conj), (((dsh Sq40 (rot r kt)).2).getD k .zero).rel, (((dsh Sq40 (rot r kt)).2).getD k .zero).inv⟩], .slice p475 l475 c475⟩, EnvLe.cons rfl <| EnvLe.cons rfl <| EnvLe.cons rfl <| EnvLe.cons rfl <| EnvLe.cons rfl <| EnvLe.cons rfl <| EnvLe.cons rfl <| EnvLe.cons rfl <| EnvLe.cons rfl <| EnvLe.nil _, rfl, ⟨⟨by omega, by rw [he]; exact conj_step (by omega), fun j h => (Nat.lt_succ_iff_lt_or_eq.1 h).elim (hfit j) (fun q => by subst q; omega)⟩, le483, fr482, fr481, sb477.get, h478, h479, ne465, no_oq354_b56378, ne467, no_oq354_b9378, ne469, no_oq354_b343378, sp473⟩, (by (try dsimp only); omega)⟩
    ·
     refine Run.exit <| h375 _ _ <| .seq fun K484 h485 => .region <| .q rfl (qfieldAddr fl36_1 sz3 (by decide) rfl) <| .q rfl (qloadAt ag3 rfl rfl hr_b56378 rfl) <| .q rfl (qfieldAddr fl36_1 sz3 (by decide) rfl) <| .q rfl (qloadAt ag3 rfl rfl hr_b343378 rfl) <| .q rfl (qaddN rfl rfl (by omega)) <| .q rfl (qfieldAddr fl36_1 sz3 (by decide) rfl) ?_
     refine Ops.l rfl (fun _ _ hk486 _ => wstore (cs := [num ((n + ((dsh Sq40 (rot r kt)).2.length) : Nat) : Int)]) (c' := [str ((dsh Sq40 w).1), num ((n + ((dsh Sq40 (rot r kt)).2.length) : Nat) : Int), ev]) wf380 rfl rfl rfl rfl sz3 hr_b56378 (Nat.le_of_ble_eq_true rfl) rfl rfl fun A487 sb488 => ?_)
     have h489 := sb488.keep _ _ ne_b9_b56 hr_b9378
     have h490 := sb488.keep _ _ ne_b56_b343.symm hr_b343378
     have fr491 := fr_ev378.keep sb488.keep no_ev_b56378
     have le493 := le_store le378 wfC ge_b56 sb488.n sb488.keep
     refine hk486 _ _ <| .nil <| h485 _ _ <| .seq fun K494 h495 => .region <| .q rfl (qfieldAddr fl36_0 sz9 (by decide) rfl) <| .q rfl (qloadAt ag9 rfl rfl h490 rfl) <| .l rfl (fun _ _ hk496 _ => vcallF rfl (s_Cyclic ((dsh Sq40 (rot r kt)).1) A487 (by first | omega | (have := hd0.1; omega)) ((hL.le leC).le le493)) ?_)
     rintro v497 A498 ⟨rfl, leq499, wfq499⟩
     have h500 := leq499.get _ _ sb488.get
     have h501 := leq499.get _ _ h489
     have fr503 := fr491.le leq499
     have le505 := le493.trans leq499
     refine hk496 _ _ <| .q rfl (qmove rfl) <| .q rfl (qextract rfl rfl) <| .q rfl (qextract rfl rfl) <| .q rfl (qassign rfl) <| .q rfl (qassign rfl) <| .nil <| h495 _ _ <| .seq fun K506 h507 => .region ?_
     refine Ops.q rfl (qmove rfl) <| .q rfl (qassign rfl) <| .nil <| h507 _ _ <| .seq fun K508 h509 => .region <| .q rfl (qmove rfl) <| .q rfl (qmove rfl) <| .l rfl (fun _ _ hk510 _ => vcallF rfl (s_joined (jnd cj (r.take kt)) (wConj ((dsh Sq40 (rot r kt)).1)) A498 (by first | omega | (rw [List.length_take]; omega)) (by first | omega | (rw [List.length_take]; omega))) ?_)
     rintro v511 A512 ⟨rfl, rfl⟩
     refine hk510 _ _ <| .q rfl (qmove rfl) <| .q rfl (qextract rfl rfl) <| .q rfl (qextract rfl rfl) <| .q rfl (qassign rfl) <| .q rfl (qassign rfl) <| .nil <| h509 _ _ <| .seq fun K514 h515 => .region ?_
     refine Ops.q rfl (qmove rfl) <| .q rfl (qnotP rfl) <| .q rfl (qmove rfl) <| .part (t := 115) rfl (fun p516 => ?_) (fun p516 => ?_)
     ·
      refine Ops.off rfl rfl rfl rfl <| .off rfl rfl rfl rfl <| .q rfl (qpickT rfl rfl) <| .nil <| h515 _ _ <| .cond_true rfl <| .seq fun K517 h518 => .region <| .q rfl (qbuild rfl (buildV_struct u36 z36 pl36 rfl)) <| .l rfl (fun _ _ hk519 _ => wstore (cs := [str ([]), num ((0 : Nat) : Int), .slice none 0 0]) (c' := [str ([]), num ((0 : Nat) : Int), .slice none 0 0]) wfq499 rfl rfl rfl rfl sz36 h501 (Nat.le_of_ble_eq_true rfl) rfl rfl fun A520 sb521 => ?_)
      have le526 := le_store le505 wfC (hide_none (by simp)) sb521.n sb521.keep
      refine hk519 _ _ <| .q rfl (qassign rfl) <| .q rfl (qassign rfl) <| .nil <| h518 _ _ <| .ret ?_
      repeat first | with_reducible refine thenQ_ret ?_ | with_reducible refine blockQ_ret ?_
      exact retQ (resCell ag36 sz36 rfl sb521.get rfl (resTmp rfl (resTmp rfl resNil))) (⟨[], [], [], 2, _, (by first | rfl | (rw [hnd]; rfl)), leC.trans le526, sb521.wf, Fresh.nil _ _ _, CyR.ok ‹¬ ¬ rasked g l w = 0› hSOq40 (by first | exact (cyF_end (by omega) (by omega) hcy).trans (if_pos ‹1000000 < conjs d ∨ 100000 < d.length›) | exact cyF_no1 hz (by omega) hcy (fitsJ_no (j := k) (by omega) (by omega)) | exact cyF_no2 hz (by omega) hcy (fitsJ_yes (by omega) hfit) (by omega))⟩)
     ·
      refine Ops.on rfl rfl <| .q rfl (qmove rfl) <| .on rfl rfl <| .q rfl (qnotP rfl) <| .q rfl (qpickF rfl rfl) <| .nil <| h515 _ _ <| .if rfl (fun p527 => ?_) (fun p527 => ?_)
      ·
       refine Run.seq fun K528 h529 => .region <| .q rfl (qbuild rfl (buildV_struct u36 z36 pl36 rfl)) <| .l rfl (fun _ _ hk530 _ => wstore (cs := [str ([]), num ((0 : Nat) : Int), .slice none 0 0]) (c' := [str ([]), num ((0 : Nat) : Int), .slice none 0 0]) wfq499 rfl rfl rfl rfl sz36 h501 (Nat.le_of_ble_eq_true rfl) rfl rfl fun A531 sb532 => ?_)
       have le537 := le_store le505 wfC (hide_none (by simp)) sb532.n sb532.keep
       refine hk530 _ _ <| .q rfl (qassign rfl) <| .q rfl (qassign rfl) <| .nil <| h529 _ _ <| .ret ?_
       repeat first | with_reducible refine thenQ_ret ?_ | with_reducible refine blockQ_ret ?_
       exact retQ (resCell ag36 sz36 rfl sb532.get rfl (resTmp rfl (resTmp rfl resNil))) (⟨[], [], [], 2, _, (by first | rfl | (rw [hnd]; rfl)), leC.trans le537, sb532.wf, Fresh.nil _ _ _, CyR.ok ‹¬ ¬ rasked g l w = 0› hSOq40 (by first | exact (cyF_end (by omega) (by omega) hcy).trans (if_pos ‹1000000 < conjs d ∨ 100000 < d.length›) | exact cyF_no1 hz (by omega) hcy (fitsJ_no (j := k) (by omega) (by omega)) | exact cyF_no2 hz (by omega) hcy (fitsJ_yes (by omega) hfit) (by omega))⟩)
      ·
       refine Run.skip ?_
       exact ⟨⟨f - 1, wCore ((dsh Sq40 (rot r kt)).1), jnd (jnd cj (r.take kt)) (wConj ((dsh Sq40 (rot r kt)).1)), n + ((dsh Sq40 (rot r kt)).2.length), e, ev⟩, EnvLe.cons rfl <| EnvLe.cons rfl <| EnvLe.cons rfl <| EnvLe.cons rfl <| EnvLe.cons rfl <| EnvLe.nil _, rfl, ⟨⟨by rw [he, List.take_of_length_le (l := (dsh Sq40 (rot r kt)).2) (by omega)]; exact cyF_go hz (by omega) hcy (fitsJ_yes (by omega) hfit) ⟨by omega, by omega⟩, by omega, by omega, by rw [he]; simp only [List.length_append, List.length_map, List.length_take]; omega, by rw [he]; simp only [List.length_append, List.length_map, List.length_take]; omega, by omega, fun c hc => by rw [he] at hc; rcases List.mem_append.1 hc with hc | hc; exact hdc c hc; obtain ⟨c2, hc2, rfl⟩ := List.mem_map.1 hc; obtain ⟨j, hj, rfl⟩ := List.getElem_of_mem hc2; rw [List.length_take] at hj; have := hfit j (by omega); simpa [show j < (dsh Sq40 (rot r kt)).2.length by omega, cellJ] using this⟩, le505, fr503, h500, h501, no_ev_b56378, no_ev_b9378⟩, (by (try dsimp only); omega)⟩
end Go.Proofs.YtaccklloepfemaaGreatDoor

namespace Go.Proofs.YtaccklloepfemaaGreatDoor
set_option linter.unusedVariables false
set_option linter.unusedSimpArgs false
open Go Go.RowKit V

/-! ### Reduced words -/
def NC (w : List UInt8) : Prop := ∀ i, i + 1 < w.length → w.getD (i + 1) 0 ≠ w.getD i 0 ^^^ 32
theorem getD_left {a b : List UInt8} {i : Nat} (h : i < a.length) : (a ++ b).getD i 0 = a.getD i 0 := by
  rw [List.getD_eq_getElem?_getD, List.getElem?_append_left h, ← List.getD_eq_getElem?_getD]
theorem getD_right {a b : List UInt8} {i : Nat} (h : a.length ≤ i) : (a ++ b).getD i 0 = b.getD (i - a.length) 0 := by
  rw [List.getD_eq_getElem?_getD, List.getElem?_append_right h, ← List.getD_eq_getElem?_getD]
theorem getD_take {a : List UInt8} {i n : Nat} (h : i < n) : (a.take n).getD i 0 = a.getD i 0 := by
  rw [List.getD_eq_getElem?_getD, List.getElem?_take_of_lt h, ← List.getD_eq_getElem?_getD]
theorem getD_drop {a : List UInt8} {i n : Nat} : (a.drop n).getD i 0 = a.getD (n + i) 0 := by
  rw [List.getD_eq_getElem?_getD, List.getElem?_drop, ← List.getD_eq_getElem?_getD]
theorem NC.left {a b : List UInt8} (h : NC (a ++ b)) : NC a := fun i hi => by
  have := h i (by rw [List.length_append]; omega)
  rwa [getD_left (by omega), getD_left (by omega)] at this
theorem NC.take {a : List UInt8} (h : NC a) (n : Nat) : NC (a.take n) := NC.left (b := a.drop n) (by rw [List.take_append_drop]; exact h)
theorem NC.drop {a : List UInt8} (h : NC a) (n : Nat) : NC (a.drop n) := fun i hi => by
  rw [List.length_drop] at hi
  have := h (n + i) (by omega)
  rw [getD_drop, getD_drop]; exact this
theorem NC.fold : ∀ (w s : List UInt8), NC (s ++ w) → w.foldl push s = s ++ w
  | [], s, _ => by simp
  | c :: w, s, h => by
    have hp : push s c = s ++ [c] := by
      unfold push
      rw [if_neg]
      rintro ⟨q1, q2⟩
      have := h (s.length - 1) (by simp; omega)
      rw [show s.length - 1 + 1 = s.length by omega, getD_right (Nat.le_refl _), getD_left (by omega), q2, flip_flip] at this
      simp at this
    rw [List.foldl_cons, hp, NC.fold w (s ++ [c]) (by simpa using h)]
    simp
theorem NC.isRed {w : List UInt8} (h : NC w) : red w = w := NC.fold w [] (by simpa using h)
theorem NC.pushC {s : List UInt8} (h : NC s) (c : UInt8) : NC (push s c) := by
  unfold push
  split
  · exact h.take _
  · rename_i q
    intro i hi
    simp only [List.length_append, List.length_cons, List.length_nil] at hi
    by_cases e : i + 1 < s.length
    · rw [getD_left e, getD_left (by omega)]; exact h i e
    · have e2 : i + 1 = s.length := by omega
      rw [getD_right (by omega), getD_left (by omega), show i + 1 - s.length = 0 by omega]
      have e3 : i = s.length - 1 := by omega
      intro r
      refine q ⟨by omega, ?_⟩
      rw [← e3]
      have r : c = s.getD i 0 ^^^ 32 := r
      rw [r, flip_flip]
theorem NC.ofFold : ∀ (w s : List UInt8), NC s → NC (w.foldl push s)
  | [], _, h => h
  | c :: w, s, h => NC.ofFold w _ (h.pushC c)
theorem NC.ofRed (w : List UInt8) : NC (red w) := NC.ofFold w [] fun i hi => by simp at hi
theorem NC.iff (w : List UInt8) : NC w ↔ red w = w := ⟨NC.isRed, fun h => h ▸ NC.ofRed w⟩
theorem inv_get {w : List UInt8} {i : Nat} (h : i < w.length) : (inv w).getD i 0 = w.getD (w.length - 1 - i) 0 ^^^ 32 := by
  have h2 : w.length - 1 - i < w.length := by omega
  simp only [inv, List.getD_eq_getElem?_getD]
  rw [List.getElem?_reverse (by simpa using h)]
  simp [h2]
theorem NC.ofInv {w : List UInt8} (h : NC w) : NC (inv w) := fun i hi => by
  rw [inv_length] at hi
  rw [inv_get hi, inv_get (by omega), flip_flip]
  have := h (w.length - 1 - (i + 1)) (by omega)
  rw [show w.length - 1 - (i + 1) + 1 = w.length - 1 - i by omega] at this
  exact fun q => this q.symm
theorem lf_congr {p q : Nat → Bool} {b : Nat} (h : ∀ n, n < b → p n = q n) : lf p b = lf q b := by
  unfold lf
  have : ∀ l : List Nat, (∀ n ∈ l, n < b) → l.find? (fun n => !p n) = l.find? (fun n => !q n) := by
    intro l
    induction l with
    | nil => intro _; rfl
    | cons a l ih =>
      intro hl
      rw [List.find?_cons, List.find?_cons, h a (hl a List.mem_cons_self), ih fun n hn => hl n (List.mem_cons_of_mem _ hn)]
  rw [this _ fun n hn => List.mem_range.1 hn]
theorem cycN_inv (r : List UInt8) : cycN (inv r) = cycN r := by
  unfold cycN
  rw [inv_length]
  refine lf_congr fun n hn => ?_
  congr 1
  refine propext ⟨fun ⟨h1, h2⟩ => ⟨h1, ?_⟩, fun ⟨h1, h2⟩ => ⟨h1, ?_⟩⟩
  · rw [inv_get hn, inv_get (by omega), flip_flip, show r.length - 1 - (r.length - 1 - n) = n by omega] at h2
    rw [← h2]
  · rw [inv_get hn, inv_get (by omega), flip_flip, show r.length - 1 - (r.length - 1 - n) = n by omega, ← h2]
theorem mid_rev {α : Type} (l : List α) (c : Nat) : (l.reverse.take (l.length - c)).drop c = ((l.take (l.length - c)).drop c).reverse := by
  apply List.ext_getElem
  · simp
  · intro i h1 h2
    simp only [List.length_drop, List.length_take, List.length_reverse] at h1 h2
    simp only [List.getElem_drop, List.getElem_take, List.getElem_reverse, List.length_drop, List.length_take]
    congr 1; omega
theorem core_inv {r : List UInt8} (h : red r = r) : core (inv r) = inv (core r) := by
  have h2 : red (inv r) = inv r := (((NC.iff r).2 h).ofInv).isRed
  unfold core
  rw [h2, h, cycN_inv, inv_length]
  have e : ∀ l : List UInt8, inv l = (l.map (· ^^^ 32)).reverse := fun _ => rfl
  rw [e r, e (List.drop _ _)]
  have := mid_rev (r.map (· ^^^ 32)) (cycN r)
  rw [List.length_map] at this
  rw [this, List.map_drop, List.map_take]

/-! ### Shortlex -/
theorem ix_letter : ∀ c : UInt8, 0 ≤ ix c → letters.getD (ix c).toNat 0 = c := all_u8 (by decide +kernel)
theorem ix_inj {a b : UInt8} (ha : 0 ≤ ix a) (hb : 0 ≤ ix b) (h : ix a = ix b) : a = b := by
  rw [← ix_letter a ha, ← ix_letter b hb, h]
theorem cmpl_anti : ∀ a b : List UInt8, cmpl b a = - cmpl a b
  | [], [] => rfl
  | [], _ :: _ => rfl
  | _ :: _, [] => rfl
  | a :: x, b :: y => by
    have := cmpl_anti x y
    simp only [cmpl]
    split
    · rw [if_neg (by omega)]
    · split
      · rfl
      · exact this
theorem cmpw_anti (a b : List UInt8) : cmpw b a = - cmpw a b := by
  unfold cmpw
  by_cases h : a.length = b.length
  · rw [if_neg (by omega), if_neg (by omega)]; exact cmpl_anti a b
  · rw [if_pos (by omega), if_pos h]; split <;> split <;> omega
theorem cmpl_zero : ∀ a b : List UInt8, okl a → okl b → a.length = b.length → cmpl a b = 0 → a = b
  | [], [], _, _, _, _ => rfl
  | [], _ :: _, _, _, h, _ => by simp at h
  | _ :: _, [], _, _, h, _ => by simp at h
  | a :: x, b :: y, ha, hb, hl, h => by
    simp only [cmpl] at h
    split at h
    · omega
    · split at h
      · omega
      · rw [ix_inj (ha a List.mem_cons_self) (hb b List.mem_cons_self) (by omega), cmpl_zero x y (fun c hc => ha c (List.mem_cons_of_mem _ hc)) (fun c hc => hb c (List.mem_cons_of_mem _ hc)) (by simpa using hl) h]
theorem cmpw_zero {a b : List UInt8} (ha : okl a) (hb : okl b) (h : cmpw a b = 0) : a = b := by
  unfold cmpw at h
  split at h
  · split at h <;> omega
  · rename_i q; exact cmpl_zero a b ha hb (by omega) h
def SS (l : List (List UInt8)) : Prop := l.Pairwise fun x y => cmpw x y < 0
theorem SS.unique : ∀ (a b : List (List UInt8)), SS a → SS b → (∀ x, x ∈ a ↔ x ∈ b) → a = b
  | [], [], _, _, _ => rfl
  | [], y :: b, _, _, h => by have := (h y).2 List.mem_cons_self; cases this
  | x :: a, [], _, _, h => by have := (h x).1 List.mem_cons_self; cases this
  | x :: a, y :: b, ha, hb, h => by
    obtain ⟨ha1, ha2⟩ := List.pairwise_cons.1 ha
    obtain ⟨hb1, hb2⟩ := List.pairwise_cons.1 hb
    have e : x = y := by
      rcases List.mem_cons.1 ((h x).1 List.mem_cons_self) with q | q
      · exact q
      · rcases List.mem_cons.1 ((h y).2 List.mem_cons_self) with r | r
        · exact r.symm
        · have := cmpw_trans (hb1 x q) (ha1 y r)
          rw [cmpw_self] at this; omega
    subst e
    rw [SS.unique a b ha2 hb2 fun z => ⟨fun hz => ?_, fun hz => ?_⟩]
    · rcases List.mem_cons.1 ((h z).1 (List.mem_cons_of_mem _ hz)) with q | q
      · subst q; have := ha1 z hz; rw [cmpw_self] at this; omega
      · exact q
    · rcases List.mem_cons.1 ((h z).2 (List.mem_cons_of_mem _ hz)) with q | q
      · subst q; have := hb1 z hz; rw [cmpw_self] at this; omega
      · exact q

/-! ### The reference's list -/
def insw (w : List UInt8) : List (List UInt8) → List (List UInt8)
  | [] => [w]
  | x :: t => if wCompare x w = 0 then x :: t else if 0 < wCompare x w then w :: x :: t else x :: insw w t
theorem addFold_true (w : List UInt8) : ∀ (l o : List (List UInt8)), l.foldl (addStep w) (o, true) = (o ++ l, true)
  | [], o => by simp
  | x :: l, o => by
    have : addStep w (o, true) x = (o ++ [x], true) := by simp [addStep]
    rw [List.foldl_cons, this, addFold_true w l]; simp
theorem addFold_false (w : List UInt8) : ∀ (l o : List (List UInt8)), (let s := l.foldl (addStep w) (o, false); if s.2 then s.1 else s.1 ++ [w]) = o ++ insw w l
  | [], o => by simp [insw]
  | x :: l, o => by
    rw [List.foldl_cons, insw]
    by_cases h : wCompare x w = 0
    · have : addStep w (o, false) x = (o ++ [x], true) := by simp [addStep, h]
      rw [this, addFold_true, if_pos h]; simp
    · rw [if_neg h]
      by_cases h2 : 0 < wCompare x w
      · have : addStep w (o, false) x = (o ++ [w] ++ [x], true) := by simp [addStep, h, h2]
        rw [this, addFold_true, if_pos h2]; simp
      · have : addStep w (o, false) x = (o ++ [x], false) := by simp [addStep, h, h2]
        rw [this, if_neg h2]
        have ih := addFold_false w l (o ++ [x])
        simp only at ih ⊢
        rw [ih]; simp
theorem addw_ins (l : List (List UInt8)) (w : List UInt8) : addw l w = insw w l := by
  have := addFold_false w l []
  simpa [addw] using this
theorem wCompare_is {u v : List UInt8} (hu : isw u = true) (hv : isw v = true) : wCompare u v = cmpw u v := by rw [wCompare, if_pos ⟨hu, hv⟩]
def Ws (l : List (List UInt8)) : Prop := ∀ x ∈ l, isw x = true
theorem insw_spec {w : List UInt8} (hw : isw w = true) : ∀ l : List (List UInt8), Ws l → SS l → (∀ x, x ∈ insw w l ↔ x = w ∨ x ∈ l) ∧ SS (insw w l)
  | [], _, _ => by simp [insw, SS]
  | x :: t, hl, hs => by
    obtain ⟨h1, h2⟩ := List.pairwise_cons.1 hs
    have hx := hl x List.mem_cons_self
    obtain ⟨ih1, ih2⟩ := insw_spec hw t (fun y hy => hl y (List.mem_cons_of_mem _ hy)) h2
    rw [insw, wCompare_is hx hw]
    split
    · rename_i h
      have e := cmpw_zero (okl_is hx) (okl_is hw) h
      subst e
      exact ⟨fun z => ⟨.inr, fun q => q.elim (fun q => q ▸ List.mem_cons_self) id⟩, hs⟩
    · rename_i h
      split
      · rename_i h3
        refine ⟨fun z => by simp, List.pairwise_cons.2 ⟨fun z hz => ?_, hs⟩⟩
        have hwx : cmpw w x < 0 := by rw [cmpw_anti x w]; omega
        rcases List.mem_cons.1 hz with rfl | hz
        · exact hwx
        · exact cmpw_trans hwx (h1 z hz)
      · rename_i h3
        refine ⟨fun z => by simp only [List.mem_cons, ih1]; exact ⟨fun q => by rcases q with q | q | q <;> simp [q], fun q => by rcases q with q | q | q <;> simp [q]⟩, List.pairwise_cons.2 ⟨fun z hz => ?_, ih2⟩⟩
        rcases (ih1 z).1 hz with rfl | hz
        · omega
        · exact h1 z hz
theorem addw_spec {w : List UInt8} {l : List (List UInt8)} (hw : isw w = true) (hl : Ws l) (hs : SS l) : (∀ x, x ∈ addw l w ↔ x = w ∨ x ∈ l) ∧ SS (addw l w) ∧ Ws (addw l w) := by
  rw [addw_ins]
  obtain ⟨h1, h2⟩ := insw_spec hw l hl hs
  exact ⟨h1, h2, fun x hx => ((h1 x).1 hx).elim (fun q => q ▸ hw) (hl x)⟩
theorem rot_is {c : List UInt8} (h : isw c = true) (j : Nat) : isw (rot c j) = true :=
  isw_sub h (fun x hx => (List.mem_append.1 hx).elim List.mem_of_mem_drop List.mem_of_mem_take) (by rw [rot_length]; exact Nat.le_refl _)
theorem symmOf_spec {c : List UInt8} {a : List (List UInt8)} {j : Nat} (hc : isw c = true) (ha : Ws a) (hs : SS a) : (∀ x, x ∈ symmOf c a j ↔ x = rot c j ∨ x = rot (wInverse c) j ∨ x ∈ a) ∧ SS (symmOf c a j) ∧ Ws (symmOf c a j) := by
  obtain ⟨h1, h2, h3⟩ := addw_spec (rot_is hc j) ha hs
  obtain ⟨g1, g2, g3⟩ := addw_spec (rot_is (wInverse_is c) j) h3 h2
  refine ⟨fun x => ?_, g2, g3⟩
  unfold symmOf
  rw [g1, h1]
  exact ⟨fun q => by rcases q with q | q | q <;> simp [q], fun q => by rcases q with q | q | q <;> simp [q]⟩
theorem symmStep_spec {r : List UInt8} {a : List (List UInt8)} (ha : Ws a) (hs : SS a) : ∀ n, (∀ x, x ∈ (List.range n).foldl (symmOf (wCore r)) a ↔ (∃ j, j < n ∧ (x = rot (wCore r) j ∨ x = rot (wInverse (wCore r)) j)) ∨ x ∈ a) ∧ SS ((List.range n).foldl (symmOf (wCore r)) a) ∧ Ws ((List.range n).foldl (symmOf (wCore r)) a)
  | 0 => ⟨fun x => by simp, hs, ha⟩
  | n + 1 => by
    obtain ⟨h1, h2, h3⟩ := symmStep_spec (r := r) ha hs n
    rw [List.range_succ, List.foldl_append]
    obtain ⟨g1, g2, g3⟩ := symmOf_spec (j := n) (wCore_is r) h3 h2
    refine ⟨fun x => ?_, g2, g3⟩
    show x ∈ symmOf _ _ n ↔ _
    rw [g1, h1]
    constructor
    · rintro (q | q | ⟨j, hj, q⟩ | q)
      · exact .inl ⟨n, by omega, .inl q⟩
      · exact .inl ⟨n, by omega, .inr q⟩
      · exact .inl ⟨j, by omega, q⟩
      · exact .inr q
    · rintro (⟨j, hj, q⟩ | q)
      · by_cases e : j = n
        · subst e; exact q.elim .inl (fun q => .inr (.inl q))
        · exact .inr (.inr (.inl ⟨j, by omega, q⟩))
      · exact .inr (.inr (.inr q))
theorem symm_fold : ∀ (l a : List (List UInt8)), Ws a → SS a → (∀ x, x ∈ l.foldl symmStep a ↔ (∃ r ∈ l, ∃ j, j < (wCore r).length ∧ (x = rot (wCore r) j ∨ x = rot (wInverse (wCore r)) j)) ∨ x ∈ a) ∧ SS (l.foldl symmStep a) ∧ Ws (l.foldl symmStep a)
  | [], a, ha, hs => ⟨fun x => by simp, hs, ha⟩
  | r :: l, a, ha, hs => by
    obtain ⟨h1, h2, h3⟩ := symmStep_spec (r := r) ha hs (wCore r).length
    obtain ⟨g1, g2, g3⟩ := symm_fold l (symmStep a r) h3 h2
    refine ⟨fun x => ?_, g2, g3⟩
    rw [List.foldl_cons, g1]
    unfold symmStep
    rw [h1]
    constructor
    · rintro (⟨s, hs, q⟩ | q | q)
      · exact .inl ⟨s, List.mem_cons_of_mem _ hs, q⟩
      · exact .inl ⟨r, List.mem_cons_self, q⟩
      · exact .inr q
    · rintro (⟨s, hs, q⟩ | q)
      · rcases List.mem_cons.1 hs with rfl | hs
        · exact .inr (.inl q)
        · exact .inl ⟨s, hs, q⟩
      · exact .inr (.inr q)
theorem symm_spec (l : List (List UInt8)) : (∀ x, x ∈ symm l ↔ ∃ r ∈ l, ∃ j, j < (wCore r).length ∧ (x = rot (wCore r) j ∨ x = rot (inv (wCore r)) j)) ∧ SS (symm l) ∧ Ws (symm l) := by
  obtain ⟨h1, h2, h3⟩ := symm_fold l [] (fun x h => by cases h) List.Pairwise.nil
  refine ⟨fun x => ?_, h2, h3⟩
  unfold symm
  rw [h1]
  simp only [wInv_core, List.not_mem_nil, or_false]

/-! ### The program's list -/
theorem addE_words (E : List Rot) (x : Rot) : (∀ y, (∃ z ∈ addE E x, z.w = y) ↔ y = x.w ∨ ∃ z ∈ E, z.w = y) ∧ ((E.map (·.w)).Nodup → ((addE E x).map (·.w)).Nodup) := by
  unfold addE
  split
  · rename_i h
    obtain ⟨z, hz, e⟩ := List.any_eq_true.1 h
    have e : z.w = x.w := by simpa using e
    exact ⟨fun y => ⟨.inr, fun q => q.elim (fun q => ⟨z, hz, by rw [q, e]⟩) id⟩, id⟩
  · rename_i h
    refine ⟨fun y => ?_, fun hn => ?_⟩
    · constructor
      · rintro ⟨z, hz, rfl⟩
        rcases List.mem_append.1 hz with q | q
        · exact .inr ⟨z, q, rfl⟩
        · simp at q; rw [q]; exact .inl rfl
      · rintro (q | ⟨z, hz, q⟩)
        · exact ⟨x, by simp, q.symm⟩
        · exact ⟨z, List.mem_append_left _ hz, q⟩
    · rw [List.map_append]
      refine List.nodup_append.2 ⟨hn, by simp, fun a ha b hb => ?_⟩
      obtain ⟨z, hz, rfl⟩ := List.mem_map.1 ha
      simp at hb
      rw [hb]
      exact fun q => h (List.any_eq_true.2 ⟨z, hz, by simpa using q⟩)
theorem addJ_words (i : Nat) (iv : Bool) (core cj : List UInt8) (E : List Rot) : ∀ n, (∀ y, (∃ z ∈ addJ i iv core cj E n, z.w = y) ↔ (∃ j, j < n ∧ y = rot core j) ∨ ∃ z ∈ E, z.w = y) ∧ ((E.map (·.w)).Nodup → ((addJ i iv core cj E n).map (·.w)).Nodup)
  | 0 => ⟨fun y => by simp [addJ], fun h => h⟩
  | n + 1 => by
    obtain ⟨h1, h2⟩ := addJ_words i iv core cj E n
    rw [addJ_succ]
    obtain ⟨g1, g2⟩ := addE_words (addJ i iv core cj E n) (mkR i iv core cj n)
    refine ⟨fun y => ?_, fun hn => g2 (h2 hn)⟩
    rw [g1, h1]
    have e : (mkR i iv core cj n).w = rot core n := rfl
    rw [e]
    constructor
    · rintro (q | ⟨j, hj, q⟩ | q)
      · exact .inl ⟨n, by omega, q⟩
      · exact .inl ⟨j, by omega, q⟩
      · exact .inr q
    · rintro (⟨j, hj, q⟩ | q)
      · by_cases r : j = n
        · subst r; exact .inl q
        · exact .inr (.inl ⟨j, by omega, q⟩)
      · exact .inr (.inr q)
theorem addR_words {g : Int} {l : List (List UInt8)} (hp : pcheck g l = 0) {k : Nat} (hk : k < l.length) (E : List Rot) : (∀ y, (∃ z ∈ addR l E k, z.w = y) ↔ (∃ j, j < (wCore (l.getD k [])).length ∧ (y = rot (wCore (l.getD k [])) j ∨ y = rot (inv (wCore (l.getD k []))) j)) ∨ ∃ z ∈ E, z.w = y) ∧ ((E.map (·.w)).Nodup → ((addR l E k).map (·.w)).Nodup) := by
  have hz := pcheck_zero hp
  obtain ⟨_, hb⟩ := hz.2.2 _ (getD_mem (d := []) hk)
  obtain ⟨_, b2, b3⟩ := badRel_good hb
  have hi := isw_of hz.1.2 b2
  have e1 : wOf (l.getD k []) false = l.getD k [] := rfl
  have e2 : wOf (l.getD k []) true = inv (l.getD k []) := by rw [wOf, if_pos rfl, wInverse, if_pos hi]
  have e3 : wCore (inv (l.getD k [])) = inv (wCore (l.getD k [])) := by
    rw [wCore, if_pos (isw_inv hi), wCore, if_pos hi, core_inv b3]
  unfold addR addV
  rw [e1, e2, e3, inv_length]
  obtain ⟨h1, h2⟩ := addJ_words k false (wCore (l.getD k [])) (wConj (l.getD k [])) E (wCore (l.getD k [])).length
  obtain ⟨g1, g2⟩ := addJ_words k true (inv (wCore (l.getD k []))) (wConj (inv (l.getD k []))) (addJ k false (wCore (l.getD k [])) (wConj (l.getD k [])) E (wCore (l.getD k [])).length) (wCore (l.getD k [])).length
  refine ⟨fun y => ?_, fun hn => g2 (h2 hn)⟩
  rw [g1, h1]
  constructor
  · rintro (⟨j, hj, q⟩ | ⟨j, hj, q⟩ | q)
    · exact .inl ⟨j, hj, .inr q⟩
    · exact .inl ⟨j, hj, .inl q⟩
    · exact .inr q
  · rintro (⟨j, hj, q | q⟩ | q)
    · exact .inr (.inl ⟨j, hj, q⟩)
    · exact .inl ⟨j, hj, q⟩
    · exact .inr (.inr q)
theorem allR_words {g : Int} {l : List (List UInt8)} (hp : pcheck g l = 0) : ∀ n, n ≤ l.length → (∀ y, (∃ z ∈ (List.range n).foldl (addR l) [], z.w = y) ↔ ∃ k, k < n ∧ ∃ j, j < (wCore (l.getD k [])).length ∧ (y = rot (wCore (l.getD k [])) j ∨ y = rot (inv (wCore (l.getD k []))) j)) ∧ (((List.range n).foldl (addR l) []).map (·.w)).Nodup
  | 0, _ => by simp
  | n + 1, hn => by
    obtain ⟨h1, h2⟩ := allR_words hp n (by omega)
    rw [List.range_succ, List.foldl_append]
    obtain ⟨g1, g2⟩ := addR_words hp (show n < l.length by omega) ((List.range n).foldl (addR l) [])
    refine ⟨fun y => ?_, g2 h2⟩
    show (∃ z ∈ addR l _ n, z.w = y) ↔ _
    rw [g1, h1]
    constructor
    · rintro (q | ⟨k, hk, q⟩)
      · exact ⟨n, by omega, q⟩
      · exact ⟨k, by omega, q⟩
    · rintro ⟨k, hk, q⟩
      by_cases e : k = n
      · subst e; exact .inl q
      · exact .inr ⟨k, by omega, q⟩
/-- The words of the rules are the reference's. -/
theorem words_symm {g : Int} {l : List (List UInt8)} (hp : pcheck g l = 0) {S : RS} (hS : SOk l S) : S.list.map (·.w) = symm l := by
  obtain ⟨h1, h2, h3⟩ := symm_spec l
  obtain ⟨g1, g2⟩ := allR_words hp l.length (Nat.le_refl _)
  obtain ⟨hR, hP, hW⟩ := hS
  have hn : (S.list.map (·.w)).Nodup := ((hP.map (·.w)).nodup_iff).2 g2
  refine SS.unique _ _ ?_ h2 fun x => ?_
  · rw [SS, List.pairwise_map]
    have hn2 := List.pairwise_map.1 hn
    rw [List.pairwise_iff_getElem] at hn2 hW ⊢
    intro i j hi hj hij
    have a := hn2 i j hi hj hij
    have b := hW i j hi hj hij
    have c := cmpw_anti S.list[i].w S.list[j].w
    have d : cmpw S.list[i].w S.list[j].w ≠ 0 := fun q => a (cmpw_zero (okl_is (hR.isw _ (List.getElem_mem hi)).1) (okl_is (hR.isw _ (List.getElem_mem hj)).1) q)
    omega
  · rw [h1, List.mem_map]
    have e : (∃ a ∈ S.list, a.w = x) ↔ ∃ z ∈ allR l, z.w = x := ⟨fun ⟨a, ha, q⟩ => ⟨a, hP.mem_iff.1 ha, q⟩, fun ⟨a, ha, q⟩ => ⟨a, hP.mem_iff.2 ha, q⟩⟩
    rw [e]
    unfold allR
    rw [g1]
    constructor
    · rintro ⟨k, hk, q⟩; exact ⟨_, getD_mem hk, q⟩
    · rintro ⟨r, hr, q⟩
      obtain ⟨k, hk, rfl⟩ := List.getElem_of_mem hr
      refine ⟨k, hk, ?_⟩
      have : l.getD k [] = l[k] := by simp [hk]
      rw [this]; exact q
end Go.Proofs.YtaccklloepfemaaGreatDoor

namespace Go.Proofs.YtaccklloepfemaaGreatDoor
set_option linter.unusedVariables false
set_option linter.unusedSimpArgs false
open Go Go.RowKit V

theorem map_getD (L : List Rot) (j : Nat) : (L.map (·.w)).getD j [] = (L.getD j .zero).w := by
  by_cases h : j < L.length
  · simp [h]
  · simp [h, Rot.zero]
theorem at_pos {L : List Rot} {s : List UInt8} (h : 0 ≤ (longF L s).1) : rlongAt (L.map (·.w)) s = some (L.getD (longF L s).1.toNat .zero).w := by
  obtain ⟨h1, h2, h3⟩ := longF_pos h
  rw [← map_getD]
  refine rlongAt_found (by simpa using h1) (fun k hk => ?_) (by rw [map_getD]; exact h2)
  rw [map_getD, partOf, decide_eq_false_iff_not]
  exact h3 k hk
theorem at_neg {L : List Rot} {s : List UInt8} (h : ¬ 0 ≤ (longF L s).1) : rlongAt (L.map (·.w)) s = none := by
  refine rlongAt_none (Nat.le_refl _) fun k hk => ?_
  rw [map_getD, partOf, decide_eq_false_iff_not]
  exact longF_neg h _ (getD_mem (by simpa using hk))
theorem rlong_skip {l : List (List UInt8)} {w : List UInt8} : ∀ p, p ≤ w.length → (∀ q, q < p → rlongAt l (w.drop q) = none) → rlongFrom l w ((List.range w.length).drop p) = rlong l w
  | 0, _, _ => rfl
  | p + 1, hp, h => rlong_next (by omega) (rlong_skip p (by omega) fun q hq => h q (by omega)) (h p (by omega))
theorem putF_low : ∀ (w : List UInt8) (t : List UInt8 × Nat), t.2 ≤ t.1.length → (putF t w).1.take (putF t w).2 = t.1.take (putF t w).2 ∧ (putF t w).2 ≤ (putF t w).1.length
  | [], t, h => ⟨rfl, h⟩
  | c :: w, t, h => by
    have hm : min t.2 (push t.1 c).length ≤ (push t.1 c).length := Nat.min_le_right _ _
    obtain ⟨h1, h2⟩ := putF_low w (push t.1 c, min t.2 (push t.1 c).length) hm
    have e : putF t (c :: w) = putF (push t.1 c, min t.2 (push t.1 c).length) w := rfl
    rw [e]
    refine ⟨?_, h2⟩
    have hs := putF_snd w (push t.1 c, min t.2 (push t.1 c).length)
    simp only at hs h1
    generalize (putF (push t.1 c, min t.2 (push t.1 c).length) w).2 = m at h1 hs ⊢
    rw [h1]
    unfold push at hs ⊢
    split
    · rename_i q
      rw [if_pos q, List.length_take] at hs
      rw [List.take_take]; congr 1; omega
    · rename_i q
      rw [if_neg q, List.length_append] at hs
      rw [List.take_append_of_le_length (by omega)]
theorem NC.takeFold {l : List UInt8} (h : NC l) (p : Nat) : (l.take p).foldl push [] = l.take p := (h.take p).isRed
theorem part_take {x s : List UInt8} : s.take (cmn s x) <+: x := (cmn_prefix s x _ (cmn_le s x).1).2 (Nat.le_refl _)
section
variable {L : List Rot} {m : Nat}
theorem repl_rnext (hw : ∀ x ∈ L, isw x.w = true ∧ x.w.length ≤ m) (hm : m ≤ 200) {l : List UInt8} {p : Nat} (hl : l.length ≤ 6000) (hi : isw l = true) (hn : NC l) (hp : p < l.length) (h : 0 ≤ (longF L (l.drop p)).1) (e : rlong (L.map (·.w)) l = ⟨p, repN l p (L.getD (longF L (l.drop p)).1.toNat .zero), wInverse ((L.getD (longF L (l.drop p)).1.toNat .zero).w.drop (repN l p (L.getD (longF L (l.drop p)).1.toNat .zero))), true⟩) :
    (repl l p (L.getD (longF L (l.drop p)).1.toNat .zero)).1 = rnext (L.map (·.w)) l := by
  have hx := hw _ (getD_mem (d := Rot.zero) (longF_pos h).1)
  generalize L.getD (longF L (l.drop p)).1.toNat .zero = x at e hx
  have hs := repN_le l p x
  have h3 := wInverse_length (x.w.drop (repN l p x))
  rw [List.length_drop] at h3
  have hisw : isw (l.take p ++ wInverse (x.w.drop (repN l p x)) ++ l.drop (p + repN l p x)) = true :=
    isw_app (isw_app (isw_sub hi (fun c hc => List.mem_of_mem_take hc) (by rw [List.length_take]; omega)) (wInverse_is _) (by rw [List.length_take]; omega)) (isw_sub hi (fun c hc => List.mem_of_mem_drop hc) (by rw [List.length_drop]; omega)) (by rw [List.length_append, List.length_take, List.length_drop]; omega)
  unfold rnext
  rw [e]
  dsimp only
  rw [wReduce, if_pos hisw, red, List.foldl_append, List.foldl_append, hn.takeFold]
  unfold repl
  rw [putF_fst, putF_fst]
theorem drun_rshort (hw : ∀ x ∈ L, isw x.w = true ∧ x.w.length ≤ m) (hm : m ≤ 200) : ∀ (f : Nat) (l : List UInt8) (d : List DCell) (p F n : Nat), 100001 * l.length + (l.length - p) < f → l.length ≤ 6000 → isw l = true → NC l → p ≤ l.length → (∀ q, q < p → ¬ 0 ≤ (longF L (l.drop q)).1) → l.length < F →
    (drun L m f l d p).1 = (rshort (L.map (·.w)) F l n).1 ∧ (drun L m f l d p).2.length + n = d.length + (rshort (L.map (·.w)) F l n).2
  | 0, _, _, _, _, _, h, _, _, _, _, _, _ => by omega
  | f + 1, l, d, p, F, n, hf, hl, hi, hn, hpl, hinv, hF => by
    have hskip := rlong_skip (l := L.map (·.w)) (w := l) p hpl fun q hq => at_neg (hinv q hq)
    rw [drun]
    by_cases hp : p < l.length
    · rw [if_pos hp]
      by_cases h : 0 ≤ (longF L (l.drop p)).1
      · rw [if_pos h]
        have e := rlong_here hp hskip (at_pos h)
        have hr := repl_rnext hw hm hl hi hn hp h e
        have hlt := repl_lt hp h
        have hpi : (rlong (L.map (·.w)) l).pi = true := by rw [e]
        rw [rshort_go hF hpi, ← hr]
        have hxw := hw _ (getD_mem (d := Rot.zero) (longF_pos h).1)
        generalize hx : L.getD (longF L (l.drop p)).1.toNat .zero = x at hr hlt hxw ⊢
        have hlow := repl_low l p x
        have hlk := putF_low (l.drop (p + repN l p x)) (putF (l.take p, p) (wInverse (x.w.drop (repN l p x)))) (putF_low _ (l.take p, p) (by simp; omega)).2
        have hlk1 := putF_low (wInverse (x.w.drop (repN l p x))) (l.take p, p) (by simp; omega)
        have hle1 := putF_snd (l.drop (p + repN l p x)) (putF (l.take p, p) (wInverse (x.w.drop (repN l p x))))
        have htake : (repl l p x).1.take (repl l p x).2 = l.take (repl l p x).2 := by
          have a : (repl l p x).1.take (repl l p x).2 = (putF (l.take p, p) (wInverse (x.w.drop (repN l p x)))).1.take (repl l p x).2 := hlk.1
          have hle2 : (repl l p x).2 ≤ (putF (l.take p, p) (wInverse (x.w.drop (repN l p x)))).2 := hle1
          rw [a]
          have b : ∀ k, k ≤ (putF (l.take p, p) (wInverse (x.w.drop (repN l p x)))).2 → (putF (l.take p, p) (wInverse (x.w.drop (repN l p x)))).1.take k = (l.take p).take k := fun k hk => by
            have := congrArg (List.take k) hlk1.1
            rw [List.take_take, List.take_take, Nat.min_eq_left hk] at this
            exact this
          rw [b _ hle2, List.take_take, Nat.min_eq_left hlow]
        have hlow2 : (repl l p x).2 ≤ (repl l p x).1.length := hlk.2
        have hNC : NC (repl l p x).1 := by
          unfold repl
          rw [putF_fst, putF_fst]
          exact NC.ofFold _ _ (NC.ofFold _ _ (hn.take p))
        have hI : isw (repl l p x).1 = true := by rw [hr]; exact wReduce_is _
        have ih := drun_rshort hw hm f (repl l p x).1 (d ++ [repC l p x]) ((repl l p x).2 - m) (F - 1) (n + 1) (by omega) (by omega) hI hNC (by omega) (fun q hq h2 => ?_) (by omega)
        · refine ⟨ih.1, ?_⟩
          have := ih.2
          simp only [List.length_append, List.length_cons, List.length_nil] at this
          omega
        · obtain ⟨g1, g2, _⟩ := longF_pos h2
          have hyw := hw _ (getD_mem (d := Rot.zero) g1)
          have hym := getD_mem (d := Rot.zero) g1
          generalize L.getD (longF L ((repl l p x).1.drop q)).1.toNat .zero = y at g2 hyw hym
          have hc := cmn_le ((repl l p x).1.drop q) y.w
          have hpt := part_take (s := (repl l p x).1.drop q) (x := y.w)
          have hk : q + cmn ((repl l p x).1.drop q) y.w ≤ (repl l p x).2 := by omega
          have e2 : ((repl l p x).1.drop q).take (cmn ((repl l p x).1.drop q) y.w) = (l.drop q).take (cmn ((repl l p x).1.drop q) y.w) := by
            have := congrArg (fun z => (z.drop q).take (cmn ((repl l p x).1.drop q) y.w)) htake
            simp only [List.drop_take, List.take_take] at this
            rw [Nat.min_eq_left (by omega)] at this
            exact this
          rw [e2] at hpt
          exact hinv q (by omega) (part_pos hym (by rw [List.length_drop]; omega) hpt g2)
      · rw [if_neg h]
        exact drun_rshort hw hm f l d (p + 1) F n (by omega) hl hi hn (by omega) (fun q hq => by
          by_cases e : q = p
          · subst e; exact h
          · exact hinv q (by omega)) hF
    · rw [if_neg hp]
      have e := rlong_end (l := L.map (·.w)) (w := l) (i := p) (by omega) hskip
      rw [rshort_stop (by rw [e])]
      exact ⟨rfl, by dsimp only⟩
end
/-- What the rules' shortening gives is what the reference's gives. -/
theorem dsh_rshorten {g : Int} {l : List (List UInt8)} (hp : pcheck g l = 0) {S : RS} (hS : SOk l S) {w : List UInt8} (hw : isw w = true) (hl : w.length ≤ 6000) :
    (dsh S w).1 = (rshorten (symm l) w).1 ∧ (dsh S w).2.length = (rshorten (symm l) w).2 := by
  have hr := red_length w
  have hR := hS.1
  have key := drun_rshort (L := S.list) (m := S.most) (fun x hx => ⟨(hR.isw x hx).1, hR.most x hx⟩) hR.small.1 (fuel (red w).length) (red w) [] 0 ((red w).length + 1) 0 (by unfold fuel; omega) (by omega) (isw_sub hw red_sub hr) (NC.ofRed w) (Nat.zero_le _) (fun q h => by omega) (by omega)
  rw [words_symm hp hS] at key
  unfold rshorten
  rw [wReduce, if_pos hw]
  refine ⟨key.1, ?_⟩
  have := key.2
  simp only [List.length_nil] at this
  unfold dsh; omega
theorem rshort_zero {l : List (List UInt8)} {x : List UInt8} {F : Nat} (hF : x.length < F) : (rshort l F x 0).2 = 0 ↔ (rlong l x).pi = false := by
  by_cases h : (rlong l x).pi = true
  · rw [rshort_go hF h, h]
    have mono : ∀ (f : Nat) (y : List UInt8) (n : Nat), n ≤ (rshort l f y n).2 := by
      intro f
      induction f with
      | zero => intro y n; exact Nat.le_refl _
      | succ f ih =>
        intro y n
        rw [rshort]
        split
        · exact Nat.le_trans (Nat.le_succ n) (ih _ _)
        · exact Nat.le_refl _
    have := mono (F - 1) (rnext l x) (0 + 1)
    constructor
    · intro q; omega
    · intro q; cases q
  · have h' : (rlong l x).pi = false := by simpa using h
    rw [rshort_stop h', h']
    simp
end Go.Proofs.YtaccklloepfemaaGreatDoor

namespace Go.Proofs.YtaccklloepfemaaGreatDoor
set_option linter.unusedVariables false
set_option linter.unusedSimpArgs false
open Go Go.RowKit V

/-! ### Pieces -/
theorem cmn_comm : ∀ a b : List UInt8, cmn a b = cmn b a
  | [], [] => rfl
  | [], _ :: _ => rfl
  | _ :: _, [] => rfl
  | a :: x, b :: y => by
    simp only [cmn]
    by_cases h : a = b
    · subst h; simp [cmn_comm x y]
    · rw [if_neg h, if_neg (fun q => h q.symm)]
theorem cons_le {a b : UInt8} {x y : List UInt8} (h : a :: x ≤ b :: y) : ¬ b < a ∧ (a = b → x ≤ y) := by
  have h : ¬ (b :: y < a :: x) := h
  rw [List.cons_lt_cons_iff] at h
  exact ⟨fun q => h (.inl q), fun e q => h (.inr ⟨e.symm, q⟩)⟩
theorem cmn_mid : ∀ a b c : List UInt8, a ≤ b → b ≤ c → cmn a c ≤ cmn a b ∧ cmn a c ≤ cmn b c
  | [], _, c, _, _ => by simp [cmn]
  | _ :: _, _, [], _, _ => by simp [cmn]
  | a :: x, [], c :: z, h, _ => by
    exfalso
    exact h (List.nil_lt_cons _ _)
  | a :: x, b :: y, c :: z, h1, h2 => by
    obtain ⟨p1, p2⟩ := cons_le h1
    obtain ⟨q1, q2⟩ := cons_le h2
    simp only [cmn]
    by_cases e : a = c
    · subst e
      have e2 : a = b := by
        have h1 : ¬ b.toNat < a.toNat := fun r => p1 (UInt8.lt_iff_toNat_lt.2 r)
        have h2 : ¬ a.toNat < b.toNat := fun r => q1 (UInt8.lt_iff_toNat_lt.2 r)
        exact UInt8.toNat_inj.1 (by omega)
      subst e2
      have := cmn_mid x y z (p2 rfl) (q2 rfl)
      simp only [if_pos]
      omega
    · rw [if_neg e]; omega
theorem le_tr : ∀ a b c : List UInt8, a ≤ b → b ≤ c → a ≤ c := fun _ _ _ h1 h2 => List.le_trans h1 h2
theorem le_tot : ∀ a b : List UInt8, a ≤ b ∨ b ≤ a := fun a b => List.le_total a b
theorem srt_sorted (d : List (List UInt8)) : (srt d).Pairwise (· ≤ ·) := by
  have := List.pairwise_mergeSort (le := fun x y : List UInt8 => decide (x ≤ y)) (fun a b c h1 h2 => by
    simp only [decide_eq_true_eq] at h1 h2 ⊢; exact le_tr _ _ _ h1 h2) (fun a b => by
    simp only [Bool.or_eq_true, decide_eq_true_eq]; exact le_tot a b) d
  exact this.imp fun h => by simpa using h
def Small6 (l : List (List UInt8)) : Prop := ∀ x ∈ l, ∀ y ∈ l, x ≠ y → ¬ x.length ≤ 6 * cmn x y
theorem isDehn_iff {l : List (List UInt8)} (hn : l.Nodup) : isDehn l = true ↔ Small6 l := by
  unfold isDehn Small6
  simp only [List.all_eq_true, List.mem_range, Bool.not_eq_true', Bool.and_eq_false_iff, decide_eq_false_iff_not]
  constructor
  · intro h x hx y hy hne hle
    obtain ⟨i, hi, rfl⟩ := List.getElem_of_mem hx
    obtain ⟨k, hk, rfl⟩ := List.getElem_of_mem hy
    have e1 : l.getD i [] = l[i] := by simp [hi]
    have e2 : l.getD k [] = l[k] := by simp [hk]
    rcases h i hi k hk with q | q
    · exact hne (by have : i = k := Classical.byContradiction fun r => q r
                    subst this; rfl)
    · rw [e1, e2] at q; exact q hle
  · intro h i hi k hk
    by_cases e : i = k
    · exact .inl (fun q => q e)
    · refine .inr fun q => h _ (getD_mem hi) _ (getD_mem hk) (fun r => e (nodup_getD hn hi hk r)) q
theorem dver_iff {d : List (List UInt8)} (hn : d.Nodup) (hs : d.Pairwise (· ≤ ·)) : dverW d = true ↔ Small6 d := by
  have hle : ∀ i j, i < j → j < d.length → d.getD i [] ≤ d.getD j [] := fun i j hij hj => by
    have hi : i < d.length := by omega
    have := List.pairwise_iff_getElem.1 hs i j hi hj hij
    simpa [hi, hj] using this
  have hrefl : ∀ a : List UInt8, a ≤ a := fun a => (le_tot a a).elim id id
  have hle2 : ∀ i j, i ≤ j → j < d.length → d.getD i [] ≤ d.getD j [] := fun i j hij hj => by
    rcases Nat.lt_or_eq_of_le hij with q | q
    · exact hle i j q hj
    · subst q; exact hrefl _
  constructor
  · intro h
    have hg : ∀ i, 1 ≤ i → i < d.length → ¬ badAt d i := fun i h1 hi q => by
      rw [dverW_no h1 hi q] at h; cases h
    have key : ∀ i j, i < j → j < d.length → ¬ (d.getD i []).length ≤ 6 * cmn (d.getD i []) (d.getD j []) ∧ ¬ (d.getD j []).length ≤ 6 * cmn (d.getD i []) (d.getD j []) := fun i j hij hj => by
      have c1 := (cmn_mid _ _ _ (hle i (i + 1) (by omega) (by omega)) (hle2 (i + 1) j (by omega) hj)).1
      have c2 := (cmn_mid _ _ _ (hle2 i (j - 1) (by omega) (by omega)) (hle (j - 1) j (by omega) hj)).2
      have b1 := hg (i + 1) (by omega) (by omega)
      have b2 := hg j (by omega) hj
      unfold badAt at b1 b2
      rw [Nat.add_sub_cancel] at b1
      omega
    intro x hx y hy hne hq
    obtain ⟨i, hi, rfl⟩ := List.getElem_of_mem hx
    obtain ⟨k, hk, rfl⟩ := List.getElem_of_mem hy
    have e1 : d.getD i [] = d[i] := by simp [hi]
    have e2 : d.getD k [] = d[k] := by simp [hk]
    rw [← e1, ← e2] at hq
    rcases Nat.lt_trichotomy i k with r | r | r
    · exact (key i k r hk).1 hq
    · subst r; exact hne rfl
    · rw [cmn_comm] at hq; exact (key k i r hi).2 hq
  · intro h
    refine dverW_yes (Nat.le_refl _) fun i h1 hi hb => ?_
    have hne : d.getD (i - 1) [] ≠ d.getD i [] := fun q => by
      have := nodup_getD (d := []) hn (by omega) hi q; omega
    rcases hb with q | q
    · exact h _ (getD_mem (by omega)) _ (getD_mem hi) hne q
    · rw [cmn_comm] at q; exact h _ (getD_mem hi) _ (getD_mem (by omega)) hne.symm q
theorem SS.nodup {l : List (List UInt8)} (h : SS l) : l.Nodup := h.imp fun {a b} q e => by subst e; rw [cmpw_self] at q; omega
theorem dver_isDehn {g : Int} {l : List (List UInt8)} (hp : pcheck g l = 0) {S : RS} (hS : SOk l S) : dver S = isDehn (symm l) := by
  have hn := (symm_spec l).2.1.nodup
  unfold dver
  rw [words_symm hp hS]
  have hpm := srt_perm (symm l)
  have h1 := dver_iff ((hpm.nodup_iff).2 hn) (srt_sorted _)
  have h2 := isDehn_iff hn
  have h3 : Small6 (srt (symm l)) ↔ Small6 (symm l) := by
    unfold Small6
    simp only [hpm.mem_iff]
  rw [Bool.eq_iff_iff, h1, h2, h3]

/-! ### Turning -/
theorem longU_state (L : List Rot) (s : List UInt8) : ∀ i, ((longU L s i).1 < 0 → (longU L s i).2 = 0) ∧ (0 ≤ (longU L s i).1 → 0 < (longU L s i).2)
  | 0 => by simp [longU]
  | i + 1 => by
    have ih := longU_state L s i
    simp only [longU, longStep]
    split
    · split
      · dsimp only; omega
      · dsimp only; split <;> omega
    · exact ih
theorem longU_stay {L : List Rot} {s : List UInt8} {n : Nat} (h : 0 ≤ (longU L s n).1) : ∀ i, 0 ≤ (longU L s (n + i)).1 ∧ (longU L s (n + i)).2 = (longU L s n).2
  | 0 => ⟨h, rfl⟩
  | i + 1 => by
    obtain ⟨h1, h2⟩ := longU_stay h i
    rw [← Nat.add_assoc]
    simp only [longU, longStep]
    split
    · rw [if_neg (by omega)]
      dsimp only
      refine ⟨by split <;> omega, h2⟩
    · exact ⟨h1, h2⟩
theorem longF_min {L : List Rot} {s : List UInt8} {x : Rot} {n : Nat} (hx : x ∈ L) (hn : n ≤ s.length) (h0 : 0 < n) (hp : s.take n <+: x.w) (hl : x.w.length < 2 * n) : 0 < (longF L s).2 ∧ (longF L s).2 ≤ n := by
  have hb : 0 ≤ bestOf L (s.take n) := (ifl_any _ _).2 (List.any_eq_true.2 ⟨x, hx, by
    simp only [Bool.and_eq_true, List.isPrefixOf_iff_prefix, decide_eq_true_eq]
    exact ⟨hp, by rw [List.length_take, Nat.min_eq_left hn]; exact hl⟩⟩)
  have h1 : 0 ≤ (longU L s n).1 ∧ 0 < (longU L s n).2 ∧ (longU L s n).2 ≤ n := by
    cases n with
    | zero => omega
    | succ n =>
      have st := longU_state L s n
      have le := longU_le L s n
      simp only [longU, longStep]
      rw [if_pos hb]
      split
      · exact ⟨hb, by dsimp only; omega, by dsimp only; omega⟩
      · dsimp only
        refine ⟨by split <;> omega, by omega, by omega⟩
  have h2 := (longU_stay h1.1 (s.length - n)).2
  rw [show n + (s.length - n) = s.length by omega] at h2
  unfold longF
  rw [h2]; exact h1.2
theorem turnU_le {L : List Rot} {w : List UInt8} : ∀ i, i ≤ w.length → ∀ j, j < i → 0 < (longF L (rot w j)).2 → 0 ≤ turnU L w i ∧ turnU L w i ≤ turnA w j (longF L (rot w j)).2
  | 0, _, j, hj, _ => by omega
  | i + 1, hi, j, hj, hn => by
    have hA : ∀ k n, 0 ≤ turnA w k n := fun k n => by unfold turnA; split <;> omega
    rw [turnU]
    by_cases e : j = i
    · subst e
      rw [if_pos hn]
      split
      · exact ⟨hA _ _, Int.le_refl _⟩
      · omega
    · obtain ⟨h1, h2⟩ := turnU_le i (by omega) j (by omega) hn
      split
      · split
        · rename_i q; exact ⟨hA _ _, by omega⟩
        · exact ⟨h1, h2⟩
      · exact ⟨h1, h2⟩
theorem pi_iff (L : List Rot) (s : List UInt8) : (rlong (L.map (·.w)) s).pi = true ↔ ∃ q, q < s.length ∧ 0 ≤ (longF L (s.drop q)).1 := by
  constructor
  · intro h
    apply Classical.byContradiction
    intro hn
    have hskip := rlong_skip (l := L.map (·.w)) (w := s) s.length (Nat.le_refl _) fun q hq => at_neg fun r => hn ⟨q, hq, r⟩
    have e := rlong_end (l := L.map (·.w)) (w := s) (i := s.length) (Nat.le_refl _) hskip
    rw [e] at h; cases h
  · rintro ⟨q, hq, h⟩
    apply Classical.byContradiction
    intro hn
    have key : ∀ p, p ≤ s.length → ∀ r, r < p → ¬ 0 ≤ (longF L (s.drop r)).1 := by
      intro p
      induction p with
      | zero => intro _ r hr; omega
      | succ p ih =>
        intro hp r hr
        by_cases e : r = p
        · subst e
          intro hpos
          have hskip := rlong_skip (l := L.map (·.w)) (w := s) r (by omega) fun q hq => at_neg (ih (by omega) q hq)
          have e2 := rlong_here (by omega) hskip (at_pos hpos)
          exact hn (by rw [e2])
        · exact ih (by omega) r (by omega)
    exact key s.length (Nat.le_refl _) q hq h
theorem turn_pi {L : List Rot} {w : List UInt8} {k : Nat} (hk : k < w.length) (h : (rlong (L.map (·.w)) (rot w k)).pi = true) : 0 ≤ dturn L w ∧ dturn L w ≤ k := by
  obtain ⟨q, hq, hpos⟩ := (pi_iff L _).1 h
  rw [rot_length] at hq
  obtain ⟨g1, g2, _⟩ := longF_pos hpos
  have hx := getD_mem (d := Rot.zero) g1
  generalize L.getD (longF L ((rot w k).drop q)).1.toNat .zero = x at g2 hx
  have hc := (cmn_le ((rot w k).drop q) x.w).1
  rw [List.length_drop, rot_length] at hc
  have hpt := part_take (s := (rot w k).drop q) (x := x.w)
  generalize cmn ((rot w k).drop q) x.w = n at g2 hc hpt
  -- the place in w
  obtain ⟨j, hj, e, hb⟩ : ∃ j, j < w.length ∧ ((rot w k).drop q).take n = (rot w j).take n ∧ j + n ≤ w.length + k := by
    by_cases hkq : k + q < w.length
    · refine ⟨k + q, hkq, ?_, by omega⟩
      have := rot_part (w := w) (i := k + q) (k := k) (n := n) hkq (by omega) (by omega)
      rw [show k + q - k = q by omega] at this; exact this
    · refine ⟨k + q - w.length, by omega, ?_, by omega⟩
      have e1 : (rot w k).drop q = (w.take k).drop (k + q - w.length) := by
        rw [rot, List.drop_append, List.drop_eq_nil_of_le (by rw [List.length_drop]; omega), List.nil_append, List.length_drop]
        congr 1; omega
      rw [e1, rot, List.take_append_of_le_length (by rw [List.length_drop]; omega), List.drop_take, List.take_take, Nat.min_eq_left (by omega)]
  rw [e] at hpt
  have hm := longF_min (s := rot w j) hx (by rw [rot_length]; omega) (by omega) hpt g2
  have ht := turnU_le w.length (Nat.le_refl _) j hj hm.1
  unfold dturn
  refine ⟨ht.1, Int.le_trans ht.2 ?_⟩
  unfold turnA
  split <;> omega
theorem pi_turn {L : List Rot} {w : List UInt8} {k : Nat} (hz : ((k : Nat) : Int) = dturn L w) : k < w.length ∧ (rlong (L.map (·.w)) (rot w k)).pi = true := by
  have hb := turnU_bound L w w.length (Nat.le_refl _)
  unfold dturn at hz
  obtain ⟨j, hj, hn, e⟩ := turnU_mem w.length (Nat.le_refl _) (by omega : 0 ≤ turnU L w w.length)
  obtain ⟨h1, x, hx, h2, h3⟩ := longF_some hn
  rw [rot_length] at h1
  rw [e] at hz
  have hk : (k = 0 ∧ j + (longF L (rot w j)).2 ≤ w.length) ∨ k + w.length = j + (longF L (rot w j)).2 := by
    unfold turnA at hz
    split at hz <;> omega
  have hp := rot_part (w := w) (i := j) (k := k) (n := (longF L (rot w j)).2) hj (by omega) (by omega)
  refine ⟨by omega, (pi_iff L _).2 ⟨j - k, by rw [rot_length]; omega, ?_⟩⟩
  exact part_pos hx (by rw [List.length_drop, rot_length]; omega) (by rw [hp]; exact h2) h3
theorem turn_none {L : List Rot} {w : List UInt8} (h : dturn L w < 0) : rcycAt (L.map (·.w)) w = none :=
  rcycAt_none (Nat.le_refl _) fun j hj => by
    cases q : (rlong (L.map (·.w)) (rot w j)).pi with
    | false => rfl
    | true => have := turn_pi hj q; omega
theorem turn_some {L : List Rot} {w : List UInt8} {k : Nat} (hz : ((k : Nat) : Int) = dturn L w) : rcycAt (L.map (·.w)) w = some k := by
  obtain ⟨h1, h2⟩ := pi_turn hz
  refine rcycAt_found h1 (fun j hj => ?_) h2
  cases q : (rlong (L.map (·.w)) (rot w j)).pi with
  | false => rfl
  | true => have := turn_pi (by omega) q; omega
end Go.Proofs.YtaccklloepfemaaGreatDoor

namespace Go.Proofs.YtaccklloepfemaaGreatDoor
set_option linter.unusedVariables false
set_option linter.unusedSimpArgs false
open Go Go.RowKit V

theorem drun_near {L : List Rot} {m N : Nat} (hx : ∀ x ∈ L, x.c.length ≤ 1000) (hN : N ≤ 6000) : ∀ (f : Nat) (l : List UInt8) (d : List DCell) (p : Nat), l.length ≤ N →
    ∀ c ∈ (drun L m f l d p).2, c ∈ d ∨ c.conj.length ≤ N + 1000
  | 0, l, d, p, _ => fun c h => .inl h
  | f + 1, l, d, p, hl => by
    rw [drun]
    by_cases hp : p < l.length
    · rw [if_pos hp]
      by_cases h : 0 ≤ (longF L (l.drop p)).1
      · rw [if_pos h]
        have hlt := repl_lt hp h
        intro c hc
        rcases drun_near (m := m) hx hN f (repl l p (L.getD (longF L (l.drop p)).1.toNat .zero)).1 (d ++ [repC l p (L.getD (longF L (l.drop p)).1.toNat .zero)]) ((repl l p (L.getD (longF L (l.drop p)).1.toNat .zero)).2 - m) (by omega) c hc with q | q
        · rcases List.mem_append.1 q with q | q
          · exact .inl q
          · simp only [List.mem_singleton] at q
            subst q
            right
            have e1 := hx _ (getD_mem (d := Rot.zero) (longF_pos h).1)
            have e2 := wReduce_length (l.take p ++ (L.getD (longF L (l.drop p)).1.toNat .zero).c)
            rw [List.length_append, List.length_take] at e2
            show (wReduce _).length ≤ _
            omega
        · exact .inr q
      · rw [if_neg h]; exact drun_near (m := m) hx hN f l d (p + 1) hl
    · rw [if_neg hp]; exact fun c h => .inl h
theorem light4 {S : RS} (hS : RSok S) {w : List UInt8} (hw : w.length ≤ 400) : ¬ Heavy (dsh S w).2 := by
  obtain ⟨h1, h2, _⟩ := dsh_all hS (w := w) (by omega)
  have hr := red_length w
  have h3 : ∀ c ∈ (dsh S w).2, c.conj.length ≤ 1400 := fun c hc => by
    have := drun_near (m := S.most) (N := 400) (fun x hx => (hS.isw x hx).2.2) (by omega) (fuel (red w).length) (red w) [] 0 (by omega) c hc
    exact this.elim (fun q => by cases q) id
  have h4 := conjs_le h3
  have : (dsh S w).2.length * 1400 ≤ 400 * 1400 := Nat.mul_le_mul_right _ (by omega)
  unfold Heavy; omega
theorem light {S : RS} (hS : RSok S) {w : List UInt8} (hw : w.length ≤ 60) : ¬ Heavy (dsh S w).2 := light4 hS (by omega)
theorem isw_asked {g : Int} {l : List (List UInt8)} {w : List UInt8} (h : ¬ ¬ rasked g l w = 0) : isw w = true := by
  have hp := pcheck_zero (rasked_pres h)
  exact isw_of hp.1.2 (rasked_word h).1
section
variable {g : Int} {l : List (List UInt8)} {w : List UInt8}
theorem sh_eq {W : List UInt8} {d : List DCell} {c : Nat} (h : ShR g l w (W, d, c)) (hw : w.length ≤ 60 ∨ 5000 < w.length) : W = (rS g l w).1 ∧ d.length = (rS g l w).2.1 ∧ c = (rS g l w).2.2 := by
  unfold ShR at h
  by_cases ha : ¬ rasked g l w = 0
  · rw [if_pos ha] at h
    rw [rS, if_pos ha]
    cases h; exact ⟨rfl, rfl, rfl⟩
  · rw [if_neg ha] at h
    obtain ⟨S, hS, h⟩ := h
    have h5 := (rasked_word ha).2
    rw [shOf, if_neg (light hS.1 (by omega))] at h
    have key := dsh_rshorten (rasked_pres ha) hS (isw_asked ha) (by omega)
    rw [rS, if_neg ha]
    cases h
    exact ⟨key.1, key.2, rfl⟩
theorem st_eq {r : Bool × Nat} (h : StR g l w r) : r = rStuck g l w := by
  unfold StR at h
  unfold rStuck
  by_cases ha : ¬ rasked g l w = 0
  · rw [if_pos ha] at h ⊢; exact h
  · rw [if_neg ha] at h ⊢
    by_cases hw : wReduce w = w
    · rw [if_pos hw] at h
      obtain ⟨S, hS, h⟩ := h
      have h5 := (rasked_word ha).2
      have key := dsh_rshorten (rasked_pres ha) hS (isw_asked ha) (by omega)
      rw [h, key.2]
      unfold rshorten
      rw [hw]
      have hz := rshort_zero (l := symm l) (x := w) (F := w.length + 1) (by omega)
      congr 1
      rw [decide_eq_true (rfl : w = w), Bool.true_and, Bool.eq_iff_iff, decide_eq_true_eq, hz]
      simp
    · rw [if_neg hw] at h
      rw [h, decide_eq_false hw]; rfl
theorem ve_eq {c : Nat} (h : VeR g l c) : c = rVerified g l := by
  unfold VeR at h
  unfold rVerified
  by_cases ha : ¬ pcheck g l = 0
  · rw [if_pos ha] at h ⊢; exact h
  · rw [if_neg ha] at h ⊢
    obtain ⟨S, hS, h⟩ := h
    rw [dver_isDehn (Decidable.not_not.1 ha) hS] at h
    exact h
theorem tr_eq {b : Bool} {d : List DCell} {c : Nat} (h : TrR g l w (b, d, c)) (hw : w.length ≤ 60) : (b, c) = rTrivial g l w ∧ d.length = if b = true then (rS g l w).2.1 else 0 := by
  unfold TrR at h
  unfold rTrivial rS
  by_cases ha : ¬ rasked g l w = 0
  · rw [if_pos ha] at h ⊢
    cases h
    dsimp only
    rw [if_pos ha]; exact ⟨rfl, rfl⟩
  · rw [if_neg ha] at h ⊢
    obtain ⟨S, hS, h⟩ := h
    have h5 := (rasked_word ha).2
    have key := dsh_rshorten (rasked_pres ha) hS (isw_asked ha) (by omega)
    dsimp only
    rw [if_neg (by simp)]
    rw [trOf, dver_isDehn (rasked_pres ha) hS] at h
    by_cases hd : isDehn (symm l) = true
    · rw [if_pos hd] at h ⊢
      rw [key.1] at h
      by_cases he : (rshorten (symm l) w).1 = []
      · rw [if_pos he, if_neg (light hS.1 hw)] at h
        cases h
        exact ⟨by rw [decide_eq_true he], key.2⟩
      · rw [if_neg he] at h
        cases h
        exact ⟨by rw [decide_eq_false he], rfl⟩
    · rw [if_neg hd] at h ⊢
      cases h
      exact ⟨rfl, rfl⟩
theorem sq_step {a b : Nat} (h : a < b) : a * (a + 1) + 2 * b ≤ b * (b + 1) := by
  obtain ⟨c, rfl⟩ : ∃ c, b = c + 1 := ⟨b - 1, by omega⟩
  have h1 : a * (a + 1) ≤ c * (c + 1) := Nat.mul_le_mul (by omega) (by omega)
  have h2 : (c + 1) * (c + 1 + 1) = c * (c + 1) + 2 * (c + 1) := by
    rw [Nat.mul_add (c + 1) (c + 1) 1, Nat.add_mul c 1 (c + 1)]; omega
  omega
theorem cy_law {S : RS} (hp : pcheck g l = 0) (hS : SOk l S) : ∀ (f : Nat) (r cj : List UInt8) (d : List DCell) (F : Nat), r.length < f → r.length < F → isw r = true → d.length + r.length ≤ 60 → cj.length + r.length * (r.length + 1) ≤ 7900 → (∀ c ∈ d, c.conj.length ≤ 15000) →
    ∃ W d' cj', cyF S f r cj d = (W, d', cj', 0) ∧ (W, d'.length) = rcyc (symm l) F r d.length
  | 0, _, _, _, _, h, _, _, _, _, _ => by omega
  | f + 1, r, cj, d, F, hf, hF, hi, hd, hc, hcd => by
    have hw := words_symm hp hS
    rw [cyF]
    by_cases ht : dturn S.list r < 0
    · rw [if_pos ht]
      have h4 := conjs_le hcd
      have h5 : d.length * 15000 ≤ 60 * 15000 := Nat.mul_le_mul_right _ (by omega)
      rw [if_neg (by unfold Heavy; omega)]
      refine ⟨r, d, cj, rfl, ?_⟩
      have := turn_none ht
      rw [hw] at this
      rw [rcyc_stop this]
    · rw [if_neg ht]
      obtain ⟨k, hk⟩ : ∃ k : Nat, ((k : Nat) : Int) = dturn S.list r := ⟨(dturn S.list r).toNat, by omega⟩
      rw [← hk, Int.toNat_natCast]
      have hlt := turn_lt hk
      have hsome := turn_some hk
      rw [hw] at hsome
      have hda := dsh_all hS.1 (w := rot r k) (by rw [rot_length]; omega)
      rw [rot_length] at hda
      have key := dsh_rshorten hp hS (rot_is hi k) (by rw [rot_length]; omega)
      have j1 := jnd_len cj (r.take k)
      rw [List.length_take] at j1
      have j2 := jnd_len (jnd cj (r.take k)) (wConj (dsh S (rot r k)).1)
      have j3 := wConj_length (dsh S (rot r k)).1
      have j4 := wCore_length (dsh S (rot r k)).1
      have hsq := sq_step (show (wCore (dsh S (rot r k)).1).length < r.length by omega)
      have hfit : fitsJ (jnd cj (r.take k)) (dsh S (rot r k)).2 = true := by
        rw [fitsJ, List.all_eq_true]
        intro c hc'
        have := jnd_len (jnd cj (r.take k)) c.conj
        have := hda.2.2 c hc'
        rw [decide_eq_true_eq]; omega
      rw [if_neg (by rw [hfit]; decide), if_pos ⟨by omega, by omega⟩]
      obtain ⟨W, d', cj', e1, e2⟩ := cy_law hp hS f (wCore (dsh S (rot r k)).1) (jnd (jnd cj (r.take k)) (wConj (dsh S (rot r k)).1)) (d ++ (dsh S (rot r k)).2.map (cellJ (jnd cj (r.take k)))) (F - 1) (by omega) (by omega) (wCore_is _) (by rw [List.length_append, List.length_map]; omega) (by omega) (fun c hc' => by
        rcases List.mem_append.1 hc' with q | q
        · exact hcd c q
        · obtain ⟨c2, hc2, rfl⟩ := List.mem_map.1 q
          have a1 := jnd_len (jnd cj (r.take k)) c2.conj
          have a2 := hda.2.2 c2 hc2
          show (jnd (jnd cj (r.take k)) c2.conj).length ≤ 15000
          omega)
      refine ⟨W, d', cj', e1, ?_⟩
      rw [e2, rcyc_go hF hsome, key.1, List.length_append, List.length_map, key.2]
theorem cy_eq {W cj : List UInt8} {d : List DCell} {c : Nat} (h : CyR g l w (W, d, cj, c)) (hw : w.length ≤ 60) : (W, d.length, c) = rCyclic g l w := by
  unfold CyR at h
  unfold rCyclic rS
  by_cases ha : ¬ rasked g l w = 0
  · rw [if_pos ha] at h ⊢
    cases h
    dsimp only
    rw [if_pos ha]; rfl
  · rw [if_neg ha] at h ⊢
    obtain ⟨S, hS, h⟩ := h
    have key := dsh_rshorten (rasked_pres ha) hS (isw_asked ha) (by omega)
    have hda := dsh_all hS.1 (w := w) (by omega)
    have j3 := wConj_length (dsh S w).1
    have j4 := wCore_length (dsh S w).1
    dsimp only
    rw [if_neg (by simp)]
    have hsq : (wCore (dsh S w).1).length * ((wCore (dsh S w).1).length + 1) ≤ 60 * 61 := Nat.mul_le_mul (by omega) (by omega)
    obtain ⟨W', d', cj', e1, e2⟩ := cy_law (rasked_pres ha) hS ((wCore (dsh S w).1).length + 1) (wCore (dsh S w).1) (wConj (dsh S w).1) (dsh S w).2 ((wCore (dsh S w).1).length + 1) (by omega) (by omega) (wCore_is _) (by omega) (by omega) (fun c hc => Nat.le_trans (hda.2.2 c hc) (by decide))
    rw [cyOf, e1] at h
    cases h
    rw [key.1, key.2] at e2
    rw [← e2]
end
end Go.Proofs.YtaccklloepfemaaGreatDoor

namespace Go.Proofs.YtaccklloepfemaaGreatDoor
set_option linter.unusedVariables false
set_option linter.unusedSimpArgs false
open Go Go.RowKit V
def sf : List (List UInt8) := [[97, 98, 65, 66, 99, 100, 67, 68]]
theorem sane_1 : rS 4 sf [97, 98, 65, 66, 99] = ([100, 99, 68], 1, 0) := by decide +kernel
theorem sane_2 : rTrivial 4 sf [97, 98, 65, 66, 99, 100, 67, 68] = (true, 0) ∧ (rS 4 sf [97, 98, 65, 66, 99, 100, 67, 68]).2.1 = 1 := by decide +kernel
theorem sane_3 : rTrivial 4 sf [97, 98] = (false, 0) := by decide +kernel
theorem sane_4 : rStuck 4 sf [97, 98, 65, 66] = (true, 0) := by decide +kernel
theorem sane_5 : rCyclic 4 sf [98, 97, 98, 65, 66, 99, 100, 67, 68, 66] = ([], 1, 0) := by decide +kernel
theorem sane_6 : (rS 1 [[97, 97, 97, 97, 97]] [97, 97, 97]).1 = [65, 65] ∧ (rS 1 [[97, 97, 97, 97, 97]] [97, 97, 97]).2.2 = 0 := by decide +kernel
theorem sane_7 : rVerified 4 sf = 0 := by decide +kernel
theorem sane_8 : rVerified 1 [[97, 97, 97, 97, 97]] = 0 := by decide +kernel
theorem sane_9 : rVerified 2 [[97, 98, 65, 66]] = 230 := by decide +kernel
end Go.Proofs.YtaccklloepfemaaGreatDoor

namespace Go.Proofs.YtaccklloepfemaaGreatDoor
open Go Go.RowKit V
set_option maxRecDepth 100000
set_option linter.unusedVariables false
set_option linter.unusedSimpArgs false
theorem pl24 : structPlaces Tryz.prog 24 = some [(0, 1), (1, 1)] := by kernel_rfl
theorem u24 : type_of% @Tryz.underlying24 := @Tryz.underlying24
theorem z24 : zeroOf Tryz.prog 24 = some (.agg #[.int .i64 0, .slice none 0 0]) := by kernel_rfl

theorem s_Sh2 {g : Int} {u : Value} {l : List (List UInt8)} {w : List UInt8} {A : AH} (hn : l.length ≤ 1000000) (hL : Lets A) (hu : Slc A 1 u (strs l)) (h60 : w.length ≤ 60 ∨ 5000 < w.length) (hw : w.length ≤ 100000) : RetA Tryz.prog 11 #[.agg #[num g, u], str w] A (fun v A1 => ∃ d dv, v = .tuple #[.agg #[str (rS g l w).1, num (((rS g l w).2.1 : Nat) : Int), dv], num (((rS g l w).2.2 : Nat) : Int)] ∧ A.le A1 ∧ A1.wf ∧ Fresh A A1 dv 3 (dcells d) ∧ d.length = (rS g l w).2.1) :=
  (s_Sh g u l w A hn hL hw hu).mono fun v A1 h => by
    obtain ⟨W, d, c, dv, e1, e2, e3, e4, e5⟩ := h
    obtain ⟨a, b, c'⟩ := sh_eq e5 h60
    exact ⟨d, dv, by rw [e1, ← a, ← b, ← c'], e2, e3, e4, b⟩
theorem s_ShC {g : Int} {u : Value} {l : List (List UInt8)} {w : List UInt8} {A : AH} (hn : l.length ≤ 1000000) (hL : Lets A) (hu : Slc A 1 u (strs l)) {W : List UInt8} (e : rS g l w = (W, 1, 0)) (hw : w.length ≤ 60) : RetA Tryz.prog 11 #[.agg #[num g, u], str w] A (fun v A1 => ∃ c dv, v = .tuple #[.agg #[str W, num ((1 : Nat) : Int), dv], num ((0 : Nat) : Int)] ∧ A.le A1 ∧ A1.wf ∧ Fresh A A1 dv 3 (dcells [c])) :=
  (s_Sh2 hn hL hu (.inl hw) (by omega)).mono fun v A1 h => by
    obtain ⟨d, dv, e1, e2, e3, e4, e5⟩ := h
    rw [e] at e1 e5
    obtain ⟨c, rfl⟩ : ∃ c, d = [c] := List.length_eq_one_iff.1 e5
    exact ⟨c, dv, e1, e2, e3, e4⟩
theorem s_ShD {g : Int} {u : Value} {l : List (List UInt8)} {w : List UInt8} {A : AH} (hn : l.length ≤ 1000000) (hL : Lets A) (hu : Slc A 1 u (strs l)) {W : List UInt8} (e : (rS g l w).1 = W ∧ (rS g l w).2.2 = 0) (hw : w.length ≤ 60) : RetA Tryz.prog 11 #[.agg #[num g, u], str w] A (fun v A1 => ∃ (n : Nat) (d : List DCell) (dv : Value), v = .tuple #[.agg #[str W, num ((n : Nat) : Int), dv], num ((0 : Nat) : Int)] ∧ A.le A1 ∧ A1.wf ∧ Fresh A A1 dv 3 (dcells d)) :=
  (s_Sh2 hn hL hu (.inl hw) (by omega)).mono fun v A1 h => by
    obtain ⟨d, dv, e1, e2, e3, e4, e5⟩ := h
    rw [e.1, e.2] at e1
    exact ⟨_, d, dv, e1, e2, e3, e4⟩
theorem s_St2 {g : Int} {u : Value} {l : List (List UInt8)} {w : List UInt8} {A : AH} (hn : l.length ≤ 1000000) (hL : Lets A) (hu : Slc A 1 u (strs l)) (hw : w.length ≤ 100000) : RetA Tryz.prog 12 #[.agg #[num g, u], str w] A (fun v A1 => v = .tuple #[.bool (rStuck g l w).1, num (((rStuck g l w).2 : Nat) : Int)] ∧ A.le A1 ∧ A1.wf) :=
  (s_St g u l w A hn hL hw hu).mono fun v A1 h => by
    obtain ⟨b, c, e1, e2, e3, e4⟩ := h
    have := st_eq e4
    exact ⟨by rw [e1, ← this], e2, e3⟩
theorem s_StC {g : Int} {u : Value} {l : List (List UInt8)} {w : List UInt8} {A : AH} (hn : l.length ≤ 1000000) (hL : Lets A) (hu : Slc A 1 u (strs l)) {b : Bool} {c : Nat} (e : rStuck g l w = (b, c)) (hw : w.length ≤ 100000) : RetA Tryz.prog 12 #[.agg #[num g, u], str w] A (fun v A1 => v = .tuple #[.bool b, num ((c : Nat) : Int)] ∧ A.le A1 ∧ A1.wf) :=
  (s_St2 hn hL hu hw).mono fun v A1 h => by rw [e] at h; exact h
theorem s_Ve2 {g : Int} {u : Value} {l : List (List UInt8)} {A : AH} (hn : l.length ≤ 1000000) (hL : Lets A) (hu : Slc A 1 u (strs l)) : RetA Tryz.prog 13 #[.agg #[num g, u]] A (fun v A1 => v = num ((rVerified g l : Nat) : Int) ∧ A.le A1 ∧ A1.wf) :=
  (s_Ve g u l A hn hL hu).mono fun v A1 h => by
    obtain ⟨c, e1, e2, e3, e4⟩ := h
    exact ⟨by rw [e1, ve_eq e4], e2, e3⟩
theorem s_VeC {g : Int} {u : Value} {l : List (List UInt8)} {A : AH} (hn : l.length ≤ 1000000) (hL : Lets A) (hu : Slc A 1 u (strs l)) {c : Nat} (e : rVerified g l = c) : RetA Tryz.prog 13 #[.agg #[num g, u]] A (fun v A1 => v = num ((c : Nat) : Int) ∧ A.le A1 ∧ A1.wf) :=
  (s_Ve2 hn hL hu).mono fun v A1 h => by rw [e] at h; exact h
theorem s_Tr2 {g : Int} {u : Value} {l : List (List UInt8)} {w : List UInt8} {A : AH} (hn : l.length ≤ 1000000) (hL : Lets A) (hu : Slc A 1 u (strs l)) (hw : w.length ≤ 60) : RetA Tryz.prog 16 #[.agg #[num g, u], str w] A (fun v A1 => ∃ d dv, v = .tuple #[.bool (rTrivial g l w).1, dv, num (((rTrivial g l w).2 : Nat) : Int)] ∧ A.le A1 ∧ A1.wf ∧ Fresh A A1 dv 3 (dcells d) ∧ d.length = if (rTrivial g l w).1 = true then (rS g l w).2.1 else 0) :=
  (s_Tr g u l w A hn hL (by omega) hu).mono fun v A1 h => by
    obtain ⟨b, d, c, dv, e1, e2, e3, e4, e5⟩ := h
    obtain ⟨a, a2⟩ := tr_eq e5 hw
    have a1 : (rTrivial g l w).1 = b := by rw [← a]
    have a3 : (rTrivial g l w).2 = c := by rw [← a]
    exact ⟨d, dv, by rw [a1, a3]; exact e1, e2, e3, e4, by rw [a1]; exact a2⟩
theorem s_TrC {g : Int} {u : Value} {l : List (List UInt8)} {w : List UInt8} {A : AH} (hn : l.length ≤ 1000000) (hL : Lets A) (hu : Slc A 1 u (strs l)) (e : rTrivial g l w = (true, 0) ∧ (rS g l w).2.1 = 1) (hw : w.length ≤ 60) : RetA Tryz.prog 16 #[.agg #[num g, u], str w] A (fun v A1 => ∃ c dv, v = .tuple #[.bool true, dv, num ((0 : Nat) : Int)] ∧ A.le A1 ∧ A1.wf ∧ Fresh A A1 dv 3 (dcells [c])) :=
  (s_Tr2 hn hL hu hw).mono fun v A1 h => by
    obtain ⟨d, dv, e1, e2, e3, e4, e5⟩ := h
    rw [e.1] at e1 e5
    rw [if_pos rfl, e.2] at e5
    obtain ⟨c, rfl⟩ : ∃ c, d = [c] := List.length_eq_one_iff.1 e5
    exact ⟨c, dv, e1, e2, e3, e4⟩
theorem s_TrD {g : Int} {u : Value} {l : List (List UInt8)} {w : List UInt8} {A : AH} (hn : l.length ≤ 1000000) (hL : Lets A) (hu : Slc A 1 u (strs l)) {b : Bool} (e : rTrivial g l w = (b, 0)) (hw : w.length ≤ 60) : RetA Tryz.prog 16 #[.agg #[num g, u], str w] A (fun v A1 => ∃ d dv, v = .tuple #[.bool b, dv, num ((0 : Nat) : Int)] ∧ A.le A1 ∧ A1.wf ∧ Fresh A A1 dv 3 (dcells d)) :=
  (s_Tr2 hn hL hu hw).mono fun v A1 h => by
    obtain ⟨d, dv, e1, e2, e3, e4, e5⟩ := h
    rw [e] at e1
    exact ⟨d, dv, e1, e2, e3, e4⟩
theorem s_Cy2 {g : Int} {u : Value} {l : List (List UInt8)} {w : List UInt8} {A : AH} (hn : l.length ≤ 1000000) (hL : Lets A) (hu : Slc A 1 u (strs l)) (hw : w.length ≤ 60) : RetA Tryz.prog 19 #[.agg #[num g, u], str w] A (fun v A1 => ∃ d cj dv, v = .tuple #[.agg #[str (rCyclic g l w).1, num (((rCyclic g l w).2.1 : Nat) : Int), dv], str cj, num (((rCyclic g l w).2.2 : Nat) : Int)] ∧ A.le A1 ∧ A1.wf ∧ Fresh A A1 dv 3 (dcells d) ∧ d.length = (rCyclic g l w).2.1) :=
  (s_Cy g u l w A hn hL (by omega) hu).mono fun v A1 h => by
    obtain ⟨W, d, cj, c, dv, e1, e2, e3, e4, e5⟩ := h
    have a := cy_eq e5 hw
    exact ⟨d, cj, dv, by rw [← a]; exact e1, e2, e3, e4, by rw [← a]⟩
theorem s_CyC {g : Int} {u : Value} {l : List (List UInt8)} {w : List UInt8} {A : AH} (hn : l.length ≤ 1000000) (hL : Lets A) (hu : Slc A 1 u (strs l)) {W : List UInt8} {n c : Nat} (e : rCyclic g l w = (W, n, c)) (hw : w.length ≤ 60) : RetA Tryz.prog 19 #[.agg #[num g, u], str w] A (fun v A1 => ∃ d cj dv, v = .tuple #[.agg #[str W, num ((n : Nat) : Int), dv], str cj, num ((c : Nat) : Int)] ∧ A.le A1 ∧ A1.wf ∧ Fresh A A1 dv 3 (dcells d)) :=
  (s_Cy2 hn hL hu hw).mono fun v A1 h => by
    obtain ⟨d, cj, dv, e1, e2, e3, e4, e5⟩ := h
    rw [e] at e1
    exact ⟨d, cj, dv, e1, e2, e3, e4⟩
def small (l ws : List (List UInt8)) : Bool := decide (l.length ≤ 8) && decide (¬ 0 ≤ ifl (fun r => decide (40 < r.length)) l) && decide (¬ 0 ≤ ifl (fun r => decide (60 < r.length)) ws)
theorem small_len {l ws : List (List UInt8)} (h : small l ws = true) : l.length ≤ 8 ∧ (∀ r ∈ l, r.length ≤ 40) ∧ ∀ r ∈ ws, r.length ≤ 60 := by
  simp only [small, Bool.and_eq_true, decide_eq_true_eq] at h
  obtain ⟨⟨h1, h2⟩, h3⟩ := h
  refine ⟨h1, fun r hr => ?_, fun r hr => ?_⟩
  · apply Classical.byContradiction
    intro q
    exact h2 ((ifl_any _ _).2 (List.any_eq_true.2 ⟨r, hr, by simp; omega⟩))
  · apply Classical.byContradiction
    intro q
    exact h3 ((ifl_any _ _).2 (List.any_eq_true.2 ⟨r, hr, by simp; omega⟩))


theorem s_small (g : Int) (u : Value) (l : List (List UInt8)) (wv : Value) (ws : List (List UInt8)) (A : AH) (hn : l.length ≤ 9223372036854775807) (hnw : ws.length ≤ 9223372036854775807) (hu : Slc A 1 u (strs l)) (hv : Slc A 1 wv (strs ws)) : RetA Tryz.prog 7 #[.agg #[num (g), u], wv] A (fun v A1 => v = .bool (small l ws) ∧ A.le A1 ∧ A1.wf) := by
 refine enterA (e := [(0, .agg #[num (g), u]), (1, wv)]) (args := [.agg #[num (g), u], wv]) Tryz.call7 Tryz.func7 rfl Tryz.results7 Tryz.ntmps7 rfl rfl rfl (fun wf => ?_)
 have le_ := AH.le.refl A
 refine Run.seq fun K1 h2 => .region <| .l rfl (fun _ _ hk3 _ => wbox wf rfl rfl fun A5 b4 nb6 => ?_)
 have le7 := le_.trans nb6.le
 refine hk3 _ _ <| .q rfl (qassign rfl) <| .nil <| h2 _ _ <| .seq fun K8 h9 => .region <| .q rfl (qfieldAddr fl24_1 sz22 (by decide) rfl) <| .q rfl (qloadAt ag22 rfl rfl nb6.get rfl) <| .q rfl (qlenS (n := l.length) u22 rfl (hu.le le7) (by omega) (strs_len _)) <| .q rfl (qleqN (b := 8) rfl rfl) ?_
 refine Ops.q rfl (qmove rfl) <| .part (t := 9) rfl (fun p10 => ?_) (fun p10 => ?_)
 ·
  refine Ops.on rfl rfl <| .q rfl (qfieldAddr fl24_1 sz22 (by decide) rfl) <| .on rfl rfl <| .q rfl (qloadAt ag22 rfl rfl nb6.get rfl) <| .on rfl rfl <| .l rfl (fun _ _ hk11 _ => vcallF rfl (s_ContainsFuncL 25 #[] (fun r => decide (40 < r.length)) u l A5 (by omega) (hu.le le7) (fun s hs B le wf => s_small1 s B)) ?_)
  rintro v12 A13 ⟨rfl, leq14, wfq14⟩
  have le16 := le7.trans leq14
  refine hk11 _ _ <| .on rfl rfl <| .q rfl (qnotP rfl) <| .q rfl (qpickT rfl rfl) <| .q rfl (qmove rfl) <| .part (t := 15) rfl (fun p17 => ?_) (fun p17 => ?_)
  ·
   refine Ops.on rfl rfl <| .q rfl (qmove rfl) <| .on rfl rfl <| .l rfl (fun _ _ hk18 _ => vcallF rfl (s_ContainsFuncL 26 #[] (fun r => decide (60 < r.length)) wv ws A13 (by omega) (hv.le le16) (fun s hs B le wf => s_small2 s B)) ?_)
   rintro v19 A20 ⟨rfl, leq21, wfq21⟩
   have le23 := le16.trans leq21
   refine hk18 _ _ <| .on rfl rfl <| .q rfl (qnotP rfl) <| .q rfl (qpickT rfl rfl) <| .q rfl (qassign rfl) <| .nil <| h9 _ _ <| .ret ?_
   repeat first | with_reducible refine thenQ_ret ?_ | with_reducible refine blockQ_ret ?_
   exact retQ rfl (⟨by first | (rw [small, decide_eq_false ‹¬ l.length ≤ 8›]; rfl) | (rw [small, decide_eq_true ‹l.length ≤ 8›, decide_eq_false ‹¬ ¬ 0 ≤ ifl (fun r => decide (40 < r.length)) l›]; rfl) | (rw [small, decide_eq_true ‹l.length ≤ 8›, decide_eq_true ‹¬ 0 ≤ ifl (fun r => decide (40 < r.length)) l›]; rfl), le23, wfq21⟩)
  ·
   refine Ops.off rfl rfl rfl rfl <| .off rfl rfl rfl rfl <| .off rfl rfl rfl rfl <| .q rfl (qpickF rfl rfl) <| .q rfl (qassign rfl) <| .nil <| h9 _ _ <| .ret ?_
   repeat first | with_reducible refine thenQ_ret ?_ | with_reducible refine blockQ_ret ?_
   exact retQ rfl (⟨by first | (rw [small, decide_eq_false ‹¬ l.length ≤ 8›]; rfl) | (rw [small, decide_eq_true ‹l.length ≤ 8›, decide_eq_false ‹¬ ¬ 0 ≤ ifl (fun r => decide (40 < r.length)) l›]; rfl) | (rw [small, decide_eq_true ‹l.length ≤ 8›, decide_eq_true ‹¬ 0 ≤ ifl (fun r => decide (40 < r.length)) l›]; rfl), le16, wfq14⟩)
 ·
  refine Ops.off rfl rfl rfl rfl <| .off rfl rfl rfl rfl <| .off rfl rfl rfl rfl <| .off rfl rfl rfl rfl <| .q rfl (qpickF rfl rfl) <| .q rfl (qmove rfl) <| .off rfl rfl rfl rfl <| .off rfl rfl rfl rfl <| .off rfl rfl rfl rfl <| .q rfl (qpickF rfl rfl) ?_
  refine Ops.q rfl (qassign rfl) <| .nil <| h9 _ _ <| .ret ?_
  repeat first | with_reducible refine thenQ_ret ?_ | with_reducible refine blockQ_ret ?_
  exact retQ rfl (⟨by first | (rw [small, decide_eq_false ‹¬ l.length ≤ 8›]; rfl) | (rw [small, decide_eq_true ‹l.length ≤ 8›, decide_eq_false ‹¬ ¬ 0 ≤ ifl (fun r => decide (40 < r.length)) l›]; rfl) | (rw [small, decide_eq_true ‹l.length ≤ 8›, decide_eq_true ‹¬ 0 ≤ ifl (fun r => decide (40 < r.length)) l›]; rfl), le7, nb6.wf⟩)

theorem s_Surf (A : AH) : RetA Tryz.prog 27 #[] A (fun v A1 => ∃ u, v = .agg #[num ((4 : Nat) : Int), u] ∧ A.le A1 ∧ A1.wf ∧ Fresh A A1 u 1 (strs sf)) := by
 refine enterA (e := []) (args := []) Tryz.call27 Tryz.func27 rfl Tryz.results27 Tryz.ntmps27 rfl rfl rfl (fun wf => ?_)
 have le_ := AH.le.refl A
 refine Run.seq fun K1 h2 => .region <| .l rfl (fun _ _ hk3 _ => walloc wf z24 rfl fun A5 b4 nb6 => ?_)
 have ge_b4 := none_of wf (Nat.le_trans le_.n nb6.lo)
 have le7 := le_.trans nb6.le
 refine hk3 _ _ <| .nil <| h2 _ _ <| .seq fun K8 h9 => .region <| .l rfl (fun _ _ hk10 _ => wbuildSlice (c := [str ([97, 98, 65, 66, 99, 100, 67, 68])]) nb6.wf rfl (buildSliceV_of u22 sz9 z9 rfl (by decide) (by decide) rfl) fun A12 b11 nb13 => ?_)
 have ne_b4_b11 := ne_new nb6.wf nb6.get nb13.lo
 have ge_b11 := none_of wf (Nat.le_trans le7.n nb13.lo)
 have h14 := nb13.le.get _ _ nb6.get
 have le15 := le7.trans nb13.le
 refine hk10 _ _ <| .q rfl (qbuild rfl (buildV_struct u24 z24 pl24 rfl)) <| .l rfl (fun _ _ hk16 _ => wstore (cs := [num ((4 : Nat) : Int), .slice (some ⟨b11, 0, none⟩) 1 1]) (c' := [num ((4 : Nat) : Int), .slice (some ⟨b11, 0, none⟩) 1 1]) nb13.wf rfl rfl rfl rfl sz24 h14 (Nat.le_of_ble_eq_true rfl) rfl rfl fun A17 sb18 => ?_)
 have h19 := sb18.keep _ _ ne_b4_b11.symm nb13.get
 have le20 := le_store le15 wf ge_b4 sb18.n sb18.keep
 refine hk16 _ _ <| .nil <| h9 _ _ <| .ret ?_
 repeat first | with_reducible refine thenQ_ret ?_ | with_reducible refine blockQ_ret ?_
 exact retQ (resCell ag24 sz24 rfl sb18.get rfl resNil) (⟨_, rfl, le20, sb18.wf, (Fresh.lit h19 ge_b11 rfl (Nat.le_refl _) : Fresh A _ _ 1 [str [97, 98, 65, 66, 99, 100, 67, 68]])⟩)

theorem s_sane (A : AH) (hL : Lets A) : RetA Tryz.prog 8 #[] A (fun v A1 => v = .bool true ∧ A.le A1 ∧ A1.wf) := by
 refine enterA (e := []) (args := []) Tryz.call8 Tryz.func8 rfl Tryz.results8 Tryz.ntmps8 rfl rfl rfl (fun wf => ?_)
 have le_ := AH.le.refl A
 refine Run.seq fun K1 h2 => .region <| .q rfl (qassign rfl) <| .nil <| h2 _ _ <| .seq fun K3 h4 => .region <| .l rfl (fun _ _ hk5 _ => vcallF rfl (s_Surf A) ?_)
 rintro v6 A7 ⟨uq8, rfl, leq8, wfq8, frq8⟩
 have le9 := le_.trans leq8
 have fr10 := frq8.base le_
 refine hk5 _ _ <| .l rfl (fun _ _ hk11 _ => walloc wfq8 z24 rfl fun A13 b12 nb14 => ?_)
 have no15 := fr10.own.ne_new wfq8 nb14.lo
 have ge_b12 := none_of wf (Nat.le_trans le9.n nb14.lo)
 have fr16 := fr10.le nb14.le
 have le17 := le9.trans nb14.le
 refine hk11 _ _ ?_
 obtain ⟨p19, l19, c19, q19, _⟩ := fr16.own.slice
 subst q19
 refine Ops.l rfl (fun _ _ hk18 _ => wstore (cs := [num ((4 : Nat) : Int), .slice p19 l19 c19]) (c' := [num ((4 : Nat) : Int), .slice p19 l19 c19]) nb14.wf rfl rfl rfl rfl sz24 nb14.get (Nat.le_of_ble_eq_true rfl) rfl rfl fun A20 sb21 => ?_)
 have fr22 := fr16.keep sb21.keep no15
 have le23 := le_store le17 wf ge_b12 sb21.n sb21.keep
 refine hk18 _ _ <| .nil <| h4 _ _ <| .seq fun K24 h25 => .region <| .q rfl (qloadAggAt ag24 sz24 rfl rfl sb21.get rfl) <| .l rfl (fun _ _ hk26 _ => vcallF rfl (s_ShC (g := ((4 : Nat) : Int)) (w := [97, 98, 65, 66, 99]) (by decide) (hL.le le23) fr22.slc sane_1 (by decide)) ?_)
 rintro v27 A28 ⟨cq29, dvq29, rfl, leq29, wfq29, frq29⟩
 have h30 := leq29.get _ _ sb21.get
 have fr31 := fr22.le leq29
 have le32 := le23.trans leq29
 have fr33 := frq29.base le23
 refine hk26 _ _ <| .q rfl (qmove rfl) <| .q rfl (qextract rfl rfl) <| .q rfl (qextract rfl rfl) <| .l rfl (fun _ _ hk35 _ => walloc wfq29 z36 rfl fun A37 b36 nb38 => ?_)
 have ne_b12_b36 := ne_new wfq29 h30 nb38.lo
 have no39 := fr31.own.ne_new wfq29 nb38.lo
 have no40 := fr33.own.ne_new wfq29 nb38.lo
 have ge_b36 := none_of wf (Nat.le_trans le32.n nb38.lo)
 have h41 := nb38.le.get _ _ h30
 have fr42 := fr31.le nb38.le
 have fr43 := fr33.le nb38.le
 have le44 := le32.trans nb38.le
 refine hk35 _ _ ?_
 obtain ⟨p46, l46, c46, q46, _⟩ := fr43.own.slice
 subst q46
 refine Ops.l rfl (fun _ _ hk45 _ => wstore (cs := [str ([100, 99, 68]), num ((1 : Nat) : Int), .slice p46 l46 c46]) (c' := [str ([100, 99, 68]), num ((1 : Nat) : Int), .slice p46 l46 c46]) nb38.wf rfl rfl rfl rfl sz36 nb38.get (Nat.le_of_ble_eq_true rfl) rfl rfl fun A47 sb48 => ?_)
 have h49 := sb48.keep _ _ ne_b12_b36 h41
 have fr50 := fr42.keep sb48.keep no39
 have fr51 := fr43.keep sb48.keep no40
 have le52 := le_store le44 wf ge_b36 sb48.n sb48.keep
 refine hk45 _ _ <| .q rfl (qassign rfl) <| .nil <| h25 _ _ <| .seq fun K53 h54 => .region <| .q rfl (qloadAggAt ag24 sz24 rfl rfl h49 rfl) <| .l rfl (fun _ _ hk55 _ => vcallF rfl (s_TrC (g := ((4 : Nat) : Int)) (w := [97, 98, 65, 66, 99, 100, 67, 68]) (by decide) (hL.le le52) fr50.slc sane_2 (by decide)) ?_)
 rintro v56 A57 ⟨cq58, dvq58, rfl, leq58, wfq58, frq58⟩
 have h59 := leq58.get _ _ h49
 have h60 := leq58.get _ _ sb48.get
 have fr61 := fr50.le leq58
 have fr62 := fr51.le leq58
 have le63 := le52.trans leq58
 have fr64 := frq58.base le52
 refine hk55 _ _ <| .q rfl (qmove rfl) <| .q rfl (qextract rfl rfl) <| .q rfl (qextract rfl rfl) <| .q rfl (qextract rfl rfl) <| .q rfl (qassign rfl) <| .q rfl (qassign rfl) <| .q rfl (qassign rfl) <| .nil <| h54 _ _ ?_
 refine Run.seq fun K67 h68 => .region <| .q rfl (qloadAggAt ag24 sz24 rfl rfl h59 rfl) <| .l rfl (fun _ _ hk69 _ => vcallF rfl (s_TrD (g := ((4 : Nat) : Int)) (w := [97, 98]) (by decide) (hL.le le63) fr61.slc sane_3 (by decide)) ?_)
 rintro v70 A71 ⟨dq72, dvq72, rfl, leq72, wfq72, frq72⟩
 have h73 := leq72.get _ _ h59
 have h74 := leq72.get _ _ h60
 have fr75 := fr61.le leq72
 have fr76 := fr62.le leq72
 have fr77 := fr64.le leq72
 have le78 := le63.trans leq72
 refine hk69 _ _ <| .q rfl (qmove rfl) <| .q rfl (qextract rfl rfl) <| .q rfl (qextract rfl rfl) <| .q rfl (qextract rfl rfl) <| .q rfl (qassign rfl) <| .q rfl (qassign rfl) <| .q rfl (qassign rfl) <| .nil <| h68 _ _ ?_
 refine Run.seq fun K82 h83 => .region <| .q rfl (qloadAggAt ag24 sz24 rfl rfl h73 rfl) <| .l rfl (fun _ _ hk84 _ => vcallF rfl (s_StC (g := ((4 : Nat) : Int)) (w := [97, 98, 65, 66]) (by decide) (hL.le le78) fr75.slc sane_4 (by decide)) ?_)
 rintro v85 A86 ⟨rfl, leq87, wfq87⟩
 have h88 := leq87.get _ _ h73
 have h89 := leq87.get _ _ h74
 have fr90 := fr75.le leq87
 have fr91 := fr76.le leq87
 have fr92 := fr77.le leq87
 have le94 := le78.trans leq87
 refine hk84 _ _ <| .q rfl (qmove rfl) <| .q rfl (qextract rfl rfl) <| .q rfl (qextract rfl rfl) <| .q rfl (qassign rfl) <| .q rfl (qassign rfl) <| .nil <| h83 _ _ <| .seq fun K95 h96 => .seq fun K97 h98 => ?_
 refine Run.region <| .q rfl (qmove rfl) <| .q rfl (((qneqN (a := 0) (b := 0) rfl rfl).trans (congrArg (fun z => some (Value.bool z, [])) (decide_eq_false (fun q => q rfl))))) <| .q rfl (qmove rfl) <| .on rfl rfl <| .q rfl (qmove rfl) <| .on rfl rfl <| .q rfl (((qneqN (a := 0) (b := 0) rfl rfl).trans (congrArg (fun z => some (Value.bool z, [])) (decide_eq_false (fun q => q rfl))))) <| .q rfl (qpickF rfl rfl) <| .q rfl (qmove rfl) ?_
 refine Ops.on rfl rfl <| .q rfl (qmove rfl) <| .on rfl rfl <| .q rfl (((qneqN (a := 0) (b := 0) rfl rfl).trans (congrArg (fun z => some (Value.bool z, [])) (decide_eq_false (fun q => q rfl))))) <| .q rfl (qpickF rfl rfl) <| .q rfl (qmove rfl) <| .on rfl rfl <| .q rfl (qmove rfl) <| .on rfl rfl <| .q rfl (((qneqN (a := 0) (b := 0) rfl rfl).trans (congrArg (fun z => some (Value.bool z, [])) (decide_eq_false (fun q => q rfl))))) ?_
 refine Ops.q rfl (qpickF rfl rfl) <| .q rfl (qmove rfl) <| .on rfl rfl <| .q rfl (qfieldAddr fl36_0 sz9 (by decide) rfl) <| .on rfl rfl <| .q rfl (qloadAt ag9 rfl rfl h89 rfl) <| .on rfl rfl <| .q rfl (((qsneq rfl rfl).trans (congrArg (fun z => some (Value.bool z, [])) (decide_eq_false (fun q => q rfl))))) <| .q rfl (qpickF rfl rfl) <| .q rfl (qmove rfl) ?_
 refine Ops.on rfl rfl <| .q rfl (qfieldAddr fl36_1 sz3 (by decide) rfl) <| .on rfl rfl <| .q rfl (qloadAt ag3 rfl rfl h89 rfl) <| .on rfl rfl <| .q rfl (((qneqN (a := 1) (b := 1) rfl rfl).trans (congrArg (fun z => some (Value.bool z, [])) (decide_eq_false (fun q => q rfl))))) <| .q rfl (qpickF rfl rfl) <| .q rfl (qmove rfl) <| .on rfl rfl <| .q rfl (qfieldAddr fl36_2 sz34 (by decide) rfl) ?_
 refine Ops.on rfl rfl <| .q rfl (qloadAt ag34 rfl rfl h89 rfl) <| .on rfl rfl <| .q rfl (qlenS (n := 1) u34 rfl fr91.slc (by decide) rfl) <| .on rfl rfl <| .q rfl (((qneqN (a := 1) (b := 1) rfl rfl).trans (congrArg (fun z => some (Value.bool z, [])) (decide_eq_false (fun q => q rfl))))) <| .q rfl (qpickF rfl rfl) <| .q rfl (qmove rfl) <| .on rfl rfl <| .q rfl (qmove rfl) ?_
 refine Ops.on rfl rfl <| .q rfl (qnot rfl) <| .q rfl (qpickF rfl rfl) <| .q rfl (qmove rfl) <| .on rfl rfl <| .q rfl (qmove rfl) <| .on rfl rfl <| .q rfl (qlenS (n := 1) u34 rfl fr92.slc (by decide) rfl) <| .on rfl rfl <| .q rfl (((qneqN (a := 1) (b := 1) rfl rfl).trans (congrArg (fun z => some (Value.bool z, [])) (decide_eq_false (fun q => q rfl))))) ?_
 refine Ops.q rfl (qpickF rfl rfl) <| .q rfl (qmove rfl) <| .on rfl rfl <| .q rfl (qmove rfl) <| .q rfl (qpickF rfl rfl) <| .q rfl (qmove rfl) <| .on rfl rfl <| .q rfl (qmove rfl) <| .on rfl rfl <| .q rfl (qnot rfl) ?_
 refine Ops.q rfl (qpickF rfl rfl) <| .nil <| h98 _ _ <| .cond_false rfl <| .skip <| h96 _ _ <| .seq fun K99 h100 => .region <| .q rfl (qloadAggAt ag24 sz24 rfl rfl h88 rfl) <| .l rfl (fun _ _ hk101 _ => vcallF rfl (s_CyC (g := ((4 : Nat) : Int)) (w := [98, 97, 98, 65, 66, 99, 100, 67, 68, 66]) (by decide) (hL.le le94) fr90.slc sane_5 (by decide)) ?_)
 rintro v102 A103 ⟨dq104, cjq104, dvq104, rfl, leq104, wfq104, frq104⟩
 have h105 := leq104.get _ _ h88
 have fr107 := fr90.le leq104
 have le111 := le94.trans leq104
 have fr112 := frq104.base le94
 refine hk101 _ _ <| .q rfl (qmove rfl) <| .q rfl (qextract rfl rfl) <| .q rfl (qextract rfl rfl) <| .q rfl (qextract rfl rfl) <| .l rfl (fun _ _ hk115 _ => walloc wfq104 z36 rfl fun A117 b116 nb118 => ?_)
 have ne_b12_b116 := ne_new wfq104 h105 nb118.lo
 have no119 := fr107.own.ne_new wfq104 nb118.lo
 have ge_b116 := none_of wf (Nat.le_trans le111.n nb118.lo)
 have h124 := nb118.le.get _ _ h105
 have fr126 := fr107.le nb118.le
 have fr130 := fr112.le nb118.le
 have le131 := le111.trans nb118.le
 refine hk115 _ _ ?_
 obtain ⟨p133, l133, c133, q133, _⟩ := fr130.own.slice
 subst q133
 refine Ops.l rfl (fun _ _ hk132 _ => wstore (cs := [str ([]), num ((1 : Nat) : Int), .slice p133 l133 c133]) (c' := [str ([]), num ((1 : Nat) : Int), .slice p133 l133 c133]) nb118.wf rfl rfl rfl rfl sz36 nb118.get (Nat.le_of_ble_eq_true rfl) rfl rfl fun A134 sb135 => ?_)
 have h136 := sb135.keep _ _ ne_b12_b116 h124
 have fr138 := fr126.keep sb135.keep no119
 have le143 := le_store le131 wf ge_b116 sb135.n sb135.keep
 refine hk132 _ _ <| .q rfl (qassign rfl) <| .q rfl (qassign rfl) <| .nil <| h100 _ _ <| .seq fun K144 h145 => .region <| .l rfl (fun _ _ hk146 _ => wbuildSlice (c := [str ([97, 97, 97, 97, 97])]) sb135.wf rfl (buildSliceV_of u22 sz9 z9 rfl (by decide) (by decide) rfl) fun A148 b147 nb149 => ?_)
 have h155 := nb149.le.get _ _ h136
 have h157 := nb149.le.get _ _ sb135.get
 have fr158 := fr138.le nb149.le
 have le163 := le143.trans nb149.le
 refine hk146 _ _ <| .q rfl (qbuild rfl (buildV_struct u24 z24 pl24 rfl)) <| .l rfl (fun _ _ hk164 _ => walloc nb149.wf z24 rfl fun A166 b165 nb167 => ?_)
 have ne_b12_b165 := ne_new nb149.wf h155 nb167.lo
 have ne_b116_b165 := ne_new nb149.wf h157 nb167.lo
 have ne_b147_b165 := ne_new nb149.wf nb149.get nb167.lo
 have no168 := fr158.own.ne_new nb149.wf nb167.lo
 have ge_b165 := none_of wf (Nat.le_trans le163.n nb167.lo)
 have h173 := nb167.le.get _ _ h155
 have h175 := nb167.le.get _ _ h157
 have h176 := nb167.le.get _ _ nb149.get
 have fr177 := fr158.le nb167.le
 have le182 := le163.trans nb167.le
 refine hk164 _ _ <| .l rfl (fun _ _ hk183 _ => wstore (cs := [num ((1 : Nat) : Int), .slice (some ⟨b147, 0, none⟩) 1 1]) (c' := [num ((1 : Nat) : Int), .slice (some ⟨b147, 0, none⟩) 1 1]) nb167.wf rfl rfl rfl rfl sz24 nb167.get (Nat.le_of_ble_eq_true rfl) rfl rfl fun A184 sb185 => ?_)
 have h186 := sb185.keep _ _ ne_b12_b165 h173
 have h188 := sb185.keep _ _ ne_b116_b165 h175
 have h189 := sb185.keep _ _ ne_b147_b165 h176
 have fr190 := fr177.keep sb185.keep no168
 have le195 := le_store le182 wf ge_b165 sb185.n sb185.keep
 refine hk183 _ _ <| .nil <| h145 _ _ <| .seq fun K196 h197 => .region <| .q rfl (qloadAggAt ag24 sz24 rfl rfl sb185.get rfl) <| .l rfl (fun _ _ hk198 _ => vcallF rfl (s_ShD (g := ((1 : Nat) : Int)) (w := [97, 97, 97]) (by simp) (hL.le le195) (slc_row (n := 1) h189 rfl (Nat.le_refl _)) sane_6 (by decide)) ?_)
 rintro v199 A200 ⟨nq201, dq201, dvq201, rfl, leq201, wfq201, frq201⟩
 have h202 := leq201.get _ _ h186
 have h204 := leq201.get _ _ h188
 have h205 := leq201.get _ _ h189
 have h206 := leq201.get _ _ sb185.get
 have fr207 := fr190.le leq201
 have le212 := le195.trans leq201
 have fr213 := frq201.base le195
 refine hk198 _ _ <| .q rfl (qmove rfl) <| .q rfl (qextract rfl rfl) <| .q rfl (qextract rfl rfl) <| .l rfl (fun _ _ hk219 _ => walloc wfq201 z36 rfl fun A221 b220 nb222 => ?_)
 have ne_b12_b220 := ne_new wfq201 h202 nb222.lo
 have ne_b116_b220 := ne_new wfq201 h204 nb222.lo
 have ne_b147_b220 := ne_new wfq201 h205 nb222.lo
 have ne_b165_b220 := ne_new wfq201 h206 nb222.lo
 have no223 := fr207.own.ne_new wfq201 nb222.lo
 have ge_b220 := none_of wf (Nat.le_trans le212.n nb222.lo)
 have h229 := nb222.le.get _ _ h202
 have h231 := nb222.le.get _ _ h204
 have h232 := nb222.le.get _ _ h205
 have h233 := nb222.le.get _ _ h206
 have fr234 := fr207.le nb222.le
 have fr239 := fr213.le nb222.le
 have le240 := le212.trans nb222.le
 refine hk219 _ _ ?_
 obtain ⟨p242, l242, c242, q242, _⟩ := fr239.own.slice
 subst q242
 refine Ops.l rfl (fun _ _ hk241 _ => wstore (cs := [str ([65, 65]), num ((nq201 : Nat) : Int), .slice p242 l242 c242]) (c' := [str ([65, 65]), num ((nq201 : Nat) : Int), .slice p242 l242 c242]) nb222.wf rfl rfl rfl rfl sz36 nb222.get (Nat.le_of_ble_eq_true rfl) rfl rfl fun A243 sb244 => ?_)
 have h245 := sb244.keep _ _ ne_b12_b220 h229
 have h247 := sb244.keep _ _ ne_b116_b220 h231
 have h248 := sb244.keep _ _ ne_b147_b220 h232
 have h249 := sb244.keep _ _ ne_b165_b220 h233
 have fr250 := fr234.keep sb244.keep no223
 have le256 := le_store le240 wf ge_b220 sb244.n sb244.keep
 refine hk241 _ _ <| .q rfl (qassign rfl) <| .nil <| h197 _ _ <| .seq fun K257 h258 => .region <| .q rfl (qmove rfl) <| .q rfl (((qeqlN (a := 0) (b := 0) rfl rfl).trans (congrArg (fun z => some (Value.bool z, [])) (decide_eq_true rfl)))) <| .q rfl (qmove rfl) <| .on rfl rfl ?_
 refine Ops.q rfl (qmove rfl) <| .on rfl rfl <| .q rfl (((qeqlN (a := 0) (b := 0) rfl rfl).trans (congrArg (fun z => some (Value.bool z, [])) (decide_eq_true rfl)))) <| .q rfl (qpickT rfl rfl) <| .q rfl (qmove rfl) <| .on rfl rfl <| .q rfl (qfieldAddr fl36_0 sz9 (by decide) rfl) <| .on rfl rfl <| .q rfl (qloadAt ag9 rfl rfl h247 rfl) <| .on rfl rfl ?_
 refine Ops.q rfl (((qseql rfl rfl).trans (congrArg (fun z => some (Value.bool z, [])) (decide_eq_true rfl)))) <| .q rfl (qpickT rfl rfl) <| .q rfl (qmove rfl) <| .on rfl rfl <| .q rfl (qfieldAddr fl36_1 sz3 (by decide) rfl) <| .on rfl rfl <| .q rfl (qloadAt ag3 rfl rfl h247 rfl) <| .on rfl rfl <| .q rfl (((qeqlN (a := 1) (b := 1) rfl rfl).trans (congrArg (fun z => some (Value.bool z, [])) (decide_eq_true rfl)))) <| .q rfl (qpickT rfl rfl) ?_
 refine Ops.q rfl (qmove rfl) <| .on rfl rfl <| .q rfl (qfieldAddr fl36_0 sz9 (by decide) rfl) <| .on rfl rfl <| .q rfl (qloadAt ag9 rfl rfl sb244.get rfl) <| .on rfl rfl <| .q rfl (((qseql rfl rfl).trans (congrArg (fun z => some (Value.bool z, [])) (decide_eq_true rfl)))) <| .q rfl (qpickT rfl rfl) <| .q rfl (qmove rfl) <| .on rfl rfl ?_
 refine Ops.q rfl (qloadAggAt ag24 sz24 rfl rfl h245 rfl) <| .on rfl rfl <| .l rfl (fun _ _ hk259 _ => vcallF rfl (s_VeC (g := ((4 : Nat) : Int)) (by decide) (hL.le le256) fr250.slc sane_7) ?_)
 rintro v260 A261 ⟨rfl, leq262, wfq262⟩
 have h266 := leq262.get _ _ h248
 have h267 := leq262.get _ _ h249
 have le275 := le256.trans leq262
 refine hk259 _ _ <| .on rfl rfl <| .q rfl (((qeqlN (a := 0) (b := 0) rfl rfl).trans (congrArg (fun z => some (Value.bool z, [])) (decide_eq_true rfl)))) <| .q rfl (qpickT rfl rfl) <| .q rfl (qmove rfl) <| .on rfl rfl <| .q rfl (qloadAggAt ag24 sz24 rfl rfl h267 rfl) <| .on rfl rfl <| .l rfl (fun _ _ hk276 _ => vcallF rfl (s_VeC (g := ((1 : Nat) : Int)) (by simp) (hL.le le275) (slc_row (n := 1) h266 rfl (Nat.le_refl _)) sane_8) ?_)
 rintro v277 A278 ⟨rfl, leq279, wfq279⟩
 have le292 := le275.trans leq279
 refine hk276 _ _ <| .on rfl rfl <| .q rfl (((qeqlN (a := 0) (b := 0) rfl rfl).trans (congrArg (fun z => some (Value.bool z, [])) (decide_eq_true rfl)))) <| .q rfl (qpickT rfl rfl) <| .q rfl (qmove rfl) <| .on rfl rfl <| .l rfl (fun _ _ hk293 _ => wbuildSlice (c := [str ([97, 98, 65, 66])]) wfq279 rfl (buildSliceV_of u22 sz9 z9 rfl (by decide) (by decide) rfl) fun A295 b294 nb296 => ?_)
 have le315 := le292.trans nb296.le
 refine hk293 _ _ <| .on rfl rfl <| .q rfl (qbuild rfl (buildV_struct u24 z24 pl24 rfl)) <| .on rfl rfl <| .l rfl (fun _ _ hk316 _ => vcallF rfl (s_VeC (g := ((2 : Nat) : Int)) (by simp) (hL.le le315) (slc_row (n := 1) nb296.get rfl (Nat.le_refl _)) sane_9) ?_)
 rintro v317 A318 ⟨rfl, leq319, wfq319⟩
 have le333 := le315.trans leq319
 refine hk316 _ _ <| .on rfl rfl <| .q rfl (((qeqlN (a := 230) (b := 230) rfl rfl).trans (congrArg (fun z => some (Value.bool z, [])) (decide_eq_true rfl)))) <| .q rfl (qpickT rfl rfl) <| .q rfl (qassign rfl) <| .nil <| h258 _ _ <| .ret ?_
 repeat first | with_reducible refine thenQ_ret ?_ | with_reducible refine blockQ_ret ?_
 exact retQ rfl (⟨rfl, le333, wfq319⟩)
end Go.Proofs.YtaccklloepfemaaGreatDoor

namespace Go.Proofs.YtaccklloepfemaaGreatDoor
set_option linter.unusedVariables false
set_option linter.unusedSimpArgs false
open Go Go.RowKit V

/-! ### Reducing is the free group's equality -/
theorem push_back {s : List UInt8} (h : NC s) (c : UInt8) : push (push s (c ^^^ 32)) c = s := by
  by_cases q : 0 < s.length ∧ s.getD (s.length - 1) 0 = c ^^^ 32 ^^^ 32
  · have e : push s (c ^^^ 32) = s.take (s.length - 1) := by rw [push, if_pos q]
    rw [e]
    obtain ⟨q1, q2⟩ := q
    rw [flip_flip] at q2
    have hne : ¬ (0 < (s.take (s.length - 1)).length ∧ (s.take (s.length - 1)).getD ((s.take (s.length - 1)).length - 1) 0 = c ^^^ 32) := by
      rintro ⟨r1, r2⟩
      rw [List.length_take] at r1 r2
      rw [getD_take (by omega)] at r2
      have := h (s.length - 2) (by omega)
      rw [show s.length - 2 + 1 = s.length - 1 by omega, q2] at this
      rw [show min (s.length - 1) s.length - 1 = s.length - 2 by omega] at r2
      rw [r2, flip_flip] at this
      exact this rfl
    rw [push, if_neg hne, ← q2]
    have := take_next (s := s) (i := s.length - 1) (by omega)
    rw [this, show s.length - 1 + 1 = s.length by omega, List.take_length]
  · have e : push s (c ^^^ 32) = s ++ [c ^^^ 32] := by rw [push, if_neg q]
    rw [e, push, if_pos ⟨by simp, by rw [List.length_append, getD_right (by simp)]; simp⟩]
    simp
theorem push_pair {s : List UInt8} (h : NC s) (c : UInt8) : push (push s c) (c ^^^ 32) = s := by
  have := push_back h (c ^^^ 32)
  rwa [flip_flip] at this
theorem inv_cons (c : UInt8) (y : List UInt8) : inv (c :: y) = inv y ++ [c ^^^ 32] := by simp [inv]
theorem inv_app (a b : List UInt8) : inv (a ++ b) = inv b ++ inv a := by simp [inv]
theorem fold_inv : ∀ (x s : List UInt8), NC s → (inv x).foldl push (x.foldl push s) = s
  | [], s, _ => rfl
  | c :: y, s, h => by
    rw [inv_cons, List.foldl_append, show (c :: y).foldl push s = y.foldl push (push s c) from rfl, fold_inv y _ (h.pushC c)]
    exact push_pair h c
theorem fold_stack (s : List UInt8) (hs : NC s) : ∀ (b t : List UInt8), NC t → (b.foldl push t).foldl push s = b.foldl push (t.foldl push s)
  | [], _, _ => rfl
  | c :: b, t, ht => by
    rw [List.foldl_cons, List.foldl_cons, fold_stack s hs b _ (ht.pushC c)]
    congr 1
    by_cases q : 0 < t.length ∧ t.getD (t.length - 1) 0 = c ^^^ 32
    · have e : push t c = t.take (t.length - 1) := by rw [push, if_pos q]
      have e2 : t = t.take (t.length - 1) ++ [c ^^^ 32] := by
        have := take_next (s := t) (i := t.length - 1) (by omega)
        rw [q.2, show t.length - 1 + 1 = t.length by omega, List.take_length] at this
        exact this.symm
      rw [e]
      conv => rhs; rw [e2, List.foldl_append]
      exact (push_back (NC.ofFold _ _ hs) c).symm
    · have e : push t c = t ++ [c] := by rw [push, if_neg q]
      rw [e, List.foldl_append]; rfl
theorem nc_nil : NC [] := fun i hi => by simp at hi
theorem red_red (a : List UInt8) : red (red a) = red a := (NC.ofRed a).isRed
/-- Words that are equal in the free group. -/
def E (a b : List UInt8) : Prop := red a = red b
theorem E.rf (a : List UInt8) : E a a := rfl
theorem E.of {a b : List UInt8} (h : a = b) : E a b := by rw [h]; rfl
theorem E.sm {a b : List UInt8} (h : E a b) : E b a := Eq.symm h
theorem E.tr {a b c : List UInt8} (h : E a b) (k : E b c) : E a c := Eq.trans h k
theorem E.ofRed (a : List UInt8) : E (red a) a := red_red a
theorem red_app (a b : List UInt8) : red (a ++ b) = b.foldl push (red a) := by simp [red]
theorem red_both (a b : List UInt8) : red (a ++ b) = (red b).foldl push (red a) := by
  rw [red_app]
  exact (fold_stack (red a) (NC.ofRed a) b [] nc_nil).symm
theorem E.app {a a' b b' : List UInt8} (h : E a a') (k : E b b') : E (a ++ b) (a' ++ b') := by
  unfold E at h k ⊢
  rw [red_both, red_both, h, k]
theorem E.cancel (x : List UInt8) : E (x ++ inv x) [] := by
  show red (x ++ inv x) = red []
  rw [red_app]
  exact fold_inv x [] nc_nil
theorem E.cancel2 (x : List UInt8) : E (inv x ++ x) [] := by
  have := E.cancel (inv x)
  rwa [inv_twice] at this
theorem E.mid (a x b : List UInt8) : E (a ++ x ++ inv x ++ b) (a ++ b) := by
  have := ((E.rf a).app (E.cancel x)).app (E.rf b)
  simpa only [List.append_assoc, List.nil_append] using this
theorem E.mid2 (a x b : List UInt8) : E (a ++ inv x ++ x ++ b) (a ++ b) := by
  have := ((E.rf a).app (E.cancel2 x)).app (E.rf b)
  simpa only [List.append_assoc, List.nil_append] using this
theorem E.ofInv {a b : List UInt8} (h : E a b) : E (inv a) (inv b) := by
  have h1 : E (inv a ++ b ++ inv b) (inv a) := by
    have := E.mid (inv a) b []
    simpa only [List.append_nil] using this
  have h2 : E (inv a ++ b ++ inv b) (inv a ++ a ++ inv b) := ((E.rf _).app h.sm).app (E.rf _)
  have h3 : E (inv a ++ a ++ inv b) (inv b) := by
    have := E.mid2 [] a (inv b)
    simpa only [List.nil_append] using this
  exact h1.sm.tr (h2.tr h3)

/-! ### The words of the rules as conjugates of relators -/
theorem word_parts {r : List UInt8} (h : red r = r) : r = conj r ++ core r ++ inv (conj r) := by
  have hc := cycN_half r
  unfold conj core
  rw [h]
  have e1 : r = r.take (cycN r) ++ (r.drop (cycN r)) := (List.take_append_drop _ _).symm
  have e2 : r.drop (cycN r) = ((r.take (r.length - cycN r)).drop (cycN r)) ++ r.drop (r.length - cycN r) := by
    have := List.take_append_drop (r.length - 2 * cycN r) (r.drop (cycN r))
    rw [List.drop_drop, List.take_drop] at this
    rw [← this]
    congr 2
    · congr 1; omega
    · congr 1; omega
  have e3 : inv (r.take (cycN r)) = r.drop (r.length - cycN r) := by
    apply List.ext_getElem?
    intro i
    by_cases hi : i < cycN r
    · have hl : (inv (r.take (cycN r))).length = cycN r := by rw [inv_length, List.length_take]; omega
      have hp := lf_all (p := fun n => decide (2 * n + 2 ≤ r.length ∧ r.getD n 0 = r.getD (r.length - 1 - n) 0 ^^^ 32)) (b := r.length) (i := cycN r - 1 - i) (by unfold cycN at hi ⊢; omega)
      simp only [decide_eq_true_eq] at hp
      have g1 := inv_get (w := r.take (cycN r)) (i := i) (by rw [List.length_take]; omega)
      rw [List.length_take, getD_take (by omega), show min (cycN r) r.length - 1 - i = cycN r - 1 - i by omega, hp.2, flip_flip] at g1
      have g2 : (r.drop (r.length - cycN r)).getD i 0 = r.getD (r.length - 1 - (cycN r - 1 - i)) 0 := by
        rw [getD_drop]; congr 1; omega
      have g3 := g1.trans g2.symm
      have l2 : i < (r.drop (r.length - cycN r)).length := by rw [List.length_drop]; omega
      simp only [List.getD_eq_getElem?_getD, List.getElem?_eq_getElem (show i < (inv (r.take (cycN r))).length by omega), List.getElem?_eq_getElem l2, Option.getD_some] at g3
      rw [List.getElem?_eq_getElem (by omega), List.getElem?_eq_getElem l2, g3]
    · rw [List.getElem?_eq_none (by rw [inv_length, List.length_take]; omega), List.getElem?_eq_none (by rw [List.length_drop]; omega)]
  rw [e3, List.append_assoc, ← e2]
  exact e1
def relOf (l : List (List UInt8)) (i : Nat) (iv : Bool) : List UInt8 := if iv then inv (l.getD i []) else l.getD i []
def RotOk (g : Int) (l : List (List UInt8)) (x : Rot) : Prop := x.r < l.length ∧ E x.w (x.c ++ relOf l x.r x.i ++ inv x.c) ∧ x.c.all (okc g) = true ∧ x.w.all (okc g) = true
theorem okc_flipg (g : Int) {c : UInt8} (h : okc g c = true) : okc g (c ^^^ 32) = true := by
  have key : ∀ c : UInt8, 0 ≤ ix c → 0 ≤ ix (c ^^^ 32) ∧ ix (c ^^^ 32) / 2 = ix c / 2 := all_u8 (by decide +kernel)
  simp only [okc, Bool.and_eq_true, decide_eq_true_eq] at h ⊢
  have := key c h.1
  omega
theorem all_sub {g : Int} {a b : List UInt8} (h : b.all (okc g) = true) (hs : ∀ c ∈ a, c ∈ b) : a.all (okc g) = true := by
  rw [List.all_eq_true] at h ⊢
  exact fun c hc => h c (hs c hc)
theorem all_inv {g : Int} {a : List UInt8} (h : a.all (okc g) = true) : (inv a).all (okc g) = true := by
  rw [List.all_eq_true] at h ⊢
  intro c hc
  simp only [inv, List.mem_reverse, List.mem_map] at hc
  obtain ⟨d, hd, rfl⟩ := hc
  exact okc_flipg g (h d hd)
theorem all_winv {g : Int} {a : List UInt8} (h : a.all (okc g) = true) : (wInverse a).all (okc g) = true := by
  unfold wInverse; split
  · exact all_inv h
  · rfl
theorem all_wred {g : Int} {a : List UInt8} (h : a.all (okc g) = true) : (wReduce a).all (okc g) = true := by
  unfold wReduce; split
  · exact all_sub h red_sub
  · rfl
theorem all_app {g : Int} {a b : List UInt8} (ha : a.all (okc g) = true) (hb : b.all (okc g) = true) : (a ++ b).all (okc g) = true := by
  rw [List.all_append, ha, hb]; rfl
theorem mkR_rel {g : Int} {l : List (List UInt8)} {i j : Nat} {iv : Bool} {r : List UInt8} (hi : i < l.length) (hr : relOf l i iv = r) (hn : red r = r) (hw : isw r = true) (ha : r.all (okc g) = true) (hl : r.length ≤ 200) :
    RotOk g l (mkR i iv (wCore r) (wConj r) j) := by
  have e1 : wCore r = core r := by rw [wCore, if_pos hw]
  have e2 : wConj r = conj r := by rw [wConj, if_pos hw]
  have hp := word_parts hn
  have hcl := core_length r
  have hsub : ∀ c ∈ core r, c ∈ r := fun c hc => by rw [hp]; simp [hc]
  have hsubc : ∀ c ∈ conj r, c ∈ r := fun c hc => by rw [hp]; simp [hc]
  have hjl : (conj r).length ≤ r.length := by
    have := congrArg List.length hp
    simp only [List.length_append] at this; omega
  have w1 : isw ((core r).take j) = true := isw_sub hw (fun c hc => hsub c (List.mem_of_mem_take hc)) (by rw [List.length_take]; omega)
  have w2 : isw (conj r) = true := isw_sub hw hsubc hjl
  have e3 : (mkR i iv (wCore r) (wConj r) j).c = red (inv ((core r).take j) ++ inv (conj r)) := by
    show wReduce (wInverse ((wCore r).take j) ++ wInverse (wConj r)) = _
    rw [e1, e2, wInverse, if_pos w1, wInverse, if_pos w2, wReduce, if_pos]
    exact isw_app (isw_inv w1) (isw_inv w2) (by rw [inv_length, inv_length, List.length_take]; omega)
  have e4 : (mkR i iv (wCore r) (wConj r) j).w = (core r).drop j ++ (core r).take j := by
    show (wCore r).drop j ++ (wCore r).take j = _
    rw [e1]
  refine ⟨hi, ?_, ?_, ?_⟩
  · show E (mkR i iv (wCore r) (wConj r) j).w ((mkR i iv (wCore r) (wConj r) j).c ++ relOf l i iv ++ inv (mkR i iv (wCore r) (wConj r) j).c)
    rw [e3, e4, hr]
    have hc : E (red (inv ((core r).take j) ++ inv (conj r))) (inv ((core r).take j) ++ inv (conj r)) := E.ofRed _
    have hci := hc.ofInv
    rw [inv_app (inv ((core r).take j)), inv_twice, inv_twice] at hci
    refine E.sm (((hc.app (E.rf r)).app hci).tr ?_)
    have hs : (core r).take j ++ (core r).drop j = core r := List.take_append_drop _ _
    have step1 : E (inv ((core r).take j) ++ inv (conj r) ++ r ++ (conj r ++ (core r).take j)) (inv ((core r).take j) ++ core r ++ (core r).take j) := by
      have a1 := E.mid2 (inv ((core r).take j)) (conj r) (core r ++ inv (conj r) ++ conj r ++ (core r).take j)
      have a2 := E.mid2 (inv ((core r).take j) ++ core r) (conj r) ((core r).take j)
      refine E.tr (E.of ?_) (a1.tr (E.tr (E.of ?_) a2))
      · refine (congrArg (fun z => inv ((core r).take j) ++ inv (conj r) ++ z ++ (conj r ++ (core r).take j)) hp).trans ?_
        simp only [List.append_assoc]
      · simp only [List.append_assoc]
    refine step1.tr ?_
    have a3 := E.mid2 [] ((core r).take j) ((core r).drop j ++ (core r).take j)
    refine E.tr (E.of ?_) a3
    refine (congrArg (fun z => inv ((core r).take j) ++ z ++ (core r).take j) hs.symm).trans ?_
    simp only [List.append_assoc, List.nil_append]
  · rw [e3]
    exact all_sub (all_app (all_inv (all_sub ha fun c hc => hsub c (List.mem_of_mem_take hc))) (all_inv (all_sub ha hsubc))) red_sub
  · rw [e4]
    exact all_sub ha fun c hc => (List.mem_append.1 hc).elim (fun q => hsub c (List.mem_of_mem_drop q)) (fun q => hsub c (List.mem_of_mem_take q))
theorem all_wcheck {g : Int} {w : List UInt8} (h : wcheck g w = 0) : (1 ≤ g ∧ g ≤ 8) ∧ w.length ≤ 100000 ∧ w.all (okc g) = true := by
  unfold wcheck at h
  split at h
  · cases h
  · split at h
    · cases h
    · split at h
      · rename_i h1 h2 h3; exact ⟨by omega, by omega, h3⟩
      · cases h
theorem wcheck_all {g : Int} {w : List UInt8} (hg : 1 ≤ g ∧ g ≤ 8) (hl : w.length ≤ 100000) (h : w.all (okc g) = true) : wcheck g w = 0 := by
  unfold wcheck
  rw [if_neg (by omega), if_neg (by omega), if_pos h]
theorem allR_rel {g : Int} {l : List (List UInt8)} (hp : pcheck g l = 0) : ∀ x ∈ allR l, RotOk g l x := by
  have hz := pcheck_zero hp
  have key : ∀ n, n ≤ l.length → ∀ x ∈ (List.range n).foldl (addR l) [], RotOk g l x := by
    intro n
    induction n with
    | zero => intro _ x hx; cases hx
    | succ n ih =>
      intro hn x hx
      rw [List.range_succ, List.foldl_append] at hx
      obtain ⟨h200, hb⟩ := hz.2.2 _ (getD_mem (d := []) (show n < l.length by omega))
      obtain ⟨_, b2, b3⟩ := badRel_good hb
      have hi := isw_of hz.1.2 b2
      have ha := (all_wcheck b2).2.2
      have e2 : wOf (l.getD n []) true = inv (l.getD n []) := by rw [wOf, if_pos rfl, wInverse, if_pos hi]
      have hx : x ∈ addV n (l.getD n []) (addV n (l.getD n []) ((List.range n).foldl (addR l) []) false) true := hx
      refine addJ_all (p := RotOk g l) (addJ_all (p := RotOk g l) (ih (by omega)) _ fun j _ => ?_) _ (fun j _ => ?_) x hx
      · exact mkR_rel (by omega) rfl b3 hi ha h200
      · rw [e2]
        exact mkR_rel (by omega) (by rw [relOf, if_pos rfl]) (((NC.iff _).2 b3).ofInv).isRed (isw_inv hi) (all_inv ha) (by rw [inv_length]; exact h200)
  exact key l.length (Nat.le_refl _)
theorem SOk.rel {g : Int} {l : List (List UInt8)} (hp : pcheck g l = 0) {S : RS} (hS : SOk l S) : ∀ x ∈ S.list, RotOk g l x := fun x hx => allR_rel hp x (hS.2.1.mem_iff.1 hx)

/-! ### The disk -/
theorem bnds_red (l : List (List UInt8)) (d : List DCell) : bnds l d = red (d.flatMap (cword l)) := by
  unfold bnds red
  rw [List.foldl_flatMap]; rfl
theorem bnds_snoc (l : List (List UInt8)) (d : List DCell) (c : DCell) : E (bnds l (d ++ [c])) (bnds l d ++ cword l c) := by
  rw [bnds_red, bnds_red, List.flatMap_append]
  refine (E.ofRed _).tr ?_
  simp only [List.flatMap_cons, List.flatMap_nil, List.append_nil]
  exact (E.ofRed _).sm.app (E.rf _)
section
variable {g : Int} {l : List (List UInt8)} {L : List Rot} {m : Nat}
theorem cell_word (hL : ∀ x ∈ L, RotOk g l x) (hw : ∀ x ∈ L, isw x.w = true ∧ x.w.length ≤ 200 ∧ isw x.c = true ∧ x.c.length ≤ 1000) {cur : List UInt8} {p : Nat} (hl : cur.length ≤ 6000) (hi : isw cur = true) (hn : NC cur) (hp : p < cur.length) (h : 0 ≤ (longF L (cur.drop p)).1) :
    E (cword l (repC cur p (L.getD (longF L (cur.drop p)).1.toNat .zero)) ++ (repl cur p (L.getD (longF L (cur.drop p)).1.toNat .zero)).1) cur := by
  obtain ⟨g1, g2, _⟩ := longF_pos h
  have hx := getD_mem (d := Rot.zero) g1
  have hxw := hw _ hx
  have hxr := hL _ hx
  generalize L.getD (longF L (cur.drop p)).1.toNat .zero = x at g2 hxw hxr ⊢
  have hpt := part_take (s := cur.drop p) (x := x.w)
  have hnl := repN_le cur p x
  have hnn : repN cur p x = cmn (cur.drop p) x.w := rfl
  rw [← hnn] at hpt
  -- the parts of cur
  have hxn : x.w.take (repN cur p x) = (cur.drop p).take (repN cur p x) := by
    obtain ⟨t, ht⟩ := hpt
    have hlen : ((cur.drop p).take (repN cur p x)).length = repN cur p x := by rw [List.length_take, List.length_drop]; omega
    rw [← ht, List.take_append_of_le_length (by omega), List.take_of_length_le (by omega)]
  have hcur : cur = cur.take p ++ x.w.take (repN cur p x) ++ cur.drop (p + repN cur p x) := by
    rw [hxn, List.append_assoc, ← List.drop_drop, List.take_append_drop, List.take_append_drop]
  have e1 : (repl cur p x).1 = red (cur.take p ++ inv (x.w.drop (repN cur p x)) ++ cur.drop (p + repN cur p x)) := by
    unfold repl
    rw [putF_fst, putF_fst, wInverse, if_pos (isw_sub hxw.1 (fun c hc => List.mem_of_mem_drop hc) (by rw [List.length_drop]; omega)), red, List.foldl_append, List.foldl_append, hn.takeFold]
  have e2 : (repC cur p x).conj = red (cur.take p ++ x.c) := by
    show wReduce _ = _
    rw [wReduce, if_pos]
    exact isw_app (isw_sub hi (fun c hc => List.mem_of_mem_take hc) (by rw [List.length_take]; omega)) hxw.2.2.1 (by rw [List.length_take]; omega)
  have e3 : crel l (repC cur p x) = relOf l x.r x.i := rfl
  have hcj : E (repC cur p x).conj (cur.take p ++ x.c) := by rw [e2]; exact E.ofRed _
  have hcji := hcj.ofInv
  rw [inv_app] at hcji
  have hcw : E (cword l (repC cur p x)) (cur.take p ++ x.w ++ inv (cur.take p)) := by
    unfold cword
    rw [e3]
    refine ((hcj.app (E.rf _)).app hcji).tr ?_
    have := ((E.rf (cur.take p)).app hxr.2.1.sm).app (E.rf (inv (cur.take p)))
    refine E.tr (E.of ?_) this
    simp only [List.append_assoc]
  rw [e1]
  refine (hcw.app (E.ofRed _)).tr ?_
  have a1 := E.mid2 (cur.take p ++ x.w) (cur.take p) (inv (x.w.drop (repN cur p x)) ++ cur.drop (p + repN cur p x))
  have a2 := E.mid (cur.take p ++ x.w.take (repN cur p x)) (x.w.drop (repN cur p x)) (cur.drop (p + repN cur p x))
  refine E.tr (E.of ?_) (a1.tr (E.tr (E.of ?_) (a2.tr (E.of hcur.symm))))
  · simp only [List.append_assoc]
  · conv => lhs; rw [← List.take_append_drop (repN cur p x) x.w]
    simp only [List.append_assoc, List.take_append_drop]
theorem drun_disk (hL : ∀ x ∈ L, RotOk g l x) (hw : ∀ x ∈ L, isw x.w = true ∧ x.w.length ≤ 200 ∧ isw x.c = true ∧ x.c.length ≤ 1000) : ∀ (f : Nat) (cur : List UInt8) (d : List DCell) (p : Nat), cur.length ≤ 6000 → isw cur = true → NC cur → cur.all (okc g) = true →
    E (bnds l (drun L m f cur d p).2 ++ (drun L m f cur d p).1) (bnds l d ++ cur) ∧ (drun L m f cur d p).1.all (okc g) = true ∧ NC (drun L m f cur d p).1 ∧ ∀ c ∈ (drun L m f cur d p).2, c ∈ d ∨ (0 ≤ c.rel ∧ c.rel < l.length ∧ c.conj.all (okc g) = true)
  | 0, cur, d, p, _, _, hn, ha => ⟨E.rf _, ha, hn, fun c h => .inl h⟩
  | f + 1, cur, d, p, hl, hi, hn, ha => by
    rw [drun]
    by_cases hp : p < cur.length
    · rw [if_pos hp]
      by_cases h : 0 ≤ (longF L (cur.drop p)).1
      · rw [if_pos h]
        have hcell := cell_word hL hw hl hi hn hp h
        have hlt := repl_lt hp h
        obtain ⟨g1, _, _⟩ := longF_pos h
        have hx := getD_mem (d := Rot.zero) g1
        have hxw := hw _ hx
        have hxr := hL _ hx
        generalize L.getD (longF L (cur.drop p)).1.toNat .zero = x at hcell hlt hxw hxr ⊢
        have hNC : NC (repl cur p x).1 := by
          unfold repl
          rw [putF_fst, putF_fst]
          exact NC.ofFold _ _ (NC.ofFold _ _ (hn.take p))
        have hA : (repl cur p x).1.all (okc g) = true := by
          unfold repl
          rw [putF_fst, putF_fst, ← hn.takeFold p, ← List.foldl_append, ← List.foldl_append]
          exact all_sub (all_app (all_app (all_sub ha fun c hc => List.mem_of_mem_take hc) (all_winv (all_sub hxr.2.2.2 fun c hc => List.mem_of_mem_drop hc))) (all_sub ha fun c hc => List.mem_of_mem_drop hc)) (fun c hc => by simpa [List.append_assoc] using red_sub c hc)
        have hI : isw (repl cur p x).1 = true := by
          have h3 := wInverse_is (x.w.drop (repN cur p x))
          have h4 := wInverse_length (x.w.drop (repN cur p x))
          unfold repl
          rw [putF_fst, putF_fst, ← hn.takeFold p, ← List.foldl_append, ← List.foldl_append]
          have h5 := red_length (cur.take p ++ wInverse (x.w.drop (repN cur p x)) ++ cur.drop (p + repN cur p x))
          have := isw_sub (isw_app (isw_app (isw_sub hi (fun c hc => List.mem_of_mem_take hc) (by rw [List.length_take]; omega)) h3 (by rw [List.length_take]; rw [List.length_drop] at h4; omega)) (isw_sub hi (fun c hc => List.mem_of_mem_drop hc) (by rw [List.length_drop]; omega)) (by rw [List.length_append, List.length_take, List.length_drop]; rw [List.length_drop] at h4; omega)) red_sub h5
          simpa [red, List.append_assoc] using this
        obtain ⟨i1, i2, i3, i4⟩ := drun_disk hL hw f (repl cur p x).1 (d ++ [repC cur p x]) ((repl cur p x).2 - m) (by omega) hI hNC hA
        refine ⟨i1.tr ?_, i2, i3, fun c hc => ?_⟩
        · refine ((bnds_snoc l d (repC cur p x)).app (E.rf _)).tr ?_
          have := (E.rf (bnds l d)).app hcell
          refine E.tr (E.of ?_) this
          simp only [List.append_assoc]
        · rcases i4 c hc with q | q
          · rcases List.mem_append.1 q with q | q
            · exact .inl q
            · simp only [List.mem_singleton] at q
              subst q
              have h1 := hxr.1
              refine .inr ⟨by show (0 : Int) ≤ ((x.r : Nat) : Int); omega, by show ((x.r : Nat) : Int) < _; omega, ?_⟩
              exact all_wred (all_app (all_sub ha fun c hc => List.mem_of_mem_take hc) hxr.2.2.1)
          · exact .inr q
      · rw [if_neg h]; exact drun_disk hL hw f cur d (p + 1) hl hi hn ha
    · rw [if_neg hp]; exact ⟨E.rf _, ha, hn, fun c h => .inl h⟩
end
/-- What is so of the disk of a shortening. -/
theorem dsh_disk {g : Int} {l : List (List UInt8)} (hp : pcheck g l = 0) {S : RS} (hS : SOk l S) {w : List UInt8} (hw : wcheck g w = 0) (hl : w.length ≤ 6000) :
    E (bnds l (dsh S w).2 ++ (dsh S w).1) w ∧ (dsh S w).1.all (okc g) = true ∧ NC (dsh S w).1 ∧ ∀ c ∈ (dsh S w).2, 0 ≤ c.rel ∧ c.rel < l.length ∧ c.conj.all (okc g) = true := by
  have hz := pcheck_zero hp
  have hr := red_length w
  have hi := isw_of hz.1.2 hw
  obtain ⟨h1, h2, h3, h4⟩ := drun_disk (m := S.most) (hS.rel hp) (fun x hx => ⟨(hS.1.isw x hx).1, Nat.le_trans (hS.1.most x hx) hS.1.small.1, (hS.1.isw x hx).2.1, (hS.1.isw x hx).2.2⟩) (fuel (red w).length) (red w) [] 0 (by omega) (isw_sub hi red_sub hr) (NC.ofRed w) (all_sub (all_wcheck hw).2.2 red_sub)
  refine ⟨?_, h2, h3, fun c hc => (h4 c hc).elim (fun q => by cases q) id⟩
  refine E.tr h1 ?_
  have : bnds l [] ++ red w = red w := rfl
  rw [this]; exact E.ofRed w
theorem sh_proves4 {g : Int} {l : List (List UInt8)} {w : List UInt8} (ha : rasked g l w = 0) {S : RS} (hS : SOk l S) (h60 : w.length ≤ 400) :
    proves g l (dsh S w).2 (w ++ inv (dsh S w).1) = 0 := by
  have ha' : ¬ ¬ rasked g l w = 0 := fun q => q ha
  have hp := rasked_pres ha'
  have hz := pcheck_zero hp
  have hw := (rasked_word ha').1
  obtain ⟨h1, h2, h3, h4⟩ := dsh_disk hp hS hw (by omega)
  obtain ⟨k1, k2, k3⟩ := dsh_all hS.1 (w := w) (by omega)
  have hlight := light4 hS.1 h60
  unfold Heavy at hlight
  have hwc : wcheck g (w ++ inv (dsh S w).1) = 0 := wcheck_all hz.1 (by rw [List.length_append, inv_length]; omega) (all_app (all_wcheck hw).2.2 (all_inv h2))
  have hdisk : isDisk g l (dsh S w).2 = true := by
    simp only [isDisk, Bool.and_eq_true, decide_eq_true_eq, List.all_eq_true]
    refine ⟨⟨fun c hc => ?_, by omega⟩, by omega⟩
    obtain ⟨q1, q2, q3⟩ := h4 c hc
    have := k3 c hc
    simp only [okCell, Bool.and_eq_true, decide_eq_true_eq]
    exact ⟨⟨q1, q2⟩, wcheck_all hz.1 (by omega) q3⟩
  have hchk : chk g l [w ++ inv (dsh S w).1] [(dsh S w).2] = 0 := by
    unfold chk
    rw [if_neg (fun q => q hp), if_neg (by simp [hwc]), if_neg (by simp [hdisk])]
  have hb : bnds l (dsh S w).2 = red (w ++ inv (dsh S w).1) := by
    have a1 := E.mid (bnds l (dsh S w).2) (dsh S w).1 []
    simp only [List.append_nil] at a1
    have a2 : E (bnds l (dsh S w).2) (w ++ inv (dsh S w).1) := a1.sm.tr (h1.app (E.rf _))
    have a3 : red (bnds l (dsh S w).2) = bnds l (dsh S w).2 := by rw [bnds_red]; exact red_red _
    rw [← a3]; exact a2
  unfold proves
  rw [if_neg (fun q => q hchk), if_neg (fun q => q hb)]
/-- A word that is shortened is stuck. -/
theorem rshort_stuck {l : List (List UInt8)} : ∀ (f : Nat) (x : List UInt8) (n : Nat), x.length < f → (rlong l (rshort l f x n).1).pi = false
  | 0, _, _, h => by omega
  | f + 1, x, n, h => by
    by_cases q : (rlong l x).pi = true
    · rw [rshort, if_pos q]
      exact rshort_stuck f _ _ (by have := rnext_length q; omega)
    · rw [rshort, if_neg q]; simpa using q
theorem sh_stuck4 {g : Int} {l : List (List UInt8)} {w : List UInt8} (ha : rasked g l w = 0) {S : RS} (hS : SOk l S) (h60 : w.length ≤ 400) : rStuck g l (dsh S w).1 = (true, 0) := by
  have ha' : ¬ ¬ rasked g l w = 0 := fun q => q ha
  have hp := rasked_pres ha'
  have hz := pcheck_zero hp
  have hw := (rasked_word ha').1
  obtain ⟨_, h2, h3, _⟩ := dsh_disk hp hS hw (by omega)
  obtain ⟨k1, _, _⟩ := dsh_all hS.1 (w := w) (by omega)
  have hwv : wcheck g (dsh S w).1 = 0 := wcheck_all hz.1 (by omega) h2
  have hav : rasked g l (dsh S w).1 = 0 := by
    unfold rasked
    rw [if_neg (fun q => q hp), if_neg (fun q => q hwv), if_neg (by omega)]
  have hiv := isw_of hz.1.2 hwv
  have e : wReduce (dsh S w).1 = (dsh S w).1 := by rw [wReduce, if_pos hiv]; exact h3.isRed
  have key := dsh_rshorten hp hS (isw_asked ha') (by omega)
  unfold rStuck
  rw [if_neg (fun q => q hav), e, decide_eq_true rfl, Bool.true_and]
  have : (rlong (symm l) (dsh S w).1).pi = false := by
    rw [key.1]
    exact rshort_stuck _ _ _ (by omega)
  rw [this]; rfl
end Go.Proofs.YtaccklloepfemaaGreatDoor

namespace Go.Proofs.YtaccklloepfemaaGreatDoor
set_option linter.unusedVariables false
set_option linter.unusedSimpArgs false
namespace Green

/-- The inverse of a word. -/
def winv {α : Type} (iv : α → α) (w : List α) : List α := (w.map iv).reverse

/-- Letters with inverses, and a set of words that is closed under rotation and inverses. -/
structure Sys {α : Type} (iv : α → α) (R : List α → Prop) : Prop where
  two : ∀ a, iv (iv a) = a
  ne : ∀ a, iv a ≠ a
  rot : ∀ a t, R (a :: t) → R (t ++ [a])
  inv : ∀ w, R w → R (winv iv w)
  some : ¬ R []
  red : ∀ a b t, R (a :: b :: t) → b ≠ iv a

/-- Diagrams of a word with so many cells, seen from its first letter. -/
inductive Dia {α : Type} (iv : α → α) (R : List α → Prop) : List α → Nat → Prop
  | nil : Dia iv R [] 0
  | pair {a : α} {u v : List α} {m n : Nat} : Dia iv R u m → Dia iv R v n → Dia iv R (a :: (u ++ iv a :: v)) (m + n)
  | face {a : α} {t w : List α} {n : Nat} : R (a :: t) → Dia iv R (winv iv t ++ w) n → Dia iv R (a :: w) (n + 1)

section
variable {α : Type} {iv : α → α} {R : List α → Prop}

@[simp] theorem winv_nil : winv iv ([] : List α) = [] := rfl
@[simp] theorem winv_append (u v : List α) : winv iv (u ++ v) = winv iv v ++ winv iv u := by simp [winv]
@[simp] theorem winv_cons (a : α) (v : List α) : winv iv (a :: v) = winv iv v ++ [iv a] := by simp [winv]
@[simp] theorem winv_length (v : List α) : (winv iv v).length = v.length := by simp [winv]
theorem winv_two (S : Sys iv R) (v : List α) : winv iv (winv iv v) = v := by
  induction v with
  | nil => rfl
  | cons a v ih => simp [ih, S.two]
theorem R_rots (S : Sys iv R) : ∀ (x y : List α), R (x ++ y) → R (y ++ x)
  | [], y, h => by simpa using h
  | a :: x, y, h => by
    have := S.rot a (x ++ y) h
    have := R_rots S x (y ++ [a]) (by simpa using this)
    simpa using this

theorem Dia.concat {u v : List α} {m n : Nat} (h : Dia iv R u m) (k : Dia iv R v n) : Dia iv R (u ++ v) (m + n) := by
  induction h with
  | nil => simpa using k
  | @pair a u1 v1 m1 n1 h1 h2 _ ih =>
    have := Dia.pair (a := a) h1 ih
    simpa [Nat.add_assoc] using this
  | @face a t w n1 hr _ ih =>
    have : Dia iv R (a :: (w ++ v)) (n1 + n + 1) := Dia.face hr (by simpa using ih)
    have e : n1 + 1 + n = n1 + n + 1 := by omega
    rw [e]; simpa using this

theorem Dia.ins' {u : List α} {m : Nat} (hu : Dia iv R u m) {w : List α} {n : Nat} (h : Dia iv R w n) : ∀ x y, w = x ++ y → Dia iv R (x ++ (u ++ y)) (n + m) := by
  induction h with
  | nil =>
    intro x y e
    have := List.append_eq_nil_iff.1 e.symm
    rw [this.1, this.2]; simpa using hu
  | @pair a u1 v1 m1 n1 h1 h2 ih1 ih2 =>
    intro x y e
    cases x with
    | nil =>
      simp only [List.nil_append] at e ⊢
      rw [← e, Nat.add_comm]; exact hu.concat (Dia.pair h1 h2)
    | cons b x =>
      injection e with e1 e2
      subst e1
      rcases List.append_eq_append_iff.1 e2 with ⟨z, rfl, e3⟩ | ⟨z, rfl, e3⟩
      · cases z with
        | nil =>
          simp only [List.nil_append] at e3
          subst e3
          have := Dia.pair (a := a) (ih1 u1 [] (by simp)) h2
          have e : m1 + n1 + m = m1 + m + n1 := by omega
          rw [e]; simpa using this
        | cons c z =>
          injection e3 with e3 e4
          subst e3 e4
          have := Dia.pair (a := a) h1 (ih2 z y rfl)
          have e : m1 + n1 + m = m1 + (n1 + m) := by omega
          rw [e]; simpa using this
      · subst e3
        have := Dia.pair (a := a) (ih1 x z rfl) h2
        have e : m1 + n1 + m = m1 + m + n1 := by omega
        rw [e]; simpa using this
  | @face a t w n1 hr h ih =>
    intro x y e
    cases x with
    | nil =>
      simp only [List.nil_append] at e ⊢
      rw [← e, Nat.add_comm]; exact hu.concat (Dia.face hr h)
    | cons b x =>
      injection e with e1 e2
      subst e1 e2
      have := Dia.face hr (w := x ++ (u ++ y)) (by simpa using ih (winv iv t ++ x) y (by simp))
      have e : n1 + 1 + m = n1 + m + 1 := by omega
      rw [e]; simpa using this
theorem Dia.ins {u x y : List α} {m n : Nat} (h : Dia iv R (x ++ y) n) (hu : Dia iv R u m) : Dia iv R (x ++ (u ++ y)) (n + m) := Dia.ins' hu h x y rfl

theorem Dia.two {a : α} : Dia iv R [a, iv a] 0 := Dia.pair (u := []) (v := []) Dia.nil Dia.nil
theorem Dia.spur {x y : List α} {a : α} {n : Nat} (h : Dia iv R (x ++ y) n) : Dia iv R (x ++ a :: iv a :: y) n := by
  simpa using h.ins (Dia.two (a := a))
theorem Dia.conj {u : List α} {m : Nat} (h : Dia iv R u m) : ∀ c : List α, Dia iv R (c ++ (u ++ winv iv c)) m
  | [] => by simpa using h
  | a :: c => by simpa using Dia.pair (a := a) (h.conj c) Dia.nil
/-- What holds for all sizes below: rotation, and cells anywhere. -/
def RotN (iv : α → α) (R : List α → Prop) (n : Nat) : Prop := ∀ a w, Dia iv R (a :: w) n → Dia iv R (w ++ [a]) n
def FaceN (iv : α → α) (R : List α → Prop) (n : Nat) : Prop := ∀ a t x y, R (a :: t) → Dia iv R (x ++ (winv iv t ++ y)) n → Dia iv R (x ++ a :: y) (n + 1)

theorem rots {n : Nat} (h : RotN iv R n) : ∀ x y, Dia iv R (x ++ y) n → Dia iv R (y ++ x) n
  | [], y, k => by simpa using k
  | a :: x, y, k => by
    have := rots h x (y ++ [a]) (by simpa using h a (x ++ y) k)
    simpa using this

theorem rotN_step (S : Sys iv R) {n : Nat} (hr : ∀ m, m < n → RotN iv R m) (hf : ∀ m, m < n → FaceN iv R m) : RotN iv R n := by
  intro a w h
  cases h with
  | @pair a u v m1 m2 h1 h2 =>
    have := h1.concat (Dia.pair (a := iv a) h2 Dia.nil)
    simpa [S.two] using this
  | @face a t w k hR h =>
    have := rots (hr k (by omega)) _ _ h
    have := hf k (by omega) a t w [] hR (by simpa using this)
    exact this

theorem faceN_step (S : Sys iv R) {n : Nat} (hr : ∀ m, m ≤ n → RotN iv R m) (hf : ∀ m, m < n → FaceN iv R m) : FaceN iv R n := by
  intro a t x y hR h
  have key : ∀ (k : Nat) (x y : List α) (n' : Nat), x.length ≤ k → n' ≤ n → Dia iv R (x ++ (winv iv t ++ y)) n' → Dia iv R (x ++ a :: y) (n' + 1) := by
    intro k
    induction k with
    | zero =>
      intro x y n' hx _ h
      have : x = [] := List.eq_nil_of_length_eq_zero (by omega)
      subst this
      exact Dia.face hR (by simpa using h)
    | succ k ih =>
      intro x y n' hx hn h
      cases x with
      | nil => exact Dia.face hR (by simpa using h)
      | cons a0 x =>
        simp only [List.length_cons] at hx
        generalize e : a0 :: x ++ (winv iv t ++ y) = z at h
        cases h with
        | nil => cases e
        | @face b t0 w k' hR0 h0 =>
          injection e with e1 e2
          subst e1 e2
          have := hf k' (by omega) a t (winv iv t0 ++ x) y hR (by simpa using h0)
          exact Dia.face hR0 (by simpa using this)
        | @pair b u v m1 m2 h1 h2 =>
          injection e with e1 e2
          subst e1
          rcases List.append_eq_append_iff.1 e2 with ⟨z, rfl, e3⟩ | ⟨z, rfl, e3⟩
          · -- x = u prefix
            rcases List.append_eq_append_iff.1 e3 with ⟨z', rfl, e4⟩ | ⟨z', e4, e5⟩
            · -- z = winv t ++ z', y = z' ++ iv a0 :: v
              subst e4
              have := ih x z' m1 (by omega) (by omega) (by simpa using h1)
              have := Dia.pair (a := a0) this h2
              have e : m1 + m2 + 1 = m1 + 1 + m2 := by omega
              rw [e]; simpa using this
            · -- winv t = z ++ z', iv a0 :: v = z' ++ y
              cases z' with
              | nil =>
                simp only [List.append_nil, List.nil_append] at e4 e5
                subst e5
                have := ih x [] m1 (by omega) (by omega) (by rw [← e4] at h1; simpa using h1)
                have := Dia.pair (a := a0) this h2
                have e : m1 + m2 + 1 = m1 + 1 + m2 := by omega
                rw [e]; simpa using this
              | cons c q =>
                injection e5 with e5 e6
                subst e5 e6
                -- t = winv q ++ a0 :: winv z
                have et : t = winv iv q ++ a0 :: winv iv z := by
                  have := congrArg (winv iv) e4
                  rw [winv_two S] at this
                  simpa [S.two] using this
                have hR' : R (a0 :: (winv iv z ++ a :: winv iv q)) := by
                  have := R_rots S (a :: winv iv q) (a0 :: winv iv z) (by rw [et] at hR; simpa using hR)
                  simpa using this
                have hu : Dia iv R (z ++ x) m1 := rots (hr m1 (by omega)) _ _ h1
                have hc := Dia.pair (a := iv a) hu Dia.nil
                have := Dia.ins (x := q) (y := y) h2 hc
                have := Dia.face (iv := iv) (w := x ++ a :: y) hR' (n := m1 + m2) (by
                  have e : m1 + m2 = m2 + (m1 + 0) := by omega
                  rw [e]; simpa [winv_two S, S.two] using this)
                simpa using this
          · -- x = u ++ z, iv a0 :: v = z ++ ..
            cases z with
            | nil =>
              simp only [List.nil_append] at e3
              -- winv t ++ y = iv a0 :: v
              simp only [List.append_nil] at hx ⊢
              cases ht : winv iv t with
              | nil =>
                rw [ht] at e3
                simp only [List.nil_append] at e3
                subst e3
                have := ih u [] m1 (by omega) (by omega) (by simpa [ht] using h1)
                have := Dia.pair (a := a0) this h2
                have e : m1 + m2 + 1 = m1 + 1 + m2 := by omega
                rw [e]; simpa using this
              | cons c q =>
                rw [ht] at e3
                injection e3 with e5 e6
                subst e5 e6
                have et : t = winv iv q ++ a0 :: winv iv [] := by
                  have := congrArg (winv iv) ht
                  rw [winv_two S] at this
                  simpa [S.two] using this
                have hR' : R (a0 :: (a :: winv iv q)) := by
                  have := R_rots S (a :: winv iv q) (a0 :: []) (by rw [et] at hR; simpa using hR)
                  simpa using this
                have hc := Dia.pair (a := iv a) h1 Dia.nil
                have := Dia.ins (x := q) (y := y) h2 hc
                have := Dia.face (iv := iv) (w := u ++ a :: y) hR' (n := m1 + m2) (by
                  have e : m1 + m2 = m2 + (m1 + 0) := by omega
                  rw [e]; simpa [winv_two S, S.two] using this)
                simpa using this
            | cons c x2 =>
              injection e3 with e3 e4
              subst e3
              have := ih x2 y m2 (by simp at hx; omega) (by omega) (by subst e4; exact h2)
              have := Dia.pair (a := a0) h1 this
              rw [Nat.add_assoc]; simpa using this
  exact key x.length x y n (Nat.le_refl _) (Nat.le_refl _) h

theorem both (S : Sys iv R) (n : Nat) : RotN iv R n ∧ FaceN iv R n := by
  induction n using Nat.strongRecOn with
  | ind n ih =>
    have r := rotN_step S (fun m hm => (ih m hm).1) (fun m hm => (ih m hm).2)
    refine ⟨r, faceN_step S (fun m hm => ?_) (fun m hm => (ih m hm).2)⟩
    rcases Nat.lt_or_eq_of_le hm with h | h
    · exact (ih m h).1
    · rw [h]; exact r

theorem Dia.rot (S : Sys iv R) {x y : List α} {n : Nat} (h : Dia iv R (x ++ y) n) : Dia iv R (y ++ x) n := rots (both S n).1 x y h
theorem Dia.cell (S : Sys iv R) {a : α} {t x y : List α} {n : Nat} (hR : R (a :: t)) (h : Dia iv R (x ++ (winv iv t ++ y)) n) : Dia iv R (x ++ a :: y) (n + 1) := (both S n).2 a t x y hR h

/-- A pair of inverse letters at the end may be left out. -/
theorem Dia.delEnd (S : Sys iv R) (n : Nat) : ∀ (a : α) (y : List α), Dia iv R (y ++ [a, iv a]) n → ∃ m, m ≤ n ∧ Dia iv R y m := by
  induction n using Nat.strongRecOn with
  | ind n ihn =>
    have key : ∀ (k : Nat) (a : α) (y : List α) (n' : Nat), y.length ≤ k → n' ≤ n → Dia iv R (y ++ [a, iv a]) n' → ∃ m, m ≤ n' ∧ Dia iv R y m := by
      intro k
      induction k with
      | zero =>
        intro a y n' hy _ _
        have : y = [] := List.eq_nil_of_length_eq_zero (by omega)
        subst this
        exact ⟨0, Nat.zero_le _, Dia.nil⟩
      | succ k ih =>
        intro a y n' hy hn h
        cases y with
        | nil => exact ⟨0, Nat.zero_le _, Dia.nil⟩
        | cons c y =>
          simp only [List.length_cons] at hy
          generalize e : c :: y ++ [a, iv a] = z at h
          cases h with
          | nil => cases e
          | @face b t w k' hR0 h0 =>
            injection e with e1 e2
            subst e1 e2
            obtain ⟨m, hm, q⟩ := ihn k' (by omega) a (winv iv t ++ y) (by simpa using h0)
            exact ⟨m + 1, by omega, Dia.face hR0 q⟩
          | @pair b u v m1 m2 h1 h2 =>
            injection e with e1 e2
            subst e1
            rcases List.append_eq_append_iff.1 e2 with ⟨z, rfl, e3⟩ | ⟨z, rfl, e3⟩
            · cases z with
              | nil =>
                simp only [List.nil_append, List.cons.injEq] at e3
                obtain ⟨e4, e5⟩ := e3
                subst e5
                refine ⟨m2 + m1, by omega, ?_⟩
                have : iv a = c := by rw [e4, S.two]
                rw [this] at h2
                simpa using h2.concat h1
              | cons d z =>
                simp only [List.cons_append, List.cons.injEq] at e3
                obtain ⟨e4, e5⟩ := e3
                subst e4
                cases z with
                | nil =>
                  simp only [List.nil_append, List.cons.injEq] at e5
                  obtain ⟨e6, e7⟩ := e5
                  have : c = a := by have := congrArg iv e6; rw [S.two, S.two] at this; exact this.symm
                  subst this
                  exact ⟨m1, by omega, h1.rot S⟩
                | cons d' z =>
                  have := congrArg List.length e5
                  simp at this
            · cases z with
              | nil =>
                simp only [List.nil_append, List.cons.injEq] at e3
                obtain ⟨e4, e5⟩ := e3
                subst e5
                refine ⟨m2 + m1, by omega, ?_⟩
                have : iv a = c := by rw [← e4, S.two]
                rw [this] at h2
                simpa using h2.concat h1
              | cons d z =>
                injection e3 with e4 e5
                subst e4
                obtain ⟨m, hm, q⟩ := ih a z m2 (by simp at hy; omega) (by omega) (by subst e5; exact h2)
                exact ⟨m1 + m, by omega, Dia.pair h1 q⟩
    exact fun a y h => key y.length a y n (Nat.le_refl _) (Nat.le_refl _) h

theorem Dia.del (S : Sys iv R) {a : α} {x y : List α} {n : Nat} (h : Dia iv R (x ++ a :: iv a :: y) n) : ∃ m, m ≤ n ∧ Dia iv R (x ++ y) m := by
  have h1 : Dia iv R (y ++ (x ++ [a, iv a])) n := by
    have : Dia iv R ((x ++ [a, iv a]) ++ y) n := by simpa using h
    exact this.rot S
  obtain ⟨m, hm, q⟩ := Dia.delEnd S n a (y ++ x) (by simpa using h1)
  exact ⟨m, hm, q.rot S⟩

/-- A word and its inverse, side by side, may be left out. -/
theorem Dia.delw (S : Sys iv R) : ∀ (u : List α) {x y : List α} {n : Nat}, Dia iv R (x ++ (u ++ (winv iv u ++ y))) n → ∃ m, m ≤ n ∧ Dia iv R (x ++ y) m
  | [], x, y, n, h => ⟨n, Nat.le_refl _, by simpa using h⟩
  | a :: u, x, y, n, h => by
    obtain ⟨m, hm, q⟩ := Dia.delw S u (x := x ++ [a]) (y := iv a :: y) (by simpa using h)
    obtain ⟨m', hm', q'⟩ := Dia.del S (a := a) (x := x) (y := y) (by simpa using q)
    exact ⟨m', by omega, q'⟩
theorem Dia.delw' (S : Sys iv R) (u : List α) {x y : List α} {n : Nat} (h : Dia iv R (x ++ (winv iv u ++ (u ++ y))) n) : ∃ m, m ≤ n ∧ Dia iv R (x ++ y) m := by
  have := Dia.delw S (winv iv u) (x := x) (y := y) (n := n)
  rw [winv_two S] at this
  exact this h
theorem Dia.invw (S : Sys iv R) {w : List α} {n : Nat} (h : Dia iv R w n) : Dia iv R (winv iv w) n := by
  induction h with
  | nil => exact Dia.nil
  | @pair a u v m1 m2 _ _ ih1 ih2 =>
    have := ih2.concat (Dia.pair (a := a) ih1 Dia.nil)
    have e : m1 + m2 = m2 + (m1 + 0) := by omega
    rw [e]; simpa [S.two] using this
  | @face a t w n1 hR _ ih =>
    have hR' : R (iv a :: winv iv t) := by
      have := R_rots S (winv iv t) [iv a] (by simpa using S.inv _ hR)
      simpa using this
    have := Dia.cell S (x := winv iv w) (y := []) hR' (n := n1) (by simpa [winv_two S] using ih)
    simpa using this

/-- Words that have a diagram. -/
def T (iv : α → α) (R : List α → Prop) (w : List α) : Prop := ∃ n, Dia iv R w n

theorem T.nil : T iv R [] := ⟨0, Dia.nil⟩
theorem T.concat {u v : List α} : T iv R u → T iv R v → T iv R (u ++ v)
  | ⟨m, h⟩, ⟨n, k⟩ => ⟨m + n, h.concat k⟩
theorem T.ins {u x y : List α} : T iv R (x ++ y) → T iv R u → T iv R (x ++ (u ++ y))
  | ⟨m, h⟩, ⟨n, k⟩ => ⟨m + n, h.ins k⟩
theorem T.rot (S : Sys iv R) {x y : List α} : T iv R (x ++ y) → T iv R (y ++ x)
  | ⟨m, h⟩ => ⟨m, h.rot S⟩
theorem T.invw (S : Sys iv R) {x : List α} : T iv R x → T iv R (winv iv x)
  | ⟨m, h⟩ => ⟨m, h.invw S⟩
theorem T.delw (S : Sys iv R) {u x y : List α} : T iv R (x ++ (u ++ (winv iv u ++ y))) → T iv R (x ++ y)
  | ⟨m, h⟩ => let ⟨k, _, q⟩ := h.delw S; ⟨k, q⟩
theorem T.delw' (S : Sys iv R) {u x y : List α} : T iv R (x ++ (winv iv u ++ (u ++ y))) → T iv R (x ++ y)
  | ⟨m, h⟩ => let ⟨k, _, q⟩ := h.delw' S; ⟨k, q⟩
theorem T.insw (S : Sys iv R) {u x y : List α} (h : T iv R (x ++ y)) : T iv R (x ++ (u ++ (winv iv u ++ y))) := by
  have : T iv R (u ++ winv iv u) := ⟨0, by simpa using (Dia.nil (iv := iv) (R := R)).conj u⟩
  simpa using h.ins this
theorem T.cell (S : Sys iv R) {a : α} {t x y : List α} (hR : R (a :: t)) : T iv R (x ++ (winv iv t ++ y)) → T iv R (x ++ a :: y)
  | ⟨m, h⟩ => ⟨m + 1, h.cell S hR⟩
theorem T.rel (S : Sys iv R) {w : List α} (h : R w) : T iv R w := by
  cases w with
  | nil => exact absurd h S.some
  | cons a t =>
    have : T iv R (winv iv t ++ t) := by
      have := (T.nil (iv := iv) (R := R)).insw S (u := winv iv t) (x := []) (y := [])
      simpa [winv_two S] using this
    exact T.cell S (x := []) h this
theorem T.conj {u : List α} (c : List α) : T iv R u → T iv R (c ++ (u ++ winv iv c))
  | ⟨m, h⟩ => ⟨m, h.conj c⟩
/-- A trivial word within a trivial word may be left out. -/
theorem T.out (S : Sys iv R) {u x y : List α} (h : T iv R (x ++ (u ++ y))) (hu : T iv R u) : T iv R (x ++ y) := by
  have := T.ins (x := x ++ u) (y := y) (by simpa using h) (hu.invw S)
  exact T.delw S (u := u) (by simpa using this)

/-- A least diagram. -/
def Least (iv : α → α) (R : List α → Prop) (w : List α) (n : Nat) : Prop := Dia iv R w n ∧ ∀ m, Dia iv R w m → n ≤ m
theorem T.least {w : List α} (h : T iv R w) : ∃ n, Least iv R w n := by
  obtain ⟨n, h⟩ := h
  induction n using Nat.strongRecOn with
  | ind n ih =>
    by_cases q : ∃ m, m < n ∧ Dia iv R w m
    · obtain ⟨m, hm, q⟩ := q; exact ih m hm q
    · exact ⟨n, h, fun m hm => Nat.le_of_not_lt fun l => q ⟨m, l, hm⟩⟩

/-- Diagrams that are built up by spurs and cells. -/
inductive Bld (iv : α → α) (R : List α → Prop) : List α → Nat → Prop
  | nil : Bld iv R [] 0
  | spur {a : α} {x y : List α} {n : Nat} : Bld iv R (x ++ y) n → Bld iv R (x ++ a :: iv a :: y) n
  | cell {a : α} {t x y : List α} {n : Nat} : R (a :: t) → Bld iv R (x ++ (winv iv t ++ y)) n → Bld iv R (x ++ a :: y) (n + 1)

theorem Bld.ins {u x y : List α} {m n : Nat} (hu : Bld iv R u m) (h : Bld iv R (x ++ y) n) : Bld iv R (x ++ (u ++ y)) (n + m) := by
  induction hu with
  | nil => simpa using h
  | @spur a x1 y1 n1 _ ih =>
    have := Bld.spur (a := a) (x := x ++ x1) (y := y1 ++ y) (by simpa using ih)
    simpa using this
  | @cell a t x1 y1 n1 hR _ ih =>
    have := Bld.cell (x := x ++ x1) (y := y1 ++ y) hR (by simpa using ih)
    rw [← Nat.add_assoc]; simpa using this
theorem Dia.bld {w : List α} {n : Nat} (h : Dia iv R w n) : Bld iv R w n := by
  induction h with
  | nil => exact Bld.nil
  | @pair a u v m1 m2 _ _ ih1 ih2 =>
    have := Bld.ins (x := [a]) (y := iv a :: v) ih1 (Bld.spur (x := []) ih2)
    rw [Nat.add_comm]; simpa using this
  | @face a t w n1 hR _ ih => exact Bld.cell (x := []) hR ih
end
end Green
end Go.Proofs.YtaccklloepfemaaGreatDoor

namespace Go.Proofs.YtaccklloepfemaaGreatDoor
set_option linter.unusedVariables false
set_option linter.unusedSimpArgs false
namespace Green

/-- The dart against a dart. -/
def th (d : Nat) : Nat := if d % 2 = 0 then d + 1 else d - 1
theorem th_th (d : Nat) : th (th d) = d := by unfold th; split <;> split <;> omega
theorem th_ne (d : Nat) : th d ≠ d := by unfold th; split <;> omega
theorem th_lt {d E : Nat} : th d < 2 * E ↔ d < 2 * E := by unfold th; split <;> omega
theorem th_even (E : Nat) : th (2 * E) = 2 * E + 1 := by unfold th; split <;> omega
theorem th_odd (E : Nat) : th (2 * E + 1) = 2 * E := by unfold th; split <;> omega
theorem th_inj {d e : Nat} (h : th d = th e) : d = e := by rw [← th_th d, h, th_th]

/-- A path of darts. -/
def Pth (st : Nat → Nat) : Nat → List Nat → Nat → Prop
  | v, [], v' => v = v'
  | v, d :: l, v' => st d = v ∧ Pth st (st (th d)) l v'
theorem Pth.append {st : Nat → Nat} : ∀ {x y : List Nat} {v v' : Nat}, Pth st v (x ++ y) v' ↔ ∃ u, Pth st v x u ∧ Pth st u y v'
  | [], y, v, v' => by simp [Pth]
  | d :: x, y, v, v' => by simp [Pth, Pth.append, and_assoc]
theorem Pth.congr {st st' : Nat → Nat} : ∀ {l : List Nat} {v v' : Nat}, (∀ d ∈ l, st' d = st d ∧ st' (th d) = st (th d)) → Pth st v l v' → Pth st' v l v'
  | [], v, v', _, h => h
  | d :: l, v, v', e, h => by
    have := e d List.mem_cons_self
    exact ⟨by rw [this.1]; exact h.1, by rw [this.2]; exact Pth.congr (fun k hk => e k (List.mem_cons_of_mem _ hk)) h.2⟩

def up {β : Type} (f : Nat → β) (k : Nat) (x : β) : Nat → β := fun d => if d = k then x else f d
theorem up_ne {β : Type} {f : Nat → β} {k d : Nat} {x : β} (h : d ≠ k) : up f k x d = f d := if_neg h
@[simp] theorem up_same {β : Type} {f : Nat → β} {k : Nat} {x : β} : up f k x k = x := if_pos rfl

/-- A diagram of a word with so many cells, as a map. -/
structure Dg {α : Type} (iv : α → α) (R : List α → Prop) (w : List α) (n : Nat) where
  E : Nat
  V : Nat
  st : Nat → Nat
  lb : Nat → α
  O : List Nat
  Fs : List (List Nat)
  pot : Nat → List α
  dia : Dia iv R w n
  nodup : (O ++ Fs.flatten).Nodup
  all : ∀ d, d ∈ O ++ Fs.flatten ↔ d < 2 * E
  lab : O.map lb = w
  lbth : ∀ d, d < 2 * E → lb (th d) = iv (lb d)
  clO : Pth st 0 O 0
  clF : ∀ f ∈ Fs, ∃ v, Pth st v f v
  labF : ∀ f ∈ Fs, R (f.map lb)
  euler : V + Fs.length = E + 1
  cnt : Fs.length = n
  stlt : ∀ d, d < 2 * E → st d < V
  pos : 0 < V
  surj : ∀ v, v < V → v = 0 ∨ ∃ d, d < 2 * E ∧ st d = v
  potOK : ∀ d, d < 2 * E → T iv R (pot (st d) ++ lb d :: winv iv (pot (st (th d))))
  split : ∀ p b q s, O = p ++ b :: (q ++ th b :: s) → ∃ n1 n2, n1 + n2 ≤ n ∧ Dia iv R (q.map lb) n1 ∧ Dia iv R ((p ++ s).map lb) n2
  expose : ∀ p b q f u v, O = p ++ b :: q → f ∈ Fs → f = u ++ th b :: v → ∃ m, m + 1 ≤ n ∧ Dia iv R (p.map lb ++ ((v ++ u).map lb ++ q.map lb)) m
  reduced : ∀ f g u v u' v' d, f ∈ Fs → g ∈ Fs → f = u ++ d :: v → g = u' ++ th d :: v' → (v ++ u).map lb ≠ winv iv ((v' ++ u').map lb)

section
variable {α : Type} {iv : α → α} {R : List α → Prop}

theorem Dg.O_lt {w : List α} {n : Nat} (D : Dg iv R w n) {d : Nat} (h : d ∈ D.O) : d < 2 * D.E := (D.all d).1 (List.mem_append_left _ h)
theorem Dg.F_lt {w : List α} {n : Nat} (D : Dg iv R w n) {d : Nat} {f : List Nat} (hf : f ∈ D.Fs) (h : d ∈ f) : d < 2 * D.E :=
  (D.all d).1 (List.mem_append_right _ (List.mem_flatten.2 ⟨f, hf, h⟩))

theorem Dg.nil (a : α) : Nonempty (Dg iv R [] 0) :=
  ⟨{ E := 0, V := 1, st := fun _ => 0, lb := fun _ => a, O := [], Fs := [], pot := fun _ => [], dia := Dia.nil, nodup := by simp, all := by simp, lab := rfl, lbth := by simp, clO := rfl, clF := by simp, labF := by simp, euler := rfl, cnt := rfl, stlt := by simp, pos := by decide, surj := fun v h => .inl (by omega), potOK := by simp, split := by simp, expose := by simp, reduced := by simp }⟩

theorem Dg.alter {w : List α} {n : Nat} (D : Dg iv R w n) (st' : Nat → Nat) (lb' : Nat → α) (pot' : Nat → List α) (h1 : ∀ d, d < 2 * D.E → st' d = D.st d) (h2 : ∀ d, d < 2 * D.E → lb' d = D.lb d) (h3 : ∀ v, v < D.V → pot' v = D.pot v) :
    ∃ D' : Dg iv R w n, D'.E = D.E ∧ D'.V = D.V ∧ D'.O = D.O ∧ D'.Fs = D.Fs ∧ D'.st = st' ∧ D'.lb = lb' ∧ D'.pot = pot' := by
  have mp : ∀ l : List Nat, (∀ d ∈ l, d < 2 * D.E) → l.map lb' = l.map D.lb := fun l hl => List.map_congr_left fun d hd => h2 d (hl d hd)
  have pc : ∀ d, d < 2 * D.E → st' d = D.st d ∧ st' (th d) = D.st (th d) := fun d hd => ⟨h1 d hd, h1 _ (th_lt.2 hd)⟩
  refine ⟨{ E := D.E, V := D.V, st := st', lb := lb', O := D.O, Fs := D.Fs, pot := pot', dia := D.dia, nodup := D.nodup, all := D.all, lab := ?_, lbth := ?_, clO := ?_, clF := ?_, labF := ?_, euler := D.euler, cnt := D.cnt, stlt := ?_, pos := D.pos, surj := ?_, potOK := ?_, split := ?_, expose := ?_, reduced := ?_ }, rfl, rfl, rfl, rfl, rfl, rfl, rfl⟩
  · rw [mp _ fun d => D.O_lt]; exact D.lab
  · intro d hd; rw [h2 d hd, h2 _ (th_lt.2 hd)]; exact D.lbth d hd
  · exact Pth.congr (fun d hd => pc d (D.O_lt hd)) D.clO
  · intro f hf; obtain ⟨v, h⟩ := D.clF f hf; exact ⟨v, Pth.congr (fun d hd => pc d (D.F_lt hf hd)) h⟩
  · intro f hf; rw [mp _ fun d => D.F_lt hf]; exact D.labF f hf
  · intro d hd; rw [h1 d hd]; exact D.stlt d hd
  · intro v hv; rcases D.surj v hv with h | ⟨d, hd, h⟩
    · exact .inl h
    · exact .inr ⟨d, hd, by rw [h1 d hd]; exact h⟩
  · intro d hd; rw [h1 d hd, h1 _ (th_lt.2 hd), h2 d hd, h3 _ (D.stlt d hd), h3 _ (D.stlt _ (th_lt.2 hd))]; exact D.potOK d hd
  · intro p b q s e
    have hO : ∀ d ∈ p ++ b :: (q ++ th b :: s), d < 2 * D.E := fun d hd => D.O_lt (by rw [e]; exact hd)
    obtain ⟨n1, n2, h, k1, k2⟩ := D.split p b q s e
    refine ⟨n1, n2, h, ?_, ?_⟩
    · rw [mp q fun d hd => hO d (by simp [hd])]; exact k1
    · rw [mp (p ++ s) fun d hd => hO d (by rcases List.mem_append.1 hd with q | q <;> simp [q])]; exact k2
  · intro p b q f u v e hf ef
    have hO : ∀ d ∈ p ++ b :: q, d < 2 * D.E := fun d hd => D.O_lt (by rw [e]; exact hd)
    have hF : ∀ d ∈ u ++ th b :: v, d < 2 * D.E := fun d hd => D.F_lt hf (by rw [ef]; exact hd)
    rw [mp p fun d hd => hO d (by simp [hd]), mp q fun d hd => hO d (by simp [hd]), mp (v ++ u) fun d hd => hF d (by rcases List.mem_append.1 hd with q | q <;> simp [q])]
    exact D.expose p b q f u v e hf ef
  · intro f g u v u' v' d hf hg ef eg
    have hF : ∀ k ∈ u ++ d :: v, k < 2 * D.E := fun d hd => D.F_lt hf (by rw [ef]; exact hd)
    have hG : ∀ k ∈ u' ++ th d :: v', k < 2 * D.E := fun d hd => D.F_lt hg (by rw [eg]; exact hd)
    rw [mp (v ++ u) fun d hd => hF d (by rcases List.mem_append.1 hd with q | q <;> simp [q]), mp (v' ++ u') fun d hd => hG d (by rcases List.mem_append.1 hd with q | q <;> simp [q])]
    exact D.reduced f g u v u' v' d hf hg ef eg

theorem Dg.path {w : List α} {n : Nat} (S : Sys iv R) (D : Dg iv R w n) : ∀ {l : List Nat} {v v' : Nat}, Pth D.st v l v' → (∀ d ∈ l, d < 2 * D.E) → T iv R (D.pot v ++ (l.map D.lb ++ winv iv (D.pot v')))
  | [], v, v', h, _ => by
    have := (T.nil (iv := iv) (R := R)).insw S (u := D.pot v) (x := []) (y := [])
    simp only [Pth] at h
    simpa [h] using this
  | d :: l, v, v', h, hd => by
    have h1 := D.potOK d (hd d List.mem_cons_self)
    rw [h.1] at h1
    have h2 := D.path S h.2 (fun k hk => hd k (List.mem_cons_of_mem _ hk))
    have := T.delw' S (u := D.pot (D.st (th d))) (x := D.pot v ++ [D.lb d]) (y := l.map D.lb ++ winv iv (D.pot v')) (by simpa using h1.concat h2)
    simpa using this
/-- Closed paths are trivial. -/
theorem Dg.loop {w : List α} {n : Nat} (S : Sys iv R) (D : Dg iv R w n) {l : List Nat} {v : Nat} (h : Pth D.st v l v) (hd : ∀ d ∈ l, d < 2 * D.E) : T iv R (l.map D.lb) := by
  have h1 := D.path S h hd
  have h2 : T iv R (l.map D.lb ++ (winv iv (D.pot v) ++ D.pot v)) := by
    have := T.rot S (x := D.pot v) (y := l.map D.lb ++ winv iv (D.pot v)) h1
    simpa using this
  have := T.delw' S (u := D.pot v) (x := l.map D.lb) (y := []) (by simpa using h2)
  simpa using this

theorem mid_cases {X M Y p r : List Nat} {b : Nat} (h : X ++ (M ++ Y) = p ++ b :: r) (hb : b ∉ M) :
    (∃ X2, X = p ++ b :: X2 ∧ r = X2 ++ (M ++ Y)) ∨ (∃ Y1, Y = Y1 ++ b :: r ∧ p = X ++ (M ++ Y1)) := by
  rcases List.append_eq_append_iff.1 h with ⟨z, rfl, e⟩ | ⟨z, rfl, e⟩
  · rcases List.append_eq_append_iff.1 e with ⟨z', rfl, e'⟩ | ⟨z', rfl, e'⟩
    · exact .inr ⟨z', e', rfl⟩
    · cases z' with
      | nil => exact .inr ⟨[], by simpa using e'.symm, by simp⟩
      | cons c z' =>
        simp only [List.cons_append, List.cons.injEq] at e'
        exact absurd (by rw [e'.1]; simp) hb
  · cases z with
    | nil =>
      cases M with
      | nil => exact .inr ⟨[], by simpa using e.symm, by simp⟩
      | cons c M =>
        simp only [List.nil_append, List.cons_append, List.cons.injEq] at e
        exact absurd (by rw [e.1]; simp) hb
    | cons c z =>
      simp only [List.cons_append, List.cons.injEq] at e
      exact .inl ⟨z, by rw [e.1], e.2⟩

/-- Where a stretch T of the boundary is replaced by M: the boundary's inner gluings. -/
theorem split_step {lb : Nat → α} {X T M Y : List Nat} {n c : Nat}
    (hs : ∀ p b q s, X ++ (T ++ Y) = p ++ b :: (q ++ th b :: s) → ∃ n1 n2, n1 + n2 ≤ n ∧ Dia iv R (q.map lb) n1 ∧ Dia iv R ((p ++ s).map lb) n2)
    (hr : ∀ (x y : List α) k, Dia iv R (x ++ (T.map lb ++ y)) k → Dia iv R (x ++ (M.map lb ++ y)) (k + c))
    {p q s : List Nat} {b : Nat} (e : X ++ (M ++ Y) = p ++ b :: (q ++ th b :: s)) (h1 : b ∉ M) (h2 : th b ∉ M) :
    ∃ n1 n2, n1 + n2 ≤ n + c ∧ Dia iv R (q.map lb) n1 ∧ Dia iv R ((p ++ s).map lb) n2 := by
  rcases mid_cases e h1 with ⟨X2, rfl, e2⟩ | ⟨Y1, rfl, rfl⟩
  · rcases mid_cases e2.symm h2 with ⟨X3, rfl, rfl⟩ | ⟨Y1, rfl, rfl⟩
    · obtain ⟨n1, n2, h, k1, k2⟩ := hs p b q (X3 ++ (T ++ Y)) (by simp)
      refine ⟨n1, n2 + c, by omega, k1, ?_⟩
      have := hr (p.map lb ++ X3.map lb) (Y.map lb) n2 (by simpa using k2)
      simpa using this
    · obtain ⟨n1, n2, h, k1, k2⟩ := hs p b (X2 ++ (T ++ Y1)) s (by simp)
      refine ⟨n1 + c, n2, by omega, ?_, k2⟩
      have := hr (X2.map lb) (Y1.map lb) n1 (by simpa using k1)
      simpa using this
  · obtain ⟨n1, n2, h, k1, k2⟩ := hs (X ++ (T ++ Y1)) b q s (by simp)
    refine ⟨n1, n2 + c, by omega, k1, ?_⟩
    have := hr (X.map lb) (Y1.map lb ++ s.map lb) n2 (by simpa using k2)
    simpa using this

/-- The same: faces that are seen from the boundary. -/
theorem expose_step {lb : Nat → α} {X T M Y : List Nat} {n c : Nat} {z : List α} {b : Nat}
    (hs : ∀ p q, X ++ (T ++ Y) = p ++ b :: q → ∃ m, m + 1 ≤ n ∧ Dia iv R (p.map lb ++ (z ++ q.map lb)) m)
    (hr : ∀ (x y : List α) k, Dia iv R (x ++ (T.map lb ++ y)) k → Dia iv R (x ++ (M.map lb ++ y)) (k + c))
    {p q : List Nat} (e : X ++ (M ++ Y) = p ++ b :: q) (h1 : b ∉ M) :
    ∃ m, m + 1 ≤ n + c ∧ Dia iv R (p.map lb ++ (z ++ q.map lb)) m := by
  rcases mid_cases e h1 with ⟨X2, rfl, rfl⟩ | ⟨Y1, rfl, rfl⟩
  · obtain ⟨m, h, k⟩ := hs p (X2 ++ (T ++ Y)) (by simp)
    refine ⟨m + c, by omega, ?_⟩
    have := hr (p.map lb ++ (z ++ X2.map lb)) (Y.map lb) m (by simpa using k)
    simpa using this
  · obtain ⟨m, h, k⟩ := hs (X ++ (T ++ Y1)) q (by simp)
    refine ⟨m + c, by omega, ?_⟩
    have := hr (X.map lb) (Y1.map lb ++ (z ++ q.map lb)) m (by simpa using k)
    simpa using this

theorem split_uniq {l a b c d : List Nat} {k : Nat} (h : l.Nodup) (e1 : l = a ++ k :: b) (e2 : l = c ++ k :: d) : a = c ∧ b = d := by
  subst e1
  induction a generalizing c with
  | nil =>
    cases c with
    | nil => simpa using e2
    | cons m c =>
      simp only [List.nil_append, List.cons_append, List.cons.injEq] at e2
      rw [e2.2, e2.1] at h
      simp at h
  | cons m a ih =>
    cases c with
    | nil =>
      simp only [List.nil_append, List.cons_append, List.cons.injEq] at e2
      rw [e2.1] at h
      simp at h
    | cons m' c =>
      simp only [List.cons_append, List.cons.injEq] at e2
      have := ih (List.nodup_cons.1 h).2 e2.2
      exact ⟨by rw [e2.1, this.1], this.2⟩

theorem Dg.spur {x y w : List α} {n : Nat} (S : Sys iv R) (D0 : Dg iv R w n) (ew : w = x ++ y) (a : α) : Nonempty (Dg iv R (x ++ a :: iv a :: y) n) := by
  obtain ⟨X, Y, eO, eX, eY⟩ := List.map_eq_append_iff.1 (D0.lab.trans ew)
  have hcl := D0.clO
  rw [eO, Pth.append] at hcl
  obtain ⟨v, hX, hY⟩ := hcl
  obtain ⟨D, hE, hV, hO, hF, hst, hlb, hpot⟩ := D0.alter (up (up D0.st (2 * D0.E) v) (2 * D0.E + 1) D0.V) (up (up D0.lb (2 * D0.E) a) (2 * D0.E + 1) (iv a)) (up D0.pot D0.V (D0.pot v ++ [a]))
    (fun d hd => by rw [up_ne (by omega), up_ne (by omega)]) (fun d hd => by rw [up_ne (by omega), up_ne (by omega)]) (fun d hd => by rw [up_ne (by omega)])
  have vlt : v < D0.V := by
    cases Y with
    | nil => simp only [Pth] at hY; rw [hY]; exact D0.pos
    | cons d Y => rw [← hY.1]; exact D0.stlt _ (D0.O_lt (by rw [eO]; simp))
  have s1 : D.st (2 * D.E) = v := by rw [hst, hE, up_ne (by omega), up_same]
  have s2 : D.st (2 * D.E + 1) = D.V := by rw [hst, hE, up_same, hV]
  have l1 : D.lb (2 * D.E) = a := by rw [hlb, hE, up_ne (by omega), up_same]
  have l2 : D.lb (2 * D.E + 1) = iv a := by rw [hlb, hE, up_same]
  have p1 : D.pot D.V = D.pot v ++ [a] := by rw [hpot, hV, up_same, up_ne (by omega)]
  have eO' : D.O = X ++ Y := by rw [hO, eO]
  have hxy : ∀ d, d ∈ X ++ Y → d < 2 * D.E := fun d hd => D.O_lt (by rw [eO']; exact hd)
  have eX' : X.map D.lb = x := by rw [← eX]; exact List.map_congr_left fun d hd => by rw [hlb, up_ne, up_ne] <;> have := hxy d (List.mem_append_left _ hd) <;> omega
  have eY' : Y.map D.lb = y := by rw [← eY]; exact List.map_congr_left fun d hd => by rw [hlb, up_ne, up_ne] <;> have := hxy d (List.mem_append_right _ hd) <;> omega
  have hcl := D.clO
  rw [eO', Pth.append] at hcl
  obtain ⟨v', hX', hY'⟩ := hcl
  have evv : v' = v := by
    cases Y with
    | nil => simp only [Pth] at hY hY'; rw [hY, hY']
    | cons d Y =>
      rw [← hY.1, ← hY'.1, hst, up_ne, up_ne] <;> have := hxy d (by simp) <;> omega
  subst evv
  clear hst hlb hpot hO hF eO eX eY hX hY
  have hrule : ∀ (x y : List α) k, Dia iv R (x ++ (([] : List Nat).map D.lb ++ y)) k → Dia iv R (x ++ (([2 * D.E, 2 * D.E + 1] : List Nat).map D.lb ++ y)) (k + 0) := fun x y k h => by
    simpa [l1, l2] using Dia.spur (a := a) (by simpa using h)
  have nd : (X ++ 2 * D.E :: (2 * D.E + 1) :: Y ++ D.Fs.flatten).Nodup := by
    have h0 := D.nodup
    rw [eO'] at h0
    have hp : (X ++ 2 * D.E :: (2 * D.E + 1) :: Y ++ D.Fs.flatten).Perm (2 * D.E :: (2 * D.E + 1) :: (X ++ Y ++ D.Fs.flatten)) := by
      simp only [List.append_assoc, List.cons_append]
      exact (List.perm_middle).trans ((List.perm_middle).cons _)
    rw [hp.nodup_iff, List.nodup_cons, List.nodup_cons]
    have hm : ∀ d, d ∈ X ++ Y ++ D.Fs.flatten → d < 2 * D.E := fun d hd => (D.all d).1 (by rw [eO']; exact hd)
    refine ⟨fun h => ?_, fun h => ?_, h0⟩
    · rcases List.mem_cons.1 h with h | h
      · omega
      · have := hm _ h; omega
    · have := hm _ h; omega
  refine ⟨{ E := D.E + 1, V := D.V + 1, st := D.st, lb := D.lb, O := X ++ 2 * D.E :: (2 * D.E + 1) :: Y, Fs := D.Fs, pot := D.pot, dia := (by have := D.dia; rw [ew] at this; exact this.spur), nodup := nd, all := ?_, lab := ?_, lbth := ?_, clO := ?_, clF := D.clF, labF := D.labF, euler := ?_, cnt := D.cnt, stlt := ?_, pos := Nat.succ_pos _, surj := ?_, potOK := ?_, split := ?_, expose := ?_, reduced := D.reduced }⟩
  · intro d
    have := D.all d
    rw [eO'] at this
    have e : d ∈ X ++ 2 * D.E :: (2 * D.E + 1) :: Y ++ D.Fs.flatten ↔ (d ∈ X ++ Y ++ D.Fs.flatten ∨ d = 2 * D.E ∨ d = 2 * D.E + 1) := by
      simp only [List.mem_append, List.mem_cons]; grind
    rw [e, this]; omega
  · simp [eX', eY', l1, l2]
  · intro d hd
    by_cases h : d < 2 * D.E
    · exact D.lbth d h
    · by_cases h2 : d = 2 * D.E
      · subst h2; rw [th_even, l1, l2]
      · have : d = 2 * D.E + 1 := by omega
        subst this; rw [th_odd, l1, l2, S.two]
  · rw [Pth.append]
    refine ⟨v', hX', s1, ?_⟩
    rw [th_even]
    refine ⟨rfl, ?_⟩
    rw [th_odd, s1]; exact hY'
  · have := D.euler; omega
  · intro d hd
    by_cases h : d < 2 * D.E
    · exact Nat.lt_succ_of_lt (D.stlt d h)
    · by_cases h2 : d = 2 * D.E
      · subst h2; rw [s1, hV]; omega
      · have : d = 2 * D.E + 1 := by omega
        subst this; rw [s2]; exact Nat.lt_succ_self _
  · intro u hu
    by_cases h : u < D.V
    · rcases D.surj u h with h | ⟨d, hd, h⟩
      · exact .inl h
      · exact .inr ⟨d, by omega, h⟩
    · exact .inr ⟨2 * D.E + 1, by omega, by rw [s2]; omega⟩
  · intro d hd
    have key : T iv R (D.pot v' ++ a :: winv iv (D.pot D.V)) := by
      rw [p1]
      have := (T.nil (iv := iv) (R := R)).insw S (u := D.pot v' ++ [a]) (x := []) (y := [])
      simpa using this
    by_cases h : d < 2 * D.E
    · exact D.potOK d h
    · by_cases h2 : d = 2 * D.E
      · subst h2; rw [th_even, s1, s2, l1]; exact key
      · have : d = 2 * D.E + 1 := by omega
        subst this; rw [th_odd, s1, s2, l2]
        have := key.invw S
        simpa [winv_two S] using this
  · intro p b q s e
    by_cases hb : b = 2 * D.E
    · subst hb
      rw [th_even] at e
      have nd1 : (X ++ 2 * D.E :: (2 * D.E + 1) :: Y).Nodup := (List.nodup_append.1 nd).1
      obtain ⟨e1, e2⟩ := split_uniq nd1 rfl e
      subst e1
      have nd2 : ((2 * D.E + 1) :: Y).Nodup := (List.nodup_cons.1 (List.nodup_append.1 nd1).2.1).2
      obtain ⟨e3, e4⟩ := split_uniq (a := []) nd2 rfl e2
      subst e3 e4
      refine ⟨0, n, by omega, Dia.nil, ?_⟩
      have := D.dia
      rw [← D.lab, eO'] at this
      exact this
    · by_cases hb1 : b = 2 * D.E + 1
      · subst hb1
        rw [th_odd] at e
        have nd1 : (X ++ 2 * D.E :: (2 * D.E + 1) :: Y).Nodup := (List.nodup_append.1 nd).1
        obtain ⟨e1, e2⟩ := split_uniq (a := X ++ [2 * D.E]) (b := Y) nd1 (by simp) e
        rw [e2] at nd1
        exact absurd (by simp) (List.nodup_cons.1 (List.nodup_append.1 nd1).2.1).1
      · have hb2 : th b ≠ 2 * D.E := fun q => hb1 (by have := congrArg th q; rwa [th_th, th_even] at this)
        have hb3 : th b ≠ 2 * D.E + 1 := fun q => hb (by have := congrArg th q; rwa [th_th, th_odd] at this)
        have := split_step (lb := D.lb) (X := X) (T := []) (M := [2 * D.E, 2 * D.E + 1]) (Y := Y) (n := n) (c := 0) (p := p) (q := q) (s := s) (b := b) (fun p b q s e => D.split p b q s (by rw [eO']; simpa using e)) hrule (by simpa using e) (by simp [hb, hb1]) (by simp [hb2, hb3])
        simpa using this
  · intro p b q f u v e hf ef
    have hb : th b < 2 * D.E := D.F_lt hf (by rw [ef]; simp)
    have hb' := th_lt.1 hb
    have := expose_step (lb := D.lb) (X := X) (T := []) (M := [2 * D.E, 2 * D.E + 1]) (Y := Y) (n := n) (c := 0) (p := p) (q := q) (b := b) (z := (v ++ u).map D.lb) (fun p q e => D.expose p b q f u v (by rw [eO']; simpa using e) hf ef) hrule (by simpa using e) (by simp; omega)
    simpa using this

/-- A word that is its own inverse has two inverse letters side by side. -/
theorem own_inv (S : Sys iv R) : ∀ (k : Nat) (z : List α), z.length ≤ k → z ≠ [] → z = winv iv z → ∃ p c q, z = p ++ c :: iv c :: q
  | 0, z, hk, hz, _ => absurd (List.eq_nil_of_length_eq_zero (by omega)) hz
  | k + 1, [], _, hz, _ => absurd rfl hz
  | k + 1, c :: z, hk, _, e => by
    rcases List.eq_nil_or_concat z with rfl | ⟨z', d, rfl⟩
    · simp at e; exact absurd e.symm (S.ne c)
    · simp only [winv_cons, List.concat_eq_append, winv_append, winv_nil, List.nil_append, List.cons_append, List.append_assoc] at e
      injection e with e1 e2
      have e3 : z' ++ [d] = winv iv z' ++ [iv c] := e2
      have h := List.append_inj' e3 rfl
      have hd : d = iv c := by simpa using h.2
      subst hd
      cases z' with
      | nil => exact ⟨[], c, [], rfl⟩
      | cons b z' =>
        obtain ⟨p, c', q, hq⟩ := own_inv S k (b :: z') (by simp at hk ⊢; omega) (by simp) h.1
        exact ⟨c :: p, c', q ++ [iv c], by rw [List.concat_eq_append, hq]; simp⟩
theorem R_free (S : Sys iv R) {p q : List α} {c : α} : ¬ R (p ++ c :: iv c :: q) := fun h => by
  have := R_rots S p _ h
  exact S.red c (iv c) (q ++ p) (by simpa using this) rfl
theorem no_inv (S : Sys iv R) {A B : List α} (h : R (A ++ B)) : winv iv (A ++ B) ≠ B ++ A := fun e => by
  rw [winv_append] at e
  have hh := List.append_inj e (by simp)
  by_cases hB : B = []
  · subst hB
    have hA : A ≠ [] := fun q => by subst q; exact S.some h
    obtain ⟨p, c, q, e⟩ := own_inv S A.length A (Nat.le_refl _) hA hh.2.symm
    rw [e] at h
    exact R_free S (by simpa using h)
  · obtain ⟨p, c, q, e⟩ := own_inv S B.length B (Nat.le_refl _) hB hh.1.symm
    have := R_rots S _ _ h
    rw [e] at this
    exact R_free S (by simpa using this)

/-- A face does not meet itself along a dart as its own mirror image. -/
theorem self_face (S : Sys iv R) {lb : Nat → α} {f u v u' v' : List Nat} {d : Nat} (hR : R (f.map lb)) (hl : lb (th d) = iv (lb d)) (e1 : f = u ++ d :: v) (e2 : f = u' ++ th d :: v') :
    (v ++ u).map lb ≠ winv iv ((v' ++ u').map lb) := fun e => by
  have hne : d ≠ th d := fun q => th_ne d q.symm
  have hM : d ∉ ([] : List Nat) := by simp
  have key : winv iv ((th d :: v' ++ u').map lb) = (v ++ u ++ [d]).map lb := by
    have h1 : (th d :: v' ++ u').map lb = iv (lb d) :: (v' ++ u').map lb := by simp [hl]
    rw [h1, winv_cons, S.two, ← e]; simp
  rcases mid_cases (X := u) (M := [d]) (Y := v) (p := u') (r := v') (b := th d) (by simpa using e1.symm.trans e2) (by simp; exact fun q => hne q.symm) with ⟨X2, rfl, rfl⟩ | ⟨Y1, rfl, rfl⟩
  · -- u = u' ++ th d :: X2, v' = X2 ++ d :: v
    refine no_inv S (A := (th d :: X2 ++ [d]).map lb) (B := (v ++ u').map lb) ?_ ?_
    · have := R_rots S (u'.map lb) ((th d :: X2 ++ d :: v).map lb) (by rw [e2] at hR; simpa using hR)
      simpa using this
    · have := key
      simpa using this
  · -- v = Y1 ++ th d :: v', u' = u ++ d :: Y1
    refine no_inv S (A := (th d :: v' ++ u ++ [d]).map lb) (B := Y1.map lb) ?_ ?_
    · have := R_rots S ((u ++ d :: Y1).map lb) ((th d :: v').map lb) (by rw [e2] at hR; simpa using hR)
      simpa using this
    · have := key
      simpa using this

theorem Dg.cell {x y w t : List α} {n : Nat} (S : Sys iv R) (D0 : Dg iv R w n) (a : α) (hR : R (a :: t)) (ew : w = x ++ (winv iv t ++ y)) (hmin : ∀ m, Dia iv R (x ++ a :: y) m → n + 1 ≤ m) : Nonempty (Dg iv R (x ++ a :: y) (n + 1)) := by
  obtain ⟨X, Y0, eO0, eX, eY0⟩ := List.map_eq_append_iff.1 (D0.lab.trans ew)
  obtain ⟨Tt, Y, rfl, eT, eY⟩ := List.map_eq_append_iff.1 eY0
  clear eY0
  have hcl := D0.clO
  rw [eO0, Pth.append] at hcl
  obtain ⟨vs, hX, hY⟩ := hcl
  rw [Pth.append] at hY
  obtain ⟨ve, hT, hY⟩ := hY
  obtain ⟨D, hE, hV, hO, hF, hst, hlb, hpot⟩ := D0.alter (up (up D0.st (2 * D0.E) vs) (2 * D0.E + 1) ve) (up (up D0.lb (2 * D0.E) a) (2 * D0.E + 1) (iv a)) D0.pot
    (fun d hd => by rw [up_ne (by omega), up_ne (by omega)]) (fun d hd => by rw [up_ne (by omega), up_ne (by omega)]) (fun d hd => rfl)
  have hO0 : ∀ d, d ∈ X ++ (Tt ++ Y) → d < 2 * D0.E := fun d hd => D0.O_lt (by rw [eO0]; exact hd)
  have ste : ∀ d, d < 2 * D0.E → D.st d = D0.st d := fun d hd => by rw [hst, up_ne (by omega), up_ne (by omega)]
  have stc : ∀ d, d < 2 * D0.E → D.st d = D0.st d ∧ D.st (th d) = D0.st (th d) := fun d hd => ⟨ste d hd, ste _ (th_lt.2 hd)⟩
  have lbe : ∀ d, d < 2 * D0.E → D.lb d = D0.lb d := fun d hd => by rw [hlb, up_ne (by omega), up_ne (by omega)]
  have hX' : Pth D.st 0 X vs := Pth.congr (fun d hd => stc d (hO0 d (by simp [hd]))) hX
  have hT' : Pth D.st vs Tt ve := Pth.congr (fun d hd => stc d (hO0 d (by simp [hd]))) hT
  have hY' : Pth D.st ve Y 0 := Pth.congr (fun d hd => stc d (hO0 d (by simp [hd]))) hY
  have eX' : X.map D.lb = x := by rw [← eX]; exact List.map_congr_left fun d hd => lbe d (hO0 d (by simp [hd]))
  have eT' : Tt.map D.lb = winv iv t := by rw [← eT]; exact List.map_congr_left fun d hd => lbe d (hO0 d (by simp [hd]))
  have eY' : Y.map D.lb = y := by rw [← eY]; exact List.map_congr_left fun d hd => lbe d (hO0 d (by simp [hd]))
  have vlt : ∀ u, (∃ l, Pth D0.st u l 0 ∧ ∀ d ∈ l, d < 2 * D0.E) → u < D0.V := fun u ⟨l, hl, hd⟩ => by
    cases l with
    | nil => simp only [Pth] at hl; rw [hl]; exact D0.pos
    | cons d l => rw [← hl.1]; exact D0.stlt _ (hd d (by simp))
  have vs_lt : vs < D0.V := vlt vs ⟨Tt ++ Y, Pth.append.2 ⟨ve, hT, hY⟩, fun d hd => hO0 d (List.mem_append_right _ hd)⟩
  have ve_lt : ve < D0.V := vlt ve ⟨Y, hY, fun d hd => hO0 d (by simp [hd])⟩
  have s1 : D.st (2 * D.E) = vs := by rw [hst, hE, up_ne (by omega), up_same]
  have s2 : D.st (2 * D.E + 1) = ve := by rw [hst, hE, up_same]
  have l1 : D.lb (2 * D.E) = a := by rw [hlb, hE, up_ne (by omega), up_same]
  have l2 : D.lb (2 * D.E + 1) = iv a := by rw [hlb, hE, up_same]
  have eO : D.O = X ++ (Tt ++ Y) := by rw [hO, eO0]
  rw [← hV] at vs_lt ve_lt
  rw [← hE] at hO0
  clear hst hlb hpot hO hF eO0 eX eT eY hX hT hY ste stc lbe vlt
  have hrule : ∀ (x y : List α) k, Dia iv R (x ++ (Tt.map D.lb ++ y)) k → Dia iv R (x ++ (([2 * D.E] : List Nat).map D.lb ++ y)) (k + 1) := fun x y k h => by
    simpa [l1] using Dia.cell S (x := x) (y := y) hR (by rw [eT'] at h; exact h)
  have dia' : Dia iv R (x ++ a :: y) (n + 1) := Dia.cell S hR (by have := D.dia; rw [ew] at this; exact this)
  have newR : R (((2 * D.E + 1) :: Tt).map D.lb) := by
    have := R_rots S (winv iv t) [iv a] (by simpa using S.inv _ hR)
    simpa [l2, eT'] using this
  have labs : ∀ d, d < 2 * (D.E + 1) → D.lb (th d) = iv (D.lb d) := fun d hd => by
    by_cases h : d < 2 * D.E
    · exact D.lbth d h
    · by_cases h2 : d = 2 * D.E
      · subst h2; rw [th_even, l1, l2]
      · have : d = 2 * D.E + 1 := by omega
        subst this; rw [th_odd, l1, l2, S.two]
  have ndD := D.nodup
  rw [eO] at ndD
  have hp : (X ++ 2 * D.E :: Y ++ (((2 * D.E + 1) :: Tt) :: D.Fs).flatten).Perm (2 * D.E :: (2 * D.E + 1) :: (X ++ (Tt ++ Y) ++ D.Fs.flatten)) := by
    simp only [List.append_assoc, List.cons_append, List.flatten_cons]
    refine (List.perm_middle).trans ((?_ : List.Perm _ _).cons _)
    have e1 : (X ++ (Y ++ (2 * D.E + 1) :: (Tt ++ D.Fs.flatten))).Perm ((2 * D.E + 1) :: (X ++ (Y ++ (Tt ++ D.Fs.flatten)))) := by
      have := List.perm_middle (a := 2 * D.E + 1) (l₁ := X ++ Y) (l₂ := Tt ++ D.Fs.flatten)
      simpa using this
    refine e1.trans (List.Perm.cons _ ?_)
    refine List.Perm.append_left _ ?_
    rw [← List.append_assoc, ← List.append_assoc]
    exact List.Perm.append_right _ List.perm_append_comm
  have hm : ∀ d, d ∈ X ++ (Tt ++ Y) ++ D.Fs.flatten → d < 2 * D.E := fun d hd => (D.all d).1 (by rw [eO]; exact hd)
  have nd : (X ++ 2 * D.E :: Y ++ (((2 * D.E + 1) :: Tt) :: D.Fs).flatten).Nodup := by
    rw [hp.nodup_iff, List.nodup_cons, List.nodup_cons]
    refine ⟨fun h => ?_, fun h => ?_, ndD⟩
    · rcases List.mem_cons.1 h with h | h
      · omega
      · have := hm _ h; omega
    · have := hm _ h; omega
  have ndT : ((2 * D.E + 1) :: Tt).Nodup := by
    have := (List.nodup_append.1 nd).2.1
    rw [List.flatten_cons] at this
    exact (List.nodup_append.1 this).1
  have ndO : (X ++ 2 * D.E :: Y).Nodup := (List.nodup_append.1 nd).1
  have hself : ∀ (f g u v u' v' : List Nat) (d : Nat), f = (2 * D.E + 1) :: Tt → g ∈ D.Fs → f = u ++ d :: v → g = u' ++ th d :: v' → (v ++ u).map D.lb ≠ winv iv ((v' ++ u').map D.lb) := by
    intro f g u v u' v' d hf hg ef eg e
    have hd : th d < 2 * D.E := D.F_lt hg (by rw [eg]; simp)
    have hd' := th_lt.1 hd
    subst hf
    cases u with
    | nil => simp only [List.nil_append, List.cons.injEq] at ef; omega
    | cons c T1 =>
      simp only [List.cons_append, List.cons.injEq] at ef
      obtain ⟨rfl, ef⟩ := ef
      obtain ⟨m, hm', k⟩ := D.expose (X ++ T1) d (v ++ Y) g u' v' (by rw [eO, ef]; simp) hg eg
      have e2 : (v' ++ u').map D.lb = winv iv (T1.map D.lb) ++ a :: winv iv (v.map D.lb) := by
        have := congrArg (winv iv) e
        rw [winv_two S] at this
        rw [← this]
        simp [l2, S.two]
      rw [e2] at k
      obtain ⟨m1, h1, k1⟩ := Dia.delw S (T1.map D.lb) (x := x) (y := a :: (winv iv (v.map D.lb) ++ (v ++ Y).map D.lb)) (n := m) (by simpa [eX'] using k)
      obtain ⟨m2, h2, k2⟩ := Dia.delw' S (v.map D.lb) (x := x ++ [a]) (y := Y.map D.lb) (n := m1) (by simpa using k1)
      have := hmin m2 (by simpa [eY'] using k2)
      omega
  refine ⟨{ E := D.E + 1, V := D.V, st := D.st, lb := D.lb, O := X ++ 2 * D.E :: Y, Fs := ((2 * D.E + 1) :: Tt) :: D.Fs, pot := D.pot, dia := dia', nodup := nd, all := ?_, lab := ?_, lbth := labs, clO := ?_, clF := ?_, labF := ?_, euler := ?_, cnt := ?_, stlt := ?_, pos := D.pos, surj := ?_, potOK := ?_, split := ?_, expose := ?_, reduced := ?_ }⟩
  · intro d
    have := D.all d
    rw [eO] at this
    rw [hp.mem_iff, List.mem_cons, List.mem_cons, this]; omega
  · simp [eX', eY', l1]
  · rw [Pth.append]
    refine ⟨vs, hX', s1, ?_⟩
    rw [th_even, s2]
    exact hY'
  · intro f hf
    rcases List.mem_cons.1 hf with rfl | hf
    · exact ⟨ve, s2, by rw [th_odd, s1]; exact hT'⟩
    · exact D.clF f hf
  · intro f hf
    rcases List.mem_cons.1 hf with rfl | hf
    · exact newR
    · exact D.labF f hf
  · have := D.euler; simp only [List.length_cons]; omega
  · simp only [List.length_cons, D.cnt]
  · intro d hd
    by_cases h : d < 2 * D.E
    · exact D.stlt d h
    · by_cases h2 : d = 2 * D.E
      · subst h2; rw [s1]; exact vs_lt
      · have : d = 2 * D.E + 1 := by omega
        subst this; rw [s2]; exact ve_lt
  · intro u hu
    rcases D.surj u hu with h | ⟨d, hd, h⟩
    · exact .inl h
    · exact .inr ⟨d, by omega, h⟩
  · intro d hd
    have key : T iv R (D.pot vs ++ a :: winv iv (D.pot ve)) := by
      have := D.path S hT' (fun d hd => hO0 d (by simp [hd]))
      rw [eT'] at this
      exact T.cell S hR this
    by_cases h : d < 2 * D.E
    · exact D.potOK d h
    · by_cases h2 : d = 2 * D.E
      · subst h2; rw [th_even, s1, s2, l1]; exact key
      · have : d = 2 * D.E + 1 := by omega
        subst this; rw [th_odd, s1, s2, l2]
        have := key.invw S
        simpa [winv_two S] using this
  · intro p b q s e
    have hb : b ≠ 2 * D.E := fun q' => by
      subst q'
      rw [th_even] at e
      have : 2 * D.E + 1 ∈ X ++ 2 * D.E :: Y := by rw [e]; simp
      rcases List.mem_append.1 this with h | h
      · have := hO0 _ (List.mem_append_left _ h); omega
      · rcases List.mem_cons.1 h with h | h
        · omega
        · have := hO0 _ (List.mem_append_right _ (List.mem_append_right _ h)); omega
    have hb2 : th b ≠ 2 * D.E := fun q' => by
      have hb' : b = 2 * D.E + 1 := by rw [← th_th b, q', th_even]
      subst hb'
      have : 2 * D.E + 1 ∈ X ++ 2 * D.E :: Y := by rw [e]; simp
      rcases List.mem_append.1 this with h | h
      · have := hO0 _ (List.mem_append_left _ h); omega
      · rcases List.mem_cons.1 h with h | h
        · omega
        · have := hO0 _ (List.mem_append_right _ (List.mem_append_right _ h)); omega
    exact split_step (lb := D.lb) (X := X) (T := Tt) (M := [2 * D.E]) (Y := Y) (n := n) (c := 1) (p := p) (q := q) (s := s) (b := b) (fun p b q s e => D.split p b q s (by rw [eO]; exact e)) hrule (by simpa using e) (by simp [hb]) (by simp [hb2])
  · intro p b q f u v e hf ef
    rcases List.mem_cons.1 hf with hf | hf
    · by_cases hb : b = 2 * D.E
      · subst hb
        rw [th_even] at ef
        obtain ⟨rfl, rfl⟩ := split_uniq ndO rfl e
        subst hf
        obtain ⟨rfl, rfl⟩ := split_uniq (a := []) ndT rfl ef
        refine ⟨n, by omega, ?_⟩
        have := D.dia
        rw [ew] at this
        simpa [eX', eY', eT'] using this
      · subst hf
        cases u with
        | nil =>
          simp only [List.nil_append, List.cons.injEq] at ef
          exact absurd (by rw [← th_th b, ← ef.1, th_odd]) hb
        | cons c T1 =>
          simp only [List.cons_append, List.cons.injEq] at ef
          obtain ⟨rfl, rfl⟩ := ef
          rcases mid_cases (X := X) (M := [2 * D.E]) (Y := Y) (p := p) (r := q) (b := b) (by simpa using e) (by simp [hb]) with ⟨X2, rfl, rfl⟩ | ⟨Y1, rfl, rfl⟩
          · obtain ⟨n1, n2, h, k1, k2⟩ := D.split p b (X2 ++ T1) (v ++ Y) (by rw [eO]; simp)
            refine ⟨n1 + n2, by omega, ?_⟩
            have k1' : Dia iv R ((T1 ++ X2).map D.lb) n1 := by
              have : Dia iv R (X2.map D.lb ++ T1.map D.lb) n1 := by simpa using k1
              simpa using this.rot S
            have := Dia.ins (x := (p ++ v).map D.lb) (y := Y.map D.lb) (n := n2) (by simpa using k2) (Dia.pair (a := iv a) k1' Dia.nil)
            rw [Nat.add_comm n1]
            simpa [l1, l2, S.two] using this
          · obtain ⟨n1, n2, h, k1, k2⟩ := D.split (X ++ T1) (th b) (v ++ Y1) q (by rw [eO, th_th]; simp)
            refine ⟨n1 + n2, by omega, ?_⟩
            have k1' : Dia iv R ((Y1 ++ v).map D.lb) n1 := by
              have : Dia iv R (v.map D.lb ++ Y1.map D.lb) n1 := by simpa using k1
              simpa using this.rot S
            have := Dia.ins (x := X.map D.lb) (y := (T1 ++ q).map D.lb) (n := n2) (by simpa using k2) (Dia.pair (a := a) k1' Dia.nil)
            rw [Nat.add_comm n1]
            simpa [l1, l2, S.two] using this
    · have hb : th b < 2 * D.E := D.F_lt hf (by rw [ef]; simp)
      have hb' := th_lt.1 hb
      exact expose_step (lb := D.lb) (X := X) (T := Tt) (M := [2 * D.E]) (Y := Y) (n := n) (c := 1) (p := p) (q := q) (b := b) (z := (v ++ u).map D.lb) (fun p q e => D.expose p b q f u v (by rw [eO]; exact e) hf ef) hrule (by simpa using e) (by simp; omega)
  · intro f g u v u' v' d hf hg ef eg
    rcases List.mem_cons.1 hf with hf | hf
    · rcases List.mem_cons.1 hg with hg | hg
      · have hd : d < 2 * (D.E + 1) := (by
          have : d ∈ (2 * D.E + 1) :: Tt := by rw [← hf, ef]; simp
          rcases List.mem_cons.1 this with h | h
          · omega
          · have := hO0 d (by simp [h]); omega)
        exact self_face S (f := f) (by rw [hf]; exact newR) (labs d hd) ef (by rw [hf, ← hg, eg])
      · exact hself f g u v u' v' d hf hg ef eg
    · rcases List.mem_cons.1 hg with hg | hg
      · intro e
        have := hself g f u' v' u v (th d) hg hf eg (by rw [th_th]; exact ef)
        exact this (by rw [e, winv_two S])
      · exact D.reduced f g u v u' v' d hf hg ef eg

/-- Each least diagram is a map. -/
theorem Bld.map {w : List α} {n : Nat} (S : Sys iv R) (a : α) (h : Bld iv R w n) (hmin : ∀ m, Dia iv R w m → n ≤ m) : Nonempty (Dg iv R w n) := by
  induction h with
  | nil => exact Dg.nil a
  | @spur b x y n _ ih =>
    obtain ⟨D⟩ := ih fun m hm => hmin m hm.spur
    exact D.spur S rfl b
  | @cell b t x y n hR _ ih =>
    obtain ⟨D⟩ := ih fun m hm => by have := hmin _ (hm.cell S hR); omega
    exact D.cell S b hR rfl hmin
end
end Green
end Go.Proofs.YtaccklloepfemaaGreatDoor

namespace Go.Proofs.YtaccklloepfemaaGreatDoor
set_option linter.unusedVariables false
set_option linter.unusedSimpArgs false
namespace Green

/-! ### Rows in a circle -/
def nxt (l : List Nat) (d : Nat) : Nat :=
  match l.dropWhile (fun k => k != d) with
  | _ :: e :: _ => e
  | _ => l.headD d
theorem drop_mid {u v : List Nat} {d : Nat} (h : d ∉ u) : (u ++ d :: v).dropWhile (fun k => k != d) = d :: v := by
  induction u with
  | nil => simp
  | cons a u ih =>
    simp only [List.mem_cons, not_or] at h
    rw [List.cons_append, List.dropWhile_cons_of_pos (by simpa using fun q => h.1 q.symm)]
    exact ih h.2
/-- The dart behind a dart in its row: the head of what follows in the circle. -/
theorem nxt_head {l u v : List Nat} {d : Nat} (h : l.Nodup) (e : l = u ++ d :: v) : (v ++ (u ++ [d])).head? = some (nxt l d) := by
  subst e
  have hu : d ∉ u := fun q => by
    have := List.nodup_append.1 h
    exact this.2.2 d q d (by simp) rfl
  unfold nxt
  rw [drop_mid hu]
  cases v with
  | nil => cases u <;> simp
  | cons e v => simp

def Ch (φ : Nat → Nat) : List Nat → Prop
  | a :: b :: l => φ a = b ∧ Ch φ (b :: l)
  | _ => True
theorem Ch.tail {φ : Nat → Nat} {a : Nat} {l : List Nat} (h : Ch φ (a :: l)) : Ch φ l := by
  cases l with
  | nil => exact True.intro
  | cons b l => exact h.2
theorem Ch.snoc {φ : Nat → Nat} : ∀ {l : List Nat} {a b : Nat}, Ch φ (l ++ [a]) → φ a = b → Ch φ (l ++ [a] ++ [b])
  | [], a, b, _, e => ⟨e, True.intro⟩
  | [c], a, b, h, e => ⟨h.1, e, True.intro⟩
  | c :: c' :: l, a, b, h, e => ⟨h.1, Ch.snoc (l := c' :: l) h.2 e⟩
theorem Ch.of {φ : Nat → Nat} : ∀ {l : List Nat}, (∀ u a b v, l = u ++ a :: b :: v → φ a = b) → Ch φ l
  | [], _ => True.intro
  | [a], _ => True.intro
  | a :: b :: l, h => ⟨h [] a b l rfl, Ch.of fun u c d v e => h (a :: u) c d v (by rw [e]; rfl)⟩
theorem Ch.at {φ : Nat → Nat} : ∀ {u v : List Nat} {a b : Nat}, Ch φ (u ++ a :: b :: v) → φ a = b
  | [], v, a, b, h => h.1
  | [c], v, a, b, h => h.2.1
  | c :: c' :: u, v, a, b, h => Ch.at (u := c' :: u) h.2

theorem nd_sum {f : Nat → Nat} : ∀ {s l : List Nat}, s.Nodup → (∀ x ∈ s, x ∈ l) → (s.map f).sum ≤ (l.map f).sum
  | [], l, _, _ => by simp
  | a :: s, l, h, k => by
    have ha := k a List.mem_cons_self
    have hp := List.perm_cons_erase ha
    have h1 := (hp.map f).sum_nat
    have := nd_sum (f := f) (s := s) (l := l.erase a) (List.nodup_cons.1 h).2 (fun x hx => by
      have hne : x ≠ a := fun q => (List.nodup_cons.1 h).1 (q ▸ hx)
      exact (List.mem_erase_of_ne hne).2 (k x (List.mem_cons_of_mem _ hx)))
    simp only [List.map_cons, List.sum_cons] at h1 ⊢
    omega
theorem nd_len {s l : List Nat} (h : s.Nodup) (k : ∀ x ∈ s, x ∈ l) : s.length ≤ l.length := by
  have key : ∀ l : List Nat, (l.map fun _ => 1).sum = l.length := fun l => by
    induction l with
    | nil => rfl
    | cons a l ih => rw [List.map_cons, List.sum_cons, ih, List.length_cons]; omega
  have := nd_sum (f := fun _ => 1) h k
  rwa [key, key] at this
theorem fibers {f g : Nat → Nat} (l : List Nat) : ∀ V, (((List.range V).map fun v => ((l.filter fun d => g d = v).map f).sum).sum) = ((l.filter fun d => decide (g d < V)).map f).sum
  | 0 => by
    have : l.filter (fun d => decide (g d < 0)) = [] := List.filter_eq_nil_iff.2 (by simp)
    rw [this]; rfl
  | V + 1 => by
    rw [List.range_succ, List.map_append, List.sum_append, fibers l V]
    simp only [List.map_cons, List.map_nil, List.sum_cons, List.sum_nil, Nat.add_zero]
    induction l with
    | nil => simp
    | cons a l ih =>
      simp only [List.filter_cons]
      by_cases h1 : g a < V
      · have h2 : ¬ g a = V := by omega
        have h3 : g a < V + 1 := by omega
        simp only [h1, h2, h3, decide_true, decide_false, if_true, if_false, List.map_cons, List.sum_cons, Bool.false_eq_true]
        omega
      · by_cases h2 : g a = V
        · have h3 : g a < V + 1 := by omega
          simp only [h1, h2, h3, decide_true, decide_false, if_true, if_false, List.map_cons, List.sum_cons, Bool.false_eq_true, Nat.lt_irrefl, Nat.lt_succ_self]
          omega
        · have h3 : ¬ g a < V + 1 := by omega
          simp only [h1, h2, h3, decide_true, decide_false, if_true, if_false, List.map_cons, List.sum_cons, Bool.false_eq_true]
          omega
theorem filter_sum_le {f : Nat → Nat} {p : Nat → Bool} : ∀ l : List Nat, ((l.filter p).map f).sum ≤ (l.map f).sum
  | [] => by simp
  | a :: l => by
    have := filter_sum_le (f := f) (p := p) l
    rw [List.filter_cons]
    split <;> simp only [List.map_cons, List.sum_cons] <;> omega
theorem sum_ge {c : Nat} {f : Nat → Nat} : ∀ {l : List Nat}, (∀ x ∈ l, c ≤ f x) → c * l.length ≤ (l.map f).sum
  | [], _ => by simp
  | a :: l, h => by
    have h1 := h a List.mem_cons_self
    have h2 := sum_ge (f := f) fun x hx => h x (List.mem_cons_of_mem a hx)
    simp only [List.length_cons, List.map_cons, List.sum_cons, Nat.mul_add, Nat.mul_one]; omega
theorem wt_sum {M : Nat → Bool} : ∀ l : List Nat, (l.map fun d => if M d then 2 else 3).sum + l.countP M = 3 * l.length
  | [] => by simp
  | a :: l => by
    have := wt_sum (M := M) l
    simp only [List.map_cons, List.sum_cons, List.countP_cons, List.length_cons]
    cases M a <;> simp <;> omega

/-- A row is cut before each mark. -/
theorem cut_marks (M : Nat → Bool) : ∀ l : List Nat, ∃ (r : List Nat) (As : List (List Nat)), l = r ++ As.flatten ∧ (∀ x ∈ r, M x = false) ∧ ∀ a ∈ As, ∃ d s, a = d :: s ∧ M d = true ∧ ∀ x ∈ s, M x = false
  | [] => ⟨[], [], rfl, by simp, by simp⟩
  | d :: l => by
    obtain ⟨r, As, e, h1, h2⟩ := cut_marks M l
    cases h : M d with
    | true => exact ⟨[], (d :: r) :: As, by simp [e], by simp, fun a ha => by
        rcases List.mem_cons.1 ha with rfl | ha
        · exact ⟨d, r, rfl, h, h1⟩
        · exact h2 a ha⟩
    | false => exact ⟨d :: r, As, by simp [e], fun x hx => by
        rcases List.mem_cons.1 hx with rfl | hx
        · exact h
        · exact h1 x hx, h2⟩

/-- Lengths of arcs add up. -/
theorem arcs_sum {M X : Nat → Bool} {B C : Nat} : ∀ (As : List (List Nat)), (∀ a ∈ As, ∃ d s, a = d :: s ∧ M d = true ∧ (∀ x ∈ s, M x = false) ∧ 6 * a.length ≤ if X d then B else C) →
    ∃ e i, As.flatten.countP M = e + i ∧ As.flatten.countP (fun d => M d && X d) = e ∧ 6 * As.flatten.length ≤ e * B + i * C
  | [], _ => ⟨0, 0, by simp⟩
  | a :: As, h => by
    obtain ⟨e, i, h1, h2, h3⟩ := arcs_sum As fun b hb => h b (List.mem_cons_of_mem _ hb)
    obtain ⟨d, s, rfl, hd, hs, hl⟩ := h a List.mem_cons_self
    have z1 : s.countP M = 0 := List.countP_eq_zero.2 fun x hx => by simp [hs x hx]
    have z2 : s.countP (fun d => M d && X d) = 0 := List.countP_eq_zero.2 fun x hx => by simp [hs x hx]
    cases hX : X d with
    | true =>
      refine ⟨e + 1, i, ?_, ?_, ?_⟩
      · simp [List.countP_append, List.countP_cons, z1, h1, hd]; omega
      · simp [List.countP_append, List.countP_cons, z2, h2, hd, hX]
      · simp only [hX, if_true] at hl
        simp only [List.flatten_cons, List.length_append, Nat.add_mul, Nat.one_mul]; omega
    | false =>
      refine ⟨e, i + 1, ?_, ?_, ?_⟩
      · simp [List.countP_append, List.countP_cons, z1, h1, hd]; omega
      · simp [List.countP_append, List.countP_cons, z2, h2, hd, hX]
      · simp only [hX, Bool.false_eq_true, if_false] at hl
        simp only [List.flatten_cons, List.length_append, Nat.add_mul, Nat.one_mul]; omega

/-- What is so of a shortest word that is a counterexample. -/
structure Cx {α : Type} {iv : α → α} {R : List α → Prop} {w : List α} {n : Nat} (D : Dg iv R w n) : Prop where
  S : Sys iv R
  C6 : ∀ r r', R r → R r' → r ≠ r' → ∀ p, p <+: r → p <+: r' → 6 * p.length < r.length
  ne : w ≠ []
  nored : ∀ x a y, w ≠ x ++ a :: iv a :: y
  nolong : ∀ x s y t, w = x ++ (s ++ y) → R (s ++ t) → 2 * s.length ≤ (s ++ t).length
  short : ∀ x q y, w = x ++ (q ++ y) → q ≠ [] → q.length < w.length → ¬ T iv R q

section
variable {α : Type} {iv : α → α} {R : List α → Prop} {w : List α} {n : Nat}

/-- The dart behind a dart in its face. -/
def Dg.φ (D : Dg iv R w n) (d : Nat) : Nat :=
  match (D.O :: D.Fs).find? (fun l => l.contains d) with
  | some l => nxt l d
  | none => d
def Dg.σ (D : Dg iv R w n) (d : Nat) : Nat := D.φ (th d)
def Dg.M (D : Dg iv R w n) (d : Nat) : Bool := decide (D.σ (D.σ d) ≠ d)

theorem flat_uniq : ∀ {L : List (List Nat)} {l l' : List Nat} {d : Nat}, L.flatten.Nodup → l ∈ L → l' ∈ L → d ∈ l → d ∈ l' → l = l'
  | a :: L, l, l', d, h, hl, hl', hd, hd' => by
    rw [List.flatten_cons, List.nodup_append] at h
    rcases List.mem_cons.1 hl with k1 | k1
    · rcases List.mem_cons.1 hl' with k2 | k2
      · rw [k1, k2]
      · exact absurd rfl (h.2.2 d (k1 ▸ hd) d (List.mem_flatten.2 ⟨l', k2, hd'⟩))
    · rcases List.mem_cons.1 hl' with k2 | k2
      · exact absurd rfl (h.2.2 d (k2 ▸ hd') d (List.mem_flatten.2 ⟨l, k1, hd⟩))
      · exact flat_uniq h.2.1 k1 k2 hd hd'
theorem flat_nodup : ∀ {L : List (List Nat)} {l : List Nat}, L.flatten.Nodup → l ∈ L → l.Nodup
  | a :: L, l, h, hl => by
    rw [List.flatten_cons, List.nodup_append] at h
    rcases List.mem_cons.1 hl with rfl | hl
    · exact h.1
    · exact flat_nodup h.2.1 hl

variable (D : Dg iv R w n)
theorem Dg.flat : (D.O :: D.Fs).flatten.Nodup := by rw [List.flatten_cons]; exact D.nodup
theorem Dg.inL {d : Nat} (h : d < 2 * D.E) : ∃ l ∈ D.O :: D.Fs, d ∈ l := by
  have := (D.all d).2 h
  rw [← List.flatten_cons, List.mem_flatten] at this
  exact this
theorem Dg.ltL {d : Nat} {l : List Nat} (hl : l ∈ D.O :: D.Fs) (h : d ∈ l) : d < 2 * D.E := by
  rcases List.mem_cons.1 hl with rfl | hl
  · exact D.O_lt h
  · exact D.F_lt hl h
theorem Dg.φ_eq {l : List Nat} {d : Nat} (hl : l ∈ D.O :: D.Fs) (hd : d ∈ l) : D.φ d = nxt l d := by
  unfold Dg.φ
  cases h : (D.O :: D.Fs).find? (fun l => l.contains d) with
  | none =>
    have := List.find?_eq_none.1 h l hl
    simp [hd] at this
  | some l' =>
    have h1 := List.mem_of_find?_eq_some h
    have h2 := List.find?_some h
    have : l' = l := flat_uniq D.flat h1 hl (by simpa using h2) hd
    rw [this]
theorem Dg.φ_head {l u v : List Nat} {d : Nat} (hl : l ∈ D.O :: D.Fs) (e : l = u ++ d :: v) : (v ++ (u ++ [d])).head? = some (D.φ d) := by
  rw [D.φ_eq hl (by rw [e]; simp)]
  exact nxt_head (flat_nodup D.flat hl) e
theorem Dg.φ_mid {l u v : List Nat} {d e : Nat} (hl : l ∈ D.O :: D.Fs) (h : l = u ++ d :: e :: v) : D.φ d = e := by
  have := D.φ_head hl h
  simpa using this.symm
theorem Dg.φ_last {l u : List Nat} {d e : Nat} (hl : l ∈ D.O :: D.Fs) (h : l = u ++ [d]) (h2 : l.head? = some e) : D.φ d = e := by
  have := D.φ_head hl h
  rw [List.nil_append, ← h, h2] at this
  simpa using this.symm
/-- The row from a dart on is a chain. -/
theorem Dg.chain {l u v : List Nat} (hl : l ∈ D.O :: D.Fs) (e : l = u ++ v) : Ch D.φ (v ++ u) := by
  refine Ch.of fun p a b q h => ?_
  rcases List.append_eq_append_iff.1 h with ⟨z, h1, h2⟩ | ⟨z, h1, h2⟩
  · -- p = v ++ z, u = z ++ a :: b :: q
    exact D.φ_mid hl (u := z) (v := q ++ v) (by rw [e, h2]; simp)
  · cases z with
    | nil => exact D.φ_mid hl (u := []) (v := q ++ v) (by rw [e]; simp at h2; rw [← h2]; simp)
    | cons c z =>
      simp only [List.cons_append, List.cons.injEq] at h2
      obtain ⟨rfl, h2⟩ := h2
      cases z with
      | nil =>
        simp only [List.nil_append] at h2
        refine D.φ_last hl (u := u ++ p) (by rw [e, h1]; simp) ?_
        rw [e, ← h2]; rfl
      | cons c z =>
        simp only [List.cons_append, List.cons.injEq] at h2
        obtain ⟨rfl, h2⟩ := h2
        exact D.φ_mid hl (u := u ++ p) (v := z) (by rw [e, h1]; simp)
theorem Dg.φ_mem {l : List Nat} {d : Nat} (hl : l ∈ D.O :: D.Fs) (hd : d ∈ l) : D.φ d ∈ l := by
  obtain ⟨u, v, e⟩ := List.append_of_mem hd
  have := List.mem_of_mem_head? (D.φ_head hl e)
  rw [e]; simp at this ⊢; grind
theorem Dg.φ_lt {d : Nat} (hd : d < 2 * D.E) : D.φ d < 2 * D.E := by
  obtain ⟨l, hl, h⟩ := D.inL hd
  exact D.ltL hl (D.φ_mem hl h)
theorem Dg.σ_lt {d : Nat} (hd : d < 2 * D.E) : D.σ d < 2 * D.E := D.φ_lt (th_lt.2 hd)
/-- Where the dart behind a dart stands. -/
theorem Dg.φ_form {l : List Nat} {d : Nat} (hl : l ∈ D.O :: D.Fs) (hd : d ∈ l) : (∃ u v, l = u ++ d :: D.φ d :: v) ∨ (∃ u, l = D.φ d :: (u ++ [d])) ∨ (l = [d] ∧ D.φ d = d) := by
  obtain ⟨u, v, e⟩ := List.append_of_mem hd
  have h := D.φ_head hl e
  cases v with
  | cons b v =>
    have : b = D.φ d := by simpa using h
    exact .inl ⟨u, v, by rw [← this]; exact e⟩
  | nil =>
    cases u with
    | nil => exact .inr (.inr ⟨e, by simpa using h.symm⟩)
    | cons b u =>
      have : b = D.φ d := by simpa using h
      exact .inr (.inl ⟨u, by rw [← this]; exact e⟩)
theorem Dg.φ_inj {d e : Nat} (hd : d < 2 * D.E) (he : e < 2 * D.E) (h : D.φ d = D.φ e) : d = e := by
  obtain ⟨l, hl, hd'⟩ := D.inL hd
  obtain ⟨l', hl', he'⟩ := D.inL he
  have : l = l' := flat_uniq D.flat hl hl' (D.φ_mem hl hd') (by rw [h]; exact D.φ_mem hl' he')
  subst this
  have nd := flat_nodup D.flat hl
  rcases D.φ_form hl hd' with ⟨u, v, e1⟩ | ⟨u, e1⟩ | ⟨e1, e1'⟩
  · rcases D.φ_form hl he' with ⟨u', v', e2⟩ | ⟨u', e2⟩ | ⟨e2, e2'⟩
    · rw [← h] at e2
      have := split_uniq (a := u ++ [d]) (c := u' ++ [e]) nd (by simpa using e1) (by simpa using e2)
      have := List.append_inj' this.1 rfl
      simpa using this.2
    · rw [← h] at e2
      have := split_uniq (a := u ++ [d]) (c := []) nd (by simpa using e1) (by simpa using e2)
      simp at this
    · rw [e2] at e1
      have := congrArg List.length e1
      simp at this; omega
  · rcases D.φ_form hl he' with ⟨u', v', e2⟩ | ⟨u', e2⟩ | ⟨e2, e2'⟩
    · rw [← h] at e2
      have := split_uniq (a := []) (c := u' ++ [e]) nd (by simpa using e1) (by simpa using e2)
      simp at this
    · rw [← h] at e2
      have := e1.symm.trans e2
      simp only [List.cons.injEq, true_and] at this
      have := List.append_inj' this rfl
      simpa using this.2
    · rw [e2] at e1
      have := congrArg List.length e1
      simp at this
  · rw [e1] at he'
    exact (List.mem_singleton.1 he').symm
theorem Dg.σ_inj {d e : Nat} (hd : d < 2 * D.E) (he : e < 2 * D.E) (h : D.σ d = D.σ e) : d = e := th_inj (D.φ_inj (th_lt.2 hd) (th_lt.2 he) h)
theorem Dg.closed {l : List Nat} (hl : l ∈ D.O :: D.Fs) : ∃ v, Pth D.st v l v := by
  rcases List.mem_cons.1 hl with rfl | hl
  · exact ⟨0, D.clO⟩
  · exact D.clF l hl
theorem Dg.st_φ {d : Nat} (hd : d < 2 * D.E) : D.st (D.φ d) = D.st (th d) := by
  obtain ⟨l, hl, hd'⟩ := D.inL hd
  obtain ⟨v, hv⟩ := D.closed hl
  rcases D.φ_form hl hd' with ⟨u, r, e⟩ | ⟨u, e⟩ | ⟨e, e'⟩
  · rw [e, Pth.append] at hv
    obtain ⟨_, _, hv⟩ := hv
    exact hv.2.1
  · rw [e] at hv
    have h1 := hv.1
    have h2 := (Pth.append.1 hv.2)
    obtain ⟨_, _, h2⟩ := h2
    have h3 : D.st (th d) = v := h2.2
    rw [h1, h3]
  · rw [e] at hv
    rw [e', hv.1]
    exact hv.2.symm
theorem Dg.st_σ {d : Nat} (hd : d < 2 * D.E) : D.st (D.σ d) = D.st d := by
  have := D.st_φ (th_lt.2 hd)
  rwa [th_th] at this
theorem Dg.M_φ {x : Nat} (hx : x < 2 * D.E) : D.M (th x) = D.M (D.φ x) := by
  have e : D.σ (th x) = D.φ x := by unfold Dg.σ; rw [th_th]
  unfold Dg.M
  rw [e]
  have h1 : th x < 2 * D.E := th_lt.2 hx
  have h2 : D.σ (D.φ x) < 2 * D.E := D.σ_lt (D.φ_lt hx)
  by_cases h : D.σ (D.φ x) = th x
  · have : D.σ (D.σ (D.φ x)) = D.φ x := by rw [h, e]
    simp [h, this, e]
  · have : ¬ D.σ (D.σ (D.φ x)) = D.φ x := fun q => h (D.σ_inj h2 h1 (by rw [q, e]))
    simp [h, this]
/-- Along an arc the opposite darts run backward. -/
theorem Dg.run {x y : Nat} (hx : x < 2 * D.E) (e : D.φ x = y) (h : D.M y = false) : D.φ (th y) = th x := by
  have hy : y < 2 * D.E := by rw [← e]; exact D.φ_lt hx
  have h1 : D.σ (D.σ y) = y := by simpa [Dg.M] using h
  have h2 : D.φ (th (D.σ y)) = D.φ x := h1.trans e.symm
  have h3 := D.φ_inj (th_lt.2 (D.σ_lt hy)) hx h2
  have := congrArg th h3
  rw [th_th] at this
  exact this
theorem Dg.opp_chain : ∀ {r : List Nat} {d : Nat}, (∀ x ∈ d :: r, x < 2 * D.E) → Ch D.φ (d :: r) → (∀ x ∈ r, D.M x = false) → Ch D.φ ((r.map th).reverse ++ [th d])
  | [], d, _, _, _ => True.intro
  | y :: r, d, hl, h, hM => by
    have h1 := Dg.opp_chain (r := r) (d := y) (fun x hx => hl x (List.mem_cons_of_mem _ hx)) h.2 (fun x hx => hM x (List.mem_cons_of_mem _ hx))
    have := Ch.snoc h1 (D.run (hl d List.mem_cons_self) h.1 (hM y List.mem_cons_self))
    simpa using this
/-- A chain that ends at a dart is the end of the row that ends there. -/
theorem Dg.chain_suffix {l u v : List Nat} {e : Nat} (hl : l ∈ D.O :: D.Fs) (el : l = u ++ e :: v) : ∀ (C : List Nat), Ch D.φ (C ++ [e]) → (C ++ [e]).Nodup → (∀ x ∈ C, x < 2 * D.E) → ∃ B, v ++ (u ++ [e]) = B ++ (C ++ [e])
  | [], _, _, _ => ⟨v ++ u, by simp⟩
  | x :: C, h, nd, lt => by
    obtain ⟨B, hB⟩ := Dg.chain_suffix hl el C h.tail (List.nodup_cons.1 nd).2 (fun k hk => lt k (List.mem_cons_of_mem _ hk))
    have hx := lt x List.mem_cons_self
    have hZ : Ch D.φ (v ++ (u ++ [e])) := by
      have := D.chain hl (u := u ++ [e]) (v := v) (by rw [el]; simp)
      simpa using this
    have he : e ∈ l := by rw [el]; simp
    obtain ⟨y, C', hC'⟩ : ∃ y C', C ++ [e] = y :: C' := by cases C <;> simp
    have hφ : D.φ x = y := by
      have := h
      rw [List.cons_append, hC'] at this
      exact this.1
    rcases List.eq_nil_or_concat B with rfl | ⟨B', z, rfl⟩
    · -- the whole circle
      have hh := D.φ_head hl el
      rw [hB, List.nil_append, hC'] at hh
      have : D.φ e = y := by simpa using hh.symm
      have : x = e := D.φ_inj hx (D.ltL hl he) (hφ.trans this.symm)
      exact absurd (by rw [this]; simp) (List.nodup_cons.1 nd).1
    · rw [hB] at hZ
      rw [hC'] at hZ hB
      have : D.φ z = y := Ch.at (u := B') (v := C') (by simpa using hZ)
      have hz : z < 2 * D.E := by
        have : z ∈ v ++ (u ++ [e]) := by rw [hB]; simp
        refine D.ltL hl ?_
        rw [el]; simp at this ⊢; grind
      have : z = x := D.φ_inj hz hx (this.trans hφ.symm)
      subst this
      exact ⟨B', by rw [hB, List.cons_append, hC']; simp⟩
theorem Dg.circle {l : List Nat} (hl : l ∈ D.O :: D.Fs) {P : Nat → Prop} {d : Nat} (hd : d ∈ l) (h0 : P d) (hs : ∀ x ∈ l, P x → P (D.φ x)) : ∀ x ∈ l, P x := by
  obtain ⟨u, v, e⟩ := List.append_of_mem hd
  have hZ := D.chain hl e
  have key : ∀ (Z : List Nat) (a : Nat), (∀ x ∈ a :: Z, x ∈ l) → Ch D.φ (a :: Z) → P a → ∀ x ∈ a :: Z, P x := by
    intro Z
    induction Z with
    | nil => intro a _ _ h x hx; simp at hx; rw [hx]; exact h
    | cons b Z ih =>
      intro a hm hc h x hx
      rcases List.mem_cons.1 hx with rfl | hx
      · exact h
      · refine ih b (fun k hk => hm k (List.mem_cons_of_mem _ hk)) hc.2 ?_ x hx
        rw [← hc.1]; exact hs a (hm a List.mem_cons_self) h
  intro x hx
  refine key (v ++ u) d (fun k hk => ?_) hZ h0 x ?_
  · rw [e]; simp at hk ⊢; grind
  · rw [e] at hx; simp at hx ⊢; grind
/-- Stepping forward permutes a row. -/
theorem Dg.map_φ {l : List Nat} (hl : l ∈ D.O :: D.Fs) : (l.map D.φ).Perm l := by
  have key : ∀ (Z : List Nat) (a : Nat), Ch D.φ (a :: Z) → ((a :: Z).map D.φ).dropLast = Z := by
    intro Z
    induction Z with
    | nil => intro a _; rfl
    | cons b Z ih =>
      intro a hc
      have := ih b hc.2
      simp only [List.map_cons] at this ⊢
      rw [List.dropLast_cons_of_ne_nil (by simp), this, hc.1]
  cases h : l with
  | nil => simp
  | cons a Z =>
    have hc := D.chain hl (u := []) (v := a :: Z) h
    rw [List.append_nil] at hc
    have h1 := key Z a hc
    rcases List.eq_nil_or_concat (a :: Z) with h2 | ⟨Y, z, h2⟩
    · cases h2
    · have h3 := D.φ_last hl (u := Y) (d := z) (e := a) (by rw [h, h2]; simp) (by rw [h]; rfl)
      have h4 : ((a :: Z).map D.φ) = ((a :: Z).map D.φ).dropLast ++ [a] := by
        rw [h2]; simp [h3]
      rw [h4, h1]
      exact List.perm_append_comm (l₁ := Z) (l₂ := [a])
theorem Dg.count_φ {l : List Nat} (hl : l ∈ D.O :: D.Fs) (P : Nat → Bool) : l.countP (fun x => P (D.φ x)) = l.countP P := by
  have := (D.map_φ hl).countP_eq P
  rw [List.countP_map] at this; exact this
end
end Green
end Go.Proofs.YtaccklloepfemaaGreatDoor
