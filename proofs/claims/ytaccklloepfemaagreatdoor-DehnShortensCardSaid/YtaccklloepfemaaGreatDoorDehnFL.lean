/- The contracts of the functions, one by one: what each comes to. -/
import Derived.Test.YtaccklloepfemaaGreatDoorDehnFK
import Derived.Test.YtaccklloepfemaaGreatDoorDehnRun
namespace Go.Proofs.YtaccklloepfemaaGreatDoor
open Go Go.RowKit V
set_option maxRecDepth 100000
set_option linter.unusedVariables false
set_option linter.unusedSimpArgs false
theorem fl36_0 : fldOf Tryz.prog 36 0 = some (9, 0) := by kernel_rfl
theorem fl36_1 : fldOf Tryz.prog 36 1 = some (3, 1) := by kernel_rfl
theorem fl36_2 : fldOf Tryz.prog 36 2 = some (34, 2) := by kernel_rfl

theorem s_Sh (g : Int) (u : Value) (l : List (List UInt8)) (w : List UInt8) (A : AH) (hn : l.length ≤ 1000000) (hL : Lets A) (hw : w.length ≤ 100000) (hu : Slc A 1 u (strs l)) : RetA Tryz.prog 11 #[.agg #[num (g), u], str (w)] A (fun v A1 => ∃ W d c dv, v = .tuple #[.agg #[str W, num ((d.length : Nat) : Int), dv], num ((c : Nat) : Int)] ∧ A.le A1 ∧ A1.wf ∧ Fresh A A1 dv 3 (dcells d) ∧ ShR g l w (W, d, c)) := by
 refine enterA (e := [(0, .agg #[num (g), u]), (1, str (w))]) (args := [.agg #[num (g), u], str (w)]) Tryz.call11 Tryz.func11 rfl Tryz.results11 Tryz.ntmps11 rfl rfl rfl (fun wf => ?_)
 have le_ := AH.le.refl A
 refine Run.seq fun K1 h2 => ?_
 refine Run.region ?_
 refine Ops.l rfl (fun _ _ hk3 _ => wbox wf rfl rfl fun A5 b4 nb6 => ?_)
 have ge_b4 := none_of wf (Nat.le_trans le_.n nb6.lo)
 have le7 := le_.trans nb6.le
 refine hk3 _ _ ?_
 refine Ops.l rfl (fun _ _ hk8 _ => walloc nb6.wf z36 rfl fun A10 b9 nb11 => ?_)
 have ne_b4_b9 := ne_new nb6.wf nb6.get nb11.lo
 have ge_b9 := none_of wf (Nat.le_trans le7.n nb11.lo)
 have h12 := nb11.le.get _ _ nb6.get
 have le13 := le7.trans nb11.le
 refine hk8 _ _ ?_
 refine Ops.q rfl (qassign rfl) ?_
 refine Ops.nil ?_
 refine h2 _ _ ?_
 refine Run.seq fun K14 h15 => ?_
 refine Run.seq fun K16 h17 => ?_
 refine Run.region ?_
 refine Ops.q rfl (qloadAggAt ag24 sz24 rfl rfl h12 rfl) ?_
 refine Ops.q rfl (qmove rfl) ?_
 refine Ops.l rfl (fun _ _ hk18 _ => vcallF rfl (s_refused ((g)) u l w A10 (by omega) (hL.le le13) (by first | omega | (simp only [List.length_append, List.length_drop, List.length_take, inv_length]; omega)) (hu.le le13)) ?_)
 rintro v19 A20 ⟨rfl, leq21, wfq21⟩
 have h22 := leq21.get _ _ h12
 have h23 := leq21.get _ _ nb11.get
 have le24 := le13.trans leq21
 refine hk18 _ _ ?_
 refine Ops.q rfl (qassign rfl) ?_
 refine Ops.nil ?_
 refine h17 _ _ ?_
 refine Run.seq fun K25 h26 => ?_
 refine Run.region ?_
 refine Ops.q rfl (qmove rfl) ?_
 refine Ops.q rfl (qneqN (b := 0) rfl rfl) ?_
 refine Ops.nil ?_
 refine h26 _ _ ?_
 refine Run.if rfl (fun p27 => ?_) (fun p27 => ?_)
 ·
  refine Run.seq fun K28 h29 => ?_
  refine Run.region ?_
  refine Ops.q rfl (qbuild rfl (buildV_struct u36 z36 pl36 rfl)) ?_
  refine Ops.q rfl (qmove rfl) ?_
  refine Ops.l rfl (fun _ _ hk30 _ => wstore (cs := [str ([]), num ((0 : Nat) : Int), .slice none 0 0]) (c' := [str ([]), num ((0 : Nat) : Int), .slice none 0 0]) wfq21 rfl rfl rfl rfl sz36 h23 (Nat.le_of_ble_eq_true rfl) rfl rfl fun A31 sb32 => ?_)
  have h33 := sb32.keep _ _ ne_b4_b9 h22
  have le34 := le_store le24 wf ge_b9 sb32.n sb32.keep
  refine hk30 _ _ ?_
  refine Ops.q rfl (qassign rfl) ?_
  refine Ops.nil ?_
  refine h29 _ _ ?_
  refine Run.ret ?_
  repeat first | with_reducible refine thenQ_ret ?_ | with_reducible refine blockQ_ret ?_
  exact retQ (resCell ag36 sz36 rfl sb32.get rfl (resTmp rfl resNil)) (⟨[], [], rasked ((g)) l w, _, rfl, le34, sb32.wf, Fresh.nil _ _ _, ShR.no ‹¬ rasked g l w = 0›⟩)
 ·
  refine Run.skip ?_
  refine h15 _ _ ?_
  refine Run.seq fun K35 h36 => ?_
  refine Run.region ?_
  refine Ops.q rfl (qloadAggAt ag24 sz24 rfl rfl h22 rfl) ?_
  refine Ops.l rfl (fun _ _ hk37 _ => vcallF rfl (s_newRules ((g)) u l A20 (hL.le le24) (rasked_pres ‹¬ ¬ rasked g l w = 0›) (hu.le le24)) ?_)
  rintro v38 A39 ⟨brq40, Sq40, rfl, leq40, wfq40, hRq40, hSq40, hPq40, hWq40⟩
  have h41 := leq40.get _ _ h22
  have h42 := leq40.get _ _ h23
  have le43 := le24.trans leq40
  have hR := hRq40
  have hS := hSq40
  have hP := hPq40
  have hW := hWq40
  have hRlq40 := Rules.all hRq40
  have leRq40 := le43
  have hSOq40 : SOk l Sq40 := ⟨hSq40, hPq40, hWq40⟩
  refine hk37 _ _ ?_
  refine Ops.q rfl (qmove rfl) ?_
  refine Ops.l rfl (fun _ _ hk44 _ => vcallF rfl (s_dshort brq40 Sq40 w A39 (hRlq40.le (by first | exact AH.le.refl _ | assumption)) hSq40 (hL.le le43) (by have := (rasked_word ‹¬ ¬ rasked g l w = 0›).2; omega)) ?_)
  rintro v45 A46 ⟨dvq47, rfl, leq47, wfq47, frq47⟩
  have h48 := leq47.get _ _ h41
  have h49 := leq47.get _ _ h42
  have le50 := le43.trans leq47
  have fr51 := frq47.base le43
  have no52 := frq47.ne wfq40 h41
  have no53 := frq47.ne wfq40 h42
  refine hk44 _ _ ?_
  refine Ops.l rfl (fun _ _ hk54 _ => walloc wfq47 z36 rfl fun A56 b55 nb57 => ?_)
  have ne_b4_b55 := ne_new wfq47 h48 nb57.lo
  have ne_b9_b55 := ne_new wfq47 h49 nb57.lo
  have no58 := fr51.own.ne_new wfq47 nb57.lo
  have ge_b55 := none_of wf (Nat.le_trans le50.n nb57.lo)
  have h59 := nb57.le.get _ _ h48
  have h60 := nb57.le.get _ _ h49
  have fr61 := fr51.le nb57.le
  have le62 := le50.trans nb57.le
  refine hk54 _ _ ?_
  obtain ⟨p64, l64, c64, q64, _⟩ := fr61.own.slice
  subst q64
  refine Ops.l rfl (fun _ _ hk63 _ => wstore (cs := [str ((dsh Sq40 w).1), num (((dsh Sq40 w).2.length : Nat) : Int), .slice p64 l64 c64]) (c' := [str ((dsh Sq40 w).1), num (((dsh Sq40 w).2.length : Nat) : Int), .slice p64 l64 c64]) nb57.wf rfl rfl rfl rfl sz36 nb57.get (Nat.le_of_ble_eq_true rfl) rfl rfl fun A65 sb66 => ?_)
  have h67 := sb66.keep _ _ ne_b4_b55 h59
  have h68 := sb66.keep _ _ ne_b9_b55 h60
  have fr69 := fr61.keep sb66.keep no58
  have le70 := le_store le62 wf ge_b55 sb66.n sb66.keep
  refine hk63 _ _ ?_
  refine Ops.nil ?_
  refine h36 _ _ ?_
  refine Run.seq fun K71 h72 => ?_
  refine Run.seq fun K73 h74 => ?_
  refine Run.region ?_
  refine Ops.q rfl (qfieldAddr fl36_2 sz34 (by decide) rfl) ?_
  refine Ops.q rfl (qloadAt ag34 rfl rfl sb66.get rfl) ?_
  refine Ops.l rfl (fun _ _ hk75 _ => vcallF rfl (s_heavy (.slice p64 l64 c64) ((dsh Sq40 w).2) A65 (dsh_small hSq40 (by have := (rasked_word ‹¬ ¬ rasked g l w = 0›).2; omega)).2.1 (Nat.le_trans (dsh_small hSq40 (by have := (rasked_word ‹¬ ¬ rasked g l w = 0›).2; omega)).2.2 (by decide)) fr69.slc) ?_)
  rintro v76 A77 ⟨rfl, leq78, wfq78⟩
  have h79 := leq78.get _ _ h67
  have h80 := leq78.get _ _ h68
  have h81 := leq78.get _ _ sb66.get
  have fr82 := fr69.le leq78
  have le83 := le70.trans leq78
  refine hk75 _ _ ?_
  refine Ops.nil ?_
  refine h74 _ _ ?_
  refine Run.if rfl (fun p84 => ?_) (fun p84 => ?_)
  ·
   refine Run.seq fun K85 h86 => ?_
   refine Run.region ?_
   refine Ops.q rfl (qbuild rfl (buildV_struct u36 z36 pl36 rfl)) ?_
   refine Ops.l rfl (fun _ _ hk87 _ => wstore (cs := [str ([]), num ((0 : Nat) : Int), .slice none 0 0]) (c' := [str ([]), num ((0 : Nat) : Int), .slice none 0 0]) wfq78 rfl rfl rfl rfl sz36 h80 (Nat.le_of_ble_eq_true rfl) rfl rfl fun A88 sb89 => ?_)
   have h90 := sb89.keep _ _ ne_b4_b9 h79
   have h91 := sb89.keep _ _ ne_b9_b55.symm h81
   have fr92 := fr82.keep sb89.keep no53
   have le93 := le_store le83 wf ge_b9 sb89.n sb89.keep
   refine hk87 _ _ ?_
   refine Ops.q rfl (qassign rfl) ?_
   refine Ops.nil ?_
   refine h86 _ _ ?_
   refine Run.ret ?_
   repeat first | with_reducible refine thenQ_ret ?_ | with_reducible refine blockQ_ret ?_
   exact retQ (resCell ag36 sz36 rfl sb89.get rfl (resTmp rfl resNil)) (⟨[], [], 2, _, rfl, le93, sb89.wf, Fresh.nil _ _ _, ShR.heavy ‹¬ ¬ rasked g l w = 0› hSOq40 ‹1000000 < conjs _ ∨ 100000 < _›⟩)
  ·
   refine Run.skip ?_
   refine h72 _ _ ?_
   refine Run.seq fun K94 h95 => ?_
   refine Run.region ?_
   refine Ops.q rfl (qloadAggAt ag36 sz36 rfl rfl h81 rfl) ?_
   refine Ops.l rfl (fun _ _ hk96 _ => wstore (cs := [str ((dsh Sq40 w).1), num (((dsh Sq40 w).2.length : Nat) : Int), .slice p64 l64 c64]) (c' := [str ((dsh Sq40 w).1), num (((dsh Sq40 w).2.length : Nat) : Int), .slice p64 l64 c64]) wfq78 rfl rfl rfl rfl sz36 h80 (Nat.le_of_ble_eq_true rfl) rfl rfl fun A97 sb98 => ?_)
   have h99 := sb98.keep _ _ ne_b4_b9 h79
   have h100 := sb98.keep _ _ ne_b9_b55.symm h81
   have fr101 := fr82.keep sb98.keep no53
   have le102 := le_store le83 wf ge_b9 sb98.n sb98.keep
   refine hk96 _ _ ?_
   refine Ops.q rfl (qassign rfl) ?_
   refine Ops.nil ?_
   refine h95 _ _ ?_
   refine Run.ret ?_
   repeat first | with_reducible refine thenQ_ret ?_ | with_reducible refine blockQ_ret ?_
   exact retQ (resCell ag36 sz36 rfl sb98.get rfl (resTmp rfl resNil)) (⟨(dsh Sq40 w).1, (dsh Sq40 w).2, 0, _, rfl, le102, sb98.wf, fr101, ShR.ok ‹¬ ¬ rasked g l w = 0› hSOq40 ‹¬ (1000000 < conjs _ ∨ 100000 < _)›⟩)

theorem s_St (g : Int) (u : Value) (l : List (List UInt8)) (w : List UInt8) (A : AH) (hn : l.length ≤ 1000000) (hL : Lets A) (hw : w.length ≤ 100000) (hu : Slc A 1 u (strs l)) : RetA Tryz.prog 12 #[.agg #[num (g), u], str (w)] A (fun v A1 => ∃ (b : Bool) (c : Nat), v = .tuple #[.bool b, num ((c : Nat) : Int)] ∧ A.le A1 ∧ A1.wf ∧ StR g l w (b, c)) := by
 refine enterA (e := [(0, .agg #[num (g), u]), (1, str (w))]) (args := [.agg #[num (g), u], str (w)]) Tryz.call12 Tryz.func12 rfl Tryz.results12 Tryz.ntmps12 rfl rfl rfl (fun wf => ?_)
 have le_ := AH.le.refl A
 refine Run.seq fun K1 h2 => ?_
 refine Run.region ?_
 refine Ops.l rfl (fun _ _ hk3 _ => wbox wf rfl rfl fun A5 b4 nb6 => ?_)
 have ge_b4 := none_of wf (Nat.le_trans le_.n nb6.lo)
 have le7 := le_.trans nb6.le
 refine hk3 _ _ ?_
 refine Ops.q rfl (qassign rfl) ?_
 refine Ops.q rfl (qassign rfl) ?_
 refine Ops.nil ?_
 refine h2 _ _ ?_
 refine Run.seq fun K8 h9 => ?_
 refine Run.seq fun K10 h11 => ?_
 refine Run.region ?_
 refine Ops.q rfl (qloadAggAt ag24 sz24 rfl rfl nb6.get rfl) ?_
 refine Ops.q rfl (qmove rfl) ?_
 refine Ops.l rfl (fun _ _ hk12 _ => vcallF rfl (s_refused ((g)) u l w A5 (by omega) (hL.le le7) (by first | omega | (simp only [List.length_append, List.length_drop, List.length_take, inv_length]; omega)) (hu.le le7)) ?_)
 rintro v13 A14 ⟨rfl, leq15, wfq15⟩
 have h16 := leq15.get _ _ nb6.get
 have le17 := le7.trans leq15
 refine hk12 _ _ ?_
 refine Ops.q rfl (qassign rfl) ?_
 refine Ops.nil ?_
 refine h11 _ _ ?_
 refine Run.seq fun K18 h19 => ?_
 refine Run.region ?_
 refine Ops.q rfl (qmove rfl) ?_
 refine Ops.q rfl (qneqN (b := 0) rfl rfl) ?_
 refine Ops.nil ?_
 refine h19 _ _ ?_
 refine Run.if rfl (fun p20 => ?_) (fun p20 => ?_)
 ·
  refine Run.seq fun K21 h22 => ?_
  refine Run.region ?_
  refine Ops.q rfl (qmove rfl) ?_
  refine Ops.q rfl (qassign rfl) ?_
  refine Ops.q rfl (qassign rfl) ?_
  refine Ops.nil ?_
  refine h22 _ _ ?_
  refine Run.ret ?_
  repeat first | with_reducible refine thenQ_ret ?_ | with_reducible refine blockQ_ret ?_
  exact retQ rfl (⟨false, rasked ((g)) l w, rfl, le17, wfq15, StR.no ‹¬ rasked g l w = 0›⟩)
 ·
  refine Run.skip ?_
  refine h9 _ _ ?_
  refine Run.seq fun K23 h24 => ?_
  refine Run.region ?_
  refine Ops.q rfl (qmove rfl) ?_
  refine Ops.l rfl (fun _ _ hk25 _ => vcallF rfl (s_Reduce w A14 (by first | omega | (simp only [List.length_append, List.length_drop, List.length_take, inv_length]; omega)) (hL.le le17)) ?_)
  rintro v26 A27 ⟨rfl, leq28, wfq28⟩
  have h29 := leq28.get _ _ h16
  have le30 := le17.trans leq28
  refine hk25 _ _ ?_
  refine Ops.q rfl (qmove rfl) ?_
  refine Ops.q rfl (qseql rfl rfl) ?_
  refine Ops.q rfl (qmove rfl) ?_
  refine Ops.part (t := 17) rfl (fun p31 => ?_) (fun p31 => ?_)
  ·
   refine Ops.on rfl rfl ?_
   refine Ops.q rfl (qloadAggAt ag24 sz24 rfl rfl h29 rfl) ?_
   refine Ops.on rfl rfl ?_
   refine Ops.l rfl (fun _ _ hk32 _ => vcallF rfl (s_newRules ((g)) u l A27 (hL.le le30) (rasked_pres ‹¬ ¬ rasked g l w = 0›) (hu.le le30)) ?_)
   rintro v33 A34 ⟨brq35, Sq35, rfl, leq35, wfq35, hRq35, hSq35, hPq35, hWq35⟩
   have h36 := leq35.get _ _ h29
   have le37 := le30.trans leq35
   have hR := hRq35
   have hS := hSq35
   have hP := hPq35
   have hW := hWq35
   have hRlq35 := Rules.all hRq35
   have leRq35 := le37
   have hSOq35 : SOk l Sq35 := ⟨hSq35, hPq35, hWq35⟩
   refine hk32 _ _ ?_
   refine Ops.on rfl rfl ?_
   refine Ops.q rfl (qmove rfl) ?_
   refine Ops.on rfl rfl ?_
   refine Ops.l rfl (fun _ _ hk38 _ => vcallF rfl (s_dshort brq35 Sq35 w A34 (hRlq35.le (by first | exact AH.le.refl _ | assumption)) hSq35 (hL.le le37) (by have := (rasked_word ‹¬ ¬ rasked g l w = 0›).2; omega)) ?_)
   rintro v39 A40 ⟨dvq41, rfl, leq41, wfq41, frq41⟩
   have h42 := leq41.get _ _ h36
   have le43 := le37.trans leq41
   have fr44 := frq41.base le37
   have no45 := frq41.ne wfq35 h36
   refine hk38 _ _ ?_
   refine Ops.on rfl rfl ?_
   refine Ops.q rfl (qfield1 (cs := [str ((dsh Sq35 w).1), num (((dsh Sq35 w).2.length : Nat) : Int), dvq41]) fl36_1 ag3 rfl rfl) ?_
   refine Ops.on rfl rfl ?_
   refine Ops.q rfl (qeqlN (b := 0) rfl rfl) ?_
   refine Ops.q rfl (qpickT rfl rfl) ?_
   refine Ops.q rfl (qassign rfl) ?_
   refine Ops.q rfl (qassign rfl) ?_
   refine Ops.nil ?_
   refine h24 _ _ ?_
   refine Run.ret ?_
   repeat first | with_reducible refine thenQ_ret ?_ | with_reducible refine blockQ_ret ?_
   exact retQ rfl (⟨decide ((dsh Sq35 w).2.length = 0), 0, rfl, le43, wfq41, StR.ok ‹¬ ¬ rasked g l w = 0› ‹wReduce w = w› hSOq35 rfl⟩)
  ·
   refine Ops.off rfl rfl rfl rfl ?_
   refine Ops.off rfl rfl rfl rfl ?_
   refine Ops.off rfl rfl rfl rfl ?_
   refine Ops.off rfl rfl rfl rfl ?_
   refine Ops.off rfl rfl rfl rfl ?_
   refine Ops.off rfl rfl rfl rfl ?_
   refine Ops.q rfl (qpickF rfl rfl) ?_
   refine Ops.q rfl (qassign rfl) ?_
   refine Ops.q rfl (qassign rfl) ?_
   refine Ops.nil ?_
   refine h24 _ _ ?_
   refine Run.ret ?_
   repeat first | with_reducible refine thenQ_ret ?_ | with_reducible refine blockQ_ret ?_
   exact retQ rfl (⟨false, 0, rfl, le30, wfq28, StR.un ‹¬ ¬ rasked g l w = 0› ‹¬ wReduce w = w›⟩)

theorem s_sortS (d : List (List UInt8)) (lv : Value) (A0 A : AH) (le : A0.le A) (wf0 : A0.wf) (own : Fresh A0 A lv 1 (strs d)) (hl : d.length ≤ 1000000) :
    RetA Tryz.prog 69 #[lv] A (fun v A1 => v = .tuple #[] ∧ A0.le A1 ∧ A1.wf ∧ Fresh A0 A1 lv 1 (strs (srt d))) :=
  (sort_ret Tryz.sortS Tryz.call69 (by omega) le own).mono fun v A1 h => ⟨h.1, h.2.1, h.2.2.1, h.2.2.2.1⟩


theorem s_ver (br : Nat) (S : RS) (A : AH) (hR : Rules A br S) (hS : RSok S) : RetA Tryz.prog 38 #[.pointer (some ⟨br, 0, none⟩)] A (fun v A1 => v = .bool (dver S) ∧ A.le A1 ∧ A1.wf) := by
 refine enterA (e := [(0, .pointer (some ⟨br, 0, none⟩))]) (args := [.pointer (some ⟨br, 0, none⟩)]) Tryz.call38 Tryz.func38 rfl Tryz.results38 Tryz.ntmps38 rfl rfl rfl (fun wf => ?_)
 have le_ := AH.le.refl A
 obtain ⟨rwr, capr, lsv, nv, bl, hbr, hls, hnv, hN⟩ := hR
 have hsm := hS.small
 refine Run.seq fun K1 h2 => ?_
 refine Run.region ?_
 refine Ops.q rfl (qassign rfl) ?_
 refine Ops.nil ?_
 refine h2 _ _ ?_
 refine Run.seq fun K3 h4 => ?_
 refine Run.region ?_
 refine Ops.q rfl (qassign rfl) ?_
 refine Ops.nil ?_
 refine h4 _ _ ?_
 refine Run.seq fun K5 h6 => ?_
 refine Run.seq fun K7 h8 => ?_
 refine Run.region ?_
 refine Ops.q rfl (qmove rfl) ?_
 refine Ops.q rfl (qnil rfl) ?_
 refine Ops.q rfl (qfieldAddr fl103_0 sz101 (by decide) rfl) ?_
 refine Ops.q rfl (qloadAt ag101 rfl rfl (le_.get _ _ hbr) rfl) ?_
 refine Ops.q rfl (qlenS (n := S.list.length) u101 rfl (hls.le le_) (by omega) (rcells_len _)) ?_
 refine Ops.q rfl (qmove rfl) ?_
 refine Ops.nil ?_
 refine h8 _ _ ?_
 refine Run.block ?_
 refine Run.loop (X := Nat × List (List UInt8) × Value) (fun ⟨k, ls, sv⟩ => [(3, sv), (11, lsv), (12, num ((S.list.length : Nat) : Int)), (13, num ((k : Nat) : Int))]) (fun ⟨k, ls, sv⟩ B => (k ≤ S.list.length ∧ ls = (S.list.map (·.w)).take k) ∧ A.le B ∧ Fresh A B sv 1 (strs ls)) (fun ⟨k, ls, sv⟩ => S.list.length - k) (⟨0, [], .slice none 0 0⟩) (EnvLe.cons rfl <| EnvLe.cons rfl <| EnvLe.cons rfl <| EnvLe.cons rfl <| EnvLe.nil _) (⟨⟨Nat.zero_le _, rfl⟩, le_, (Fresh.nil A A 1)⟩) ?_
 rintro ⟨k, ls, sv⟩ B10 ⟨⟨hk, hlq⟩, le9, fr_sv9⟩
 refine Run.wf fun wf11 => ?_
 have hlk : ls.length ≤ 30000 := by rw [hlq, List.length_take, List.length_map]; omega
 refine Run.seq fun K12 h13 => ?_
 refine Run.region ?_
 refine Ops.q rfl (qlssN rfl rfl) ?_
 refine Ops.nil ?_
 refine h13 _ _ ?_
 refine Run.seq fun K14 h15 => ?_
 refine Run.if rfl (fun p16 => ?_) (fun p16 => ?_)
 ·
  refine Run.skip ?_
  refine h15 _ _ ?_
  refine Run.seq fun K17 h18 => ?_
  refine Run.block ?_
  refine Run.seq fun K19 h20 => ?_
  refine Run.region ?_
  obtain ⟨b21, f21, rw21, r21, rc21, n21, k21, e21, l21, g21, cl21, cs21⟩ := Slc.at (i := k) (hls.le le9) (by simp only [rcells_length]; omega) (by omega)
  refine Ops.q rfl (qindexS u101 sz95 rfl e21 rfl l21) ?_
  refine Ops.q rfl (qloadAggAt ag95 sz95 rfl rfl g21 (cl21.trans (congrArg some (rcells_at (by omega))))) ?_
  refine Ops.l rfl (fun _ _ hk22 _ => walloc wf11 z95 rfl fun A24 b23 nb25 => ?_)
  have no26 := fr_sv9.own.ne_new wf11 nb25.lo
  have ge_b23 := none_of wf (Nat.le_trans le9.n nb25.lo)
  have fr27 := fr_sv9.le nb25.le
  have le28 := le9.trans nb25.le
  refine hk22 _ _ ?_
  refine Ops.l rfl (fun _ _ hk29 _ => wstore (cs := [str ((S.list.getD k .zero).w), str ((S.list.getD k .zero).c), num (((S.list.getD k .zero).r : Nat) : Int), .bool ((S.list.getD k .zero).i)]) (c' := [str ((S.list.getD k .zero).w), str ((S.list.getD k .zero).c), num (((S.list.getD k .zero).r : Nat) : Int), .bool ((S.list.getD k .zero).i)]) nb25.wf rfl rfl rfl rfl sz95 nb25.get (Nat.le_of_ble_eq_true rfl) rfl rfl fun A30 sb31 => ?_)
  have fr32 := fr27.keep sb31.keep no26
  have le33 := le_store le28 wf ge_b23 sb31.n sb31.keep
  refine hk29 _ _ ?_
  refine Ops.nil ?_
  refine h20 _ _ ?_
  refine Run.region ?_
  refine Ops.q rfl (qmove rfl) ?_
  refine Ops.q rfl (qfieldAddr fl95_0 sz9 (by decide) rfl) ?_
  refine Ops.q rfl (qloadAt ag9 rfl rfl sb31.get rfl) ?_
  refine Ops.l rfl (fun _ _ hk34 _ => wbuildSlice (c := [str ((S.list.getD k .zero).w)]) sb31.wf rfl (buildSliceV_of u22 sz9 z9 rfl (by decide) (by decide) rfl) fun A36 b35 nb37 => ?_)
  have ne_b23_b35 := ne_new sb31.wf sb31.get nb37.lo
  have no38 := fr32.own.ne_new sb31.wf nb37.lo
  have ge_b35 := none_of wf (Nat.le_trans le33.n nb37.lo)
  have h39 := nb37.le.get _ _ sb31.get
  have fr40 := fr32.le nb37.le
  have le41 := le33.trans nb37.le
  refine hk34 _ _ ?_
  refine Ops.l rfl (fun _ _ hk42 _ => wappend (ys := [str ((S.list.getD k .zero).w)]) rfl rfl u22 sz9 inf9 z9 rfl (by decide) u22 (fun _ h => by cases h) fr40.own (listOf_row (n := 1) nb37.get rfl) rfl rfl (by show (_ + _) * 16 ≤ _; simp only [strs_length, List.length_cons, List.length_nil]; (try simp only [List.length_append, List.length_cons, List.length_nil]); omega) (by simp only [strs_length, List.length_cons, List.length_nil]; (try simp only [List.length_append, List.length_cons, List.length_nil]); omega) fun A43 v44 ap45 => ?_)
  rw [show ([str ((S.list.getD k .zero).w)] : List Value) = strs [(S.list.getD k .zero).w] from rfl, strs_append] at ap45
  obtain ⟨fr48, le49⟩ := Fresh.grow fr40 le41 wf ap45
  have h50 := ap45.keep no26 h39
  have ne51 := ap45.ne no26 nb37.wf h39
  refine hk42 _ _ ?_
  refine Ops.q rfl (qassign rfl) ?_
  refine Ops.nil ?_
  refine h18 _ _ ?_
  refine Run.region ?_
  refine Ops.q rfl (qaddN (b := 1) rfl rfl (by omega)) ?_
  refine Ops.q rfl (qmove rfl) ?_
  refine Ops.nil ?_
  exact ⟨⟨k + 1, ls ++ [(S.list.getD k .zero).w], v44⟩, EnvLe.cons rfl <| EnvLe.cons rfl <| EnvLe.cons rfl <| EnvLe.cons rfl <| EnvLe.nil _, rfl, ⟨⟨by omega, by rw [hlq, List.take_add_one, List.getElem?_map, List.getElem?_eq_getElem (by omega)]; simp [show k < S.list.length by omega]⟩, le49, fr48⟩, (by (try dsimp only); omega)⟩
 ·
  refine Run.exit ?_
  refine h6 _ _ ?_
  refine Run.seq fun K52 h53 => ?_
  refine Run.region ?_
  refine Ops.q rfl (qmove rfl) ?_
  have hls2 : ls = S.list.map (·.w) := by rw [hlq, List.take_of_length_le (by rw [List.length_map]; omega)]
  have hpm := srt_perm ls
  have hpl : (srt ls).length = S.list.length := by rw [hpm.length_eq, hls2, List.length_map]
  have hwl : ∀ i, ((srt ls).getD i []).length ≤ 200 := getD_le fun r hr => by have := hpm.mem_iff.1 hr; rw [hls2] at this; obtain ⟨x, hx, rfl⟩ := List.mem_map.1 this; have := hS.most x hx; omega
  have le58 := le_hide (bs := [blk sv]) le9 (hoV fr_sv9.lo ho0)
  refine Ops.l rfl (fun _ _ hk54 _ => vcallF rfl (s_sortS ls sv (B10.hide [blk sv]) B10 (hide_le B10 [blk sv]) (hide_wf wf11) (fr_sv9.hide (by simp)) (by omega)) ?_)
  rintro v55 A56 ⟨rfl, leq57, wfq57, foq57_0⟩
  have fr59 := foq57_0.base le58
  have le60 := le58.trans leq57
  refine hk54 _ _ ?_
  refine Ops.nil ?_
  refine h53 _ _ ?_
  refine Run.seq fun K61 h62 => ?_
  refine Run.seq fun K63 h64 => ?_
  refine Run.region ?_
  refine Ops.q rfl (qassign rfl) ?_
  refine Ops.nil ?_
  refine h64 _ _ ?_
  refine Run.block ?_
  refine Run.loop (X := Nat) (fun i => [(3, sv), (6, num ((i : Nat) : Int))]) (fun i B => (1 ≤ i ∧ ∀ j, 1 ≤ j → j < i → ¬ badAt (srt ls) j) ∧ A.le B ∧ Fresh A B sv 1 (strs (srt ls))) (fun i => (srt ls).length - i) 1 (EnvLe.cons rfl <| EnvLe.cons rfl <| EnvLe.nil _) (⟨⟨Nat.le_refl _, fun j h1 h2 => by omega⟩, le60, fr59⟩) ?_
  rintro i B66 ⟨⟨hi, hgood⟩, le65, fk_oq57_065⟩
  refine Run.wf fun wf67 => ?_
  have hw1 := hwl (i - 1)
  have hw2 := hwl i
  have hcm := cmn_le ((srt ls).getD (i - 1) []) ((srt ls).getD i [])
  refine Run.seq fun K68 h69 => ?_
  refine Run.seq fun K70 h71 => ?_
  refine Run.region ?_
  refine Ops.q rfl (qmove rfl) ?_
  refine Ops.q rfl (qmove rfl) ?_
  refine Ops.q rfl (qlenS (n := (srt ls).length) u22 rfl fk_oq57_065.slc (by omega) (strs_len _)) ?_
  refine Ops.q rfl (qlssN rfl rfl) ?_
  refine Ops.nil ?_
  refine h71 _ _ ?_
  refine Run.if rfl (fun p72 => ?_) (fun p72 => ?_)
  ·
   refine Run.skip ?_
   refine h69 _ _ ?_
   refine Run.seq fun K73 h74 => ?_
   refine Run.block ?_
   refine Run.seq fun K75 h76 => ?_
   refine Run.drawn [0, 1, 2, 3, 4, 5, 6, 7, 8, 9, 10, 11] mixed (by kernel_rfl) (by kernel_rfl) rfl ?_
   refine DOps.q rfl rfl rfl (qmove rfl) ?_
   refine DOps.q rfl rfl rfl (qmove rfl) ?_
   refine DOps.q rfl rfl rfl (qsubN (b := 1) rfl rfl (by omega)) ?_
   obtain ⟨b77, f77, rw77, r77, rc77, n77, k77, e77, l77, g77, cl77, cs77⟩ := Slc.at (i := i - 1) fk_oq57_065.slc (by simp only [strs_length]; omega) (by omega)
   refine DOps.q rfl rfl rfl (qindexS u22 sz9 rfl e77 rfl l77) ?_
   have hc78 := cellOf (off := f77 + (i - 1) * 1) g77 ((elt0 cs77).trans (strs_get (by omega)))
   refine DOps.q rfl rfl rfl (qloadAt ag9 rfl rfl g77 ((elt0 cs77).trans (strs_get (by omega)))) ?_
   refine DOps.q rfl rfl rfl (qmove rfl) ?_
   refine DOps.q rfl rfl rfl (qmove rfl) ?_
   obtain ⟨b79, f79, rw79, r79, rc79, n79, k79, e79, l79, g79, cl79, cs79⟩ := Slc.at (i := i) fk_oq57_065.slc (by simp only [strs_length]; omega) (by omega)
   refine DOps.q rfl rfl rfl (qindexS u22 sz9 rfl e79 rfl l79) ?_
   have hc80 := cellOf (off := f79 + i * 1) g79 ((elt0 cs79).trans (strs_get (by omega)))
   refine DOps.q rfl rfl rfl (qloadAt ag9 rfl rfl g79 ((elt0 cs79).trans (strs_get (by omega)))) ?_
   refine DOps.l rfl rfl rfl (fun _ _ hk81 _ => vcallF rfl (s_common ((srt ls).getD (i - 1) []) ((srt ls).getD i []) B66 (by first | omega | (simp only [List.length_append, List.length_drop, List.length_take, inv_length]; omega)) (by first | omega | (simp only [List.length_append, List.length_drop, List.length_take, inv_length]; omega))) ?_)
   rintro v82 A83 ⟨rfl, rfl⟩
   refine hk81 _ _ (HeldNow.none (by kernel_rfl)) ?_
   refine DOps.q rfl rfl rfl (qmulN (a := 6) rfl rfl (by omega)) ?_
   refine DOps.q rfl rfl rfl (qassign rfl) ?_
   refine DOps.done ?_
   refine h76 _ _ ?_
   refine Run.seq fun K85 h86 => ?_
   refine Run.region ?_
   refine Ops.q rfl (qmove rfl) ?_
   refine Ops.q rfl (qmove rfl) ?_
   refine Ops.q rfl (qmove rfl) ?_
   refine Ops.q rfl (qsubN (b := 1) rfl rfl (by omega)) ?_
   obtain ⟨b87, f87, rw87, r87, rc87, n87, k87, e87, l87, g87, cl87, cs87⟩ := Slc.at (i := i - 1) fk_oq57_065.slc (by simp only [strs_length]; omega) (by omega)
   refine Ops.q rfl (qindexS u22 sz9 rfl e87 rfl l87) ?_
   refine Ops.q rfl (qloadAt ag9 rfl rfl g87 ((elt0 cs87).trans (strs_get (by omega)))) ?_
   refine Ops.q rfl (qslen u9 rfl) ?_
   refine Ops.q rfl (qgeqN rfl rfl) ?_
   refine Ops.q rfl (qmove rfl) ?_
   refine Ops.part (t := 50) rfl (fun p88 => ?_) (fun p88 => ?_)
   ·
    refine Ops.off rfl rfl rfl rfl ?_
    refine Ops.off rfl rfl rfl rfl ?_
    refine Ops.off rfl rfl rfl rfl ?_
    refine Ops.off rfl rfl rfl rfl ?_
    refine Ops.off rfl rfl rfl rfl ?_
    refine Ops.off rfl rfl rfl rfl ?_
    refine Ops.off rfl rfl rfl rfl ?_
    refine Ops.q rfl (qpickT rfl rfl) ?_
    refine Ops.nil ?_
    refine h86 _ _ ?_
    refine Run.cond_true rfl ?_
    refine Run.seq fun K89 h90 => ?_
    refine Run.region ?_
    refine Ops.q rfl (qassign rfl) ?_
    refine Ops.nil ?_
    refine h90 _ _ ?_
    refine Run.ret ?_
    repeat first | with_reducible refine thenQ_ret ?_ | with_reducible refine blockQ_ret ?_
    exact retQ rfl (⟨by first | (rw [dver, ← hls2, dverW_yes (by omega) hgood]; rfl) | (rw [dver, ← hls2, dverW_no hi (by omega) (by unfold badAt; omega)]; rfl), le65, wf67⟩)
   ·
    refine Ops.on rfl rfl ?_
    refine Ops.q rfl (qmove rfl) ?_
    refine Ops.on rfl rfl ?_
    refine Ops.q rfl (qmove rfl) ?_
    refine Ops.on rfl rfl ?_
    refine Ops.q rfl (qmove rfl) ?_
    refine Ops.on rfl rfl ?_
    obtain ⟨b91, f91, rw91, r91, rc91, n91, k91, e91, l91, g91, cl91, cs91⟩ := Slc.at (i := i) fk_oq57_065.slc (by simp only [strs_length]; omega) (by omega)
    refine Ops.q rfl (qindexS u22 sz9 rfl e91 rfl l91) ?_
    refine Ops.on rfl rfl ?_
    refine Ops.q rfl (qloadAt ag9 rfl rfl g91 ((elt0 cs91).trans (strs_get (by omega)))) ?_
    refine Ops.on rfl rfl ?_
    refine Ops.q rfl (qslen u9 rfl) ?_
    refine Ops.on rfl rfl ?_
    refine Ops.q rfl (qgeqN rfl rfl) ?_
    refine Ops.q rfl (qpickF rfl rfl) ?_
    refine Ops.nil ?_
    refine h86 _ _ ?_
    refine Run.if rfl (fun p92 => ?_) (fun p92 => ?_)
    ·
     refine Run.seq fun K93 h94 => ?_
     refine Run.region ?_
     refine Ops.q rfl (qassign rfl) ?_
     refine Ops.nil ?_
     refine h94 _ _ ?_
     refine Run.ret ?_
     repeat first | with_reducible refine thenQ_ret ?_ | with_reducible refine blockQ_ret ?_
     exact retQ rfl (⟨by first | (rw [dver, ← hls2, dverW_yes (by omega) hgood]; rfl) | (rw [dver, ← hls2, dverW_no hi (by omega) (by unfold badAt; omega)]; rfl), le65, wf67⟩)
    ·
     refine Run.skip ?_
     refine h74 _ _ ?_
     refine Run.region ?_
     refine Ops.q rfl (qmove rfl) ?_
     refine Ops.q rfl (qaddN (b := 1) rfl rfl (by omega)) ?_
     refine Ops.q rfl (qassign rfl) ?_
     refine Ops.nil ?_
     exact ⟨i + 1, EnvLe.cons rfl <| EnvLe.cons rfl <| EnvLe.nil _, rfl, ⟨⟨by omega, fun j h1 h2 => (Nat.lt_succ_iff_lt_or_eq.1 h2).elim (hgood j h1) (fun q => by subst q; unfold badAt; omega)⟩, le65, fk_oq57_065⟩, (by (try dsimp only); omega)⟩
  ·
   refine Run.exit ?_
   refine h62 _ _ ?_
   refine Run.seq fun K95 h96 => ?_
   refine Run.region ?_
   refine Ops.q rfl (qassign rfl) ?_
   refine Ops.nil ?_
   refine h96 _ _ ?_
   refine Run.ret ?_
   repeat first | with_reducible refine thenQ_ret ?_ | with_reducible refine blockQ_ret ?_
   exact retQ rfl (⟨by first | (rw [dver, ← hls2, dverW_yes (by omega) hgood]; rfl) | (rw [dver, ← hls2, dverW_no hi (by omega) (by unfold badAt; omega)]; rfl), le65, wf67⟩)

theorem s_Ve (g : Int) (u : Value) (l : List (List UInt8)) (A : AH) (hn : l.length ≤ 1000000) (hL : Lets A) (hu : Slc A 1 u (strs l)) : RetA Tryz.prog 13 #[.agg #[num (g), u]] A (fun v A1 => ∃ (c : Nat), v = num ((c : Nat) : Int) ∧ A.le A1 ∧ A1.wf ∧ VeR g l c) := by
 refine enterA (e := [(0, .agg #[num (g), u])]) (args := [.agg #[num (g), u]]) Tryz.call13 Tryz.func13 rfl Tryz.results13 Tryz.ntmps13 rfl rfl rfl (fun wf => ?_)
 have le_ := AH.le.refl A
 refine Run.seq fun K1 h2 => ?_
 refine Run.region ?_
 refine Ops.l rfl (fun _ _ hk3 _ => wbox wf rfl rfl fun A5 b4 nb6 => ?_)
 have ge_b4 := none_of wf (Nat.le_trans le_.n nb6.lo)
 have le7 := le_.trans nb6.le
 refine hk3 _ _ ?_
 refine Ops.q rfl (qassign rfl) ?_
 refine Ops.nil ?_
 refine h2 _ _ ?_
 refine Run.seq fun K8 h9 => ?_
 refine Run.seq fun K10 h11 => ?_
 refine Run.region ?_
 refine Ops.q rfl (qloadAggAt ag24 sz24 rfl rfl nb6.get rfl) ?_
 refine Ops.l rfl (fun _ _ hk12 _ => vcallF rfl (s_pCheck ((g)) u l A5 (by omega) (hL.le le7) (hu.le le7)) ?_)
 rintro v13 A14 ⟨rfl, leq15, wfq15⟩
 have h16 := leq15.get _ _ nb6.get
 have le17 := le7.trans leq15
 refine hk12 _ _ ?_
 refine Ops.q rfl (qassign rfl) ?_
 refine Ops.nil ?_
 refine h11 _ _ ?_
 refine Run.seq fun K18 h19 => ?_
 refine Run.region ?_
 refine Ops.q rfl (qmove rfl) ?_
 refine Ops.q rfl (qneqN (b := 0) rfl rfl) ?_
 refine Ops.nil ?_
 refine h19 _ _ ?_
 refine Run.if rfl (fun p20 => ?_) (fun p20 => ?_)
 ·
  refine Run.seq fun K21 h22 => ?_
  refine Run.region ?_
  refine Ops.q rfl (qmove rfl) ?_
  refine Ops.q rfl (qassign rfl) ?_
  refine Ops.nil ?_
  refine h22 _ _ ?_
  refine Run.ret ?_
  repeat first | with_reducible refine thenQ_ret ?_ | with_reducible refine blockQ_ret ?_
  exact retQ rfl (⟨pcheck ((g)) l, rfl, le17, wfq15, VeR.no ‹¬ pcheck g l = 0›⟩)
 ·
  refine Run.skip ?_
  refine h9 _ _ ?_
  refine Run.seq fun K23 h24 => ?_
  refine Run.seq fun K25 h26 => ?_
  refine Run.region ?_
  refine Ops.q rfl (qloadAggAt ag24 sz24 rfl rfl h16 rfl) ?_
  refine Ops.l rfl (fun _ _ hk27 _ => vcallF rfl (s_newRules ((g)) u l A14 (hL.le le17) (Decidable.not_not.1 ‹¬ ¬ pcheck g l = 0›) (hu.le le17)) ?_)
  rintro v28 A29 ⟨brq30, Sq30, rfl, leq30, wfq30, hRq30, hSq30, hPq30, hWq30⟩
  have h31 := leq30.get _ _ h16
  have le32 := le17.trans leq30
  have hR := hRq30
  have hS := hSq30
  have hP := hPq30
  have hW := hWq30
  have hRlq30 := Rules.all hRq30
  have leRq30 := le32
  have hSOq30 : SOk l Sq30 := ⟨hSq30, hPq30, hWq30⟩
  refine hk27 _ _ ?_
  refine Ops.l rfl (fun _ _ hk33 _ => vcallF rfl (s_ver brq30 Sq30 A29 (hRlq30.le (by first | exact AH.le.refl _ | assumption)) hSq30) ?_)
  rintro v34 A35 ⟨rfl, leq36, wfq36⟩
  have h37 := leq36.get _ _ h31
  have le38 := le32.trans leq36
  refine hk33 _ _ ?_
  refine Ops.q rfl (qnot rfl) ?_
  refine Ops.nil ?_
  refine h26 _ _ ?_
  refine Run.ifB rfl (fun p39 => ?_) (fun p39 => ?_)
  ·
   refine Run.seq fun K40 h41 => ?_
   refine Run.region ?_
   refine Ops.q rfl (qassign rfl) ?_
   refine Ops.nil ?_
   refine h41 _ _ ?_
   refine Run.ret ?_
   repeat first | with_reducible refine thenQ_ret ?_ | with_reducible refine blockQ_ret ?_
   exact retQ rfl (⟨230, rfl, le38, wfq36, VeR.ok ‹¬ ¬ pcheck g l = 0› hSOq30 (by rw [if_neg (by have := ‹(!dver _) = true›; intro q; rw [q] at this; cases this)])⟩)
  ·
   refine Run.skip ?_
   refine h24 _ _ ?_
   refine Run.seq fun K42 h43 => ?_
   refine Run.region ?_
   refine Ops.q rfl (qassign rfl) ?_
   refine Ops.nil ?_
   refine h43 _ _ ?_
   refine Run.ret ?_
   repeat first | with_reducible refine thenQ_ret ?_ | with_reducible refine blockQ_ret ?_
   exact retQ rfl (⟨0, rfl, le38, wfq36, VeR.ok ‹¬ ¬ pcheck g l = 0› hSOq30 (by rw [if_pos (by have := ‹(!dver _) = false›; simpa using this)])⟩)

theorem s_Tr (g : Int) (u : Value) (l : List (List UInt8)) (w : List UInt8) (A : AH) (hn : l.length ≤ 1000000) (hL : Lets A) (hw : w.length ≤ 100000) (hu : Slc A 1 u (strs l)) : RetA Tryz.prog 16 #[.agg #[num (g), u], str (w)] A (fun v A1 => ∃ (b : Bool) (d : List DCell) (c : Nat) (dv : Value), v = .tuple #[.bool b, dv, num ((c : Nat) : Int)] ∧ A.le A1 ∧ A1.wf ∧ Fresh A A1 dv 3 (dcells d) ∧ TrR g l w (b, d, c)) := by
 refine enterA (e := [(0, .agg #[num (g), u]), (1, str (w))]) (args := [.agg #[num (g), u], str (w)]) Tryz.call16 Tryz.func16 rfl Tryz.results16 Tryz.ntmps16 rfl rfl rfl (fun wf => ?_)
 have le_ := AH.le.refl A
 refine Run.seq fun K1 h2 => ?_
 refine Run.region ?_
 refine Ops.l rfl (fun _ _ hk3 _ => wbox wf rfl rfl fun A5 b4 nb6 => ?_)
 have ge_b4 := none_of wf (Nat.le_trans le_.n nb6.lo)
 have le7 := le_.trans nb6.le
 refine hk3 _ _ ?_
 refine Ops.q rfl (qassign rfl) ?_
 refine Ops.q rfl (qassign rfl) ?_
 refine Ops.q rfl (qassign rfl) ?_
 refine Ops.nil ?_
 refine h2 _ _ ?_
 refine Run.seq fun K8 h9 => ?_
 refine Run.seq fun K10 h11 => ?_
 refine Run.region ?_
 refine Ops.q rfl (qloadAggAt ag24 sz24 rfl rfl nb6.get rfl) ?_
 refine Ops.q rfl (qmove rfl) ?_
 refine Ops.l rfl (fun _ _ hk12 _ => vcallF rfl (s_refused ((g)) u l w A5 (by omega) (hL.le le7) (by first | omega | (simp only [List.length_append, List.length_drop, List.length_take, inv_length]; omega)) (hu.le le7)) ?_)
 rintro v13 A14 ⟨rfl, leq15, wfq15⟩
 have h16 := leq15.get _ _ nb6.get
 have le17 := le7.trans leq15
 refine hk12 _ _ ?_
 refine Ops.q rfl (qassign rfl) ?_
 refine Ops.nil ?_
 refine h11 _ _ ?_
 refine Run.seq fun K18 h19 => ?_
 refine Run.region ?_
 refine Ops.q rfl (qmove rfl) ?_
 refine Ops.q rfl (qneqN (b := 0) rfl rfl) ?_
 refine Ops.nil ?_
 refine h19 _ _ ?_
 refine Run.if rfl (fun p20 => ?_) (fun p20 => ?_)
 ·
  refine Run.seq fun K21 h22 => ?_
  refine Run.region ?_
  refine Ops.q rfl (qmove rfl) ?_
  refine Ops.q rfl (qassign rfl) ?_
  refine Ops.q rfl (qassign rfl) ?_
  refine Ops.q rfl (qassign rfl) ?_
  refine Ops.nil ?_
  refine h22 _ _ ?_
  refine Run.ret ?_
  repeat first | with_reducible refine thenQ_ret ?_ | with_reducible refine blockQ_ret ?_
  exact retQ rfl (⟨false, [], rasked ((g)) l w, _, rfl, le17, wfq15, Fresh.nil _ _ _, TrR.no ‹¬ rasked g l w = 0›⟩)
 ·
  refine Run.skip ?_
  refine h9 _ _ ?_
  refine Run.seq fun K23 h24 => ?_
  refine Run.region ?_
  refine Ops.q rfl (qloadAggAt ag24 sz24 rfl rfl h16 rfl) ?_
  refine Ops.l rfl (fun _ _ hk25 _ => vcallF rfl (s_newRules ((g)) u l A14 (hL.le le17) (rasked_pres ‹¬ ¬ rasked g l w = 0›) (hu.le le17)) ?_)
  rintro v26 A27 ⟨brq28, Sq28, rfl, leq28, wfq28, hRq28, hSq28, hPq28, hWq28⟩
  have h29 := leq28.get _ _ h16
  have le30 := le17.trans leq28
  have hR := hRq28
  have hS := hSq28
  have hP := hPq28
  have hW := hWq28
  have hRlq28 := Rules.all hRq28
  have leRq28 := le30
  have hSOq28 : SOk l Sq28 := ⟨hSq28, hPq28, hWq28⟩
  refine hk25 _ _ ?_
  refine Ops.q rfl (qassign rfl) ?_
  refine Ops.nil ?_
  refine h24 _ _ ?_
  refine Run.seq fun K31 h32 => ?_
  refine Run.seq fun K33 h34 => ?_
  refine Run.region ?_
  refine Ops.q rfl (qmove rfl) ?_
  refine Ops.l rfl (fun _ _ hk35 _ => vcallF rfl (s_ver brq28 Sq28 A27 (hRlq28.le (by first | exact AH.le.refl _ | assumption)) hSq28) ?_)
  rintro v36 A37 ⟨rfl, leq38, wfq38⟩
  have h39 := leq38.get _ _ h29
  have le40 := le30.trans leq38
  refine hk35 _ _ ?_
  refine Ops.q rfl (qnot rfl) ?_
  refine Ops.nil ?_
  refine h34 _ _ ?_
  refine Run.ifB rfl (fun p41 => ?_) (fun p41 => ?_)
  ·
   refine Run.seq fun K42 h43 => ?_
   refine Run.region ?_
   refine Ops.q rfl (qassign rfl) ?_
   refine Ops.q rfl (qassign rfl) ?_
   refine Ops.q rfl (qassign rfl) ?_
   refine Ops.nil ?_
   refine h43 _ _ ?_
   refine Run.ret ?_
   repeat first | with_reducible refine thenQ_ret ?_ | with_reducible refine blockQ_ret ?_
   exact retQ rfl (⟨false, [], 230, _, rfl, le40, wfq38, Fresh.nil _ _ _, TrR.a ‹¬ ¬ rasked g l w = 0› hSOq28 ‹(!dver _) = true›⟩)
  ·
   refine Run.skip ?_
   refine h32 _ _ ?_
   refine Run.seq fun K44 h45 => ?_
   refine Run.region ?_
   refine Ops.q rfl (qmove rfl) ?_
   refine Ops.q rfl (qmove rfl) ?_
   refine Ops.l rfl (fun _ _ hk46 _ => vcallF rfl (s_dshort brq28 Sq28 w A37 (hRlq28.le (by first | exact AH.le.refl _ | assumption)) hSq28 (hL.le le40) (by have := (rasked_word ‹¬ ¬ rasked g l w = 0›).2; omega)) ?_)
   rintro v47 A48 ⟨dvq49, rfl, leq49, wfq49, frq49⟩
   have h50 := leq49.get _ _ h39
   have le51 := le40.trans leq49
   have fr52 := frq49.base le40
   have no53 := frq49.ne wfq38 h39
   refine hk46 _ _ ?_
   refine Ops.l rfl (fun _ _ hk54 _ => walloc wfq49 z36 rfl fun A56 b55 nb57 => ?_)
   have ne_b4_b55 := ne_new wfq49 h50 nb57.lo
   have no58 := fr52.own.ne_new wfq49 nb57.lo
   have ge_b55 := none_of wf (Nat.le_trans le51.n nb57.lo)
   have h59 := nb57.le.get _ _ h50
   have fr60 := fr52.le nb57.le
   have le61 := le51.trans nb57.le
   refine hk54 _ _ ?_
   obtain ⟨p63, l63, c63, q63, _⟩ := fr60.own.slice
   subst q63
   refine Ops.l rfl (fun _ _ hk62 _ => wstore (cs := [str ((dsh Sq28 w).1), num (((dsh Sq28 w).2.length : Nat) : Int), .slice p63 l63 c63]) (c' := [str ((dsh Sq28 w).1), num (((dsh Sq28 w).2.length : Nat) : Int), .slice p63 l63 c63]) nb57.wf rfl rfl rfl rfl sz36 nb57.get (Nat.le_of_ble_eq_true rfl) rfl rfl fun A64 sb65 => ?_)
   have h66 := sb65.keep _ _ ne_b4_b55 h59
   have fr67 := fr60.keep sb65.keep no58
   have le68 := le_store le61 wf ge_b55 sb65.n sb65.keep
   refine hk62 _ _ ?_
   refine Ops.nil ?_
   refine h45 _ _ ?_
   refine Run.seq fun K69 h70 => ?_
   refine Run.seq fun K71 h72 => ?_
   refine Run.region ?_
   refine Ops.q rfl (qfieldAddr fl36_0 sz9 (by decide) rfl) ?_
   refine Ops.q rfl (qloadAt ag9 rfl rfl sb65.get rfl) ?_
   refine Ops.q rfl (qsneq rfl rfl) ?_
   refine Ops.nil ?_
   refine h72 _ _ ?_
   refine Run.if rfl (fun p73 => ?_) (fun p73 => ?_)
   ·
    refine Run.seq fun K74 h75 => ?_
    refine Run.region ?_
    refine Ops.q rfl (qassign rfl) ?_
    refine Ops.q rfl (qassign rfl) ?_
    refine Ops.q rfl (qassign rfl) ?_
    refine Ops.nil ?_
    refine h75 _ _ ?_
    refine Run.ret ?_
    repeat first | with_reducible refine thenQ_ret ?_ | with_reducible refine blockQ_ret ?_
    exact retQ rfl (⟨false, [], 0, _, rfl, le68, sb65.wf, Fresh.nil _ _ _, TrR.b ‹¬ ¬ rasked g l w = 0› hSOq28 ‹(!dver _) = false› ‹¬ (dsh _ w).1 = []›⟩)
   ·
    refine Run.skip ?_
    refine h70 _ _ ?_
    refine Run.seq fun K76 h77 => ?_
    refine Run.seq fun K78 h79 => ?_
    refine Run.region ?_
    refine Ops.q rfl (qfieldAddr fl36_2 sz34 (by decide) rfl) ?_
    refine Ops.q rfl (qloadAt ag34 rfl rfl sb65.get rfl) ?_
    refine Ops.l rfl (fun _ _ hk80 _ => vcallF rfl (s_heavy (.slice p63 l63 c63) ((dsh Sq28 w).2) A64 (dsh_small hSq28 (by have := (rasked_word ‹¬ ¬ rasked g l w = 0›).2; omega)).2.1 (Nat.le_trans (dsh_small hSq28 (by have := (rasked_word ‹¬ ¬ rasked g l w = 0›).2; omega)).2.2 (by decide)) fr67.slc) ?_)
    rintro v81 A82 ⟨rfl, leq83, wfq83⟩
    have h84 := leq83.get _ _ h66
    have h85 := leq83.get _ _ sb65.get
    have fr86 := fr67.le leq83
    have le87 := le68.trans leq83
    refine hk80 _ _ ?_
    refine Ops.nil ?_
    refine h79 _ _ ?_
    refine Run.if rfl (fun p88 => ?_) (fun p88 => ?_)
    ·
     refine Run.seq fun K89 h90 => ?_
     refine Run.region ?_
     refine Ops.q rfl (qassign rfl) ?_
     refine Ops.q rfl (qassign rfl) ?_
     refine Ops.q rfl (qassign rfl) ?_
     refine Ops.nil ?_
     refine h90 _ _ ?_
     refine Run.ret ?_
     repeat first | with_reducible refine thenQ_ret ?_ | with_reducible refine blockQ_ret ?_
     exact retQ rfl (⟨false, [], 2, _, rfl, le87, wfq83, Fresh.nil _ _ _, TrR.c ‹¬ ¬ rasked g l w = 0› hSOq28 ‹(!dver _) = false› ‹¬ ¬ (dsh _ w).1 = []› ‹1000000 < conjs _ ∨ 100000 < _›⟩)
    ·
     refine Run.skip ?_
     refine h77 _ _ ?_
     refine Run.seq fun K91 h92 => ?_
     refine Run.drawn [0, 1, 2, 3, 4] mixed (by kernel_rfl) (by kernel_rfl) rfl ?_
     refine DOps.q rfl rfl rfl (qfieldAddr fl36_2 sz34 (by decide) rfl) ?_
     have hc93 := cellOf (off := 2) h85 (show _ = some (.slice p63 l63 c63) from rfl)
     refine DOps.q rfl rfl rfl (qloadAt ag34 rfl rfl h85 rfl) ?_
     refine DOps.q rfl rfl rfl (qassign rfl) ?_
     refine DOps.q rfl rfl rfl (qassign rfl) ?_
     refine DOps.q rfl rfl rfl (qassign rfl) ?_
     refine DOps.done ?_
     refine h92 _ _ ?_
     refine Run.ret ?_
     repeat first | with_reducible refine thenQ_ret ?_ | with_reducible refine blockQ_ret ?_
     exact retQ rfl (⟨true, (dsh Sq28 w).2, 0, _, rfl, le87, wfq83, fr86, TrR.d ‹¬ ¬ rasked g l w = 0› hSOq28 ‹(!dver _) = false› ‹¬ ¬ (dsh _ w).1 = []› ‹¬ (1000000 < conjs _ ∨ 100000 < _)›⟩)
end Go.Proofs.YtaccklloepfemaaGreatDoor
