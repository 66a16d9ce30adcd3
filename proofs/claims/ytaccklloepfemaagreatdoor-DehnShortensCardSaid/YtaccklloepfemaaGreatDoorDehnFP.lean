/- The contracts of the functions, one by one: what each comes to. -/
import Derived.Test.YtaccklloepfemaaGreatDoorDehnFO
namespace Go.Proofs.YtaccklloepfemaaGreatDoor
open Go Go.RowKit V
set_option maxRecDepth 100000
set_option linter.unusedVariables false
set_option linter.unusedSimpArgs false
theorem fl32_0 : fldOf Tryz.prog 32 0 = some (4, 0) := by kernel_rfl
theorem fl32_1 : fldOf Tryz.prog 32 1 = some (27, 1) := by kernel_rfl

theorem s_DehnShortens (g : Int) (u : Value) (l : List (List UInt8)) (w : List UInt8) (A : AH) (hn : l.length ≤ 9223372036854775807) (hL : Lets A) (hu : Slc A 1 u (strs l)) : RetA Tryz.prog 3 #[.agg #[num (g), u], str (w)] A (fun v A1 => v = .bool true ∧ A.le A1 ∧ A1.wf) := by
 refine enterA (e := [(0, .agg #[num (g), u]), (1, str (w))]) (args := [.agg #[num (g), u], str (w)]) Tryz.call3 Tryz.func3 rfl Tryz.results3 Tryz.ntmps3 rfl rfl rfl (fun wf => ?_)
 have le_ := AH.le.refl A
 refine Run.seq fun K1 h2 => ?_
 refine Run.region ?_
 refine Ops.l rfl (fun _ _ hk3 _ => wbox wf rfl rfl fun A5 b4 nb6 => ?_)
 have ge_b4 := none_of wf (Nat.le_trans le_.n nb6.lo)
 have le7 := le_.trans nb6.le
 refine hk3 _ _ ?_
 refine Ops.q rfl (qassign rfl) ?_
 refine Ops.nil ?_
 refine h2 _ _ ?_
 refine Run.seq fun K8 h9 => ?_
 refine Run.seq fun K10 h11 => ?_
 refine Run.region ?_
 refine Ops.q rfl (qloadAggAt ag24 sz24 rfl rfl nb6.get rfl) ?_
 refine Ops.l rfl (fun _ _ hk12 _ => vcallF rfl (s_small ((g)) u l (.slice none 0 0) ([]) A5 (by omega) (by first | omega | simp) (hu.le le7) (Fresh.nil A A5 1).slc) ?_)
 rintro v13 A14 ⟨rfl, leq15, wfq15⟩
 have h16 := leq15.get _ _ nb6.get
 have le17 := le7.trans leq15
 refine hk12 _ _ ?_
 refine Ops.q rfl (qnot rfl) ?_
 refine Ops.q rfl (qmove rfl) ?_
 refine Ops.partB (t := 14) rfl (fun p18 => ?_) (fun p18 => ?_)
 ·
  refine Ops.off rfl rfl rfl rfl ?_
  refine Ops.off rfl rfl rfl rfl ?_
  refine Ops.off rfl rfl rfl rfl ?_
  refine Ops.off rfl rfl rfl rfl ?_
  refine Ops.und rfl rfl rfl ?_
  refine Ops.und rfl rfl rfl ?_
  refine Ops.und rfl rfl rfl ?_
  refine Ops.off rfl rfl rfl rfl ?_
  refine Ops.q rfl (qpickT rfl rfl) ?_
  refine Ops.q rfl (qmove rfl) ?_
  refine Ops.off rfl rfl rfl rfl ?_
  refine Ops.off rfl rfl rfl rfl ?_
  refine Ops.off rfl rfl rfl rfl ?_
  refine Ops.q rfl (qpickT rfl rfl) ?_
  refine Ops.nil ?_
  refine h11 _ _ ?_
  refine Run.cond_true rfl ?_
  refine Run.seq fun K19 h20 => ?_
  refine Run.region ?_
  refine Ops.l rfl (fun _ _ hk21 _ => vcallF rfl (s_sane A14 (hL.le le17)) ?_)
  rintro v22 A23 ⟨rfl, leq24, wfq24⟩
  have h25 := leq24.get _ _ h16
  have le26 := le17.trans leq24
  refine hk21 _ _ ?_
  refine Ops.q rfl (qassign rfl) ?_
  refine Ops.nil ?_
  refine h20 _ _ ?_
  refine Run.ret ?_
  repeat first | with_reducible refine thenQ_ret ?_ | with_reducible refine blockQ_ret ?_
  exact retQ rfl (⟨rfl, le26, wfq24⟩)
 ·
  refine Ops.on rfl rfl ?_
  refine Ops.q rfl (qmove rfl) ?_
  refine Ops.on rfl rfl ?_
  refine Ops.q rfl (qslen u9 rfl) ?_
  refine Ops.on rfl rfl ?_
  refine Ops.q rfl (qgtrN (b := 60) rfl rfl) ?_
  refine Ops.on rfl rfl ?_
  refine Ops.q rfl (qmove rfl) ?_
  refine Ops.part (t := 18) rfl (fun p27 => ?_) (fun p27 => ?_)
  ·
   refine Ops.on rfl rfl ?_
   refine Ops.q rfl (qmove rfl) ?_
   refine Ops.on rfl rfl ?_
   refine Ops.q rfl (qslen u9 rfl) ?_
   refine Ops.on rfl rfl ?_
   refine Ops.q rfl (qleqN (b := 5000) rfl rfl) ?_
   refine Ops.on rfl rfl ?_
   refine Ops.q rfl (qpickT rfl rfl) ?_
   refine Ops.q rfl (qpickF rfl rfl) ?_
   refine Ops.q rfl (qmove rfl) ?_
   refine Ops.part (t := 24) rfl (fun p28 => ?_) (fun p28 => ?_)
   ·
    refine Ops.off rfl rfl rfl rfl ?_
    refine Ops.off rfl rfl rfl rfl ?_
    refine Ops.off rfl rfl rfl rfl ?_
    refine Ops.q rfl (qpickT rfl rfl) ?_
    refine Ops.nil ?_
    refine h11 _ _ ?_
    refine Run.cond_true rfl ?_
    refine Run.seq fun K29 h30 => ?_
    refine Run.region ?_
    refine Ops.l rfl (fun _ _ hk31 _ => vcallF rfl (s_sane A14 (hL.le le17)) ?_)
    rintro v32 A33 ⟨rfl, leq34, wfq34⟩
    have h35 := leq34.get _ _ h16
    have le36 := le17.trans leq34
    refine hk31 _ _ ?_
    refine Ops.q rfl (qassign rfl) ?_
    refine Ops.nil ?_
    refine h30 _ _ ?_
    refine Run.ret ?_
    repeat first | with_reducible refine thenQ_ret ?_ | with_reducible refine blockQ_ret ?_
    exact retQ rfl (⟨rfl, le36, wfq34⟩)
   ·
    refine Ops.on rfl rfl ?_
    refine Ops.q rfl (qmove rfl) ?_
    refine Ops.on rfl rfl ?_
    refine Ops.q rfl (qslen u9 rfl) ?_
    refine Ops.on rfl rfl ?_
    refine Ops.q rfl (qgtrN (b := 5100) rfl rfl) ?_
    refine Ops.q rfl (qpickF rfl rfl) ?_
    refine Ops.nil ?_
    refine h11 _ _ ?_
    refine Run.if rfl (fun p37 => ?_) (fun p37 => ?_)
    ·
     refine Run.seq fun K38 h39 => ?_
     refine Run.region ?_
     refine Ops.l rfl (fun _ _ hk40 _ => vcallF rfl (s_sane A14 (hL.le le17)) ?_)
     rintro v41 A42 ⟨rfl, leq43, wfq43⟩
     have h44 := leq43.get _ _ h16
     have le45 := le17.trans leq43
     refine hk40 _ _ ?_
     refine Ops.q rfl (qassign rfl) ?_
     refine Ops.nil ?_
     refine h39 _ _ ?_
     refine Run.ret ?_
     repeat first | with_reducible refine thenQ_ret ?_ | with_reducible refine blockQ_ret ?_
     exact retQ rfl (⟨rfl, le45, wfq43⟩)
    ·
     refine Run.skip ?_
     refine h9 _ _ ?_
     refine Run.seq fun K46 h47 => ?_
     have hl8 := (small_len (l := l) (ws := []) (by simpa using ‹(!small l []) = false›)).1
     refine Run.region ?_
     refine Ops.q rfl (qloadAggAt ag24 sz24 rfl rfl h16 rfl) ?_
     refine Ops.q rfl (qmove rfl) ?_
     refine Ops.l rfl (fun _ _ hk48 _ => vcallF rfl (s_RShorten ((g)) u l w A14 (by omega) (by first | omega | (simp only [List.length_append, List.length_drop, List.length_take, inv_length]; omega)) (hu.le le17)) ?_)
     rintro v49 A50 ⟨rfl, leq51, wfq51⟩
     have h52 := leq51.get _ _ h16
     have le53 := le17.trans leq51
     refine hk48 _ _ ?_
     refine Ops.l rfl (fun _ _ hk54 _ => walloc wfq51 z29 rfl fun A56 b55 nb57 => ?_)
     have ne_b4_b55 := ne_new wfq51 h52 nb57.lo
     have ge_b55 := none_of wf (Nat.le_trans le53.n nb57.lo)
     have h58 := nb57.le.get _ _ h52
     have le59 := le53.trans nb57.le
     refine hk54 _ _ ?_
     refine Ops.l rfl (fun _ _ hk60 _ => wstore (cs := [str ((rS ((g)) l w).1), num (((rS ((g)) l w).2.1 : Nat) : Int), num (((rS ((g)) l w).2.2 : Nat) : Int)]) (c' := [str ((rS ((g)) l w).1), num (((rS ((g)) l w).2.1 : Nat) : Int), num (((rS ((g)) l w).2.2 : Nat) : Int)]) nb57.wf rfl rfl rfl rfl sz29 nb57.get (Nat.le_of_ble_eq_true rfl) rfl rfl fun A61 sb62 => ?_)
     have h63 := sb62.keep _ _ ne_b4_b55 h58
     have le64 := le_store le59 wf ge_b55 sb62.n sb62.keep
     refine hk60 _ _ ?_
     refine Ops.nil ?_
     refine h47 _ _ ?_
     refine Run.seq fun K65 h66 => ?_
     refine Run.region ?_
     refine Ops.q rfl (qloadAggAt ag24 sz24 rfl rfl h63 rfl) ?_
     refine Ops.q rfl (qmove rfl) ?_
     refine Ops.l rfl (fun _ _ hk67 _ => vcallF rfl (s_RStuck ((g)) u l w A61 (by omega) (by first | omega | (simp only [List.length_append, List.length_drop, List.length_take, inv_length]; omega)) (hu.le le64)) ?_)
     rintro v68 A69 ⟨rfl, leq70, wfq70⟩
     have h71 := leq70.get _ _ h63
     have h72 := leq70.get _ _ sb62.get
     have le73 := le64.trans leq70
     refine hk67 _ _ ?_
     refine Ops.l rfl (fun _ _ hk74 _ => walloc wfq70 z32 rfl fun A76 b75 nb77 => ?_)
     have ne_b4_b75 := ne_new wfq70 h71 nb77.lo
     have ne_b55_b75 := ne_new wfq70 h72 nb77.lo
     have ge_b75 := none_of wf (Nat.le_trans le73.n nb77.lo)
     have h78 := nb77.le.get _ _ h71
     have h79 := nb77.le.get _ _ h72
     have le80 := le73.trans nb77.le
     refine hk74 _ _ ?_
     refine Ops.l rfl (fun _ _ hk81 _ => wstore (cs := [.bool ((rStuck ((g)) l w).1), num (((rStuck ((g)) l w).2 : Nat) : Int)]) (c' := [.bool ((rStuck ((g)) l w).1), num (((rStuck ((g)) l w).2 : Nat) : Int)]) nb77.wf rfl rfl rfl rfl sz32 nb77.get (Nat.le_of_ble_eq_true rfl) rfl rfl fun A82 sb83 => ?_)
     have h84 := sb83.keep _ _ ne_b4_b75 h78
     have h85 := sb83.keep _ _ ne_b55_b75 h79
     have le86 := le_store le80 wf ge_b75 sb83.n sb83.keep
     refine hk81 _ _ ?_
     refine Ops.nil ?_
     refine h66 _ _ ?_
     refine Run.seq fun K87 h88 => ?_
     refine Run.region ?_
     refine Ops.q rfl (qloadAggAt ag24 sz24 rfl rfl h84 rfl) ?_
     refine Ops.q rfl (qmove rfl) ?_
     refine Ops.l rfl (fun _ _ hk89 _ => vcallF rfl (s_Sh2 (g := (g)) (w := w) (by omega) (hL.le le86) (hu.le le86) (by omega) (by omega)) ?_)
     rintro v90 A91 ⟨dq92, dvq92, rfl, leq92, wfq92, frq92, hdlq92⟩
     have h93 := leq92.get _ _ h84
     have h94 := leq92.get _ _ h85
     have h95 := leq92.get _ _ sb83.get
     have le96 := le86.trans leq92
     have fr97 := frq92.base le86
     have no98 := frq92.ne sb83.wf h84
     have no99 := frq92.ne sb83.wf h85
     have no100 := frq92.ne sb83.wf sb83.get
     have hdl := hdlq92
     refine hk89 _ _ ?_
     refine Ops.q rfl (qmove rfl) ?_
     refine Ops.q rfl (qextract rfl rfl) ?_
     refine Ops.q rfl (qextract rfl rfl) ?_
     refine Ops.l rfl (fun _ _ hk101 _ => walloc wfq92 z36 rfl fun A103 b102 nb104 => ?_)
     have ne_b4_b102 := ne_new wfq92 h93 nb104.lo
     have ne_b55_b102 := ne_new wfq92 h94 nb104.lo
     have ne_b75_b102 := ne_new wfq92 h95 nb104.lo
     have no105 := fr97.own.ne_new wfq92 nb104.lo
     have ge_b102 := none_of wf (Nat.le_trans le96.n nb104.lo)
     have h106 := nb104.le.get _ _ h93
     have h107 := nb104.le.get _ _ h94
     have h108 := nb104.le.get _ _ h95
     have fr109 := fr97.le nb104.le
     have le110 := le96.trans nb104.le
     refine hk101 _ _ ?_
     obtain ⟨p112, l112, c112, q112, _⟩ := fr109.own.slice
     subst q112
     refine Ops.l rfl (fun _ _ hk111 _ => wstore (cs := [str ((rS ((g)) l w).1), num (((rS ((g)) l w).2.1 : Nat) : Int), .slice p112 l112 c112]) (c' := [str ((rS ((g)) l w).1), num (((rS ((g)) l w).2.1 : Nat) : Int), .slice p112 l112 c112]) nb104.wf rfl rfl rfl rfl sz36 nb104.get (Nat.le_of_ble_eq_true rfl) rfl rfl fun A113 sb114 => ?_)
     have h115 := sb114.keep _ _ ne_b4_b102 h106
     have h116 := sb114.keep _ _ ne_b55_b102 h107
     have h117 := sb114.keep _ _ ne_b75_b102 h108
     have fr118 := fr109.keep sb114.keep no105
     have le119 := le_store le110 wf ge_b102 sb114.n sb114.keep
     refine hk111 _ _ ?_
     refine Ops.q rfl (qassign rfl) ?_
     refine Ops.nil ?_
     refine h88 _ _ ?_
     refine Run.seq fun K120 h121 => ?_
     refine Run.region ?_
     refine Ops.q rfl (qloadAggAt ag24 sz24 rfl rfl h115 rfl) ?_
     refine Ops.q rfl (qmove rfl) ?_
     refine Ops.l rfl (fun _ _ hk122 _ => vcallF rfl (s_St2 (g := (g)) (w := w) (by omega) (hL.le le119) (hu.le le119) (by omega)) ?_)
     rintro v123 A124 ⟨rfl, leq125, wfq125⟩
     have h126 := leq125.get _ _ h115
     have h127 := leq125.get _ _ h116
     have h128 := leq125.get _ _ h117
     have h129 := leq125.get _ _ sb114.get
     have fr130 := fr118.le leq125
     have le131 := le119.trans leq125
     refine hk122 _ _ ?_
     refine Ops.q rfl (qmove rfl) ?_
     refine Ops.q rfl (qextract rfl rfl) ?_
     refine Ops.q rfl (qextract rfl rfl) ?_
     refine Ops.q rfl (qassign rfl) ?_
     refine Ops.q rfl (qassign rfl) ?_
     refine Ops.nil ?_
     refine h121 _ _ ?_
     refine Run.seq fun K132 h133 => ?_
     refine Run.drawn [0, 1, 2, 4, 3, 5, 6, 7, 8, 9, 10, 11, 12, 13, 14, 15, 16, 17, 18, 19, 20, 21, 22, 23, 24, 25, 26, 27, 28, 29, 30, 31, 32, 33, 34, 35, 36, 37, 38, 39, 40] mixed (by kernel_rfl) (by kernel_rfl) rfl ?_
     refine DOps.l rfl rfl rfl (fun _ _ hk134 _ => vcallF rfl (s_sane A124 (hL.le le131)) ?_)
     rintro v135 A136 ⟨rfl, leq137, wfq137⟩
     have h138 := leq137.get _ _ h126
     have h139 := leq137.get _ _ h127
     have h140 := leq137.get _ _ h128
     have h141 := leq137.get _ _ h129
     have fr142 := fr130.le leq137
     have le143 := le131.trans leq137
     refine hk134 _ _ (HeldNow.none (by kernel_rfl)) ?_
     refine DOps.q rfl rfl rfl (qmove rfl) ?_
     have hc144 := cellOf (off := 0) h138 (show _ = some (num (g)) from rfl)
     have hc145 := cellOf (off := 1) h138 (show _ = some (u) from rfl)
     refine DOps.qOn rfl rfl rfl rfl rfl (qloadAggAt ag24 sz24 rfl rfl h138 rfl) ?_
     have hc146 := cellOf (off := 0) h138 (show _ = some (num (g)) from rfl)
     have hc147 := cellOf (off := 1) h138 (show _ = some (u) from rfl)
     refine DOps.qOn rfl rfl rfl rfl rfl (qloadAggAt ag24 sz24 rfl rfl h138 rfl) ?_
     refine DOps.lOn rfl rfl rfl rfl rfl (fun _ _ hk148 _ => vcallF rfl (s_Ve2 (g := (g)) (by omega) (hL.le le143) (hu.le le143)) ?_)
     rintro v149 A150 ⟨rfl, leq151, wfq151⟩
     have h152 := leq151.get _ _ h138
     have h153 := leq151.get _ _ h139
     have h154 := leq151.get _ _ h140
     have h155 := leq151.get _ _ h141
     have fr156 := fr142.le leq151
     have hc157 := cell_le leq151 hc144
     have hc158 := cell_le leq151 hc145
     have hc159 := cell_le leq151 hc146
     have hc160 := cell_le leq151 hc147
     have le161 := le143.trans leq151
     refine hk148 _ _ (HeldNow.list (L := [(⟨b4, 0, none⟩, num (g)), (⟨b4, 1, none⟩, u)]) (by kernel_rfl) (heldCons hc159 (heldCons hc160 heldNil))) ?_
     refine DOps.lOn rfl rfl rfl rfl rfl (fun _ _ hk162 _ => vcallF rfl (s_RVerified ((g)) u l A150 (by omega) (hu.le le161)) ?_)
     rintro v163 A164 ⟨rfl, leq165, wfq165⟩
     have h166 := leq165.get _ _ h152
     have h167 := leq165.get _ _ h153
     have h168 := leq165.get _ _ h154
     have h169 := leq165.get _ _ h155
     have fr170 := fr156.le leq165
     have hc171 := cell_le leq165 hc159
     have hc172 := cell_le leq165 hc160
     have le173 := le161.trans leq165
     refine hk162 _ _ (HeldNow.none (by kernel_rfl)) ?_
     refine DOps.qOn rfl rfl rfl rfl rfl (((qeqlN rfl rfl).trans (congrArg (fun z => some (Value.bool z, [])) (decide_eq_true rfl)))) ?_
     refine DOps.q rfl rfl rfl (qpickT rfl rfl) ?_
     refine DOps.q rfl rfl rfl (qmove rfl) ?_
     refine DOps.qOn rfl rfl rfl rfl rfl (qmove rfl) ?_
     refine DOps.qOn rfl rfl rfl rfl rfl (qfieldAddr fl29_2 sz27 (by decide) rfl) ?_
     have hc174 := cellOf (off := 2) h167 (show _ = some (num (((rS ((g)) l w).2.2 : Nat) : Int)) from rfl)
     refine DOps.qOn rfl rfl rfl rfl rfl (qloadAt ag27 rfl rfl h167 rfl) ?_
     refine DOps.qOn rfl rfl rfl rfl rfl (((qeqlN rfl rfl).trans (congrArg (fun z => some (Value.bool z, [])) (decide_eq_true rfl)))) ?_
     refine DOps.q rfl rfl rfl (qpickT rfl rfl) ?_
     refine DOps.q rfl rfl rfl (qmove rfl) ?_
     refine DOps.qOn rfl rfl rfl rfl rfl (qfieldAddr fl36_0 sz9 (by decide) rfl) ?_
     have hc175 := cellOf (off := 0) h169 (show _ = some (str ((rS ((g)) l w).1)) from rfl)
     refine DOps.qOn rfl rfl rfl rfl rfl (qloadAt ag9 rfl rfl h169 rfl) ?_
     refine DOps.qOn rfl rfl rfl rfl rfl (qfieldAddr fl29_0 sz9 (by decide) rfl) ?_
     have hc176 := cellOf (off := 0) h167 (show _ = some (str ((rS ((g)) l w).1)) from rfl)
     refine DOps.qOn rfl rfl rfl rfl rfl (qloadAt ag9 rfl rfl h167 rfl) ?_
     refine DOps.qOn rfl rfl rfl rfl rfl (((qseql rfl rfl).trans (congrArg (fun z => some (Value.bool z, [])) (decide_eq_true rfl)))) ?_
     refine DOps.q rfl rfl rfl (qpickT rfl rfl) ?_
     refine DOps.q rfl rfl rfl (qmove rfl) ?_
     refine DOps.qOn rfl rfl rfl rfl rfl (qfieldAddr fl36_1 sz3 (by decide) rfl) ?_
     have hc177 := cellOf (off := 1) h169 (show _ = some (num (((rS ((g)) l w).2.1 : Nat) : Int)) from rfl)
     refine DOps.qOn rfl rfl rfl rfl rfl (qloadAt ag3 rfl rfl h169 rfl) ?_
     refine DOps.qOn rfl rfl rfl rfl rfl (qfieldAddr fl29_1 sz3 (by decide) rfl) ?_
     have hc178 := cellOf (off := 1) h167 (show _ = some (num (((rS ((g)) l w).2.1 : Nat) : Int)) from rfl)
     refine DOps.qOn rfl rfl rfl rfl rfl (qloadAt ag3 rfl rfl h167 rfl) ?_
     refine DOps.qOn rfl rfl rfl rfl rfl (((qeqlN rfl rfl).trans (congrArg (fun z => some (Value.bool z, [])) (decide_eq_true rfl)))) ?_
     refine DOps.q rfl rfl rfl (qpickT rfl rfl) ?_
     refine DOps.q rfl rfl rfl (qmove rfl) ?_
     refine DOps.qOn rfl rfl rfl rfl rfl (qmove rfl) ?_
     refine DOps.qOn rfl rfl rfl rfl rfl (qfieldAddr fl32_1 sz27 (by decide) rfl) ?_
     have hc179 := cellOf (off := 1) h168 (show _ = some (num (((rStuck ((g)) l w).2 : Nat) : Int)) from rfl)
     refine DOps.qOn rfl rfl rfl rfl rfl (qloadAt ag27 rfl rfl h168 rfl) ?_
     refine DOps.qOn rfl rfl rfl rfl rfl (((qeqlN rfl rfl).trans (congrArg (fun z => some (Value.bool z, [])) (decide_eq_true rfl)))) ?_
     refine DOps.q rfl rfl rfl (qpickT rfl rfl) ?_
     refine DOps.q rfl rfl rfl (qmove rfl) ?_
     refine DOps.qOn rfl rfl rfl rfl rfl (qmove rfl) ?_
     refine DOps.qOn rfl rfl rfl rfl rfl (qfieldAddr fl32_0 sz4 (by decide) rfl) ?_
     have hc180 := cellOf (off := 0) h168 (show _ = some (.bool ((rStuck ((g)) l w).1)) from rfl)
     refine DOps.qOn rfl rfl rfl rfl rfl (qloadAt ag4 rfl rfl h168 rfl) ?_
     refine DOps.qOn rfl rfl rfl rfl rfl (((qbeql u4 rfl rfl).trans (congrArg (fun z => some (Value.bool z, [])) (beq_self_eq_true _)))) ?_
     refine DOps.q rfl rfl rfl (qpickT rfl rfl) ?_
     refine DOps.q rfl rfl rfl (qassign rfl) ?_
     refine DOps.done ?_
     refine h133 _ _ ?_
     refine Run.ret ?_
     repeat first | with_reducible refine thenQ_ret ?_ | with_reducible refine blockQ_ret ?_
     exact retQ rfl (⟨rfl, le173, wfq165⟩)
  ·
   refine Ops.off rfl rfl rfl rfl ?_
   refine Ops.off rfl rfl rfl rfl ?_
   refine Ops.off rfl rfl rfl rfl ?_
   refine Ops.on rfl rfl ?_
   refine Ops.q rfl (qpickF rfl rfl) ?_
   refine Ops.q rfl (qpickF rfl rfl) ?_
   refine Ops.q rfl (qmove rfl) ?_
   refine Ops.on rfl rfl ?_
   refine Ops.q rfl (qmove rfl) ?_
   refine Ops.on rfl rfl ?_
   refine Ops.q rfl (qslen u9 rfl) ?_
   refine Ops.on rfl rfl ?_
   refine Ops.q rfl (qgtrN (b := 5100) rfl rfl) ?_
   refine Ops.q rfl (qpickF rfl rfl) ?_
   refine Ops.nil ?_
   refine h11 _ _ ?_
   refine Run.if rfl (fun p181 => ?_) (fun p181 => ?_)
   ·
    refine Run.seq fun K182 h183 => ?_
    refine Run.region ?_
    refine Ops.l rfl (fun _ _ hk184 _ => vcallF rfl (s_sane A14 (hL.le le17)) ?_)
    rintro v185 A186 ⟨rfl, leq187, wfq187⟩
    have h188 := leq187.get _ _ h16
    have le189 := le17.trans leq187
    refine hk184 _ _ ?_
    refine Ops.q rfl (qassign rfl) ?_
    refine Ops.nil ?_
    refine h183 _ _ ?_
    refine Run.ret ?_
    repeat first | with_reducible refine thenQ_ret ?_ | with_reducible refine blockQ_ret ?_
    exact retQ rfl (⟨rfl, le189, wfq187⟩)
   ·
    refine Run.skip ?_
    refine h9 _ _ ?_
    refine Run.seq fun K190 h191 => ?_
    have hl8 := (small_len (l := l) (ws := []) (by simpa using ‹(!small l []) = false›)).1
    refine Run.region ?_
    refine Ops.q rfl (qloadAggAt ag24 sz24 rfl rfl h16 rfl) ?_
    refine Ops.q rfl (qmove rfl) ?_
    refine Ops.l rfl (fun _ _ hk192 _ => vcallF rfl (s_RShorten ((g)) u l w A14 (by omega) (by first | omega | (simp only [List.length_append, List.length_drop, List.length_take, inv_length]; omega)) (hu.le le17)) ?_)
    rintro v193 A194 ⟨rfl, leq195, wfq195⟩
    have h196 := leq195.get _ _ h16
    have le197 := le17.trans leq195
    refine hk192 _ _ ?_
    refine Ops.l rfl (fun _ _ hk198 _ => walloc wfq195 z29 rfl fun A200 b199 nb201 => ?_)
    have ne_b4_b199 := ne_new wfq195 h196 nb201.lo
    have ge_b199 := none_of wf (Nat.le_trans le197.n nb201.lo)
    have h202 := nb201.le.get _ _ h196
    have le203 := le197.trans nb201.le
    refine hk198 _ _ ?_
    refine Ops.l rfl (fun _ _ hk204 _ => wstore (cs := [str ((rS ((g)) l w).1), num (((rS ((g)) l w).2.1 : Nat) : Int), num (((rS ((g)) l w).2.2 : Nat) : Int)]) (c' := [str ((rS ((g)) l w).1), num (((rS ((g)) l w).2.1 : Nat) : Int), num (((rS ((g)) l w).2.2 : Nat) : Int)]) nb201.wf rfl rfl rfl rfl sz29 nb201.get (Nat.le_of_ble_eq_true rfl) rfl rfl fun A205 sb206 => ?_)
    have h207 := sb206.keep _ _ ne_b4_b199 h202
    have le208 := le_store le203 wf ge_b199 sb206.n sb206.keep
    refine hk204 _ _ ?_
    refine Ops.nil ?_
    refine h191 _ _ ?_
    refine Run.seq fun K209 h210 => ?_
    refine Run.region ?_
    refine Ops.q rfl (qloadAggAt ag24 sz24 rfl rfl h207 rfl) ?_
    refine Ops.q rfl (qmove rfl) ?_
    refine Ops.l rfl (fun _ _ hk211 _ => vcallF rfl (s_RStuck ((g)) u l w A205 (by omega) (by first | omega | (simp only [List.length_append, List.length_drop, List.length_take, inv_length]; omega)) (hu.le le208)) ?_)
    rintro v212 A213 ⟨rfl, leq214, wfq214⟩
    have h215 := leq214.get _ _ h207
    have h216 := leq214.get _ _ sb206.get
    have le217 := le208.trans leq214
    refine hk211 _ _ ?_
    refine Ops.l rfl (fun _ _ hk218 _ => walloc wfq214 z32 rfl fun A220 b219 nb221 => ?_)
    have ne_b4_b219 := ne_new wfq214 h215 nb221.lo
    have ne_b199_b219 := ne_new wfq214 h216 nb221.lo
    have ge_b219 := none_of wf (Nat.le_trans le217.n nb221.lo)
    have h222 := nb221.le.get _ _ h215
    have h223 := nb221.le.get _ _ h216
    have le224 := le217.trans nb221.le
    refine hk218 _ _ ?_
    refine Ops.l rfl (fun _ _ hk225 _ => wstore (cs := [.bool ((rStuck ((g)) l w).1), num (((rStuck ((g)) l w).2 : Nat) : Int)]) (c' := [.bool ((rStuck ((g)) l w).1), num (((rStuck ((g)) l w).2 : Nat) : Int)]) nb221.wf rfl rfl rfl rfl sz32 nb221.get (Nat.le_of_ble_eq_true rfl) rfl rfl fun A226 sb227 => ?_)
    have h228 := sb227.keep _ _ ne_b4_b219 h222
    have h229 := sb227.keep _ _ ne_b199_b219 h223
    have le230 := le_store le224 wf ge_b219 sb227.n sb227.keep
    refine hk225 _ _ ?_
    refine Ops.nil ?_
    refine h210 _ _ ?_
    refine Run.seq fun K231 h232 => ?_
    refine Run.region ?_
    refine Ops.q rfl (qloadAggAt ag24 sz24 rfl rfl h228 rfl) ?_
    refine Ops.q rfl (qmove rfl) ?_
    refine Ops.l rfl (fun _ _ hk233 _ => vcallF rfl (s_Sh2 (g := (g)) (w := w) (by omega) (hL.le le230) (hu.le le230) (by omega) (by omega)) ?_)
    rintro v234 A235 ⟨dq236, dvq236, rfl, leq236, wfq236, frq236, hdlq236⟩
    have h237 := leq236.get _ _ h228
    have h238 := leq236.get _ _ h229
    have h239 := leq236.get _ _ sb227.get
    have le240 := le230.trans leq236
    have fr241 := frq236.base le230
    have no242 := frq236.ne sb227.wf h228
    have no243 := frq236.ne sb227.wf h229
    have no244 := frq236.ne sb227.wf sb227.get
    have hdl := hdlq236
    refine hk233 _ _ ?_
    refine Ops.q rfl (qmove rfl) ?_
    refine Ops.q rfl (qextract rfl rfl) ?_
    refine Ops.q rfl (qextract rfl rfl) ?_
    refine Ops.l rfl (fun _ _ hk245 _ => walloc wfq236 z36 rfl fun A247 b246 nb248 => ?_)
    have ne_b4_b246 := ne_new wfq236 h237 nb248.lo
    have ne_b199_b246 := ne_new wfq236 h238 nb248.lo
    have ne_b219_b246 := ne_new wfq236 h239 nb248.lo
    have no249 := fr241.own.ne_new wfq236 nb248.lo
    have ge_b246 := none_of wf (Nat.le_trans le240.n nb248.lo)
    have h250 := nb248.le.get _ _ h237
    have h251 := nb248.le.get _ _ h238
    have h252 := nb248.le.get _ _ h239
    have fr253 := fr241.le nb248.le
    have le254 := le240.trans nb248.le
    refine hk245 _ _ ?_
    obtain ⟨p256, l256, c256, q256, _⟩ := fr253.own.slice
    subst q256
    refine Ops.l rfl (fun _ _ hk255 _ => wstore (cs := [str ((rS ((g)) l w).1), num (((rS ((g)) l w).2.1 : Nat) : Int), .slice p256 l256 c256]) (c' := [str ((rS ((g)) l w).1), num (((rS ((g)) l w).2.1 : Nat) : Int), .slice p256 l256 c256]) nb248.wf rfl rfl rfl rfl sz36 nb248.get (Nat.le_of_ble_eq_true rfl) rfl rfl fun A257 sb258 => ?_)
    have h259 := sb258.keep _ _ ne_b4_b246 h250
    have h260 := sb258.keep _ _ ne_b199_b246 h251
    have h261 := sb258.keep _ _ ne_b219_b246 h252
    have fr262 := fr253.keep sb258.keep no249
    have le263 := le_store le254 wf ge_b246 sb258.n sb258.keep
    refine hk255 _ _ ?_
    refine Ops.q rfl (qassign rfl) ?_
    refine Ops.nil ?_
    refine h232 _ _ ?_
    refine Run.seq fun K264 h265 => ?_
    refine Run.region ?_
    refine Ops.q rfl (qloadAggAt ag24 sz24 rfl rfl h259 rfl) ?_
    refine Ops.q rfl (qmove rfl) ?_
    refine Ops.l rfl (fun _ _ hk266 _ => vcallF rfl (s_St2 (g := (g)) (w := w) (by omega) (hL.le le263) (hu.le le263) (by omega)) ?_)
    rintro v267 A268 ⟨rfl, leq269, wfq269⟩
    have h270 := leq269.get _ _ h259
    have h271 := leq269.get _ _ h260
    have h272 := leq269.get _ _ h261
    have h273 := leq269.get _ _ sb258.get
    have fr274 := fr262.le leq269
    have le275 := le263.trans leq269
    refine hk266 _ _ ?_
    refine Ops.q rfl (qmove rfl) ?_
    refine Ops.q rfl (qextract rfl rfl) ?_
    refine Ops.q rfl (qextract rfl rfl) ?_
    refine Ops.q rfl (qassign rfl) ?_
    refine Ops.q rfl (qassign rfl) ?_
    refine Ops.nil ?_
    refine h265 _ _ ?_
    refine Run.seq fun K276 h277 => ?_
    refine Run.drawn [0, 1, 2, 4, 3, 5, 6, 7, 8, 9, 10, 11, 12, 13, 14, 15, 16, 17, 18, 19, 20, 21, 22, 23, 24, 25, 26, 27, 28, 29, 30, 31, 32, 33, 34, 35, 36, 37, 38, 39, 40] mixed (by kernel_rfl) (by kernel_rfl) rfl ?_
    refine DOps.l rfl rfl rfl (fun _ _ hk278 _ => vcallF rfl (s_sane A268 (hL.le le275)) ?_)
    rintro v279 A280 ⟨rfl, leq281, wfq281⟩
    have h282 := leq281.get _ _ h270
    have h283 := leq281.get _ _ h271
    have h284 := leq281.get _ _ h272
    have h285 := leq281.get _ _ h273
    have fr286 := fr274.le leq281
    have le287 := le275.trans leq281
    refine hk278 _ _ (HeldNow.none (by kernel_rfl)) ?_
    refine DOps.q rfl rfl rfl (qmove rfl) ?_
    have hc288 := cellOf (off := 0) h282 (show _ = some (num (g)) from rfl)
    have hc289 := cellOf (off := 1) h282 (show _ = some (u) from rfl)
    refine DOps.qOn rfl rfl rfl rfl rfl (qloadAggAt ag24 sz24 rfl rfl h282 rfl) ?_
    have hc290 := cellOf (off := 0) h282 (show _ = some (num (g)) from rfl)
    have hc291 := cellOf (off := 1) h282 (show _ = some (u) from rfl)
    refine DOps.qOn rfl rfl rfl rfl rfl (qloadAggAt ag24 sz24 rfl rfl h282 rfl) ?_
    refine DOps.lOn rfl rfl rfl rfl rfl (fun _ _ hk292 _ => vcallF rfl (s_Ve2 (g := (g)) (by omega) (hL.le le287) (hu.le le287)) ?_)
    rintro v293 A294 ⟨rfl, leq295, wfq295⟩
    have h296 := leq295.get _ _ h282
    have h297 := leq295.get _ _ h283
    have h298 := leq295.get _ _ h284
    have h299 := leq295.get _ _ h285
    have fr300 := fr286.le leq295
    have hc301 := cell_le leq295 hc288
    have hc302 := cell_le leq295 hc289
    have hc303 := cell_le leq295 hc290
    have hc304 := cell_le leq295 hc291
    have le305 := le287.trans leq295
    refine hk292 _ _ (HeldNow.list (L := [(⟨b4, 0, none⟩, num (g)), (⟨b4, 1, none⟩, u)]) (by kernel_rfl) (heldCons hc303 (heldCons hc304 heldNil))) ?_
    refine DOps.lOn rfl rfl rfl rfl rfl (fun _ _ hk306 _ => vcallF rfl (s_RVerified ((g)) u l A294 (by omega) (hu.le le305)) ?_)
    rintro v307 A308 ⟨rfl, leq309, wfq309⟩
    have h310 := leq309.get _ _ h296
    have h311 := leq309.get _ _ h297
    have h312 := leq309.get _ _ h298
    have h313 := leq309.get _ _ h299
    have fr314 := fr300.le leq309
    have hc315 := cell_le leq309 hc303
    have hc316 := cell_le leq309 hc304
    have le317 := le305.trans leq309
    refine hk306 _ _ (HeldNow.none (by kernel_rfl)) ?_
    refine DOps.qOn rfl rfl rfl rfl rfl (((qeqlN rfl rfl).trans (congrArg (fun z => some (Value.bool z, [])) (decide_eq_true rfl)))) ?_
    refine DOps.q rfl rfl rfl (qpickT rfl rfl) ?_
    refine DOps.q rfl rfl rfl (qmove rfl) ?_
    refine DOps.qOn rfl rfl rfl rfl rfl (qmove rfl) ?_
    refine DOps.qOn rfl rfl rfl rfl rfl (qfieldAddr fl29_2 sz27 (by decide) rfl) ?_
    have hc318 := cellOf (off := 2) h311 (show _ = some (num (((rS ((g)) l w).2.2 : Nat) : Int)) from rfl)
    refine DOps.qOn rfl rfl rfl rfl rfl (qloadAt ag27 rfl rfl h311 rfl) ?_
    refine DOps.qOn rfl rfl rfl rfl rfl (((qeqlN rfl rfl).trans (congrArg (fun z => some (Value.bool z, [])) (decide_eq_true rfl)))) ?_
    refine DOps.q rfl rfl rfl (qpickT rfl rfl) ?_
    refine DOps.q rfl rfl rfl (qmove rfl) ?_
    refine DOps.qOn rfl rfl rfl rfl rfl (qfieldAddr fl36_0 sz9 (by decide) rfl) ?_
    have hc319 := cellOf (off := 0) h313 (show _ = some (str ((rS ((g)) l w).1)) from rfl)
    refine DOps.qOn rfl rfl rfl rfl rfl (qloadAt ag9 rfl rfl h313 rfl) ?_
    refine DOps.qOn rfl rfl rfl rfl rfl (qfieldAddr fl29_0 sz9 (by decide) rfl) ?_
    have hc320 := cellOf (off := 0) h311 (show _ = some (str ((rS ((g)) l w).1)) from rfl)
    refine DOps.qOn rfl rfl rfl rfl rfl (qloadAt ag9 rfl rfl h311 rfl) ?_
    refine DOps.qOn rfl rfl rfl rfl rfl (((qseql rfl rfl).trans (congrArg (fun z => some (Value.bool z, [])) (decide_eq_true rfl)))) ?_
    refine DOps.q rfl rfl rfl (qpickT rfl rfl) ?_
    refine DOps.q rfl rfl rfl (qmove rfl) ?_
    refine DOps.qOn rfl rfl rfl rfl rfl (qfieldAddr fl36_1 sz3 (by decide) rfl) ?_
    have hc321 := cellOf (off := 1) h313 (show _ = some (num (((rS ((g)) l w).2.1 : Nat) : Int)) from rfl)
    refine DOps.qOn rfl rfl rfl rfl rfl (qloadAt ag3 rfl rfl h313 rfl) ?_
    refine DOps.qOn rfl rfl rfl rfl rfl (qfieldAddr fl29_1 sz3 (by decide) rfl) ?_
    have hc322 := cellOf (off := 1) h311 (show _ = some (num (((rS ((g)) l w).2.1 : Nat) : Int)) from rfl)
    refine DOps.qOn rfl rfl rfl rfl rfl (qloadAt ag3 rfl rfl h311 rfl) ?_
    refine DOps.qOn rfl rfl rfl rfl rfl (((qeqlN rfl rfl).trans (congrArg (fun z => some (Value.bool z, [])) (decide_eq_true rfl)))) ?_
    refine DOps.q rfl rfl rfl (qpickT rfl rfl) ?_
    refine DOps.q rfl rfl rfl (qmove rfl) ?_
    refine DOps.qOn rfl rfl rfl rfl rfl (qmove rfl) ?_
    refine DOps.qOn rfl rfl rfl rfl rfl (qfieldAddr fl32_1 sz27 (by decide) rfl) ?_
    have hc323 := cellOf (off := 1) h312 (show _ = some (num (((rStuck ((g)) l w).2 : Nat) : Int)) from rfl)
    refine DOps.qOn rfl rfl rfl rfl rfl (qloadAt ag27 rfl rfl h312 rfl) ?_
    refine DOps.qOn rfl rfl rfl rfl rfl (((qeqlN rfl rfl).trans (congrArg (fun z => some (Value.bool z, [])) (decide_eq_true rfl)))) ?_
    refine DOps.q rfl rfl rfl (qpickT rfl rfl) ?_
    refine DOps.q rfl rfl rfl (qmove rfl) ?_
    refine DOps.qOn rfl rfl rfl rfl rfl (qmove rfl) ?_
    refine DOps.qOn rfl rfl rfl rfl rfl (qfieldAddr fl32_0 sz4 (by decide) rfl) ?_
    have hc324 := cellOf (off := 0) h312 (show _ = some (.bool ((rStuck ((g)) l w).1)) from rfl)
    refine DOps.qOn rfl rfl rfl rfl rfl (qloadAt ag4 rfl rfl h312 rfl) ?_
    refine DOps.qOn rfl rfl rfl rfl rfl (((qbeql u4 rfl rfl).trans (congrArg (fun z => some (Value.bool z, [])) (beq_self_eq_true _)))) ?_
    refine DOps.q rfl rfl rfl (qpickT rfl rfl) ?_
    refine DOps.q rfl rfl rfl (qassign rfl) ?_
    refine DOps.done ?_
    refine h277 _ _ ?_
    refine Run.ret ?_
    repeat first | with_reducible refine thenQ_ret ?_ | with_reducible refine blockQ_ret ?_
    exact retQ rfl (⟨rfl, le317, wfq309⟩)
end Go.Proofs.YtaccklloepfemaaGreatDoor
