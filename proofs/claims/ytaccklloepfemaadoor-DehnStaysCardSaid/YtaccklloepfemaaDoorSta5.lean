/- DehnStays: whatever the presentation and the word, it returns true, and both read afterwards as they read before. Conditions: the letters' table of the word layer is as the program lays it; the card ties that to the program's text. -/
import Derived.Test.YtaccklloepfemaaDoorSta4
import Derived.Test.YtaccklloepfemaaDoorCards
import Derived.Test.YtaccklloepfemaaDoorTie
import Derived.Test.YtaccklloepfemaaDoorSta2
import Derived.WalkKit
import Derived.ProofKit
import Derived.OpenShut
import Derived.Carry
import Derived.SliceStrings
import Derived.ChangeSame
import Derived.ChangeMaps5
import Derived.Deep.DeepHandedRow
import Derived.Lib.LaidTab
namespace Go.Proofs.YtaccklloepfemaaDoor
open Go Go.RowKit V
set_option maxRecDepth 100000
set_option linter.unusedVariables false
set_option linter.unusedSimpArgs false
theorem s_CopyW (u : Value) (l : List (List UInt8)) (A : AH) (hn : l.length ≤ 1000000) (hu : Slc A 1 u (strs l)) : RetA Tryd.prog 60 #[u] A (fun v A1 => A.le A1 ∧ A1.wf ∧ Fresh A A1 v 1 (strs l)) := by
 refine enterA (e := [(0, u)]) (args := [u]) Tryd.call60 Tryd.func60 rfl Tryd.results60 Tryd.ntmps60 rfl rfl rfl (fun wf => ?_)
 have le_ := AH.le.refl A
 refine Run.seq fun K1 h2 => .region <| .q rfl (qassign rfl) <| .nil <| h2 _ _ <| .seq fun K3 h4 => .region <| .q rfl (qassign rfl) <| .nil <| h4 _ _ ?_
 refine Run.seq fun K5 h6 => .region <| .q rfl (qmove rfl) <| .q rfl (qmove rfl) <| .l rfl (fun _ _ hk7 _ => wappend rfl rfl u22 sz9 inf9 z9 rfl (by decide) u22 (fun _ h => by cases h) (Fresh.nil A A 1).own ((hu.le le_).listOf (n := l.length) (by simp only [strs_length] <;> omega) (by omega)) (by simp only [strs_length] <;> omega) (strs_one _) (by show (_ + _) * 16 ≤ _; simp only [strs_length, List.length_cons, List.length_nil]; (try simp only [List.length_append, List.length_cons, List.length_nil]); omega) (by simp only [strs_length, List.length_cons, List.length_nil]; (try simp only [List.length_append, List.length_cons, List.length_nil]); omega) fun A8 v9 ap10 => ?_)
 have ap10x : Appd A (.slice none 0 0) 1 (strs (l)) v9 A8 := ap10
 obtain ⟨fr13, le14⟩ := Fresh.grow (Fresh.nil A A 1) le_ wf ap10x
 refine hk7 _ _ <| .q rfl (qassign rfl) <| .nil <| h6 _ _ <| .seq fun K15 h16 => .region <| .q rfl (qmove rfl) <| .q rfl (qassign rfl) <| .nil <| h16 _ _ ?_
 refine Run.ret ?_
 repeat first | with_reducible refine thenQ_ret ?_ | with_reducible refine blockQ_ret ?_
 exact retQ rfl (⟨le14, ap10x.wf, fr13⟩)

theorem s_CopyP (g : Int) (u : Value) (l : List (List UInt8)) (A : AH) (hn : l.length ≤ 1000000) (hu : Slc A 1 u (strs l)) : RetA Tryd.prog 38 #[.agg #[num (g), u]] A (fun v A1 => ∃ q, v = .agg #[num g, q] ∧ A.le A1 ∧ A1.wf ∧ Fresh A A1 q 1 (strs l)) := by
 refine enterA (e := [(0, .agg #[num (g), u])]) (args := [.agg #[num (g), u]]) Tryd.call38 Tryd.func38 rfl Tryd.results38 Tryd.ntmps38 rfl rfl rfl (fun wf => ?_)
 have le_ := AH.le.refl A
 refine Run.seq fun K1 h2 => .region <| .l rfl (fun _ _ hk3 _ => wbox wf rfl rfl fun A5 b4 nb6 => ?_)
 have le7 := le_.trans nb6.le
 refine hk3 _ _ <| .l rfl (fun _ _ hk8 _ => walloc nb6.wf z24 rfl fun A10 b9 nb11 => ?_)
 have ge_b9 := none_of wf (Nat.le_trans le7.n nb11.lo)
 have h12 := nb11.le.get _ _ nb6.get
 have le13 := le7.trans nb11.le
 refine hk8 _ _ <| .nil <| h2 _ _ <| .seq fun K14 h15 => .drawn [0, 1, 2, 3, 4, 5, 6] mixed (by kernel_rfl) (by kernel_rfl) rfl <| .q rfl rfl rfl (qfieldAddr fl24_0 sz3 (by decide) rfl) ?_
 have hc16 := cellOf (off := 0) h12 (show _ = some (num (g)) from rfl)
 refine DOps.q rfl rfl rfl (qloadAt ag3 rfl rfl h12 rfl) <| .q rfl rfl rfl (qfieldAddr fl24_1 sz22 (by decide) rfl) <| .q rfl rfl rfl (qloadAt ag22 rfl rfl h12 rfl) <| .l rfl rfl rfl (fun _ _ hk18 _ => vcallF rfl (s_CopyW u l A10 (by omega) (hu.le le13)) ?_)
 rintro v19 A20 ⟨leq21, wfq21, frq21⟩
 have h23 := leq21.get _ _ nb11.get
 have hc24 := cell_le leq21 hc16
 have le26 := le13.trans leq21
 have fr27 := frq21.base le13
 have no29 := frq21.ne nb11.wf nb11.get
 refine hk18 _ _ (HeldNow.list (L := [(⟨b4, 0, none⟩, num (g))]) (by kernel_rfl) (heldCons hc24 heldNil)) ?_
 obtain ⟨p30, l30, c30, q30, _⟩ := fr27.own.slice
 subst q30
 refine DOps.q rfl rfl rfl (qbuild rfl (buildV_struct u24 z24 pl24 rfl)) <| .l rfl rfl rfl (fun _ _ hk31 _ => wstore (cs := [num (g), .slice p30 l30 c30]) (c' := [num (g), .slice p30 l30 c30]) wfq21 rfl rfl rfl rfl sz24 h23 (Nat.le_of_ble_eq_true rfl) rfl rfl fun A32 sb33 => ?_)
 have fr35 := fr27.keep sb33.keep no29
 have le36 := le_store le26 wf ge_b9 sb33.n sb33.keep
 refine hk31 _ _ (HeldNow.none (by kernel_rfl)) <| .done <| h15 _ _ <| .ret ?_
 repeat first | with_reducible refine thenQ_ret ?_ | with_reducible refine blockQ_ret ?_
 exact retQ (resCell ag24 sz24 rfl sb33.get rfl resNil) (⟨_, rfl, le36, sb33.wf, fr35⟩)

theorem s_CopyP13 (g : Int) (u : Value) (l : List (List UInt8)) (A : AH) (hn : l.length ≤ 1000000) (hu : Slc A 1 u (strs l)) : RetA Tryd.prog 18 #[.agg #[num (g), u]] A (fun v A1 => ∃ q, v = .agg #[num g, q] ∧ A.le A1 ∧ A1.wf ∧ Fresh A A1 q 1 (strs l)) := by
 refine enterA (e := [(0, .agg #[num (g), u])]) (args := [.agg #[num (g), u]]) Tryd.call18 Tryd.func18 rfl Tryd.results18 Tryd.ntmps18 rfl rfl rfl (fun wf => ?_)
 have le_ := AH.le.refl A
 refine Run.seq fun K1 h2 => .region <| .l rfl (fun _ _ hk3 _ => wbox wf rfl rfl fun A5 b4 nb6 => ?_)
 have le7 := le_.trans nb6.le
 refine hk3 _ _ <| .l rfl (fun _ _ hk8 _ => walloc nb6.wf z24 rfl fun A10 b9 nb11 => ?_)
 have ge_b9 := none_of wf (Nat.le_trans le7.n nb11.lo)
 have h12 := nb11.le.get _ _ nb6.get
 have le13 := le7.trans nb11.le
 refine hk8 _ _ <| .nil <| h2 _ _ <| .seq fun K14 h15 => .region <| .q rfl (qloadAggAt ag24 sz24 rfl rfl h12 rfl) <| .l rfl (fun _ _ hk16 _ => vcallF rfl (s_CopyP ((g)) u l A10 (by omega) (hu.le le13)) ?_)
 rintro v17 A18 ⟨qq19, rfl, leq19, wfq19, frq19⟩
 have h21 := leq19.get _ _ nb11.get
 have le22 := le13.trans leq19
 have fr23 := frq19.base le13
 have no25 := frq19.ne nb11.wf nb11.get
 refine hk16 _ _ ?_
 obtain ⟨p27, l27, c27, q27, _⟩ := fr23.own.slice
 subst q27
 refine Ops.l rfl (fun _ _ hk26 _ => wstore (cs := [num (g), .slice p27 l27 c27]) (c' := [num (g), .slice p27 l27 c27]) wfq19 rfl rfl rfl rfl sz24 h21 (Nat.le_of_ble_eq_true rfl) rfl rfl fun A28 sb29 => ?_)
 have fr31 := fr23.keep sb29.keep no25
 have le32 := le_store le22 wf ge_b9 sb29.n sb29.keep
 refine hk26 _ _ <| .nil <| h15 _ _ <| .ret ?_
 repeat first | with_reducible refine thenQ_ret ?_ | with_reducible refine blockQ_ret ?_
 exact retQ (resCell ag24 sz24 rfl sb29.get rfl resNil) (⟨_, rfl, le32, sb29.wf, fr31⟩)

theorem s_EqualS (xv : Value) (xs : List (List UInt8)) (yv : Value) (ys : List (List UInt8)) (A : AH) (hn : xs.length ≤ 1000000) (hm : ys.length ≤ 1000000) (hx : Slc A 1 xv (strs xs)) (hy : Slc A 1 yv (strs ys)) (he : xs = ys) : RetA Tryd.prog 21 #[xv, yv] A (fun v A1 => v = .bool true ∧ A = A1) := by
 refine enterA (e := [(0, xv), (1, yv)]) (args := [xv, yv]) Tryd.call21 Tryd.func21 rfl Tryd.results21 Tryd.ntmps21 rfl rfl rfl (fun wf => ?_)
 have le_ := AH.le.refl A
 refine Run.seq fun K1 h2 => .region <| .q rfl (qassign rfl) <| .nil <| h2 _ _ <| .seq fun K3 h4 => .seq fun K5 h6 => .region <| .q rfl (qmove rfl) <| .q rfl (qlenS (n := xs.length) u22 rfl (hx.le le_) (by omega) (strs_len _)) ?_
 refine Ops.q rfl (qmove rfl) <| .q rfl (qlenS (n := ys.length) u22 rfl (hy.le le_) (by omega) (strs_len _)) <| .q rfl (qneqN rfl rfl) <| .nil <| h6 _ _ <| .if rfl (fun p7 => ?_) (fun p7 => ?_)
 ·
  refine Run.seq fun K8 h9 => .region <| .q rfl (qassign rfl) <| .nil <| h9 _ _ <| .ret ?_
  repeat first | with_reducible refine thenQ_ret ?_ | with_reducible refine blockQ_ret ?_
  exact retQ rfl (⟨by first | rfl | (exfalso; subst he; first | exact absurd rfl ‹_› | omega), rfl⟩)
 ·
  refine Run.skip <| h4 _ _ <| .seq fun K10 h11 => .seq fun K12 h13 => .region <| .q rfl (qmove rfl) <| .q rfl (qlenS (n := xs.length) u22 rfl (hx.le le_) (by omega) (strs_len _)) <| .q rfl (qmove rfl) <| .nil <| h13 _ _ ?_
  refine Run.block <| .loop (X := Nat) (fun k => [(0, xv), (1, yv), (12, num ((xs.length : Nat) : Int)), (13, num ((k : Nat) : Int))]) (fun k B => (k ≤ xs.length) ∧ A = B) (fun k => xs.length - k) 0 (EnvLe.cons rfl <| EnvLe.cons rfl <| EnvLe.cons rfl <| EnvLe.cons rfl <| EnvLe.nil _) (⟨Nat.zero_le _, rfl⟩) ?_
  rintro k B15 ⟨hk, rfl⟩
  refine Run.seq fun K16 h17 => .region <| .q rfl (qlssN rfl rfl) <| .nil <| h17 _ _ <| .seq fun K18 h19 => .if rfl (fun p20 => ?_) (fun p20 => ?_)
  ·
   refine Run.skip <| h19 _ _ <| .seq fun K21 h22 => .block <| .seq fun K23 h24 => .region <| .q rfl (qmove rfl) <| .q rfl (qassign rfl) <| .nil <| h24 _ _ ?_
   refine Run.seq fun K25 h26 => .drawn [0, 1, 2, 3, 4, 5, 6, 7, 8] mixed (by kernel_rfl) (by kernel_rfl) rfl <| .q rfl rfl rfl (qmove rfl) <| .q rfl rfl rfl (qmove rfl) ?_
   obtain ⟨b27, f27, rw27, r27, rc27, n27, k27, e27, l27, g27, cl27, cs27⟩ := Slc.at (i := k) (hx.le le_) (by simp only [strs_length]; omega) (by omega)
   refine DOps.q rfl rfl rfl (qindexS u22 sz9 rfl e27 rfl l27) <| .q rfl rfl rfl (qloadAt ag9 rfl rfl g27 ((elt0 cs27).trans (strs_get (by omega)))) <| .q rfl rfl rfl (qmove rfl) <| .q rfl rfl rfl (qmove rfl) ?_
   obtain ⟨b29, f29, rw29, r29, rc29, n29, k29, e29, l29, g29, cl29, cs29⟩ := Slc.at (i := k) (hy.le le_) (by simp only [strs_length]; omega) (by omega)
   refine DOps.q rfl rfl rfl (qindexS u22 sz9 rfl e29 rfl l29) <| .q rfl rfl rfl (qloadAt ag9 rfl rfl g29 ((elt0 cs29).trans (strs_get (by omega)))) <| .q rfl rfl rfl (qsneq rfl rfl) <| .done <| h26 _ _ <| .if rfl (fun p31 => ?_) (fun p31 => ?_)
   ·
    refine Run.seq fun K32 h33 => .region <| .q rfl (qassign rfl) <| .nil <| h33 _ _ <| .ret ?_
    repeat first | with_reducible refine thenQ_ret ?_ | with_reducible refine blockQ_ret ?_
    exact retQ rfl (⟨by first | rfl | (exfalso; subst he; first | exact absurd rfl ‹_› | omega), rfl⟩)
   ·
    refine Run.skip <| h22 _ _ <| .region <| .q rfl (qaddN (b := 1) rfl rfl (by omega)) <| .q rfl (qmove rfl) <| .nil ?_
    exact ⟨k + 1, EnvLe.cons rfl <| EnvLe.cons rfl <| EnvLe.cons rfl <| EnvLe.cons rfl <| EnvLe.nil _, rfl, ⟨(by omega), rfl⟩, (by (try dsimp only); omega)⟩
  ·
   refine Run.exit <| h11 _ _ <| .seq fun K34 h35 => .region <| .q rfl (qassign rfl) <| .nil <| h35 _ _ <| .ret ?_
   repeat first | with_reducible refine thenQ_ret ?_ | with_reducible refine blockQ_ret ?_
   exact retQ rfl (⟨by first | rfl | (exfalso; subst he; first | exact absurd rfl ‹_› | omega), rfl⟩)

theorem s_DehnStays (g : Int) (u : Value) (l : List (List UInt8)) (w : List UInt8) (A : AH) (hn : l.length ≤ 9223372036854775807) (hL : Lets A) (hu : Slc A 1 u (strs l)) : RetA Tryd.prog 5 #[.agg #[num (g), u], str (w)] A (fun v A1 => v = .bool true ∧ A.le A1 ∧ A1.wf) := by
 refine enterA (e := [(0, .agg #[num (g), u]), (1, str (w))]) (args := [.agg #[num (g), u], str (w)]) Tryd.call5 Tryd.func5 rfl Tryd.results5 Tryd.ntmps5 rfl rfl rfl (fun wf => ?_)
 have le_ := AH.le.refl A
 refine Run.seq fun K1 h2 => .region <| .l rfl (fun _ _ hk3 _ => wbox wf rfl rfl fun A5 b4 nb6 => ?_)
 have le7 := le_.trans nb6.le
 refine hk3 _ _ <| .q rfl (qassign rfl) <| .nil <| h2 _ _ <| .seq fun K8 h9 => .seq fun K10 h11 => .region <| .l rfl (fun _ _ hk12 _ => vcallF rfl (s_sane A5 (hL.le le7)) ?_)
 rintro v13 A14 ⟨rfl, leq15, wfq15⟩
 have h16 := leq15.get _ _ nb6.get
 have le17 := le7.trans leq15
 refine hk12 _ _ <| .q rfl (qnot rfl) <| .nil <| h11 _ _ <| .cond_false rfl <| .skip <| h9 _ _ <| .seq fun K18 h19 => .seq fun K20 h21 => .region ?_
 refine Ops.q rfl (qloadAggAt ag24 sz24 rfl rfl h16 rfl) <| .q rfl (qmove rfl) <| .l rfl (fun _ _ hk22 _ => wbuildSlice (c := [str (w)]) wfq15 rfl (buildSliceV_of u22 sz9 z9 rfl (by decide) (by decide) rfl) fun A24 b23 nb25 => ?_)
 have h26 := nb25.le.get _ _ h16
 have le27 := le17.trans nb25.le
 refine hk22 _ _ <| .l rfl (fun _ _ hk28 _ => vcallF rfl (s_small ((g)) u l (.slice (some ⟨b23, 0, none⟩) 1 1) ([w]) A24 (by omega) (by first | omega | simp) (hu.le le27) (slc_row (n := 1) nb25.get rfl (Nat.le_refl _))) ?_)
 rintro v29 A30 ⟨rfl, leq31, wfq31⟩
 have h32 := leq31.get _ _ h26
 have le34 := le27.trans leq31
 refine hk28 _ _ <| .q rfl (qnot rfl) <| .q rfl (qmove rfl) <| .partB (t := 13) rfl (fun p35 => ?_) (fun p35 => ?_)
 ·
  refine Ops.off rfl rfl rfl rfl <| .off rfl rfl rfl rfl <| .off rfl rfl rfl rfl <| .q rfl (qpickT rfl rfl) <| .nil <| h21 _ _ <| .cond_true rfl <| .seq fun K36 h37 => .region <| .q rfl (qassign rfl) ?_
  refine Ops.nil <| h37 _ _ <| .ret ?_
  repeat first | with_reducible refine thenQ_ret ?_ | with_reducible refine blockQ_ret ?_
  exact retQ rfl (⟨rfl, le34, wfq31⟩)
 ·
  refine Ops.on rfl rfl <| .q rfl (qmove rfl) <| .on rfl rfl <| .q rfl (qslen u9 rfl) <| .on rfl rfl <| .q rfl (qgtrN (b := 60) rfl rfl) <| .q rfl (qpickF rfl rfl) <| .nil <| h21 _ _ <| .if rfl (fun p38 => ?_) (fun p38 => ?_)
  ·
   refine Run.seq fun K39 h40 => .region <| .q rfl (qassign rfl) <| .nil <| h40 _ _ <| .ret ?_
   repeat first | with_reducible refine thenQ_ret ?_ | with_reducible refine blockQ_ret ?_
   exact retQ rfl (⟨rfl, le34, wfq31⟩)
  ·
   refine Run.skip <| h19 _ _ <| .seq fun K41 h42 => ?_
   have hsl := small_len (l := l) (ws := [w]) (by simpa using ‹(!small l [w]) = false›)
   have hl8 := hsl.1
   refine Run.region <| .q rfl (qloadAggAt ag24 sz24 rfl rfl h32 rfl) <| .l rfl (fun _ _ hk43 _ => vcallF rfl (s_CopyP13 ((g)) u l A30 (by omega) (hu.le le34)) ?_)
   rintro v44 A45 ⟨qq46, rfl, leq46, wfq46, frq46⟩
   have h47 := leq46.get _ _ h32
   have le49 := le34.trans leq46
   have fr50 := frq46.base le34
   refine hk43 _ _ <| .l rfl (fun _ _ hk53 _ => walloc wfq46 z24 rfl fun A55 b54 nb56 => ?_)
   have ne_b4_b54 := ne_new wfq46 h47 nb56.lo
   have no57 := fr50.own.ne_new wfq46 nb56.lo
   have ge_b54 := none_of wf (Nat.le_trans le49.n nb56.lo)
   have h58 := nb56.le.get _ _ h47
   have fr60 := fr50.le nb56.le
   have le61 := le49.trans nb56.le
   refine hk53 _ _ ?_
   obtain ⟨p63, l63, c63, q63, _⟩ := fr60.own.slice
   subst q63
   refine Ops.l rfl (fun _ _ hk62 _ => wstore (cs := [num (g), .slice p63 l63 c63]) (c' := [num (g), .slice p63 l63 c63]) nb56.wf rfl rfl rfl rfl sz24 nb56.get (Nat.le_of_ble_eq_true rfl) rfl rfl fun A64 sb65 => ?_)
   have h66 := sb65.keep _ _ ne_b4_b54 h58
   have fr68 := fr60.keep sb65.keep no57
   have le69 := le_store le61 wf ge_b54 sb65.n sb65.keep
   refine hk62 _ _ <| .nil <| h42 _ _ <| .seq fun K70 h71 => .region <| .q rfl (qloadAggAt ag24 sz24 rfl rfl sb65.get rfl) <| .l rfl (fun _ _ hk72 _ => vcallF rfl (s_Ve2 (g := (g)) (by omega) (hL.le le69) fr68.slc) ?_)
   rintro v73 A74 ⟨rfl, leq75, wfq75⟩
   have h76 := leq75.get _ _ h66
   have h78 := leq75.get _ _ sb65.get
   have fr79 := fr68.le leq75
   have le80 := le69.trans leq75
   refine hk72 _ _ <| .nil <| h71 _ _ <| .seq fun K81 h82 => .region <| .q rfl (qloadAggAt ag24 sz24 rfl rfl h78 rfl) <| .q rfl (qmove rfl) <| .l rfl (fun _ _ hk83 _ => vcallF rfl (s_Sh2 (g := (g)) (w := w) (by omega) (hL.le le80) fr79.slc (by omega) (by omega)) ?_)
   rintro v84 A85 ⟨dq86, dvq86, rfl, leq86, wfq86, frq86, hdlq86⟩
   have h87 := leq86.get _ _ h76
   have h89 := leq86.get _ _ h78
   have fr90 := fr79.le leq86
   have le91 := le80.trans leq86
   have hdl := hdlq86
   refine hk83 _ _ <| .nil <| h82 _ _ <| .seq fun K96 h97 => .region <| .q rfl (qloadAggAt ag24 sz24 rfl rfl h89 rfl) <| .q rfl (qmove rfl) <| .l rfl (fun _ _ hk98 _ => vcallF rfl (s_St2 (g := (g)) (w := w) (by omega) (hL.le le91) fr90.slc (by omega)) ?_)
   rintro v99 A100 ⟨rfl, leq101, wfq101⟩
   have h102 := leq101.get _ _ h87
   have h104 := leq101.get _ _ h89
   have fr105 := fr90.le leq101
   have le107 := le91.trans leq101
   refine hk98 _ _ <| .nil <| h97 _ _ <| .seq fun K108 h109 => .region <| .q rfl (qloadAggAt ag24 sz24 rfl rfl h104 rfl) <| .q rfl (qmove rfl) <| .l rfl (fun _ _ hk110 _ => vcallF rfl (s_Tr2 (g := (g)) (w := w) (by omega) (hL.le le107) fr105.slc (by omega)) ?_)
   rintro v111 A112 ⟨dq113, dvq113, rfl, leq113, wfq113, frq113, htlq113⟩
   have h114 := leq113.get _ _ h102
   have h116 := leq113.get _ _ h104
   have fr117 := fr105.le leq113
   have le119 := le107.trans leq113
   have htl := htlq113
   refine hk110 _ _ <| .nil <| h109 _ _ <| .seq fun K124 h125 => .region <| .q rfl (qloadAggAt ag24 sz24 rfl rfl h116 rfl) <| .q rfl (qmove rfl) <| .l rfl (fun _ _ hk126 _ => vcallF rfl (s_Cy2 (g := (g)) (w := w) (by omega) (hL.le le119) fr117.slc (by omega)) ?_)
   rintro v127 A128 ⟨dq129, cjq129, dvq129, rfl, leq129, wfq129, frq129, hclq129⟩
   have h130 := leq129.get _ _ h114
   have h132 := leq129.get _ _ h116
   have fr133 := fr117.le leq129
   have le136 := le119.trans leq129
   have hcl := hclq129
   refine hk126 _ _ <| .nil <| h125 _ _ <| .seq fun K141 h142 => .region <| .q rfl (qfieldAddr fl24_0 sz3 (by decide) rfl) <| .q rfl (qloadAt ag3 rfl rfl h132 rfl) <| .q rfl (qfieldAddr fl24_0 sz3 (by decide) rfl) <| .q rfl (qloadAt ag3 rfl rfl h130 rfl) <| .q rfl (((qeql rfl rfl).trans (congrArg (fun z => some (Value.bool z, [])) (decide_eq_true rfl)))) ?_
   refine Ops.q rfl (qmove rfl) <| .on rfl rfl <| .q rfl (qfieldAddr fl24_1 sz22 (by decide) rfl) <| .on rfl rfl <| .q rfl (qloadAt ag22 rfl rfl h132 rfl) <| .on rfl rfl <| .q rfl (qfieldAddr fl24_1 sz22 (by decide) rfl) <| .on rfl rfl <| .q rfl (qloadAt ag22 rfl rfl h130 rfl) <| .on rfl rfl ?_
   refine Ops.l rfl (fun _ _ hk143 _ => vcallF rfl (s_EqualS (.slice p63 l63 c63) l u l A128 (by omega) (by omega) fr133.slc (hu.le le136) rfl) ?_)
   rintro v144 A145 ⟨rfl, rfl⟩
   refine hk143 _ _ <| .q rfl (qpickT rfl rfl) <| .q rfl (qassign rfl) <| .nil <| h142 _ _ <| .ret ?_
   repeat first | with_reducible refine thenQ_ret ?_ | with_reducible refine blockQ_ret ?_
   exact retQ rfl (⟨rfl, le136, wfq129⟩)
end Go.Proofs.YtaccklloepfemaaDoor

namespace Go.Proofs.YtaccklloepfemaaDoor
set_option linter.unusedVariables false
set_option linter.unusedSimpArgs false
open Go Go.ChangeShapes Go.WideShapes Go.ChangeAt Go.RowKit V
set_option maxRecDepth 100000

theorem own : ownKnob Tryd.prog.godebug = none := by kernel_rfl
theorem laidOut : laidOutB Tryd.prog = true := by kernel_rfl
theorem gTab : Tryd.prog.globalNamed "cayley/word.letters" = some 0 := by kernel_rfl
theorem gTabType : (Tryd.prog.globals[0]?).map (·.type) = some 132 := by kernel_rfl
theorem cellsLT : Tryd.prog.cellsOf 132 = 16 := by kernel_rfl
theorem cells5 : Tryd.prog.cellsOf 5 = 1 := by kernel_rfl
theorem cells9 : Tryd.prog.cellsOf 9 = 1 := by kernel_rfl
theorem cells3 : Tryd.prog.cellsOf 3 = 1 := by kernel_rfl
theorem cells22 : Tryd.prog.cellsOf 22 = 1 := by kernel_rfl
theorem cells24 : Tryd.prog.cellsOf 24 = 2 := by kernel_rfl
theorem table {W : World} (h : laidMetH Tryd.prog [("cayley/word.letters", Rows.laid_cayley_word_letters)] W) : Lib.TabIs Tryd.prog W "cayley/word.letters" .u8 (letters.map fun c => (c.toNat : Int)) :=
  Lib.tabIs_of_head (rest := []) gTab gTabType Tryd.underlying132 Tryd.underlying5 cells5 cellsLT h

/-- A world as a view: all is known, nothing may be written. -/
def AH.ofWorld (W : World) : AH := ⟨W.heap.size, fun b => match W.heap[b]? with
  | some (.cells cs _ _) => some (.row false cs.toList cs.size)
  | some o => some (.obj false o)
  | none => none⟩
theorem view_world (W : World) : View (AH.ofWorld W) W := by
  refine ⟨rfl, fun b o h => ?_⟩
  simp only [AH.ofWorld] at h
  split at h
  · rename_i cs e fr hb
    cases h
    exact ⟨cs, e, fr, hb, by simp, Nat.le_refl _, fun i hi => by simp, fun q => by cases q⟩
  · rename_i x hx hb
    cases h
    exact ⟨hb, fun c e f q => hx c e f q⟩
  · cases h
theorem rw_world (W : World) (b : Nat) : (AH.ofWorld W).rw b = false := by
  unfold AH.rw AH.ofWorld
  simp only
  split
  · rename_i o ho
    split at ho <;> first | (cases ho; rfl) | cases ho
  · rfl
theorem below_world {W w' : World} {A' : AH} (h : Step (AH.ofWorld W) W A' w') : Below W.heap.size W w' :=
  ⟨h.os, h.tape, h.output.1, h.size, fun k hk => h.kept k hk (rw_world W k)⟩
theorem lets_world {W : World} (h : Lib.TabIs Tryd.prog W "cayley/word.letters" .u8 (letters.map fun c => (c.toNat : Int))) : Lets (AH.ofWorld W) := by
  unfold Lib.TabIs World.var? at h
  rw [gTab] at h
  simp only [Option.bind_some] at h
  split at h
  · rename_i cs e fr hb
    refine ⟨false, cs.size, ?_⟩
    have : cs.toList = byteCells letters := by
      have := congrArg (Option.map Array.toList) h
      simp only [Option.map_some, Option.some.injEq] at this
      rw [this]
      simp [byteCells]
    simp only [AH.ofWorld, hb, this]
  · cases h
theorem str_data (s : ByteArray) : Value.string s = str s.data.toList := by
  show Value.string s = Value.string ⟨s.data.toList.toArray⟩
  rw [Array.toArray_toList]
/-- A presentation that came in. -/
theorem open_pres {b0 : Nat} {H : Type} {enc : TypeId × Value → H} {W : World} {v : Value} {d : DataW H} {ps : List MemPlace} (hval : Value.okWide Tryd.prog W .any b0 24 v) (hd : DataW.Trod enc Tryd.prog W 0 (fun _ => true) true 24 v d ps) :
    ∃ (g : Int) (u : Value) (l : List (List UInt8)), v = .agg #[.int .i64 g, u] ∧ l.length ≤ maxLen ∧ Slc (AH.ofWorld W) 1 u (strs l) := by
  obtain ⟨cs, rfl, hsz⟩ := okWide_struct Tryd.underlying24 hval
  rw [cells24] at hsz
  obtain ⟨a, b, rfl⟩ : ∃ a b, cs = #[a, b] := by
    rcases cs with ⟨l⟩
    match l, hsz with
    | [a, b], _ => exact ⟨a, b, rfl⟩
  obtain ⟨fuel, hf⟩ := hd
  obtain ⟨y0, y1, n, _, _, h0, h1⟩ := trod_struct2 Tryd.underlying24 hf
  obtain ⟨g, hg, _⟩ := DataW.trod_int Tryd.underlying3 h0
  have e0 : a = .int .i64 g := by
    have : (List.take (Tryd.prog.cellsOf 3) (List.drop 0 [a, b])) = [.int .i64 g] := hg
    rw [cells3] at this; simpa using this
  have hs := open_strings Tryd.underlying22 Tryd.underlying9 cells9 h1
  have e1 : ∀ x : Value, List.take (Tryd.prog.cellsOf 22) (List.drop 1 [a, b]) = [x] → b = x := fun x q => by
    rw [cells22] at q; simpa using q
  subst e0
  rcases hs with ⟨hb, _⟩ | ⟨p, len, cap, ss, hb, _, hl, hm, hlen, _, hcell, _⟩
  · have := e1 _ hb
    subst this
    exact ⟨g, _, [], rfl, Nat.zero_le _, none, 0, 0, rfl, rfl, Nat.le_refl _, .inl rfl⟩
  · have := e1 _ hb
    subst this
    simp only [if_true] at hlen
    refine ⟨g, _, (ss.take len).map (·.data.toList), rfl, by simp; omega, some p, len, cap, rfl, by rw [strs_length]; simp; omega, hl, ?_⟩
    by_cases hz : len = 0
    · exact .inl hz
    · right
      obtain ⟨blk, off, spot⟩ := p
      have hspot : spot = none := by simpa [Addr.add] using World.cell?_spot (hcell 0 (by omega))
      subst hspot
      have hc : ∀ i, i < ss.length → ∃ cs e fr, W.heap[blk]? = some (.cells cs e fr) ∧ cs[off + i]? = some (.string (ss.getD i ByteArray.empty)) := fun i hi => by
        have := hcell i hi
        rw [add_plain] at this
        simp only [World.cell?] at this
        split at this
        · rename_i cs e fr hb
          exact ⟨cs, e, fr, hb, by simpa using this⟩
        · cases this
      obtain ⟨cs, e, fr, hb, _⟩ := hc 0 (by omega)
      refine ⟨blk, off, false, cs.toList, cs.size, rfl, by simp [AH.ofWorld, hb], ?_⟩
      rw [Nat.mul_one]
      apply List.ext_getElem?
      intro i
      by_cases hi : i < len
      · obtain ⟨cs', e', fr', hb', h2⟩ := hc i (by omega)
        rw [hb] at hb'; cases hb'
        rw [List.getElem?_take_of_lt hi, List.getElem?_drop, Array.getElem?_toList, h2]
        have hi2 : i < ss.length := by omega
        simp only [V.strs, List.map_map, List.getElem?_map, List.getElem?_take_of_lt hi, List.getElem?_eq_getElem hi2, Option.map_some, Function.comp]
        rw [← str_data]
        simp [hi2]
      · rw [List.getElem?_eq_none (by simp; omega), List.getElem?_eq_none (by simp [V.strs]; omega)]
/-- A walk's end, as the statement wants it: true, and below the old heap's size nothing has turned. -/
theorem calls_true {k : FuncId} {args : List Value} {W : World} (h : RetA Tryd.prog k args.toArray (AH.ofWorld W) fun v A1 => v = .bool true ∧ (AH.ofWorld W).le A1 ∧ A1.wf) :
    Calls Tryd.prog k args.toArray W fun e w' => e = .returned (.bool true) ∧ Below W.heap.size W w' := by
  refine (h.2 W (view_world W)).mono ?_
  rintro e w' ⟨A', _, hs, v, rfl, rfl, _⟩
  exact ⟨rfl, below_world hs⟩
end Go.Proofs.YtaccklloepfemaaDoor


namespace Go.Proofs.YtaccklloepfemaaDoor
set_option linter.unusedVariables false
set_option linter.unusedSimpArgs false
open Go Go.ChangeShapes Go.WideShapes Go.ChangeAt Go.RowKit V
set_option maxRecDepth 100000

theorem stays_contract (H : Type) (enc : TypeId × Value → H) (W : World) (base : Nat) (args : Array Value) (ds gs : List (DataW H)) (before : List MemPlace)
    (hval : ∀ (j : Nat) t v, Tryd.f5.params[j]? = some t → args[j]? = some v → Value.okWide Tryd.prog W .any base t v)
    (hW : DataW.Whole enc Tryd.prog Tryd.f5.params.toList Rows.dehnStaysSpec.vars false W args.toList ds gs before) (hL : laidMetH Tryd.prog Rows.dehnStaysRow.laid W) :
    Calls Tryd.prog 5 args W fun e W' => ∃ v, e = .returned v ∧ Rows.dehnStaysSpec.post enc Tryd.prog Tryd.f5 false true false false W args v W' := by
  have hW' := hW
  obtain ⟨p, q, hA0, hV, rfl, hfz, hnd⟩ := hW
  have hA : DataW.TrodAll enc Tryd.prog W 0 (fun _ => true) true Tryd.f5.params.toList args.toList ds p := hA0
  rw [Tryd.params5] at hA hval
  obtain ⟨v0, v1, d0, d1, p0, p1, rfl, rfl, rfl, h0, h1⟩ := trodAll_two hA
  obtain ⟨rfl, rfl⟩ := trodVars_none hV
  clear hA0
  simp only [List.append_nil] at hW'
  have hk0 := h0
  obtain ⟨g0, u0, l0, rfl, hl0, hs0⟩ := open_pres (hval 0 24 v0 rfl rfl) h0
  unfold maxLen at hl0
  have hk1 := h1
  obtain ⟨s1, rfl, _, _, hz1⟩ := Go.ChangeMaps.open_string Tryd.underlying9 (hval 1 9 v1 rfl rfl) h1
  have hlt : ∀ x ∈ p0 ++ p1, x.block < W.heap.size := fun x hx => by simpa using hW'.lt x (by simpa using hx)
  have walk := calls_true (k := 5) (args := [.agg #[.int .i64 g0, u0], .string s1]) (by
    rw [str_data s1]
    exact s_DehnStays g0 u0 l0 s1.data.toList (AH.ofWorld W) (by omega) (lets_world (table hL)) hs0)
  refine walk.mono ?_
  rintro e W' ⟨rfl, bel⟩
  refine ⟨_, rfl, _, _, _, [], p0 ++ p1, [], (by simpa using hW'), ?_, ?_, ?_, bel.frame _, fun h => by cases h⟩
  · exact trodAll_cons_mk (shut_bool Tryd.underlying4 _) trodAll_mk0
  · have mk := trodAll_mk2 (Below.trod laidOut (by kernel_rfl) (of_decide_eq_true (by kernel_rfl)) hk0 bel (fun x hx => hlt x (by simp [hx]))) (Below.trod laidOut (by kernel_rfl) (of_decide_eq_true (by kernel_rfl)) hk1 bel (fun x hx => hlt x (by simp [hx])))
    first | exact mk | (simp only [List.append_assoc]; exact mk)
  · rfl

/-- A world for the witness: the table holds what its initialiser lays. -/
noncomputable def laidWorld (os : Os) : World :=
  { World.holding Tryd.prog os ⟨#[], #[], []⟩ with heap := (World.holding Tryd.prog os ⟨#[], #[], []⟩).heap.modify 0 fun
      | .cells _ t frozen => .cells (byteCells letters).toArray t frozen
      | o => o }
theorem stays_met (os : Os) : laidMet Tryd.prog Rows.dehnStaysRow.laid ((laidWorld os).forCall (fun _ _ => 0) ⟨#[], #[.agg #[.int .i64 0, .slice none 0 0], .string ⟨#[]⟩], []⟩).memory :=
  laidMet_of_run' 20 (by kernel_rfl) (by kernel_rfl)
theorem stays_reads (os : Os) {H : Type} (enc : TypeId × Value → H) : ∃ places, DataW.whole enc Tryd.prog ((laidWorld os).forCall (fun _ _ => 0) ⟨#[], #[.agg #[.int .i64 0, .slice none 0 0], .string ⟨#[]⟩], []⟩).memory Tryd.f5.params.toList Rows.dehnStaysSpec.vars false #[.agg #[.int .i64 0, .slice none 0 0], .string ⟨#[]⟩].toList 20 = some ([.agg [.lit (.int .i64 0), .nil], .lit (.string [])], [], places) :=
  ⟨[], by kernel_rfl⟩
theorem stays_lifted (os : Os) (started : os.Started) (H : Type) (enc : TypeId × Value → H) (F : Stop.Interp) :
    ReturnsInHanded {} Tryd.checked os 5 .any ((OpenSpec.ofChange Rows.dehnStaysSpec).preRow enc Tryd.prog Tryd.f5 Rows.dehnStaysRow.domain false Rows.dehnStaysRow.laid) (((OpenSpec.ofChange Rows.dehnStaysSpec).at F).post enc Tryd.prog Tryd.f5 false true false false) := by
  obtain ⟨places, hx⟩ := stays_reads os enc
  refine returnsInHanded_of_row (C := Tryd.checked) (s := OpenSpec.ofChange Rows.dehnStaysSpec) own started (by kernel_rfl) Tryd.func5
    (witness_row_at (enc := enc) (C := Tryd.checked) false (laidWorld os) #[.agg #[.int .i64 0, .slice none 0 0], .string ⟨#[]⟩] rfl (by kernel_rfl) (by kernel_rfl) (by kernel_rfl)
      (OpenSpec.preRow_of_cond 20 hx (by kernel_rfl) (fun k hk => by cases hk) (by kernel_rfl) (stays_met os))) ?_
  intro W base args ds gs before hval hW _ _ _ hL _ _
  exact stays_contract H enc W base args ds gs before hval hW hL
theorem stays_said : Rows.DehnStaysSaid :=
  OpenClaim.holds_of_cond 5 Tryd.f5 rfl rfl rfl rfl rfl rfl rfl ⟨rfl, rfl, rfl, rfl, rfl⟩ rfl rfl rfl rfl rfl (by kernel_rfl) Tryd.func5 (by kernel_rfl)
    (of_decide_eq_true (by kernel_rfl)) (by unfold Func.isWrapper; first | (rw [if_pos (by decide +kernel)]; kernel_rfl) | (rw [if_neg (by decide +kernel)]; exact ⟨rfl, rfl⟩))
    (fun os started H enc _ F => by rw [OpenClaim.pre_eq_preRow]; exact stays_lifted os started H enc F)
theorem stays_plain (f : FuncId) (fn : Func) (hf : Tryd.pinned.checked.prog.funcNamed "cayley/cayleylaw23.DehnStays" = some f) (hfn : Tryd.pinned.checked.prog.funcs[f]? = some fn) :
    false = Tryd.pinned.checked.prog.looks [] ∧ ∀ (j : Nat) t, fn.params[j]? = some t → Tryd.pinned.checked.prog.wantsStandIn t = false := by
  obtain rfl : f = 5 := Option.some.inj ((show Tryd.prog.funcNamed "cayley/cayleylaw23.DehnStays" = some 5 by kernel_rfl).symm.trans hf) |>.symm
  obtain rfl : fn = Tryd.f5 := (Option.some.inj (Tryd.func5.symm.trans hfn)).symm
  refine ⟨by kernel_rfl, fun j t ht => ?_⟩
  rw [Tryd.params5] at ht
  have : t = 24 ∨ t = 9 := by simpa using Array.mem_of_getElem? ht
  rcases this with rfl | rfl
  · exact (show Tryd.prog.wantsStandIn 24 = false by kernel_rfl)
  · exact (show Tryd.prog.wantsStandIn 9 = false by kernel_rfl)

/-- The card. -/
theorem stays_card : Rows.DehnStaysCardSaid :=
  Claim7.holds_tied_plain_at .later [] _ _ _ _ stays_said (fun _ h => by cases h) (by kernel_rfl) (fun _ h => by cases h) dehnStays_row_tie rfl ⟨rfl, rfl⟩ (by kernel_rfl) rfl stays_plain (by kernel_rfl)
end Go.Proofs.YtaccklloepfemaaDoor
