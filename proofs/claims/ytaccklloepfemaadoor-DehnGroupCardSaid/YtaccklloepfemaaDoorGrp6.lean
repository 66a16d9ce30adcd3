/- DehnGroup: whatever the presentation and the three words, it returns true, and all read afterwards as they read before. Conditions: the letters' table of the word layer is as the program lays it; the card ties that to the program's text. -/
import Derived.Test.YtaccklloepfemaaDoorGrp5
import Derived.Test.YtaccklloepfemaaDoorCards
import Derived.Test.YtaccklloepfemaaDoorTie
import Derived.Test.YtaccklloepfemaaDoorGrp2
import Derived.WalkKit
import Derived.ProofKit
import Derived.OpenShut
import Derived.Carry
import Derived.SliceStrings
import Derived.ChangeSame
import Derived.ChangeMaps5
import Derived.Deep.DeepHandedRow
import Derived.Lib.LaidTab
namespace Go.Proofs.YtaccklloepfemaaDoor
open Go Go.RowKit V
set_option maxRecDepth 100000
set_option linter.unusedVariables false
set_option linter.unusedSimpArgs false
theorem ag33 : aggOf Tryd.prog 33 = some false := by kernel_rfl
theorem sz33 : szOf Tryd.prog 33 = some 1 := by kernel_rfl
theorem z33 : zeroOf Tryd.prog 33 = some (.nilFunc) := by kernel_rfl

theorem s_RInverseOf (w : List UInt8) (A : AH) (hw : w.length ≤ 1000000) (h : isw w = true) : RetA Tryd.prog 13 #[str w] A (fun v A1 => v = str (inv w) ∧ A.le A1 ∧ A1.wf) := by
  have := s_RInverse w A hw
  rwa [wInverse, if_pos h] at this
theorem s_TrV {g : Int} {u : Value} {l : List (List UInt8)} {w : List UInt8} {A : AH} (hv : rVerified g l = 0) (hn : l.length ≤ 1000000) (hL : Lets A) (hu : Slc A 1 u (strs l)) (hw : w.all (okc g) = true) (hl : w.length ≤ 400) : RetA Tryd.prog 11 #[.agg #[num g, u], str w] A (fun v A1 => ∃ (d : List DCell) (dv : Value), v = .tuple #[.bool (tv l w), dv, num ((0 : Nat) : Int)] ∧ A.le A1 ∧ A1.wf ∧ Fresh A A1 dv 3 (dcells d)) :=
  (s_Tr g u l w A hn hL (by omega) hu).mono fun v A1 h => by
    obtain ⟨b, d, c, dv, e1, e2, e3, e4, e5⟩ := h
    obtain ⟨rfl, rfl⟩ := tr_iff e5 hv hw hl
    exact ⟨d, dv, e1, e2, e3, e4⟩


theorem s_Gt (g : Int) (u : Value) (l : List (List UInt8)) (w : List UInt8) (b cap : Nat) (rw : Bool) (A : AH) (hv : rVerified g l = 0) (hn : l.length ≤ 1000000) (hL : Lets A) (hu : Slc A 1 u (strs l)) (hb : A.get b = some (.row rw [num g, u] cap)) (hw : w.all (okc g) = true) (hl : w.length ≤ 400) : RetA Tryd.prog 10 #[str (w), .pointer (some ⟨b, 0, none⟩)] A (fun v A1 => v = .tuple #[.bool (tv l w), .bool true] ∧ A.le A1 ∧ A1.wf) := by
 refine enterA (e := [(0, str (w)), (1, .pointer (some ⟨b, 0, none⟩))]) (args := [str (w), .pointer (some ⟨b, 0, none⟩)]) Tryd.call10 Tryd.func10 rfl Tryd.results10 Tryd.ntmps10 rfl rfl rfl (fun wf => ?_)
 have le_ := AH.le.refl A
 refine Run.seq fun K1 h2 => .region <| .q rfl (qassign rfl) <| .q rfl (qassign rfl) <| .nil <| h2 _ _ <| .seq fun K3 h4 => .region <| .q rfl (qloadAggAt ag24 sz24 rfl rfl (le_.get _ _ hb) rfl) <| .q rfl (qmove rfl) ?_
 refine Ops.l rfl (fun _ _ hk5 _ => vcallF rfl (s_TrV (g := (g)) (w := w) hv hn hL (hu.le le_) hw hl) ?_)
 rintro v6 A7 ⟨dq8, dvq8, rfl, leq8, wfq8, frq8⟩
 have le9 := le_.trans leq8
 refine hk5 _ _ <| .q rfl (qmove rfl) <| .q rfl (qextract rfl rfl) <| .q rfl (qextract rfl rfl) <| .q rfl (qextract rfl rfl) <| .q rfl (qassign rfl) <| .q rfl (qassign rfl) <| .q rfl (qassign rfl) <| .nil <| h4 _ _ ?_
 refine Run.seq fun K11 h12 => .region <| .q rfl (qmove rfl) <| .q rfl (qmove rfl) <| .q rfl (((qeqlN (a := 0) (b := 0) rfl rfl).trans (congrArg (fun z => some (Value.bool z, [])) (decide_eq_true rfl)))) <| .q rfl (qassign rfl) <| .q rfl (qassign rfl) <| .nil <| h12 _ _ <| .ret ?_
 repeat first | with_reducible refine thenQ_ret ?_ | with_reducible refine blockQ_ret ?_
 exact retQ rfl (⟨rfl, le9, wfq8⟩)

theorem s_Gs (g : Int) (u : Value) (l : List (List UInt8)) (x y : List UInt8) (b cap c cap2 : Nat) (rw rw2 : Bool) (A : AH) (hv : rVerified g l = 0) (hn : l.length ≤ 1000000) (hL : Lets A) (hu : Slc A 1 u (strs l)) (hb : A.get b = some (.row rw [num g, u] cap)) (hc : A.get c = some (.row rw2 [.func (.func 10) #[] #[.pointer (some ⟨b, 0, none⟩)]] cap2)) (hx : x.all (okc g) = true) (hxl : x.length ≤ 100) (hy : y.all (okc g) = true) (hyl : y.length ≤ 100) : RetA Tryd.prog 12 #[str (x), str (y), .pointer (some ⟨c, 0, none⟩)] A (fun v A1 => v = .bool (tv l (x ++ inv y)) ∧ A.le A1 ∧ A1.wf) := by
 refine enterA (e := [(0, str (x)), (1, str (y)), (2, .pointer (some ⟨c, 0, none⟩))]) (args := [str (x), str (y), .pointer (some ⟨c, 0, none⟩)]) Tryd.call12 Tryd.func12 rfl Tryd.results12 Tryd.ntmps12 rfl rfl rfl (fun wf => ?_)
 have le_ := AH.le.refl A
 have hil := inv_length y
 refine Run.seq fun K1 h2 => .region <| .q rfl (qassign rfl) <| .nil <| h2 _ _ <| .seq fun K3 h4 => .drawn [0, 1, 2, 3, 4, 5, 6, 7, 8, 9, 10] mixed (by kernel_rfl) (by kernel_rfl) rfl ?_
 have hc5 := cellOf (off := 0) (le_.get _ _ hc) (show _ = some (.func (.func 10) #[] #[.pointer (some ⟨b, 0, none⟩)]) from rfl)
 refine DOps.q rfl rfl rfl (qloadAt ag33 rfl rfl (le_.get _ _ hc) rfl) <| .q rfl rfl rfl (qmove rfl) <| .q rfl rfl rfl (qmove rfl) <| .l rfl rfl rfl (fun _ _ hk6 _ => vcallF rfl (s_RInverseOf y A (by omega) (isw_of (pcheck_zero (verified_dehn hv).1).1.2 (wcheck_all (pcheck_zero (verified_dehn hv).1).1 (by omega) hy))) ?_)
 rintro v7 A8 ⟨rfl, leq9, wfq9⟩
 have hc10 := cell_le leq9 hc5
 have le11 := le_.trans leq9
 refine hk6 _ _ (HeldNow.list (L := [(⟨c, 0, none⟩, .func (.func 10) #[] #[.pointer (some ⟨b, 0, none⟩)])]) (by kernel_rfl) (heldCons hc10 heldNil)) <| .q rfl rfl rfl (qsadd rfl rfl (by (try simp only [List.length_append]); omega)) <| .l rfl rfl rfl (fun _ _ hk12 _ => vcall rfl rfl (s_Gt g u l (x ++ (inv y)) b _ _ A8 hv hn (hL.le le11) (hu.le le11) (le11.get _ _ hb) (all_app hx (all_inv hy)) (by rw [List.length_append, inv_length]; omega)) ?_)
 rintro v13 A14 ⟨rfl, leq15, wfq15⟩
 have le17 := le11.trans leq15
 refine hk12 _ _ (HeldNow.none (by kernel_rfl)) <| .q rfl rfl rfl (qmove rfl) <| .q rfl rfl rfl (qextract rfl rfl) <| .q rfl rfl rfl (qextract rfl rfl) <| .q rfl rfl rfl (qassign rfl) <| .q rfl rfl rfl (qassign rfl) <| .done <| h4 _ _ <| .seq fun K18 h19 => .region ?_
 refine Ops.q rfl (qmove rfl) <| .q rfl (qmove rfl) <| .partB (t := 18) rfl (fun p20 => ?_) (fun p20 => ?_)
 ·
  refine Ops.on rfl rfl <| .q rfl (qmove rfl) <| .q rfl (qpickT rfl rfl) <| .q rfl (qassign rfl) <| .nil <| h19 _ _ <| .ret ?_
  repeat first | with_reducible refine thenQ_ret ?_ | with_reducible refine blockQ_ret ?_
  exact retQ rfl (⟨by first | rfl | (rw [show tv l (x ++ inv y) = true from ‹_›]; rfl) | (rw [show tv l (x ++ inv y) = false from ‹_›]; rfl), le17, wfq15⟩)
 ·
  refine Ops.off rfl rfl rfl rfl <| .q rfl (qpickF rfl rfl) <| .q rfl (qassign rfl) <| .nil <| h19 _ _ <| .ret ?_
  repeat first | with_reducible refine thenQ_ret ?_ | with_reducible refine blockQ_ret ?_
  exact retQ rfl (⟨by first | rfl | (rw [show tv l (x ++ inv y) = true from ‹_›]; rfl) | (rw [show tv l (x ++ inv y) = false from ‹_›]; rfl), le17, wfq15⟩)

theorem s_GsC {g : Int} {u : Value} {l : List (List UInt8)} {x y : List UInt8} {b cap c cap2 : Nat} {rw rw2 : Bool} {A : AH} {z : Bool} (hv : rVerified g l = 0) (hn : l.length ≤ 1000000) (hL : Lets A) (hu : Slc A 1 u (strs l)) (hb : A.get b = some (.row rw [num g, u] cap)) (hc : A.get c = some (.row rw2 [.func (.func 10) #[] #[.pointer (some ⟨b, 0, none⟩)]] cap2)) (hx : x.all (okc g) = true ∧ x.length ≤ 100) (hy : y.all (okc g) = true ∧ y.length ≤ 100) (hz : tv l (x ++ inv y) = z) : RetA Tryd.prog 12 #[str x, str y, .pointer (some ⟨c, 0, none⟩)] A (fun v A1 => v = .bool z ∧ A.le A1 ∧ A1.wf) :=
  (s_Gs g u l x y b cap c cap2 rw rw2 A hv hn hL hu hb hc hx.1 hx.2 hy.1 hy.2).mono fun v A1 h => by rw [hz] at h; exact h


theorem s_DehnGroup (g : Int) (u : Value) (l : List (List UInt8)) (p q r : List UInt8) (A : AH) (hn : l.length ≤ 9223372036854775807) (hL : Lets A) (hu : Slc A 1 u (strs l)) : RetA Tryd.prog 3 #[.agg #[num (g), u], str (p), str (q), str (r)] A (fun v A1 => v = .bool true ∧ A.le A1 ∧ A1.wf) := by
 refine enterA (e := [(0, .agg #[num (g), u]), (1, str (p)), (2, str (q)), (3, str (r))]) (args := [.agg #[num (g), u], str (p), str (q), str (r)]) Tryd.call3 Tryd.func3 rfl Tryd.results3 Tryd.ntmps3 rfl rfl rfl (fun wf => ?_)
 have le_ := AH.le.refl A
 refine Run.seq fun K1 h2 => .region <| .l rfl (fun _ _ hk3 _ => wbox wf rfl rfl fun A5 b4 nb6 => ?_)
 have le7 := le_.trans nb6.le
 refine hk3 _ _ <| .q rfl (qassign rfl) <| .nil <| h2 _ _ <| .seq fun K8 h9 => .seq fun K10 h11 => .region <| .l rfl (fun _ _ hk12 _ => vcallF rfl (s_sane A5 (hL.le le7)) ?_)
 rintro v13 A14 ⟨rfl, leq15, wfq15⟩
 have h16 := leq15.get _ _ nb6.get
 have le17 := le7.trans leq15
 refine hk12 _ _ <| .q rfl (qnot rfl) <| .nil <| h11 _ _ <| .cond_false rfl <| .skip <| h9 _ _ <| .seq fun K18 h19 => .seq fun K20 h21 => .region ?_
 refine Ops.q rfl (qloadAggAt ag24 sz24 rfl rfl h16 rfl) <| .l rfl (fun _ _ hk22 _ => vcallF rfl (s_small ((g)) u l (.slice none 0 0) ([]) A14 (by omega) (by first | omega | simp) (hu.le le17) (Fresh.nil A A14 1).slc) ?_)
 rintro v23 A24 ⟨rfl, leq25, wfq25⟩
 have h26 := leq25.get _ _ h16
 have le27 := le17.trans leq25
 refine hk22 _ _ <| .q rfl (qnot rfl) <| .q rfl (qmove rfl) <| .partB (t := 20) rfl (fun p28 => ?_) (fun p28 => ?_)
 ·
  refine Ops.off rfl rfl rfl rfl <| .off rfl rfl rfl rfl <| .off rfl rfl rfl rfl <| .q rfl (qpickT rfl rfl) <| .q rfl (qmove rfl) <| .off rfl rfl rfl rfl <| .off rfl rfl rfl rfl <| .off rfl rfl rfl rfl <| .q rfl (qpickT rfl rfl) <| .q rfl (qmove rfl) ?_
  refine Ops.off rfl rfl rfl rfl <| .off rfl rfl rfl rfl <| .off rfl rfl rfl rfl <| .q rfl (qpickT rfl rfl) <| .q rfl (qmove rfl) <| .off rfl rfl rfl rfl <| .off rfl rfl rfl rfl <| .off rfl rfl rfl rfl <| .q rfl (qpickT rfl rfl) <| .q rfl (qmove rfl) ?_
  refine Ops.off rfl rfl rfl rfl <| .off rfl rfl rfl rfl <| .off rfl rfl rfl rfl <| .off rfl rfl rfl rfl <| .off rfl rfl rfl rfl <| .off rfl rfl rfl rfl <| .off rfl rfl rfl rfl <| .off rfl rfl rfl rfl <| .off rfl rfl rfl rfl <| .q rfl (qpickT rfl rfl) ?_
  refine Ops.nil <| h21 _ _ <| .cond_true rfl <| .seq fun K29 h30 => .region <| .l rfl (fun _ _ hk31 _ => vcallF rfl (s_sane A24 (hL.le le27)) ?_)
  rintro v32 A33 ⟨rfl, leq34, wfq34⟩
  have le36 := le27.trans leq34
  refine hk31 _ _ <| .q rfl (qassign rfl) <| .nil <| h30 _ _ <| .ret ?_
  repeat first | with_reducible refine thenQ_ret ?_ | with_reducible refine blockQ_ret ?_
  exact retQ rfl (⟨rfl, le36, wfq34⟩)
 ·
  refine Ops.on rfl rfl <| .q rfl (qmove rfl) <| .on rfl rfl <| .q rfl (qslen u9 rfl) <| .on rfl rfl <| .q rfl (qgtrN (b := 20) rfl rfl) <| .q rfl (qpickF rfl rfl) <| .q rfl (qmove rfl) <| .part (t := 25) rfl (fun p37 => ?_) (fun p37 => ?_)
  ·
   refine Ops.off rfl rfl rfl rfl <| .off rfl rfl rfl rfl <| .off rfl rfl rfl rfl <| .q rfl (qpickT rfl rfl) <| .q rfl (qmove rfl) <| .off rfl rfl rfl rfl <| .off rfl rfl rfl rfl <| .off rfl rfl rfl rfl <| .q rfl (qpickT rfl rfl) <| .q rfl (qmove rfl) ?_
   refine Ops.off rfl rfl rfl rfl <| .off rfl rfl rfl rfl <| .off rfl rfl rfl rfl <| .q rfl (qpickT rfl rfl) <| .q rfl (qmove rfl) <| .off rfl rfl rfl rfl <| .off rfl rfl rfl rfl <| .off rfl rfl rfl rfl <| .off rfl rfl rfl rfl <| .off rfl rfl rfl rfl ?_
   refine Ops.off rfl rfl rfl rfl <| .off rfl rfl rfl rfl <| .off rfl rfl rfl rfl <| .off rfl rfl rfl rfl <| .q rfl (qpickT rfl rfl) <| .nil <| h21 _ _ <| .cond_true rfl <| .seq fun K38 h39 => .region ?_
   refine Ops.l rfl (fun _ _ hk40 _ => vcallF rfl (s_sane A24 (hL.le le27)) ?_)
   rintro v41 A42 ⟨rfl, leq43, wfq43⟩
   have le45 := le27.trans leq43
   refine hk40 _ _ <| .q rfl (qassign rfl) <| .nil <| h39 _ _ <| .ret ?_
   repeat first | with_reducible refine thenQ_ret ?_ | with_reducible refine blockQ_ret ?_
   exact retQ rfl (⟨rfl, le45, wfq43⟩)
  ·
   refine Ops.on rfl rfl <| .q rfl (qmove rfl) <| .on rfl rfl <| .q rfl (qslen u9 rfl) <| .on rfl rfl <| .q rfl (qgtrN (b := 20) rfl rfl) <| .q rfl (qpickF rfl rfl) <| .q rfl (qmove rfl) <| .part (t := 30) rfl (fun p46 => ?_) (fun p46 => ?_)
   ·
    refine Ops.off rfl rfl rfl rfl <| .off rfl rfl rfl rfl <| .off rfl rfl rfl rfl <| .q rfl (qpickT rfl rfl) <| .q rfl (qmove rfl) <| .off rfl rfl rfl rfl <| .off rfl rfl rfl rfl <| .off rfl rfl rfl rfl <| .q rfl (qpickT rfl rfl) <| .q rfl (qmove rfl) ?_
    refine Ops.off rfl rfl rfl rfl <| .off rfl rfl rfl rfl <| .off rfl rfl rfl rfl <| .off rfl rfl rfl rfl <| .off rfl rfl rfl rfl <| .off rfl rfl rfl rfl <| .off rfl rfl rfl rfl <| .off rfl rfl rfl rfl <| .off rfl rfl rfl rfl <| .q rfl (qpickT rfl rfl) ?_
    refine Ops.nil <| h21 _ _ <| .cond_true rfl <| .seq fun K47 h48 => .region <| .l rfl (fun _ _ hk49 _ => vcallF rfl (s_sane A24 (hL.le le27)) ?_)
    rintro v50 A51 ⟨rfl, leq52, wfq52⟩
    have le54 := le27.trans leq52
    refine hk49 _ _ <| .q rfl (qassign rfl) <| .nil <| h48 _ _ <| .ret ?_
    repeat first | with_reducible refine thenQ_ret ?_ | with_reducible refine blockQ_ret ?_
    exact retQ rfl (⟨rfl, le54, wfq52⟩)
   ·
    refine Ops.on rfl rfl <| .q rfl (qmove rfl) <| .on rfl rfl <| .q rfl (qslen u9 rfl) <| .on rfl rfl <| .q rfl (qgtrN (b := 20) rfl rfl) <| .q rfl (qpickF rfl rfl) <| .q rfl (qmove rfl) <| .part (t := 35) rfl (fun p55 => ?_) (fun p55 => ?_)
    ·
     refine Ops.off rfl rfl rfl rfl <| .off rfl rfl rfl rfl <| .off rfl rfl rfl rfl <| .q rfl (qpickT rfl rfl) <| .q rfl (qmove rfl) <| .off rfl rfl rfl rfl <| .off rfl rfl rfl rfl <| .off rfl rfl rfl rfl <| .off rfl rfl rfl rfl <| .off rfl rfl rfl rfl ?_
     refine Ops.off rfl rfl rfl rfl <| .off rfl rfl rfl rfl <| .off rfl rfl rfl rfl <| .off rfl rfl rfl rfl <| .q rfl (qpickT rfl rfl) <| .nil <| h21 _ _ <| .cond_true rfl <| .seq fun K56 h57 => .region ?_
     refine Ops.l rfl (fun _ _ hk58 _ => vcallF rfl (s_sane A24 (hL.le le27)) ?_)
     rintro v59 A60 ⟨rfl, leq61, wfq61⟩
     have le63 := le27.trans leq61
     refine hk58 _ _ <| .q rfl (qassign rfl) <| .nil <| h57 _ _ <| .ret ?_
     repeat first | with_reducible refine thenQ_ret ?_ | with_reducible refine blockQ_ret ?_
     exact retQ rfl (⟨rfl, le63, wfq61⟩)
    ·
     refine Ops.on rfl rfl <| .q rfl (qloadAggAt ag24 sz24 rfl rfl h26 rfl) <| .on rfl rfl <| .l rfl (fun _ _ hk64 _ => vcallF rfl (s_Ve2 (g := (g)) (by have := (small_len (l := l) (ws := []) (by simpa using ‹(!small l []) = false›)).1; omega) (hL.le le27) (hu.le le27)) ?_)
     rintro v65 A66 ⟨rfl, leq67, wfq67⟩
     have h68 := leq67.get _ _ h26
     have le69 := le27.trans leq67
     refine hk64 _ _ <| .on rfl rfl <| .q rfl (qneqN (b := 0) rfl rfl) <| .q rfl (qpickF rfl rfl) <| .q rfl (qmove rfl) <| .part (t := 40) rfl (fun p70 => ?_) (fun p70 => ?_)
     ·
      refine Ops.off rfl rfl rfl rfl <| .off rfl rfl rfl rfl <| .off rfl rfl rfl rfl <| .off rfl rfl rfl rfl <| .off rfl rfl rfl rfl <| .off rfl rfl rfl rfl <| .off rfl rfl rfl rfl <| .off rfl rfl rfl rfl <| .off rfl rfl rfl rfl <| .q rfl (qpickT rfl rfl) ?_
      refine Ops.nil <| h21 _ _ <| .cond_true rfl <| .seq fun K71 h72 => .region <| .l rfl (fun _ _ hk73 _ => vcallF rfl (s_sane A66 (hL.le le69)) ?_)
      rintro v74 A75 ⟨rfl, leq76, wfq76⟩
      have le78 := le69.trans leq76
      refine hk73 _ _ <| .q rfl (qassign rfl) <| .nil <| h72 _ _ <| .ret ?_
      repeat first | with_reducible refine thenQ_ret ?_ | with_reducible refine blockQ_ret ?_
      exact retQ rfl (⟨rfl, le78, wfq76⟩)
     ·
      refine Ops.on rfl rfl <| .q rfl (qmove rfl) <| .on rfl rfl <| .q rfl (qmove rfl) <| .on rfl rfl <| .q rfl (qsadd rfl rfl (by (try simp only [List.length_append, inv_length]); omega)) <| .on rfl rfl <| .q rfl (qmove rfl) <| .on rfl rfl <| .q rfl (qsadd rfl rfl (by (try simp only [List.length_append, inv_length]); omega)) ?_
      refine Ops.on rfl rfl <| .q rfl (qfieldAddr fl24_0 sz3 (by decide) rfl) <| .on rfl rfl <| .q rfl (qloadAt ag3 rfl rfl h68 rfl) <| .on rfl rfl <| .l rfl (fun _ _ hk79 _ => vcallF rfl (s_R4IsWord ((p ++ q) ++ r) ((g)) A66 (by (try simp only [List.length_append]); omega) (pcheck_zero (verified_dehn (Decidable.not_not.1 ‹¬ ¬ rVerified (g) l = 0›)).1).1) ?_)
      rintro v80 A81 ⟨rfl, rfl⟩
      refine hk79 _ _ <| .on rfl rfl <| .q rfl (qnotP rfl) <| .q rfl (qpickF rfl rfl) <| .nil <| h21 _ _ <| .if rfl (fun p83 => ?_) (fun p83 => ?_)
      ·
       refine Run.seq fun K84 h85 => .region <| .l rfl (fun _ _ hk86 _ => vcallF rfl (s_sane A66 (hL.le le69)) ?_)
       rintro v87 A88 ⟨rfl, leq89, wfq89⟩
       have le91 := le69.trans leq89
       refine hk86 _ _ <| .q rfl (qassign rfl) <| .nil <| h85 _ _ <| .ret ?_
       repeat first | with_reducible refine thenQ_ret ?_ | with_reducible refine blockQ_ret ?_
       exact retQ rfl (⟨rfl, le91, wfq89⟩)
      ·
       refine Run.skip <| h19 _ _ <| .seq fun K92 h93 => ?_
       have hsl := small_len (l := l) (ws := []) (by simpa using ‹(!small l []) = false›)
       have hl8 := hsl.1
       have hv0 := Decidable.not_not.1 ‹¬ ¬ rVerified (g) l = 0›
       have hv := hv0
       have hp := (verified_dehn hv0).1
       have hg := (pcheck_zero hp).1
       have hwc : wcheck g ((p ++ q) ++ r) = 0 := by simpa using ‹¬ ¬ wcheck g ((p ++ q) ++ r) = 0›
       have hall := (all_wcheck hwc).2.2
       have hpa : p.all (okc g) = true ∧ p.length ≤ 20 := ⟨all_sub hall (fun c hc => by simp [hc]), by omega⟩
       have hqa : q.all (okc g) = true ∧ q.length ≤ 20 := ⟨all_sub hall (fun c hc => by simp [hc]), by omega⟩
       have hra : r.all (okc g) = true ∧ r.length ≤ 20 := ⟨all_sub hall (fun c hc => by simp [hc]), by omega⟩
       have hpil := inv_length p
       have hril := inv_length r
       refine Run.region <| .q rfl (qfunc rfl rfl) <| .l rfl (fun _ _ hk94 _ => walloc wfq67 z33 rfl fun A96 b95 nb97 => ?_)
       have ne_b4_b95 := ne_new wfq67 h68 nb97.lo
       have ge_b95 := none_of wf (Nat.le_trans le69.n nb97.lo)
       have h98 := nb97.le.get _ _ h68
       have le99 := le69.trans nb97.le
       refine hk94 _ _ <| .l rfl (fun _ _ hk100 _ => wstore (cs := [.func (.func 10) #[] #[.pointer (some ⟨b4, 0, none⟩)]]) (c' := [.func (.func 10) #[] #[.pointer (some ⟨b4, 0, none⟩)]]) nb97.wf rfl rfl rfl rfl sz33 nb97.get (Nat.le_of_ble_eq_true rfl) rfl rfl fun A101 sb102 => ?_)
       have h103 := sb102.keep _ _ ne_b4_b95 h98
       have le104 := le_store le99 wf ge_b95 sb102.n sb102.keep
       refine hk100 _ _ <| .nil <| h93 _ _ <| .seq fun K105 h106 => .region <| .q rfl (qfunc rfl rfl) <| .q rfl (qassign rfl) <| .nil <| h106 _ _ <| .seq fun K107 h108 => ?_
       refine Run.region <| .q rfl (qloadAt ag33 rfl rfl sb102.get rfl) <| .q rfl (qmove rfl) <| .l rfl (fun _ _ hk109 _ => vcall rfl rfl (s_Gt g u l p b4 _ _ A101 hv (by omega) (hL.le le104) (hu.le le104) h103 (by first | exact hpa.1 | exact hqa.1) (by omega)) ?_)
       rintro v110 A111 ⟨rfl, leq112, wfq112⟩
       have h113 := leq112.get _ _ h103
       have h114 := leq112.get _ _ sb102.get
       have le115 := le104.trans leq112
       refine hk109 _ _ <| .q rfl (qmove rfl) <| .q rfl (qextract rfl rfl) <| .q rfl (qextract rfl rfl) <| .q rfl (qassign rfl) <| .q rfl (qassign rfl) <| .nil <| h108 _ _ <| .seq fun K116 h117 => .seq fun K118 h119 => ?_
       refine Run.region <| .q rfl (qmove rfl) <| .q rfl (qnot rfl) <| .nil <| h119 _ _ <| .cond_false rfl <| .skip <| h117 _ _ <| .seq fun K120 h121 => .seq fun K122 h123 => ?_
       refine Run.region <| .q rfl (qmove rfl) <| .q rfl (qmove rfl) <| .q rfl (qmove rfl) <| .l rfl (fun _ _ hk124 _ => vcallF rfl (s_RInverseOf p A111 (by omega) (isw_of hg.2 (wcheck_all hg (by omega) hpa.1))) ?_)
       rintro v125 A126 ⟨rfl, leq127, wfq127⟩
       have h128 := leq127.get _ _ h113
       have h129 := leq127.get _ _ h114
       have le130 := le115.trans leq127
       refine hk124 _ _ <| .l rfl (fun _ _ hk131 _ => vcall rfl rfl (s_GsC (g := g) (x := inv p) (y := []) hv0 (by omega) (hL.le le130) (hu.le le130) h128 h129 ⟨by first | exact hpa.1 | exact hqa.1 | exact hra.1 | exact all_inv hpa.1 | exact all_app hpa.1 hqa.1 | exact all_app hpa.1 hra.1 | exact all_app hqa.1 hra.1 | exact all_app hra.1 hpa.1 | exact all_app hra.1 hqa.1 | exact all_app (all_app hra.1 hpa.1) (all_inv hra.1) | rfl, by (try simp only [List.length_append, inv_length, List.length_nil]); omega⟩ ⟨by first | exact hpa.1 | exact hqa.1 | exact hra.1 | exact all_inv hpa.1 | exact all_app hpa.1 hqa.1 | exact all_app hpa.1 hra.1 | exact all_app hqa.1 hra.1 | exact all_app hra.1 hpa.1 | exact all_app hra.1 hqa.1 | exact all_app (all_app hra.1 hpa.1) (all_inv hra.1) | rfl, by (try simp only [List.length_append, inv_length, List.length_nil]); omega⟩ (tv_1 hp p)) ?_)
       rintro v132 A133 ⟨rfl, leq134, wfq134⟩
       have h135 := leq134.get _ _ h128
       have h136 := leq134.get _ _ h129
       have le137 := le130.trans leq134
       refine hk131 _ _ <| .q rfl (((qbneq u4 rfl rfl).trans (congrArg (fun z => some (Value.bool z, [])) (by rw [beq_self_eq_true]; rfl)))) <| .q rfl (qmove rfl) <| .on rfl rfl <| .q rfl (qmove rfl) <| .on rfl rfl <| .q rfl (qmove rfl) <| .on rfl rfl <| .q rfl (qmove rfl) <| .on rfl rfl ?_
       refine Ops.q rfl (qmove rfl) <| .on rfl rfl <| .q rfl (qsadd rfl rfl (by (try simp only [List.length_append, inv_length]); omega)) <| .on rfl rfl <| .q rfl (qmove rfl) <| .on rfl rfl <| .l rfl (fun _ _ hk138 _ => vcallF rfl (s_RInverseOf r A133 (by omega) (isw_of hg.2 (wcheck_all hg (by omega) hra.1))) ?_)
       rintro v139 A140 ⟨rfl, leq141, wfq141⟩
       have h142 := leq141.get _ _ h135
       have h143 := leq141.get _ _ h136
       have le144 := le137.trans leq141
       refine hk138 _ _ <| .on rfl rfl <| .q rfl (qsadd rfl rfl (by (try simp only [List.length_append, inv_length]); omega)) <| .on rfl rfl <| .l rfl (fun _ _ hk145 _ => vcall rfl rfl (s_GsC (g := g) (x := (r ++ p) ++ (inv r)) (y := []) hv0 (by omega) (hL.le le144) (hu.le le144) h142 h143 ⟨by first | exact hpa.1 | exact hqa.1 | exact hra.1 | exact all_inv hpa.1 | exact all_app hpa.1 hqa.1 | exact all_app hpa.1 hra.1 | exact all_app hqa.1 hra.1 | exact all_app hra.1 hpa.1 | exact all_app hra.1 hqa.1 | exact all_app (all_app hra.1 hpa.1) (all_inv hra.1) | rfl, by (try simp only [List.length_append, inv_length, List.length_nil]); omega⟩ ⟨by first | exact hpa.1 | exact hqa.1 | exact hra.1 | exact all_inv hpa.1 | exact all_app hpa.1 hqa.1 | exact all_app hpa.1 hra.1 | exact all_app hqa.1 hra.1 | exact all_app hra.1 hpa.1 | exact all_app hra.1 hqa.1 | exact all_app (all_app hra.1 hpa.1) (all_inv hra.1) | rfl, by (try simp only [List.length_append, inv_length, List.length_nil]); omega⟩ (tv_2 hp p r)) ?_)
       rintro v146 A147 ⟨rfl, leq148, wfq148⟩
       have h149 := leq148.get _ _ h142
       have h150 := leq148.get _ _ h143
       have le151 := le144.trans leq148
       refine hk145 _ _ <| .on rfl rfl <| .q rfl (((qbneq u4 rfl rfl).trans (congrArg (fun z => some (Value.bool z, [])) (by rw [beq_self_eq_true]; rfl)))) <| .q rfl (qpickF rfl rfl) <| .q rfl (qmove rfl) <| .on rfl rfl <| .q rfl (qmove rfl) <| .on rfl rfl <| .q rfl (qmove rfl) <| .on rfl rfl ?_
       refine Ops.q rfl (qmove rfl) <| .on rfl rfl <| .l rfl (fun _ _ hk152 _ => vcall rfl rfl (s_GsC (g := g) (x := p) (y := p) hv0 (by omega) (hL.le le151) (hu.le le151) h149 h150 ⟨by first | exact hpa.1 | exact hqa.1 | exact hra.1 | exact all_inv hpa.1 | exact all_app hpa.1 hqa.1 | exact all_app hpa.1 hra.1 | exact all_app hqa.1 hra.1 | exact all_app hra.1 hpa.1 | exact all_app hra.1 hqa.1 | exact all_app (all_app hra.1 hpa.1) (all_inv hra.1) | rfl, by (try simp only [List.length_append, inv_length, List.length_nil]); omega⟩ ⟨by first | exact hpa.1 | exact hqa.1 | exact hra.1 | exact all_inv hpa.1 | exact all_app hpa.1 hqa.1 | exact all_app hpa.1 hra.1 | exact all_app hqa.1 hra.1 | exact all_app hra.1 hpa.1 | exact all_app hra.1 hqa.1 | exact all_app (all_app hra.1 hpa.1) (all_inv hra.1) | rfl, by (try simp only [List.length_append, inv_length, List.length_nil]); omega⟩ (tv_3 hp p)) ?_)
       rintro v153 A154 ⟨rfl, leq155, wfq155⟩
       have h156 := leq155.get _ _ h149
       have h157 := leq155.get _ _ h150
       have le158 := le151.trans leq155
       refine hk152 _ _ <| .on rfl rfl <| .q rfl (qnot rfl) <| .q rfl (qpickF rfl rfl) <| .q rfl (qmove rfl) <| .on rfl rfl <| .q rfl (qmove rfl) <| .on rfl rfl <| .q rfl (qmove rfl) <| .on rfl rfl ?_
       refine Ops.q rfl (qmove rfl) <| .on rfl rfl <| .l rfl (fun _ _ hk159 _ => vcall rfl rfl (s_GsC (g := g) (x := p) (y := q) hv0 (by omega) (hL.le le158) (hu.le le158) h156 h157 ⟨by first | exact hpa.1 | exact hqa.1 | exact hra.1 | exact all_inv hpa.1 | exact all_app hpa.1 hqa.1 | exact all_app hpa.1 hra.1 | exact all_app hqa.1 hra.1 | exact all_app hra.1 hpa.1 | exact all_app hra.1 hqa.1 | exact all_app (all_app hra.1 hpa.1) (all_inv hra.1) | rfl, by (try simp only [List.length_append, inv_length, List.length_nil]); omega⟩ ⟨by first | exact hpa.1 | exact hqa.1 | exact hra.1 | exact all_inv hpa.1 | exact all_app hpa.1 hqa.1 | exact all_app hpa.1 hra.1 | exact all_app hqa.1 hra.1 | exact all_app hra.1 hpa.1 | exact all_app hra.1 hqa.1 | exact all_app (all_app hra.1 hpa.1) (all_inv hra.1) | rfl, by (try simp only [List.length_append, inv_length, List.length_nil]); omega⟩ rfl) ?_)
       rintro v160 A161 ⟨rfl, leq162, wfq162⟩
       have h163 := leq162.get _ _ h156
       have h164 := leq162.get _ _ h157
       have le165 := le158.trans leq162
       refine hk159 _ _ <| .on rfl rfl <| .q rfl (qmove rfl) <| .on rfl rfl <| .q rfl (qmove rfl) <| .on rfl rfl <| .q rfl (qmove rfl) <| .on rfl rfl <| .l rfl (fun _ _ hk166 _ => vcall rfl rfl (s_GsC (g := g) (x := q) (y := p) hv0 (by omega) (hL.le le165) (hu.le le165) h163 h164 ⟨by first | exact hpa.1 | exact hqa.1 | exact hra.1 | exact all_inv hpa.1 | exact all_app hpa.1 hqa.1 | exact all_app hpa.1 hra.1 | exact all_app hqa.1 hra.1 | exact all_app hra.1 hpa.1 | exact all_app hra.1 hqa.1 | exact all_app (all_app hra.1 hpa.1) (all_inv hra.1) | rfl, by (try simp only [List.length_append, inv_length, List.length_nil]); omega⟩ ⟨by first | exact hpa.1 | exact hqa.1 | exact hra.1 | exact all_inv hpa.1 | exact all_app hpa.1 hqa.1 | exact all_app hpa.1 hra.1 | exact all_app hqa.1 hra.1 | exact all_app hra.1 hpa.1 | exact all_app hra.1 hqa.1 | exact all_app (all_app hra.1 hpa.1) (all_inv hra.1) | rfl, by (try simp only [List.length_append, inv_length, List.length_nil]); omega⟩ (tv_4 hp p q)) ?_)
       rintro v167 A168 ⟨rfl, leq169, wfq169⟩
       have h170 := leq169.get _ _ h163
       have h171 := leq169.get _ _ h164
       have le172 := le165.trans leq169
       refine hk166 _ _ <| .on rfl rfl <| .q rfl (((qbneq u4 rfl rfl).trans (congrArg (fun z => some (Value.bool z, [])) (by rw [beq_self_eq_true]; rfl)))) <| .q rfl (qpickF rfl rfl) <| .nil <| h123 _ _ <| .cond_false rfl <| .skip <| h121 _ _ <| .seq fun K173 h174 => ?_
       refine Run.seq fun K175 h176 => .region <| .q rfl (qloadAt ag33 rfl rfl h171 rfl) <| .q rfl (qmove rfl) <| .l rfl (fun _ _ hk177 _ => vcall rfl rfl (s_Gt g u l q b4 _ _ A168 hv (by omega) (hL.le le172) (hu.le le172) h170 (by first | exact hpa.1 | exact hqa.1) (by omega)) ?_)
       rintro v178 A179 ⟨rfl, leq180, wfq180⟩
       have h181 := leq180.get _ _ h170
       have h182 := leq180.get _ _ h171
       have le183 := le172.trans leq180
       refine hk177 _ _ <| .q rfl (qmove rfl) <| .q rfl (qextract rfl rfl) <| .q rfl (qextract rfl rfl) <| .q rfl (qassign rfl) <| .q rfl (qassign rfl) <| .nil <| h176 _ _ <| .seq fun K184 h185 => .region ?_
       refine Ops.q rfl (qmove rfl) <| .q rfl (qmove rfl) <| .on rfl rfl <| .q rfl (qmove rfl) <| .q rfl (qpickT rfl rfl) <| .q rfl (qmove rfl) <| .partB (t := 109) rfl (fun p186 => ?_) (fun p186 => ?_)
       ·
        refine Ops.on rfl rfl <| .q rfl (qmove rfl) <| .q rfl (qpickT rfl rfl) <| .q rfl (qmove rfl) <| .partB (t := 112) rfl (fun p187 => ?_) (fun p187 => ?_)
        ·
         refine Ops.on rfl rfl <| .q rfl (qmove rfl) <| .on rfl rfl <| .q rfl (qmove rfl) <| .on rfl rfl <| .q rfl (qmove rfl) <| .on rfl rfl <| .q rfl (qsadd rfl rfl (by (try simp only [List.length_append, inv_length]); omega)) <| .on rfl rfl <| .l rfl (fun _ _ hk188 _ => vcall rfl rfl (s_GsC (g := g) (x := p ++ q) (y := []) hv0 (by omega) (hL.le le183) (hu.le le183) h181 h182 ⟨by first | exact hpa.1 | exact hqa.1 | exact hra.1 | exact all_inv hpa.1 | exact all_app hpa.1 hqa.1 | exact all_app hpa.1 hra.1 | exact all_app hqa.1 hra.1 | exact all_app hra.1 hpa.1 | exact all_app hra.1 hqa.1 | exact all_app (all_app hra.1 hpa.1) (all_inv hra.1) | rfl, by (try simp only [List.length_append, inv_length, List.length_nil]); omega⟩ ⟨by first | exact hpa.1 | exact hqa.1 | exact hra.1 | exact all_inv hpa.1 | exact all_app hpa.1 hqa.1 | exact all_app hpa.1 hra.1 | exact all_app hqa.1 hra.1 | exact all_app hra.1 hpa.1 | exact all_app hra.1 hqa.1 | exact all_app (all_app hra.1 hpa.1) (all_inv hra.1) | rfl, by (try simp only [List.length_append, inv_length, List.length_nil]); omega⟩ (tv_5 hp ‹_› ‹_›)) ?_)
         rintro v189 A190 ⟨rfl, leq191, wfq191⟩
         have h192 := leq191.get _ _ h181
         have h193 := leq191.get _ _ h182
         have le194 := le183.trans leq191
         refine hk188 _ _ <| .on rfl rfl <| .q rfl (qnot rfl) <| .q rfl (qpickT rfl rfl) <| .nil <| h185 _ _ <| .cond_false rfl <| .skip <| h174 _ _ <| .seq fun K195 h196 => ?_
         refine Run.seq fun K197 h198 => .region <| .q rfl (qmove rfl) <| .q rfl (qmove rfl) <| .q rfl (qmove rfl) <| .l rfl (fun _ _ hk199 _ => vcall rfl rfl (s_GsC (g := g) (x := p) (y := q) hv0 (by omega) (hL.le le194) (hu.le le194) h192 h193 ⟨by first | exact hpa.1 | exact hqa.1 | exact hra.1 | exact all_inv hpa.1 | exact all_app hpa.1 hqa.1 | exact all_app hpa.1 hra.1 | exact all_app hqa.1 hra.1 | exact all_app hra.1 hpa.1 | exact all_app hra.1 hqa.1 | exact all_app (all_app hra.1 hpa.1) (all_inv hra.1) | rfl, by (try simp only [List.length_append, inv_length, List.length_nil]); omega⟩ ⟨by first | exact hpa.1 | exact hqa.1 | exact hra.1 | exact all_inv hpa.1 | exact all_app hpa.1 hqa.1 | exact all_app hpa.1 hra.1 | exact all_app hqa.1 hra.1 | exact all_app hra.1 hpa.1 | exact all_app hra.1 hqa.1 | exact all_app (all_app hra.1 hpa.1) (all_inv hra.1) | rfl, by (try simp only [List.length_append, inv_length, List.length_nil]); omega⟩ rfl) ?_)
         rintro v200 A201 ⟨rfl, leq202, wfq202⟩
         have h203 := leq202.get _ _ h192
         have h204 := leq202.get _ _ h193
         have le205 := le194.trans leq202
         refine hk199 _ _ <| .q rfl (qmove rfl) <| .partB (t := 124) rfl (fun p206 => ?_) (fun p206 => ?_)
         ·
          refine Ops.on rfl rfl <| .q rfl (qmove rfl) <| .on rfl rfl <| .q rfl (qmove rfl) <| .on rfl rfl <| .q rfl (qmove rfl) <| .on rfl rfl <| .l rfl (fun _ _ hk207 _ => vcall rfl rfl (s_GsC (g := g) (x := q) (y := r) hv0 (by omega) (hL.le le205) (hu.le le205) h203 h204 ⟨by first | exact hpa.1 | exact hqa.1 | exact hra.1 | exact all_inv hpa.1 | exact all_app hpa.1 hqa.1 | exact all_app hpa.1 hra.1 | exact all_app hqa.1 hra.1 | exact all_app hra.1 hpa.1 | exact all_app hra.1 hqa.1 | exact all_app (all_app hra.1 hpa.1) (all_inv hra.1) | rfl, by (try simp only [List.length_append, inv_length, List.length_nil]); omega⟩ ⟨by first | exact hpa.1 | exact hqa.1 | exact hra.1 | exact all_inv hpa.1 | exact all_app hpa.1 hqa.1 | exact all_app hpa.1 hra.1 | exact all_app hqa.1 hra.1 | exact all_app hra.1 hpa.1 | exact all_app hra.1 hqa.1 | exact all_app (all_app hra.1 hpa.1) (all_inv hra.1) | rfl, by (try simp only [List.length_append, inv_length, List.length_nil]); omega⟩ (tv_6 hp ‹tv l (p ++ inv q) = true›)) ?_)
          rintro v208 A209 ⟨rfl, leq210, wfq210⟩
          have h211 := leq210.get _ _ h203
          have h212 := leq210.get _ _ h204
          have le213 := le205.trans leq210
          refine hk207 _ _ <| .on rfl rfl <| .q rfl (qmove rfl) <| .on rfl rfl <| .q rfl (qmove rfl) <| .on rfl rfl <| .q rfl (qmove rfl) <| .on rfl rfl <| .l rfl (fun _ _ hk214 _ => vcall rfl rfl (s_GsC (g := g) (x := p) (y := r) hv0 (by omega) (hL.le le213) (hu.le le213) h211 h212 ⟨by first | exact hpa.1 | exact hqa.1 | exact hra.1 | exact all_inv hpa.1 | exact all_app hpa.1 hqa.1 | exact all_app hpa.1 hra.1 | exact all_app hqa.1 hra.1 | exact all_app hra.1 hpa.1 | exact all_app hra.1 hqa.1 | exact all_app (all_app hra.1 hpa.1) (all_inv hra.1) | rfl, by (try simp only [List.length_append, inv_length, List.length_nil]); omega⟩ ⟨by first | exact hpa.1 | exact hqa.1 | exact hra.1 | exact all_inv hpa.1 | exact all_app hpa.1 hqa.1 | exact all_app hpa.1 hra.1 | exact all_app hqa.1 hra.1 | exact all_app hra.1 hpa.1 | exact all_app hra.1 hqa.1 | exact all_app (all_app hra.1 hpa.1) (all_inv hra.1) | rfl, by (try simp only [List.length_append, inv_length, List.length_nil]); omega⟩ rfl) ?_)
          rintro v215 A216 ⟨rfl, leq217, wfq217⟩
          have h218 := leq217.get _ _ h211
          have h219 := leq217.get _ _ h212
          have le220 := le213.trans leq217
          refine hk214 _ _ <| .on rfl rfl <| .q rfl (((qbneq u4 rfl rfl).trans (congrArg (fun z => some (Value.bool z, [])) (by rw [beq_self_eq_true]; rfl)))) <| .on rfl rfl <| .q rfl (qmove rfl) <| .on rfl rfl <| .q rfl (qmove rfl) <| .on rfl rfl <| .q rfl (qmove rfl) <| .on rfl rfl ?_
          refine Ops.q rfl (qmove rfl) <| .on rfl rfl <| .q rfl (qsadd rfl rfl (by (try simp only [List.length_append, inv_length]); omega)) <| .on rfl rfl <| .q rfl (qmove rfl) <| .on rfl rfl <| .q rfl (qmove rfl) <| .on rfl rfl <| .q rfl (qsadd rfl rfl (by (try simp only [List.length_append, inv_length]); omega)) <| .on rfl rfl ?_
          refine Ops.l rfl (fun _ _ hk221 _ => vcall rfl rfl (s_GsC (g := g) (x := p ++ r) (y := q ++ r) hv0 (by omega) (hL.le le220) (hu.le le220) h218 h219 ⟨by first | exact hpa.1 | exact hqa.1 | exact hra.1 | exact all_inv hpa.1 | exact all_app hpa.1 hqa.1 | exact all_app hpa.1 hra.1 | exact all_app hqa.1 hra.1 | exact all_app hra.1 hpa.1 | exact all_app hra.1 hqa.1 | exact all_app (all_app hra.1 hpa.1) (all_inv hra.1) | rfl, by (try simp only [List.length_append, inv_length, List.length_nil]); omega⟩ ⟨by first | exact hpa.1 | exact hqa.1 | exact hra.1 | exact all_inv hpa.1 | exact all_app hpa.1 hqa.1 | exact all_app hpa.1 hra.1 | exact all_app hqa.1 hra.1 | exact all_app hra.1 hpa.1 | exact all_app hra.1 hqa.1 | exact all_app (all_app hra.1 hpa.1) (all_inv hra.1) | rfl, by (try simp only [List.length_append, inv_length, List.length_nil]); omega⟩ (tv_7 hp ‹tv l (p ++ inv q) = true›)) ?_)
          rintro v222 A223 ⟨rfl, leq224, wfq224⟩
          have h225 := leq224.get _ _ h218
          have h226 := leq224.get _ _ h219
          have le227 := le220.trans leq224
          refine hk221 _ _ <| .on rfl rfl <| .q rfl (qnot rfl) <| .on rfl rfl <| .q rfl (qpickF rfl rfl) <| .on rfl rfl <| .q rfl (qmove rfl) <| .on rfl rfl <| .q rfl (qmove rfl) <| .on rfl rfl ?_
          refine Ops.q rfl (qmove rfl) <| .on rfl rfl <| .q rfl (qmove rfl) <| .on rfl rfl <| .q rfl (qsadd rfl rfl (by (try simp only [List.length_append, inv_length]); omega)) <| .on rfl rfl <| .q rfl (qmove rfl) <| .on rfl rfl <| .q rfl (qmove rfl) <| .on rfl rfl ?_
          refine Ops.q rfl (qsadd rfl rfl (by (try simp only [List.length_append, inv_length]); omega)) <| .on rfl rfl <| .l rfl (fun _ _ hk228 _ => vcall rfl rfl (s_GsC (g := g) (x := r ++ p) (y := r ++ q) hv0 (by omega) (hL.le le227) (hu.le le227) h225 h226 ⟨by first | exact hpa.1 | exact hqa.1 | exact hra.1 | exact all_inv hpa.1 | exact all_app hpa.1 hqa.1 | exact all_app hpa.1 hra.1 | exact all_app hqa.1 hra.1 | exact all_app hra.1 hpa.1 | exact all_app hra.1 hqa.1 | exact all_app (all_app hra.1 hpa.1) (all_inv hra.1) | rfl, by (try simp only [List.length_append, inv_length, List.length_nil]); omega⟩ ⟨by first | exact hpa.1 | exact hqa.1 | exact hra.1 | exact all_inv hpa.1 | exact all_app hpa.1 hqa.1 | exact all_app hpa.1 hra.1 | exact all_app hqa.1 hra.1 | exact all_app hra.1 hpa.1 | exact all_app hra.1 hqa.1 | exact all_app (all_app hra.1 hpa.1) (all_inv hra.1) | rfl, by (try simp only [List.length_append, inv_length, List.length_nil]); omega⟩ (tv_8 hp ‹tv l (p ++ inv q) = true›)) ?_)
          rintro v229 A230 ⟨rfl, leq231, wfq231⟩
          have le234 := le227.trans leq231
          refine hk228 _ _ <| .on rfl rfl <| .q rfl (qnot rfl) <| .on rfl rfl <| .q rfl (qpickF rfl rfl) <| .q rfl (qpickT rfl rfl) <| .nil <| h198 _ _ <| .cond_false rfl <| .skip ?_
          refine h196 _ _ <| .seq fun K235 h236 => .region <| .l rfl (fun _ _ hk237 _ => vcallF rfl (s_sane A230 (hL.le le234)) ?_)
          rintro v238 A239 ⟨rfl, leq240, wfq240⟩
          have le243 := le234.trans leq240
          refine hk237 _ _ <| .q rfl (qassign rfl) <| .nil <| h236 _ _ <| .ret ?_
          repeat first | with_reducible refine thenQ_ret ?_ | with_reducible refine blockQ_ret ?_
          exact retQ rfl (⟨rfl, le243, wfq240⟩)
         ·
          refine Ops.off rfl rfl rfl rfl <| .off rfl rfl rfl rfl <| .off rfl rfl rfl rfl <| .off rfl rfl rfl rfl <| .off rfl rfl rfl rfl <| .off rfl rfl rfl rfl <| .off rfl rfl rfl rfl <| .off rfl rfl rfl rfl <| .off rfl rfl rfl rfl <| .off rfl rfl rfl rfl ?_
          refine Ops.und rfl rfl rfl <| .und rfl rfl rfl <| .und rfl rfl rfl <| .und rfl rfl rfl <| .und rfl rfl rfl <| .und rfl rfl rfl <| .und rfl rfl rfl <| .und rfl rfl rfl <| .und rfl rfl rfl <| .off rfl rfl rfl rfl ?_
          refine Ops.off rfl rfl rfl rfl <| .und rfl rfl rfl <| .und rfl rfl rfl <| .und rfl rfl rfl <| .und rfl rfl rfl <| .und rfl rfl rfl <| .und rfl rfl rfl <| .und rfl rfl rfl <| .und rfl rfl rfl <| .und rfl rfl rfl ?_
          refine Ops.off rfl rfl rfl rfl <| .q rfl (qpickF rfl rfl) <| .nil <| h198 _ _ <| .cond_false rfl <| .skip <| h196 _ _ <| .seq fun K244 h245 => .region <| .l rfl (fun _ _ hk246 _ => vcallF rfl (s_sane A201 (hL.le le205)) ?_)
          rintro v247 A248 ⟨rfl, leq249, wfq249⟩
          have le252 := le205.trans leq249
          refine hk246 _ _ <| .q rfl (qassign rfl) <| .nil <| h245 _ _ <| .ret ?_
          repeat first | with_reducible refine thenQ_ret ?_ | with_reducible refine blockQ_ret ?_
          exact retQ rfl (⟨rfl, le252, wfq249⟩)
        ·
         refine Ops.off rfl rfl rfl rfl <| .off rfl rfl rfl rfl <| .off rfl rfl rfl rfl <| .off rfl rfl rfl rfl <| .off rfl rfl rfl rfl <| .off rfl rfl rfl rfl <| .q rfl (qpickF rfl rfl) <| .nil <| h185 _ _ <| .cond_false rfl ?_
         refine Run.skip <| h174 _ _ <| .seq fun K253 h254 => .seq fun K255 h256 => .region <| .q rfl (qmove rfl) <| .q rfl (qmove rfl) <| .q rfl (qmove rfl) <| .l rfl (fun _ _ hk257 _ => vcall rfl rfl (s_GsC (g := g) (x := p) (y := q) hv0 (by omega) (hL.le le183) (hu.le le183) h181 h182 ⟨by first | exact hpa.1 | exact hqa.1 | exact hra.1 | exact all_inv hpa.1 | exact all_app hpa.1 hqa.1 | exact all_app hpa.1 hra.1 | exact all_app hqa.1 hra.1 | exact all_app hra.1 hpa.1 | exact all_app hra.1 hqa.1 | exact all_app (all_app hra.1 hpa.1) (all_inv hra.1) | rfl, by (try simp only [List.length_append, inv_length, List.length_nil]); omega⟩ ⟨by first | exact hpa.1 | exact hqa.1 | exact hra.1 | exact all_inv hpa.1 | exact all_app hpa.1 hqa.1 | exact all_app hpa.1 hra.1 | exact all_app hqa.1 hra.1 | exact all_app hra.1 hpa.1 | exact all_app hra.1 hqa.1 | exact all_app (all_app hra.1 hpa.1) (all_inv hra.1) | rfl, by (try simp only [List.length_append, inv_length, List.length_nil]); omega⟩ rfl) ?_)
         rintro v258 A259 ⟨rfl, leq260, wfq260⟩
         have h261 := leq260.get _ _ h181
         have h262 := leq260.get _ _ h182
         have le263 := le183.trans leq260
         refine hk257 _ _ <| .q rfl (qmove rfl) <| .partB (t := 124) rfl (fun p264 => ?_) (fun p264 => ?_)
         ·
          refine Ops.on rfl rfl <| .q rfl (qmove rfl) <| .on rfl rfl <| .q rfl (qmove rfl) <| .on rfl rfl <| .q rfl (qmove rfl) <| .on rfl rfl <| .l rfl (fun _ _ hk265 _ => vcall rfl rfl (s_GsC (g := g) (x := q) (y := r) hv0 (by omega) (hL.le le263) (hu.le le263) h261 h262 ⟨by first | exact hpa.1 | exact hqa.1 | exact hra.1 | exact all_inv hpa.1 | exact all_app hpa.1 hqa.1 | exact all_app hpa.1 hra.1 | exact all_app hqa.1 hra.1 | exact all_app hra.1 hpa.1 | exact all_app hra.1 hqa.1 | exact all_app (all_app hra.1 hpa.1) (all_inv hra.1) | rfl, by (try simp only [List.length_append, inv_length, List.length_nil]); omega⟩ ⟨by first | exact hpa.1 | exact hqa.1 | exact hra.1 | exact all_inv hpa.1 | exact all_app hpa.1 hqa.1 | exact all_app hpa.1 hra.1 | exact all_app hqa.1 hra.1 | exact all_app hra.1 hpa.1 | exact all_app hra.1 hqa.1 | exact all_app (all_app hra.1 hpa.1) (all_inv hra.1) | rfl, by (try simp only [List.length_append, inv_length, List.length_nil]); omega⟩ (tv_6 hp ‹tv l (p ++ inv q) = true›)) ?_)
          rintro v266 A267 ⟨rfl, leq268, wfq268⟩
          have h269 := leq268.get _ _ h261
          have h270 := leq268.get _ _ h262
          have le271 := le263.trans leq268
          refine hk265 _ _ <| .on rfl rfl <| .q rfl (qmove rfl) <| .on rfl rfl <| .q rfl (qmove rfl) <| .on rfl rfl <| .q rfl (qmove rfl) <| .on rfl rfl <| .l rfl (fun _ _ hk272 _ => vcall rfl rfl (s_GsC (g := g) (x := p) (y := r) hv0 (by omega) (hL.le le271) (hu.le le271) h269 h270 ⟨by first | exact hpa.1 | exact hqa.1 | exact hra.1 | exact all_inv hpa.1 | exact all_app hpa.1 hqa.1 | exact all_app hpa.1 hra.1 | exact all_app hqa.1 hra.1 | exact all_app hra.1 hpa.1 | exact all_app hra.1 hqa.1 | exact all_app (all_app hra.1 hpa.1) (all_inv hra.1) | rfl, by (try simp only [List.length_append, inv_length, List.length_nil]); omega⟩ ⟨by first | exact hpa.1 | exact hqa.1 | exact hra.1 | exact all_inv hpa.1 | exact all_app hpa.1 hqa.1 | exact all_app hpa.1 hra.1 | exact all_app hqa.1 hra.1 | exact all_app hra.1 hpa.1 | exact all_app hra.1 hqa.1 | exact all_app (all_app hra.1 hpa.1) (all_inv hra.1) | rfl, by (try simp only [List.length_append, inv_length, List.length_nil]); omega⟩ rfl) ?_)
          rintro v273 A274 ⟨rfl, leq275, wfq275⟩
          have h276 := leq275.get _ _ h269
          have h277 := leq275.get _ _ h270
          have le278 := le271.trans leq275
          refine hk272 _ _ <| .on rfl rfl <| .q rfl (((qbneq u4 rfl rfl).trans (congrArg (fun z => some (Value.bool z, [])) (by rw [beq_self_eq_true]; rfl)))) <| .on rfl rfl <| .q rfl (qmove rfl) <| .on rfl rfl <| .q rfl (qmove rfl) <| .on rfl rfl <| .q rfl (qmove rfl) <| .on rfl rfl ?_
          refine Ops.q rfl (qmove rfl) <| .on rfl rfl <| .q rfl (qsadd rfl rfl (by (try simp only [List.length_append, inv_length]); omega)) <| .on rfl rfl <| .q rfl (qmove rfl) <| .on rfl rfl <| .q rfl (qmove rfl) <| .on rfl rfl <| .q rfl (qsadd rfl rfl (by (try simp only [List.length_append, inv_length]); omega)) <| .on rfl rfl ?_
          refine Ops.l rfl (fun _ _ hk279 _ => vcall rfl rfl (s_GsC (g := g) (x := p ++ r) (y := q ++ r) hv0 (by omega) (hL.le le278) (hu.le le278) h276 h277 ⟨by first | exact hpa.1 | exact hqa.1 | exact hra.1 | exact all_inv hpa.1 | exact all_app hpa.1 hqa.1 | exact all_app hpa.1 hra.1 | exact all_app hqa.1 hra.1 | exact all_app hra.1 hpa.1 | exact all_app hra.1 hqa.1 | exact all_app (all_app hra.1 hpa.1) (all_inv hra.1) | rfl, by (try simp only [List.length_append, inv_length, List.length_nil]); omega⟩ ⟨by first | exact hpa.1 | exact hqa.1 | exact hra.1 | exact all_inv hpa.1 | exact all_app hpa.1 hqa.1 | exact all_app hpa.1 hra.1 | exact all_app hqa.1 hra.1 | exact all_app hra.1 hpa.1 | exact all_app hra.1 hqa.1 | exact all_app (all_app hra.1 hpa.1) (all_inv hra.1) | rfl, by (try simp only [List.length_append, inv_length, List.length_nil]); omega⟩ (tv_7 hp ‹tv l (p ++ inv q) = true›)) ?_)
          rintro v280 A281 ⟨rfl, leq282, wfq282⟩
          have h283 := leq282.get _ _ h276
          have h284 := leq282.get _ _ h277
          have le285 := le278.trans leq282
          refine hk279 _ _ <| .on rfl rfl <| .q rfl (qnot rfl) <| .on rfl rfl <| .q rfl (qpickF rfl rfl) <| .on rfl rfl <| .q rfl (qmove rfl) <| .on rfl rfl <| .q rfl (qmove rfl) <| .on rfl rfl ?_
          refine Ops.q rfl (qmove rfl) <| .on rfl rfl <| .q rfl (qmove rfl) <| .on rfl rfl <| .q rfl (qsadd rfl rfl (by (try simp only [List.length_append, inv_length]); omega)) <| .on rfl rfl <| .q rfl (qmove rfl) <| .on rfl rfl <| .q rfl (qmove rfl) <| .on rfl rfl ?_
          refine Ops.q rfl (qsadd rfl rfl (by (try simp only [List.length_append, inv_length]); omega)) <| .on rfl rfl <| .l rfl (fun _ _ hk286 _ => vcall rfl rfl (s_GsC (g := g) (x := r ++ p) (y := r ++ q) hv0 (by omega) (hL.le le285) (hu.le le285) h283 h284 ⟨by first | exact hpa.1 | exact hqa.1 | exact hra.1 | exact all_inv hpa.1 | exact all_app hpa.1 hqa.1 | exact all_app hpa.1 hra.1 | exact all_app hqa.1 hra.1 | exact all_app hra.1 hpa.1 | exact all_app hra.1 hqa.1 | exact all_app (all_app hra.1 hpa.1) (all_inv hra.1) | rfl, by (try simp only [List.length_append, inv_length, List.length_nil]); omega⟩ ⟨by first | exact hpa.1 | exact hqa.1 | exact hra.1 | exact all_inv hpa.1 | exact all_app hpa.1 hqa.1 | exact all_app hpa.1 hra.1 | exact all_app hqa.1 hra.1 | exact all_app hra.1 hpa.1 | exact all_app hra.1 hqa.1 | exact all_app (all_app hra.1 hpa.1) (all_inv hra.1) | rfl, by (try simp only [List.length_append, inv_length, List.length_nil]); omega⟩ (tv_8 hp ‹tv l (p ++ inv q) = true›)) ?_)
          rintro v287 A288 ⟨rfl, leq289, wfq289⟩
          have le292 := le285.trans leq289
          refine hk286 _ _ <| .on rfl rfl <| .q rfl (qnot rfl) <| .on rfl rfl <| .q rfl (qpickF rfl rfl) <| .q rfl (qpickT rfl rfl) <| .nil <| h256 _ _ <| .cond_false rfl <| .skip ?_
          refine h254 _ _ <| .seq fun K293 h294 => .region <| .l rfl (fun _ _ hk295 _ => vcallF rfl (s_sane A288 (hL.le le292)) ?_)
          rintro v296 A297 ⟨rfl, leq298, wfq298⟩
          have le301 := le292.trans leq298
          refine hk295 _ _ <| .q rfl (qassign rfl) <| .nil <| h294 _ _ <| .ret ?_
          repeat first | with_reducible refine thenQ_ret ?_ | with_reducible refine blockQ_ret ?_
          exact retQ rfl (⟨rfl, le301, wfq298⟩)
         ·
          refine Ops.off rfl rfl rfl rfl <| .off rfl rfl rfl rfl <| .off rfl rfl rfl rfl <| .off rfl rfl rfl rfl <| .off rfl rfl rfl rfl <| .off rfl rfl rfl rfl <| .off rfl rfl rfl rfl <| .off rfl rfl rfl rfl <| .off rfl rfl rfl rfl <| .off rfl rfl rfl rfl ?_
          refine Ops.und rfl rfl rfl <| .und rfl rfl rfl <| .und rfl rfl rfl <| .und rfl rfl rfl <| .und rfl rfl rfl <| .und rfl rfl rfl <| .und rfl rfl rfl <| .und rfl rfl rfl <| .und rfl rfl rfl <| .off rfl rfl rfl rfl ?_
          refine Ops.off rfl rfl rfl rfl <| .und rfl rfl rfl <| .und rfl rfl rfl <| .und rfl rfl rfl <| .und rfl rfl rfl <| .und rfl rfl rfl <| .und rfl rfl rfl <| .und rfl rfl rfl <| .und rfl rfl rfl <| .und rfl rfl rfl ?_
          refine Ops.off rfl rfl rfl rfl <| .q rfl (qpickF rfl rfl) <| .nil <| h256 _ _ <| .cond_false rfl <| .skip <| h254 _ _ <| .seq fun K302 h303 => .region <| .l rfl (fun _ _ hk304 _ => vcallF rfl (s_sane A259 (hL.le le263)) ?_)
          rintro v305 A306 ⟨rfl, leq307, wfq307⟩
          have le310 := le263.trans leq307
          refine hk304 _ _ <| .q rfl (qassign rfl) <| .nil <| h303 _ _ <| .ret ?_
          repeat first | with_reducible refine thenQ_ret ?_ | with_reducible refine blockQ_ret ?_
          exact retQ rfl (⟨rfl, le310, wfq307⟩)
       ·
        refine Ops.off rfl rfl rfl rfl <| .q rfl (qpickF rfl rfl) <| .q rfl (qmove rfl) <| .off rfl rfl rfl rfl <| .off rfl rfl rfl rfl <| .off rfl rfl rfl rfl <| .off rfl rfl rfl rfl <| .off rfl rfl rfl rfl <| .off rfl rfl rfl rfl <| .q rfl (qpickF rfl rfl) ?_
        refine Ops.nil <| h185 _ _ <| .cond_false rfl <| .skip <| h174 _ _ <| .seq fun K311 h312 => .seq fun K313 h314 => .region <| .q rfl (qmove rfl) <| .q rfl (qmove rfl) ?_
        refine Ops.q rfl (qmove rfl) <| .l rfl (fun _ _ hk315 _ => vcall rfl rfl (s_GsC (g := g) (x := p) (y := q) hv0 (by omega) (hL.le le183) (hu.le le183) h181 h182 ⟨by first | exact hpa.1 | exact hqa.1 | exact hra.1 | exact all_inv hpa.1 | exact all_app hpa.1 hqa.1 | exact all_app hpa.1 hra.1 | exact all_app hqa.1 hra.1 | exact all_app hra.1 hpa.1 | exact all_app hra.1 hqa.1 | exact all_app (all_app hra.1 hpa.1) (all_inv hra.1) | rfl, by (try simp only [List.length_append, inv_length, List.length_nil]); omega⟩ ⟨by first | exact hpa.1 | exact hqa.1 | exact hra.1 | exact all_inv hpa.1 | exact all_app hpa.1 hqa.1 | exact all_app hpa.1 hra.1 | exact all_app hqa.1 hra.1 | exact all_app hra.1 hpa.1 | exact all_app hra.1 hqa.1 | exact all_app (all_app hra.1 hpa.1) (all_inv hra.1) | rfl, by (try simp only [List.length_append, inv_length, List.length_nil]); omega⟩ rfl) ?_)
        rintro v316 A317 ⟨rfl, leq318, wfq318⟩
        have h319 := leq318.get _ _ h181
        have h320 := leq318.get _ _ h182
        have le321 := le183.trans leq318
        refine hk315 _ _ <| .q rfl (qmove rfl) <| .partB (t := 124) rfl (fun p322 => ?_) (fun p322 => ?_)
        ·
         refine Ops.on rfl rfl <| .q rfl (qmove rfl) <| .on rfl rfl <| .q rfl (qmove rfl) <| .on rfl rfl <| .q rfl (qmove rfl) <| .on rfl rfl <| .l rfl (fun _ _ hk323 _ => vcall rfl rfl (s_GsC (g := g) (x := q) (y := r) hv0 (by omega) (hL.le le321) (hu.le le321) h319 h320 ⟨by first | exact hpa.1 | exact hqa.1 | exact hra.1 | exact all_inv hpa.1 | exact all_app hpa.1 hqa.1 | exact all_app hpa.1 hra.1 | exact all_app hqa.1 hra.1 | exact all_app hra.1 hpa.1 | exact all_app hra.1 hqa.1 | exact all_app (all_app hra.1 hpa.1) (all_inv hra.1) | rfl, by (try simp only [List.length_append, inv_length, List.length_nil]); omega⟩ ⟨by first | exact hpa.1 | exact hqa.1 | exact hra.1 | exact all_inv hpa.1 | exact all_app hpa.1 hqa.1 | exact all_app hpa.1 hra.1 | exact all_app hqa.1 hra.1 | exact all_app hra.1 hpa.1 | exact all_app hra.1 hqa.1 | exact all_app (all_app hra.1 hpa.1) (all_inv hra.1) | rfl, by (try simp only [List.length_append, inv_length, List.length_nil]); omega⟩ (tv_6 hp ‹tv l (p ++ inv q) = true›)) ?_)
         rintro v324 A325 ⟨rfl, leq326, wfq326⟩
         have h327 := leq326.get _ _ h319
         have h328 := leq326.get _ _ h320
         have le329 := le321.trans leq326
         refine hk323 _ _ <| .on rfl rfl <| .q rfl (qmove rfl) <| .on rfl rfl <| .q rfl (qmove rfl) <| .on rfl rfl <| .q rfl (qmove rfl) <| .on rfl rfl <| .l rfl (fun _ _ hk330 _ => vcall rfl rfl (s_GsC (g := g) (x := p) (y := r) hv0 (by omega) (hL.le le329) (hu.le le329) h327 h328 ⟨by first | exact hpa.1 | exact hqa.1 | exact hra.1 | exact all_inv hpa.1 | exact all_app hpa.1 hqa.1 | exact all_app hpa.1 hra.1 | exact all_app hqa.1 hra.1 | exact all_app hra.1 hpa.1 | exact all_app hra.1 hqa.1 | exact all_app (all_app hra.1 hpa.1) (all_inv hra.1) | rfl, by (try simp only [List.length_append, inv_length, List.length_nil]); omega⟩ ⟨by first | exact hpa.1 | exact hqa.1 | exact hra.1 | exact all_inv hpa.1 | exact all_app hpa.1 hqa.1 | exact all_app hpa.1 hra.1 | exact all_app hqa.1 hra.1 | exact all_app hra.1 hpa.1 | exact all_app hra.1 hqa.1 | exact all_app (all_app hra.1 hpa.1) (all_inv hra.1) | rfl, by (try simp only [List.length_append, inv_length, List.length_nil]); omega⟩ rfl) ?_)
         rintro v331 A332 ⟨rfl, leq333, wfq333⟩
         have h334 := leq333.get _ _ h327
         have h335 := leq333.get _ _ h328
         have le336 := le329.trans leq333
         refine hk330 _ _ <| .on rfl rfl <| .q rfl (((qbneq u4 rfl rfl).trans (congrArg (fun z => some (Value.bool z, [])) (by rw [beq_self_eq_true]; rfl)))) <| .on rfl rfl <| .q rfl (qmove rfl) <| .on rfl rfl <| .q rfl (qmove rfl) <| .on rfl rfl <| .q rfl (qmove rfl) <| .on rfl rfl ?_
         refine Ops.q rfl (qmove rfl) <| .on rfl rfl <| .q rfl (qsadd rfl rfl (by (try simp only [List.length_append, inv_length]); omega)) <| .on rfl rfl <| .q rfl (qmove rfl) <| .on rfl rfl <| .q rfl (qmove rfl) <| .on rfl rfl <| .q rfl (qsadd rfl rfl (by (try simp only [List.length_append, inv_length]); omega)) <| .on rfl rfl ?_
         refine Ops.l rfl (fun _ _ hk337 _ => vcall rfl rfl (s_GsC (g := g) (x := p ++ r) (y := q ++ r) hv0 (by omega) (hL.le le336) (hu.le le336) h334 h335 ⟨by first | exact hpa.1 | exact hqa.1 | exact hra.1 | exact all_inv hpa.1 | exact all_app hpa.1 hqa.1 | exact all_app hpa.1 hra.1 | exact all_app hqa.1 hra.1 | exact all_app hra.1 hpa.1 | exact all_app hra.1 hqa.1 | exact all_app (all_app hra.1 hpa.1) (all_inv hra.1) | rfl, by (try simp only [List.length_append, inv_length, List.length_nil]); omega⟩ ⟨by first | exact hpa.1 | exact hqa.1 | exact hra.1 | exact all_inv hpa.1 | exact all_app hpa.1 hqa.1 | exact all_app hpa.1 hra.1 | exact all_app hqa.1 hra.1 | exact all_app hra.1 hpa.1 | exact all_app hra.1 hqa.1 | exact all_app (all_app hra.1 hpa.1) (all_inv hra.1) | rfl, by (try simp only [List.length_append, inv_length, List.length_nil]); omega⟩ (tv_7 hp ‹tv l (p ++ inv q) = true›)) ?_)
         rintro v338 A339 ⟨rfl, leq340, wfq340⟩
         have h341 := leq340.get _ _ h334
         have h342 := leq340.get _ _ h335
         have le343 := le336.trans leq340
         refine hk337 _ _ <| .on rfl rfl <| .q rfl (qnot rfl) <| .on rfl rfl <| .q rfl (qpickF rfl rfl) <| .on rfl rfl <| .q rfl (qmove rfl) <| .on rfl rfl <| .q rfl (qmove rfl) <| .on rfl rfl ?_
         refine Ops.q rfl (qmove rfl) <| .on rfl rfl <| .q rfl (qmove rfl) <| .on rfl rfl <| .q rfl (qsadd rfl rfl (by (try simp only [List.length_append, inv_length]); omega)) <| .on rfl rfl <| .q rfl (qmove rfl) <| .on rfl rfl <| .q rfl (qmove rfl) <| .on rfl rfl ?_
         refine Ops.q rfl (qsadd rfl rfl (by (try simp only [List.length_append, inv_length]); omega)) <| .on rfl rfl <| .l rfl (fun _ _ hk344 _ => vcall rfl rfl (s_GsC (g := g) (x := r ++ p) (y := r ++ q) hv0 (by omega) (hL.le le343) (hu.le le343) h341 h342 ⟨by first | exact hpa.1 | exact hqa.1 | exact hra.1 | exact all_inv hpa.1 | exact all_app hpa.1 hqa.1 | exact all_app hpa.1 hra.1 | exact all_app hqa.1 hra.1 | exact all_app hra.1 hpa.1 | exact all_app hra.1 hqa.1 | exact all_app (all_app hra.1 hpa.1) (all_inv hra.1) | rfl, by (try simp only [List.length_append, inv_length, List.length_nil]); omega⟩ ⟨by first | exact hpa.1 | exact hqa.1 | exact hra.1 | exact all_inv hpa.1 | exact all_app hpa.1 hqa.1 | exact all_app hpa.1 hra.1 | exact all_app hqa.1 hra.1 | exact all_app hra.1 hpa.1 | exact all_app hra.1 hqa.1 | exact all_app (all_app hra.1 hpa.1) (all_inv hra.1) | rfl, by (try simp only [List.length_append, inv_length, List.length_nil]); omega⟩ (tv_8 hp ‹tv l (p ++ inv q) = true›)) ?_)
         rintro v345 A346 ⟨rfl, leq347, wfq347⟩
         have le350 := le343.trans leq347
         refine hk344 _ _ <| .on rfl rfl <| .q rfl (qnot rfl) <| .on rfl rfl <| .q rfl (qpickF rfl rfl) <| .q rfl (qpickT rfl rfl) <| .nil <| h314 _ _ <| .cond_false rfl <| .skip ?_
         refine h312 _ _ <| .seq fun K351 h352 => .region <| .l rfl (fun _ _ hk353 _ => vcallF rfl (s_sane A346 (hL.le le350)) ?_)
         rintro v354 A355 ⟨rfl, leq356, wfq356⟩
         have le359 := le350.trans leq356
         refine hk353 _ _ <| .q rfl (qassign rfl) <| .nil <| h352 _ _ <| .ret ?_
         repeat first | with_reducible refine thenQ_ret ?_ | with_reducible refine blockQ_ret ?_
         exact retQ rfl (⟨rfl, le359, wfq356⟩)
        ·
         refine Ops.off rfl rfl rfl rfl <| .off rfl rfl rfl rfl <| .off rfl rfl rfl rfl <| .off rfl rfl rfl rfl <| .off rfl rfl rfl rfl <| .off rfl rfl rfl rfl <| .off rfl rfl rfl rfl <| .off rfl rfl rfl rfl <| .off rfl rfl rfl rfl <| .off rfl rfl rfl rfl ?_
         refine Ops.und rfl rfl rfl <| .und rfl rfl rfl <| .und rfl rfl rfl <| .und rfl rfl rfl <| .und rfl rfl rfl <| .und rfl rfl rfl <| .und rfl rfl rfl <| .und rfl rfl rfl <| .und rfl rfl rfl <| .off rfl rfl rfl rfl ?_
         refine Ops.off rfl rfl rfl rfl <| .und rfl rfl rfl <| .und rfl rfl rfl <| .und rfl rfl rfl <| .und rfl rfl rfl <| .und rfl rfl rfl <| .und rfl rfl rfl <| .und rfl rfl rfl <| .und rfl rfl rfl <| .und rfl rfl rfl ?_
         refine Ops.off rfl rfl rfl rfl <| .q rfl (qpickF rfl rfl) <| .nil <| h314 _ _ <| .cond_false rfl <| .skip <| h312 _ _ <| .seq fun K360 h361 => .region <| .l rfl (fun _ _ hk362 _ => vcallF rfl (s_sane A317 (hL.le le321)) ?_)
         rintro v363 A364 ⟨rfl, leq365, wfq365⟩
         have le368 := le321.trans leq365
         refine hk362 _ _ <| .q rfl (qassign rfl) <| .nil <| h361 _ _ <| .ret ?_
         repeat first | with_reducible refine thenQ_ret ?_ | with_reducible refine blockQ_ret ?_
         exact retQ rfl (⟨rfl, le368, wfq365⟩)
end Go.Proofs.YtaccklloepfemaaDoor

namespace Go.Proofs.YtaccklloepfemaaDoor
set_option linter.unusedVariables false
set_option linter.unusedSimpArgs false
open Go Go.ChangeShapes Go.WideShapes Go.ChangeAt Go.RowKit V
set_option maxRecDepth 100000

theorem own : ownKnob Tryd.prog.godebug = none := by kernel_rfl
theorem laidOut : laidOutB Tryd.prog = true := by kernel_rfl
theorem gTab : Tryd.prog.globalNamed "cayley/word.letters" = some 0 := by kernel_rfl
theorem gTabType : (Tryd.prog.globals[0]?).map (·.type) = some 132 := by kernel_rfl
theorem cellsLT : Tryd.prog.cellsOf 132 = 16 := by kernel_rfl
theorem cells5 : Tryd.prog.cellsOf 5 = 1 := by kernel_rfl
theorem cells9 : Tryd.prog.cellsOf 9 = 1 := by kernel_rfl
theorem cells3 : Tryd.prog.cellsOf 3 = 1 := by kernel_rfl
theorem cells22 : Tryd.prog.cellsOf 22 = 1 := by kernel_rfl
theorem cells24 : Tryd.prog.cellsOf 24 = 2 := by kernel_rfl
theorem table {W : World} (h : laidMetH Tryd.prog [("cayley/word.letters", Rows.laid_cayley_word_letters)] W) : Lib.TabIs Tryd.prog W "cayley/word.letters" .u8 (letters.map fun c => (c.toNat : Int)) :=
  Lib.tabIs_of_head (rest := []) gTab gTabType Tryd.underlying132 Tryd.underlying5 cells5 cellsLT h

/-- A world as a view: all is known, nothing may be written. -/
def AH.ofWorld (W : World) : AH := ⟨W.heap.size, fun b => match W.heap[b]? with
  | some (.cells cs _ _) => some (.row false cs.toList cs.size)
  | some o => some (.obj false o)
  | none => none⟩
theorem view_world (W : World) : View (AH.ofWorld W) W := by
  refine ⟨rfl, fun b o h => ?_⟩
  simp only [AH.ofWorld] at h
  split at h
  · rename_i cs e fr hb
    cases h
    exact ⟨cs, e, fr, hb, by simp, Nat.le_refl _, fun i hi => by simp, fun q => by cases q⟩
  · rename_i x hx hb
    cases h
    exact ⟨hb, fun c e f q => hx c e f q⟩
  · cases h
theorem rw_world (W : World) (b : Nat) : (AH.ofWorld W).rw b = false := by
  unfold AH.rw AH.ofWorld
  simp only
  split
  · rename_i o ho
    split at ho <;> first | (cases ho; rfl) | cases ho
  · rfl
theorem below_world {W w' : World} {A' : AH} (h : Step (AH.ofWorld W) W A' w') : Below W.heap.size W w' :=
  ⟨h.os, h.tape, h.output.1, h.size, fun k hk => h.kept k hk (rw_world W k)⟩
theorem lets_world {W : World} (h : Lib.TabIs Tryd.prog W "cayley/word.letters" .u8 (letters.map fun c => (c.toNat : Int))) : Lets (AH.ofWorld W) := by
  unfold Lib.TabIs World.var? at h
  rw [gTab] at h
  simp only [Option.bind_some] at h
  split at h
  · rename_i cs e fr hb
    refine ⟨false, cs.size, ?_⟩
    have : cs.toList = byteCells letters := by
      have := congrArg (Option.map Array.toList) h
      simp only [Option.map_some, Option.some.injEq] at this
      rw [this]
      simp [byteCells]
    simp only [AH.ofWorld, hb, this]
  · cases h
theorem str_data (s : ByteArray) : Value.string s = str s.data.toList := by
  show Value.string s = Value.string ⟨s.data.toList.toArray⟩
  rw [Array.toArray_toList]
/-- A presentation that came in. -/
theorem open_pres {b0 : Nat} {H : Type} {enc : TypeId × Value → H} {W : World} {v : Value} {d : DataW H} {ps : List MemPlace} (hval : Value.okWide Tryd.prog W .any b0 24 v) (hd : DataW.Trod enc Tryd.prog W 0 (fun _ => true) true 24 v d ps) :
    ∃ (g : Int) (u : Value) (l : List (List UInt8)), v = .agg #[.int .i64 g, u] ∧ l.length ≤ maxLen ∧ Slc (AH.ofWorld W) 1 u (strs l) := by
  obtain ⟨cs, rfl, hsz⟩ := okWide_struct Tryd.underlying24 hval
  rw [cells24] at hsz
  obtain ⟨a, b, rfl⟩ : ∃ a b, cs = #[a, b] := by
    rcases cs with ⟨l⟩
    match l, hsz with
    | [a, b], _ => exact ⟨a, b, rfl⟩
  obtain ⟨fuel, hf⟩ := hd
  obtain ⟨y0, y1, n, _, _, h0, h1⟩ := trod_struct2 Tryd.underlying24 hf
  obtain ⟨g, hg, _⟩ := DataW.trod_int Tryd.underlying3 h0
  have e0 : a = .int .i64 g := by
    have : (List.take (Tryd.prog.cellsOf 3) (List.drop 0 [a, b])) = [.int .i64 g] := hg
    rw [cells3] at this; simpa using this
  have hs := open_strings Tryd.underlying22 Tryd.underlying9 cells9 h1
  have e1 : ∀ x : Value, List.take (Tryd.prog.cellsOf 22) (List.drop 1 [a, b]) = [x] → b = x := fun x q => by
    rw [cells22] at q; simpa using q
  subst e0
  rcases hs with ⟨hb, _⟩ | ⟨p, len, cap, ss, hb, _, hl, hm, hlen, _, hcell, _⟩
  · have := e1 _ hb
    subst this
    exact ⟨g, _, [], rfl, Nat.zero_le _, none, 0, 0, rfl, rfl, Nat.le_refl _, .inl rfl⟩
  · have := e1 _ hb
    subst this
    simp only [if_true] at hlen
    refine ⟨g, _, (ss.take len).map (·.data.toList), rfl, by simp; omega, some p, len, cap, rfl, by rw [strs_length]; simp; omega, hl, ?_⟩
    by_cases hz : len = 0
    · exact .inl hz
    · right
      obtain ⟨blk, off, spot⟩ := p
      have hspot : spot = none := by simpa [Addr.add] using World.cell?_spot (hcell 0 (by omega))
      subst hspot
      have hc : ∀ i, i < ss.length → ∃ cs e fr, W.heap[blk]? = some (.cells cs e fr) ∧ cs[off + i]? = some (.string (ss.getD i ByteArray.empty)) := fun i hi => by
        have := hcell i hi
        rw [add_plain] at this
        simp only [World.cell?] at this
        split at this
        · rename_i cs e fr hb
          exact ⟨cs, e, fr, hb, by simpa using this⟩
        · cases this
      obtain ⟨cs, e, fr, hb, _⟩ := hc 0 (by omega)
      refine ⟨blk, off, false, cs.toList, cs.size, rfl, by simp [AH.ofWorld, hb], ?_⟩
      rw [Nat.mul_one]
      apply List.ext_getElem?
      intro i
      by_cases hi : i < len
      · obtain ⟨cs', e', fr', hb', h2⟩ := hc i (by omega)
        rw [hb] at hb'; cases hb'
        rw [List.getElem?_take_of_lt hi, List.getElem?_drop, Array.getElem?_toList, h2]
        have hi2 : i < ss.length := by omega
        simp only [V.strs, List.map_map, List.getElem?_map, List.getElem?_take_of_lt hi, List.getElem?_eq_getElem hi2, Option.map_some, Function.comp]
        rw [← str_data]
        simp [hi2]
      · rw [List.getElem?_eq_none (by simp; omega), List.getElem?_eq_none (by simp [V.strs]; omega)]
/-- A walk's end, as the statement wants it: true, and below the old heap's size nothing has turned. -/
theorem calls_true {k : FuncId} {args : List Value} {W : World} (h : RetA Tryd.prog k args.toArray (AH.ofWorld W) fun v A1 => v = .bool true ∧ (AH.ofWorld W).le A1 ∧ A1.wf) :
    Calls Tryd.prog k args.toArray W fun e w' => e = .returned (.bool true) ∧ Below W.heap.size W w' := by
  refine (h.2 W (view_world W)).mono ?_
  rintro e w' ⟨A', _, hs, v, rfl, rfl, _⟩
  exact ⟨rfl, below_world hs⟩
end Go.Proofs.YtaccklloepfemaaDoor


namespace Go.Proofs.YtaccklloepfemaaDoor
set_option linter.unusedVariables false
set_option linter.unusedSimpArgs false
open Go Go.ChangeShapes Go.WideShapes Go.ChangeAt Go.RowKit V
set_option maxRecDepth 100000

theorem group_contract (H : Type) (enc : TypeId × Value → H) (W : World) (base : Nat) (args : Array Value) (ds gs : List (DataW H)) (before : List MemPlace)
    (hval : ∀ (j : Nat) t v, Tryd.f3.params[j]? = some t → args[j]? = some v → Value.okWide Tryd.prog W .any base t v)
    (hW : DataW.Whole enc Tryd.prog Tryd.f3.params.toList Rows.dehnGroupSpec.vars false W args.toList ds gs before) (hL : laidMetH Tryd.prog Rows.dehnGroupRow.laid W) :
    Calls Tryd.prog 3 args W fun e W' => ∃ v, e = .returned v ∧ Rows.dehnGroupSpec.post enc Tryd.prog Tryd.f3 false true false false W args v W' := by
  have hW' := hW
  obtain ⟨p, q, hA0, hV, rfl, hfz, hnd⟩ := hW
  have hA : DataW.TrodAll enc Tryd.prog W 0 (fun _ => true) true Tryd.f3.params.toList args.toList ds p := hA0
  rw [Tryd.params3] at hA hval
  obtain ⟨v0, v1, v2, v3, d0, d1, d2, d3, p0, p1, p2, p3, rfl, rfl, rfl, h0, h1, h2, h3⟩ := trodAll_four hA
  obtain ⟨rfl, rfl⟩ := trodVars_none hV
  clear hA0
  simp only [List.append_nil] at hW'
  have hk0 := h0
  obtain ⟨g0, u0, l0, rfl, hl0, hs0⟩ := open_pres (hval 0 24 v0 rfl rfl) h0
  unfold maxLen at hl0
  have hk1 := h1
  obtain ⟨s1, rfl, _, _, hz1⟩ := Go.ChangeMaps.open_string Tryd.underlying9 (hval 1 9 v1 rfl rfl) h1
  have hk2 := h2
  obtain ⟨s2, rfl, _, _, hz2⟩ := Go.ChangeMaps.open_string Tryd.underlying9 (hval 2 9 v2 rfl rfl) h2
  have hk3 := h3
  obtain ⟨s3, rfl, _, _, hz3⟩ := Go.ChangeMaps.open_string Tryd.underlying9 (hval 3 9 v3 rfl rfl) h3
  have hlt : ∀ x ∈ p0 ++ p1 ++ p2 ++ p3, x.block < W.heap.size := fun x hx => by simpa using hW'.lt x (by simpa using hx)
  have walk := calls_true (k := 3) (args := [.agg #[.int .i64 g0, u0], .string s1, .string s2, .string s3]) (by
    rw [str_data s1, str_data s2, str_data s3]
    exact s_DehnGroup g0 u0 l0 s1.data.toList s2.data.toList s3.data.toList (AH.ofWorld W) (by omega) (lets_world (table hL)) hs0)
  refine walk.mono ?_
  rintro e W' ⟨rfl, bel⟩
  refine ⟨_, rfl, _, _, _, [], p0 ++ p1 ++ p2 ++ p3, [], (by simpa using hW'), ?_, ?_, ?_, bel.frame _, fun h => by cases h⟩
  · exact trodAll_cons_mk (shut_bool Tryd.underlying4 _) trodAll_mk0
  · have mk := trodAll_mk4 (Below.trod laidOut (by kernel_rfl) (of_decide_eq_true (by kernel_rfl)) hk0 bel (fun x hx => hlt x (by simp [hx]))) (Below.trod laidOut (by kernel_rfl) (of_decide_eq_true (by kernel_rfl)) hk1 bel (fun x hx => hlt x (by simp [hx]))) (Below.trod laidOut (by kernel_rfl) (of_decide_eq_true (by kernel_rfl)) hk2 bel (fun x hx => hlt x (by simp [hx]))) (Below.trod laidOut (by kernel_rfl) (of_decide_eq_true (by kernel_rfl)) hk3 bel (fun x hx => hlt x (by simp [hx])))
    first | exact mk | (simp only [List.append_assoc]; exact mk)
  · rfl

/-- A world for the witness: the table holds what its initialiser lays. -/
noncomputable def laidWorld (os : Os) : World :=
  { World.holding Tryd.prog os ⟨#[], #[], []⟩ with heap := (World.holding Tryd.prog os ⟨#[], #[], []⟩).heap.modify 0 fun
      | .cells _ t frozen => .cells (byteCells letters).toArray t frozen
      | o => o }
theorem group_met (os : Os) : laidMet Tryd.prog Rows.dehnGroupRow.laid ((laidWorld os).forCall (fun _ _ => 0) ⟨#[], #[.agg #[.int .i64 0, .slice none 0 0], .string ⟨#[]⟩, .string ⟨#[]⟩, .string ⟨#[]⟩], []⟩).memory :=
  laidMet_of_run' 20 (by kernel_rfl) (by kernel_rfl)
theorem group_reads (os : Os) {H : Type} (enc : TypeId × Value → H) : ∃ places, DataW.whole enc Tryd.prog ((laidWorld os).forCall (fun _ _ => 0) ⟨#[], #[.agg #[.int .i64 0, .slice none 0 0], .string ⟨#[]⟩, .string ⟨#[]⟩, .string ⟨#[]⟩], []⟩).memory Tryd.f3.params.toList Rows.dehnGroupSpec.vars false #[.agg #[.int .i64 0, .slice none 0 0], .string ⟨#[]⟩, .string ⟨#[]⟩, .string ⟨#[]⟩].toList 20 = some ([.agg [.lit (.int .i64 0), .nil], .lit (.string []), .lit (.string []), .lit (.string [])], [], places) :=
  ⟨[], by kernel_rfl⟩
theorem group_lifted (os : Os) (started : os.Started) (H : Type) (enc : TypeId × Value → H) (F : Stop.Interp) :
    ReturnsInHanded {} Tryd.checked os 3 .any ((OpenSpec.ofChange Rows.dehnGroupSpec).preRow enc Tryd.prog Tryd.f3 Rows.dehnGroupRow.domain false Rows.dehnGroupRow.laid) (((OpenSpec.ofChange Rows.dehnGroupSpec).at F).post enc Tryd.prog Tryd.f3 false true false false) := by
  obtain ⟨places, hx⟩ := group_reads os enc
  refine returnsInHanded_of_row (C := Tryd.checked) (s := OpenSpec.ofChange Rows.dehnGroupSpec) own started (by kernel_rfl) Tryd.func3
    (witness_row_at (enc := enc) (C := Tryd.checked) false (laidWorld os) #[.agg #[.int .i64 0, .slice none 0 0], .string ⟨#[]⟩, .string ⟨#[]⟩, .string ⟨#[]⟩] rfl (by kernel_rfl) (by kernel_rfl) (by kernel_rfl)
      (OpenSpec.preRow_of_cond 20 hx (by kernel_rfl) (fun k hk => by cases hk) (by kernel_rfl) (group_met os))) ?_
  intro W base args ds gs before hval hW _ _ _ hL _ _
  exact group_contract H enc W base args ds gs before hval hW hL
theorem group_said : Rows.DehnGroupSaid :=
  OpenClaim.holds_of_cond 3 Tryd.f3 rfl rfl rfl rfl rfl rfl rfl ⟨rfl, rfl, rfl, rfl, rfl⟩ rfl rfl rfl rfl rfl (by kernel_rfl) Tryd.func3 (by kernel_rfl)
    (of_decide_eq_true (by kernel_rfl)) (by unfold Func.isWrapper; first | (rw [if_pos (by decide +kernel)]; kernel_rfl) | (rw [if_neg (by decide +kernel)]; exact ⟨rfl, rfl⟩))
    (fun os started H enc _ F => by rw [OpenClaim.pre_eq_preRow]; exact group_lifted os started H enc F)
theorem group_plain (f : FuncId) (fn : Func) (hf : Tryd.pinned.checked.prog.funcNamed "cayley/cayleylaw23.DehnGroup" = some f) (hfn : Tryd.pinned.checked.prog.funcs[f]? = some fn) :
    false = Tryd.pinned.checked.prog.looks [] ∧ ∀ (j : Nat) t, fn.params[j]? = some t → Tryd.pinned.checked.prog.wantsStandIn t = false := by
  obtain rfl : f = 3 := Option.some.inj ((show Tryd.prog.funcNamed "cayley/cayleylaw23.DehnGroup" = some 3 by kernel_rfl).symm.trans hf) |>.symm
  obtain rfl : fn = Tryd.f3 := (Option.some.inj (Tryd.func3.symm.trans hfn)).symm
  refine ⟨by kernel_rfl, fun j t ht => ?_⟩
  rw [Tryd.params3] at ht
  have : t = 24 ∨ t = 9 := by simpa using Array.mem_of_getElem? ht
  rcases this with rfl | rfl
  · exact (show Tryd.prog.wantsStandIn 24 = false by kernel_rfl)
  · exact (show Tryd.prog.wantsStandIn 9 = false by kernel_rfl)

/-- The card. -/
theorem group_card : Rows.DehnGroupCardSaid :=
  Claim7.holds_tied_plain_at .later [] _ _ _ _ group_said (fun _ h => by cases h) (by kernel_rfl) (fun _ h => by cases h) dehnGroup_row_tie rfl ⟨rfl, rfl⟩ (by kernel_rfl) rfl group_plain (by kernel_rfl)
end Go.Proofs.YtaccklloepfemaaDoor
