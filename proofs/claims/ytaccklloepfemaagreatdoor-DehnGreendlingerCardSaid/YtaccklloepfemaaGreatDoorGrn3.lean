/- A part of the proof: what the last text needs of the library, the laws and the walks. -/
import Derived.Test.YtaccklloepfemaaGreatDoorGrn2
import Derived.Shelf.SlSortCmp.WholeK
import Derived.Shelf.SlSortCmp.NoneTotal
import Derived.Shelf.Sort.Plain
import Derived.Shelf.Slices.In.SortNone
namespace Go.Proofs.YtaccklloepfemaaGreatDoor
open Go Go.RowKit V
set_option maxRecDepth 100000
set_option linter.unusedVariables false
set_option linter.unusedSimpArgs false
theorem ag34 : aggOf Tryz.prog 34 = some false := by kernel_rfl
theorem ag79 : aggOf Tryz.prog 79 = some true := by kernel_rfl
theorem fl79_0 : fldOf Tryz.prog 79 0 = some (9, 0) := by kernel_rfl
theorem fl79_1 : fldOf Tryz.prog 79 1 = some (3, 1) := by kernel_rfl
theorem fl79_2 : fldOf Tryz.prog 79 2 = some (4, 2) := by kernel_rfl
theorem sz34 : szOf Tryz.prog 34 = some 1 := by kernel_rfl
theorem sz79 : szOf Tryz.prog 79 = some 3 := by kernel_rfl
theorem u34 : type_of% @Tryz.underlying34 := @Tryz.underlying34
theorem u71 : type_of% @Tryz.underlying71 := @Tryz.underlying71
theorem z34 : zeroOf Tryz.prog 34 = some (.slice none 0 0) := by kernel_rfl
theorem z79 : zeroOf Tryz.prog 79 = some (.agg #[.string ⟨⟨[]⟩⟩, .int .i64 0, .bool false]) := by kernel_rfl

theorem s_inv4 (c : UInt8) (A : AH) (hc : 0 ≤ ix c) : RetA Tryz.prog 99 #[byt (c)] A (fun v A1 => v = byt (c ^^^ 32) ∧ A = A1) := by
 refine enterA (e := [(0, byt (c))]) (args := [byt (c)]) Tryz.call99 Tryz.func99 rfl Tryz.results99 Tryz.ntmps99 rfl rfl rfl (fun wf => ?_)
 have le_ := AH.le.refl A
 refine Run.seq fun K1 h2 => .region <| .q rfl (qassign rfl) <| .nil <| h2 _ _ <| .seq fun K3 h4 => .seq fun K5 h6 => .region <| .q rfl (qmove rfl) <| .q rfl (qgeqB (d := 97) rfl rfl) ?_
 refine Ops.nil <| h6 _ _ <| .if rfl (fun p7 => ?_) (fun p7 => ?_)
 ·
  refine Run.seq fun K8 h9 => .region <| .q rfl (qmove rfl) <| .q rfl (qsubB (d := 97) rfl rfl) <| .q rfl (qaddB (d := 65) rfl rfl) <| .q rfl (qassign rfl) <| .nil <| h9 _ _ <| .ret ?_
  repeat first | with_reducible refine thenQ_ret ?_ | with_reducible refine blockQ_ret ?_
  exact retQ rfl (⟨by first | (rw [← (inv4 c hc).1 ‹_›]; rfl) | (rw [← (inv4 c hc).2 ‹_›]; rfl), rfl⟩)
 ·
  refine Run.skip <| h4 _ _ <| .seq fun K10 h11 => .region <| .q rfl (qmove rfl) <| .q rfl (qsubB (d := 65) rfl rfl) <| .q rfl (qaddB (d := 97) rfl rfl) <| .q rfl (qassign rfl) <| .nil <| h11 _ _ ?_
  refine Run.ret ?_
  repeat first | with_reducible refine thenQ_ret ?_ | with_reducible refine blockQ_ret ?_
  exact retQ rfl (⟨by first | (rw [← (inv4 c hc).1 ‹_›]; rfl) | (rw [← (inv4 c hc).2 ‹_›]; rfl), rfl⟩)

theorem s_reduced4 (u : Value) (o w : List UInt8) (A0 A : AH) (le_ : A0.le A) (wf0 : A0.wf) (hu : Fresh A0 A u 1 (byteCells o)) (hw : okl w) (hwl : w.length ≤ 1000000) (hol : o.length ≤ 100000000000) : RetA Tryz.prog 74 #[u, str (w)] A (fun v A1 => A0.le A1 ∧ A1.wf ∧ Fresh A0 A1 v 1 (byteCells (w.foldl push o))) := by
 refine enterA (e := [(0, u), (1, str (w))]) (args := [u, str (w)]) Tryz.call74 Tryz.func74 rfl Tryz.results74 Tryz.ntmps74 rfl rfl rfl (fun wf => ?_)
 refine Run.seq fun K1 h2 => .region <| .q rfl (qassign rfl) <| .nil <| h2 _ _ <| .seq fun K3 h4 => .seq fun K5 h6 => .region <| .q rfl (qassign rfl) <| .nil ?_
 refine h6 _ _ <| .block <| .loop (X := Nat × List UInt8 × Value) (fun ⟨i, x, s⟩ => [(0, s), (1, str (w)), (5, num ((i : Nat) : Int))]) (fun ⟨i, x, s⟩ B => (i ≤ w.length ∧ (w.drop i).foldl push x = w.foldl push o ∧ x.length ≤ o.length + i) ∧ A0.le B ∧ Fresh A0 B s 1 (byteCells x)) (fun ⟨i, x, s⟩ => w.length - i) (⟨0, o, u⟩) (EnvLe.cons rfl <| EnvLe.cons rfl <| EnvLe.cons rfl <| EnvLe.nil _) (⟨⟨Nat.zero_le _, rfl, Nat.le_refl _⟩, le_, hu⟩) ?_
 rintro ⟨i, x, s⟩ B8 ⟨⟨hi, ha3, ha4⟩, le7, fr_s7⟩
 refine Run.wf fun wf9 => .seq fun K10 h11 => .seq fun K12 h13 => .region <| .q rfl (qmove rfl) <| .q rfl (qmove rfl) <| .q rfl (qslen u9 rfl) <| .q rfl (qlssN rfl rfl) <| .nil <| h13 _ _ ?_
 refine Run.if rfl (fun p14 => ?_) (fun p14 => ?_)
 ·
  refine Run.skip <| h11 _ _ <| .seq fun K15 h16 => .block <| .seq fun K17 h18 => .region <| .q rfl (qmove rfl) <| .q rfl (qlenS (n := x.length) u80 rfl fr_s7.slc (by omega) (bytes_len _)) <| .q rfl (qassign rfl) <| .nil ?_
  refine h18 _ _ <| .join (fun f A1 => EnvLe [(28, .bool (decide (0 < x.length ∧ x.getD (x.length - 1) 0 = w.getD i 0 ^^^ 32))), (0, s), (1, str (w)), (5, num ((i : Nat) : Int)), (7, num ((i : Nat) : Int)), (8, str (w)), (9, num ((w.length : Nat) : Int)), (10, .bool (decide (i < w.length))), (13, s), (14, num ((x.length : Nat) : Int)), (6, num ((x.length : Nat) : Int))] f.e ∧ f.ds = [] ∧ B8 = A1) ?_ ?_
  ·
   refine Run.drawn [0, 1, 2, 3, 4, 5, 6, 7, 8, 9, 10, 11, 12, 13] mixed (by kernel_rfl) (by kernel_rfl) rfl <| .q rfl rfl rfl (qmove rfl) <| .q rfl rfl rfl (qgtrN (b := 0) rfl rfl) <| .q rfl rfl rfl (qmove rfl) <| .part (t := 17) rfl (fun p21 => ?_) (fun p21 => ?_)
   ·
    refine DOps.qOn rfl rfl rfl rfl rfl (qmove rfl) <| .qOn rfl rfl rfl rfl rfl (qmove rfl) <| .qOn rfl rfl rfl rfl rfl (qsubN (b := 1) rfl rfl (by omega)) ?_
    obtain ⟨b22, f22, rw22, r22, rc22, n22, k22, e22, l22, g22, cl22, cs22⟩ := Slc.at (i := x.length - 1) fr_s7.slc (by simp only [bytes_length]; omega) (by omega)
    refine DOps.qOn rfl rfl rfl rfl rfl (qindexS u80 sz5 rfl e22 rfl l22) ?_
    have hc23 := cellOf (off := f22 + (x.length - 1) * 1) g22 ((elt0 cs22).trans (bytes_get (by omega)))
    refine DOps.qOn rfl rfl rfl rfl rfl (qloadAt ag5 rfl rfl g22 ((elt0 cs22).trans (bytes_get (by omega)))) <| .qOn rfl rfl rfl rfl rfl (qmove rfl) <| .qOn rfl rfl rfl rfl rfl (qmove rfl) <| .qOn rfl rfl rfl rfl rfl (qsix u9 rfl rfl (by omega)) <| .lOn rfl rfl rfl rfl rfl (fun _ _ hk24 _ => vcallF rfl (s_inv4 (w.getD i 0) B8 (okl_get hw (by omega))) ?_)
    rintro v25 A26 ⟨rfl, rfl⟩
    refine hk24 _ _ (HeldNow.list (L := [(⟨b22, f22 + (x.length - 1) * 1, none⟩, byt (x.getD (x.length - 1) 0))]) (by kernel_rfl) (heldCons hc23 heldNil)) <| .qOn rfl rfl rfl rfl rfl (qeqlB rfl rfl) <| .q rfl rfl rfl (qpickT rfl rfl) <| .done ?_
    exact ⟨EnvLe.cons (show some _ = some _ from congrArg (fun b => some (Value.bool b)) (show (decide ((x.getD (x.length - 1) 0) = ((w.getD i 0) ^^^ 32))) = decide (0 < x.length ∧ x.getD (x.length - 1) 0 = w.getD i 0 ^^^ 32) from (by first | rfl | simp only [‹0 < _›, true_and] | simp only [‹¬ 0 < _›, false_and, decide_false]))) <| EnvLe.cons rfl <| EnvLe.cons rfl <| EnvLe.cons rfl <| EnvLe.cons rfl <| EnvLe.cons rfl <| EnvLe.cons rfl <| EnvLe.cons rfl <| EnvLe.cons rfl <| EnvLe.cons rfl <| EnvLe.cons rfl <| EnvLe.nil _, rfl, rfl⟩
   ·
    refine DOps.qOff rfl rfl rfl rfl rfl rfl <| .qOff rfl rfl rfl rfl rfl rfl <| .qOff rfl rfl rfl rfl rfl rfl <| .qOff rfl rfl rfl rfl rfl rfl <| .qOff rfl rfl rfl rfl rfl rfl <| .qOff rfl rfl rfl rfl rfl rfl <| .qOff rfl rfl rfl rfl rfl rfl <| .qOff rfl rfl rfl rfl rfl rfl <| .lOff rfl rfl rfl rfl rfl rfl <| .qOff rfl rfl rfl rfl rfl rfl ?_
    refine DOps.q rfl rfl rfl (qpickF rfl rfl) <| .done ?_
    exact ⟨EnvLe.cons (show some _ = some _ from congrArg (fun b => some (Value.bool b)) (show (false) = decide (0 < x.length ∧ x.getD (x.length - 1) 0 = w.getD i 0 ^^^ 32) from (by first | rfl | simp only [‹0 < _›, true_and] | simp only [‹¬ 0 < _›, false_and, decide_false]))) <| EnvLe.cons rfl <| EnvLe.cons rfl <| EnvLe.cons rfl <| EnvLe.cons rfl <| EnvLe.cons rfl <| EnvLe.cons rfl <| EnvLe.cons rfl <| EnvLe.cons rfl <| EnvLe.cons rfl <| EnvLe.cons rfl <| EnvLe.nil _, rfl, rfl⟩
  ·
   rintro ⟨fe, fd⟩ _ ⟨hE, rfl, rfl⟩
   refine Run.forget hE <| .if rfl (fun p28 => ?_) (fun p28 => ?_)
   ·
    refine Run.region <| .q rfl (qmove rfl) <| .q rfl (qmove rfl) <| .q rfl (qsubN (b := 1) rfl rfl (by omega)) ?_
    obtain ⟨b29, n29, c29, q29, m29, d29⟩ := fr_s7.nonnil (by intro q; have := congrArg List.length q; simp only [bytes_length, List.length_nil] at this; omega)
    subst q29
    rw [bytes_length, Nat.mul_one] at m29
    have fr30 := fr_s7.take (k := x.length - 1) (by omega)
    rw [Nat.mul_one, bytes_take] at fr30
    refine Ops.q rfl (qsliceHi u80 sz5 rfl rfl (by omega)) <| .q rfl (qassign rfl) <| .nil <| h16 _ _ <| .region <| .q rfl (qmove rfl) <| .q rfl (qaddN (b := 1) rfl rfl (by omega)) <| .q rfl (qassign rfl) <| .nil ?_
    exact ⟨⟨i + 1, x.take (x.length - 1), .slice (some ⟨b29, 0, none⟩) (x.length - 1) c29⟩, EnvLe.cons rfl <| EnvLe.cons rfl <| EnvLe.cons rfl <| EnvLe.nil _, rfl, ⟨⟨by omega, by first | exact push_go (by assumption) ha3 ‹_› | exact push_no (by assumption) ha3 ‹_›, by simp only [List.length_append, List.length_take, List.length_cons, List.length_nil]; omega⟩, le7, fr30⟩, (by (try dsimp only); omega)⟩
   ·
    refine Run.region <| .q rfl (qmove rfl) <| .q rfl (qmove rfl) <| .q rfl (qmove rfl) <| .q rfl (qsix u9 rfl rfl (by omega)) <| .l rfl (fun _ _ hk31 _ => wbuildSlice (c := [byt (w.getD i 0)]) wf9 rfl (buildSliceV_of u80 sz5 z5 rfl (by decide) (by decide) rfl) fun A33 b32 nb34 => ?_)
    have fr36 := fr_s7.le nb34.le
    have le37 := le7.trans nb34.le
    refine hk31 _ _ <| .l rfl (fun _ _ hk38 _ => wappend (ys := [byt (w.getD i 0)]) rfl rfl u80 sz5 inf5 z5 rfl (by decide) u80 (fun _ h => by cases h) fr36.own (listOf_row (n := 1) nb34.get rfl) rfl rfl (by show (_ + _) * 1 ≤ _; simp only [bytes_length, List.length_cons, List.length_nil]; (try simp only [List.length_append, List.length_cons, List.length_nil]); omega) (by simp only [bytes_length, List.length_cons, List.length_nil]; (try simp only [List.length_append, List.length_cons, List.length_nil]); omega) fun A39 v40 ap41 => ?_)
    rw [show ([byt (w.getD i 0)] : List Value) = byteCells [w.getD i 0] from rfl, bytes_append] at ap41
    obtain ⟨fr44, le45⟩ := Fresh.grow fr36 le37 wf0 ap41
    refine hk38 _ _ <| .q rfl (qassign rfl) <| .nil <| h16 _ _ <| .region <| .q rfl (qmove rfl) <| .q rfl (qaddN (b := 1) rfl rfl (by omega)) <| .q rfl (qassign rfl) <| .nil ?_
    exact ⟨⟨i + 1, x ++ [w.getD i 0], v40⟩, EnvLe.cons rfl <| EnvLe.cons rfl <| EnvLe.cons rfl <| EnvLe.nil _, rfl, ⟨⟨by omega, by first | exact push_go (by assumption) ha3 ‹_› | exact push_no (by assumption) ha3 ‹_›, by simp only [List.length_append, List.length_take, List.length_cons, List.length_nil]; omega⟩, le45, fr44⟩, (by (try dsimp only); omega)⟩
 ·
  refine Run.exit <| h4 _ _ <| .seq fun K46 h47 => .region <| .q rfl (qmove rfl) <| .q rfl (qassign rfl) <| .nil <| h47 _ _ <| .ret ?_
  repeat first | with_reducible refine thenQ_ret ?_ | with_reducible refine blockQ_ret ?_
  exact retQ rfl (⟨le7, wf9, fresh_eq fr_s7 (congrArg byteCells (by rw [drop_end (by omega)] at ha3; exact ha3))⟩)

theorem s_Reduce4 (w : List UInt8) (A : AH) (hw : okl w) (hwl : w.length ≤ 1000000) : RetA Tryz.prog 43 #[str (w)] A (fun v A1 => v = str (red w) ∧ A.le A1 ∧ A1.wf) := by
 refine enterA (e := [(0, str (w))]) (args := [str (w)]) Tryz.call43 Tryz.func43 rfl Tryz.results43 Tryz.ntmps43 rfl rfl rfl (fun wf => ?_)
 have le_ := AH.le.refl A
 refine Run.seq fun K1 h2 => .region <| .q rfl (qassign rfl) <| .nil <| h2 _ _ <| .seq fun K3 h4 => .region <| .l rfl (fun _ _ hk5 _ => wbuildSlice (c := []) wf rfl (buildSliceV_of u80 sz5 z5 rfl (by decide) (by decide) rfl) fun A7 b6 nb8 => ?_)
 have ge_b6 := none_of wf (Nat.le_trans le_.n nb8.lo)
 have le9 := le_.trans nb8.le
 refine hk5 _ _ <| .q rfl (qmove rfl) ?_
 have fr11 : Fresh A A7 (.slice (some ⟨b6, 0, none⟩) 0 0) 1 (byteCells []) := Fresh.lit nb8.get ge_b6 rfl (by decide)
 have le16 := le_hide (bs := [blk (.slice (some ⟨b6, 0, none⟩) 0 0)]) le9 (hoV fr11.lo ho0)
 refine Ops.l rfl (fun _ _ hk10 _ => vcallF rfl (s_reduced4 (.slice (some ⟨b6, 0, none⟩) 0 0) ([]) w (A7.hide [blk (.slice (some ⟨b6, 0, none⟩) 0 0)]) A7 (hide_le A7 [blk (.slice (some ⟨b6, 0, none⟩) 0 0)]) (hide_wf nb8.wf) (fr11.hide (by simp)) hw hwl (by simp)) ?_)
 rintro v13 A14 ⟨leq15, wfq15, foq15_0⟩
 have fr17 := foq15_0.base le16
 have le18 := le16.trans leq15
 refine hk10 _ _ <| .l rfl (fun _ _ hk19 _ => wtoString (s := w.foldl push ([])) rfl u80 u9 u5 fr17.slc ?_)
 refine hk19 _ _ <| .q rfl (qassign rfl) <| .nil <| h4 _ _ <| .ret ?_
 repeat first | with_reducible refine thenQ_ret ?_ | with_reducible refine blockQ_ret ?_
 exact retQ rfl (⟨rfl, le18, wfq15⟩)

theorem s_Invert4 (w : List UInt8) (A : AH) (hw : okl w) (hwl : w.length ≤ 1000000) : RetA Tryz.prog 76 #[str (w)] A (fun v A1 => v = str (inv w) ∧ A.le A1 ∧ A1.wf) := by
 refine enterA (e := [(0, str (w))]) (args := [str (w)]) Tryz.call76 Tryz.func76 rfl Tryz.results76 Tryz.ntmps76 rfl rfl rfl (fun wf => ?_)
 have le_ := AH.le.refl A
 refine Run.seq fun K1 h2 => .region <| .q rfl (qassign rfl) <| .nil <| h2 _ _ <| .seq fun K3 h4 => .region <| .l rfl (fun _ _ hk5 _ => wbuildSlice (c := []) wf rfl (buildSliceV_of u80 sz5 z5 rfl (by decide) (by decide) rfl) fun A7 b6 nb8 => ?_)
 have ge_b6 := none_of wf (Nat.le_trans le_.n nb8.lo)
 have le9 := le_.trans nb8.le
 refine hk5 _ _ <| .q rfl (qassign rfl) <| .nil <| h4 _ _ <| .seq fun K10 h11 => .seq fun K12 h13 => .region <| .q rfl (qmove rfl) <| .q rfl (qslen u9 rfl) <| .q rfl (qsub rfl rfl (by omega)) ?_
 refine Ops.q rfl (qassign rfl) <| .nil <| h13 _ _ <| .block ?_
 have fr14 : Fresh A A7 (.slice (some ⟨b6, 0, none⟩) 0 0) 1 (byteCells []) := Fresh.lit nb8.get ge_b6 rfl (by decide)
 refine Run.loop (X := Nat × List UInt8 × Value) (fun ⟨j, o, s⟩ => [(0, str (w)), (3, s), (4, num ((j : Int) - 1))]) (fun ⟨j, o, s⟩ B => (j ≤ w.length ∧ o = ((w.drop j).map (· ^^^ 32)).reverse) ∧ A.le B ∧ Fresh A B s 1 (byteCells o)) (fun ⟨j, o, s⟩ => j) (⟨w.length, [], .slice (some ⟨b6, 0, none⟩) 0 0⟩) (EnvLe.cons rfl <| EnvLe.cons rfl <| EnvLe.cons (congrArg (fun z : Int => some (num z)) (by omega)) <| EnvLe.nil _) (⟨⟨Nat.le_refl _, by simp⟩, le9, fr14⟩) ?_
 rintro ⟨j, o, s⟩ B17 ⟨⟨hj, ho⟩, le16, fr_s16⟩
 refine Run.wf fun wf18 => ?_
 have hlo : o.length = w.length - j := by rw [ho]; simp
 have htn : ((j : Int) - 1).toNat = j - 1 := by omega
 refine Run.seq fun K19 h20 => .seq fun K21 h22 => .region <| .q rfl (qmove rfl) <| .q rfl (qgeq rfl rfl) <| .nil <| h22 _ _ <| .if rfl (fun p23 => ?_) (fun p23 => ?_)
 ·
  refine Run.skip <| h20 _ _ <| .seq fun K24 h25 => .block <| .region <| .q rfl (qmove rfl) <| .q rfl (qmove rfl) <| .q rfl (qmove rfl) <| .q rfl (qsix u9 rfl (natI (by omega)) (by omega)) <| .l rfl (fun _ _ hk26 _ => vcallF rfl (s_inv4 (w.getD ((j : Int) - 1).toNat 0) B17 (okl_get hw (by omega))) ?_)
  rintro v27 A28 ⟨rfl, rfl⟩
  refine hk26 _ _ <| .l rfl (fun _ _ hk30 _ => wbuildSlice (c := [byt ((w.getD ((j : Int) - 1).toNat 0) ^^^ 32)]) wf18 rfl (buildSliceV_of u80 sz5 z5 rfl (by decide) (by decide) rfl) fun A32 b31 nb33 => ?_)
  have fr35 := fr_s16.le nb33.le
  have le36 := le16.trans nb33.le
  refine hk30 _ _ <| .l rfl (fun _ _ hk37 _ => wappend (ys := [byt ((w.getD ((j : Int) - 1).toNat 0) ^^^ 32)]) rfl rfl u80 sz5 inf5 z5 rfl (by decide) u80 (fun _ h => by cases h) fr35.own (listOf_row (n := 1) nb33.get rfl) rfl rfl (by show (_ + _) * 1 ≤ _; simp only [bytes_length, List.length_cons, List.length_nil]; (try simp only [List.length_append, List.length_cons, List.length_nil]); omega) (by simp only [bytes_length, List.length_cons, List.length_nil]; (try simp only [List.length_append, List.length_cons, List.length_nil]); omega) fun A38 v39 ap40 => ?_)
  rw [show ([byt ((w.getD ((j : Int) - 1).toNat 0) ^^^ 32)] : List Value) = byteCells [(w.getD ((j : Int) - 1).toNat 0) ^^^ 32] from rfl, bytes_append] at ap40
  obtain ⟨fr43, le44⟩ := Fresh.grow fr35 le36 wf ap40
  refine hk37 _ _ <| .q rfl (qassign rfl) <| .nil <| h25 _ _ <| .region <| .q rfl (qmove rfl) <| .q rfl (qsub rfl rfl (by omega)) <| .q rfl (qassign rfl) <| .nil ?_
  exact ⟨⟨j - 1, o ++ [(w.getD ((j : Int) - 1).toNat 0) ^^^ 32], v39⟩, EnvLe.cons rfl <| EnvLe.cons rfl <| EnvLe.cons (congrArg (fun z : Int => some (num z)) (by omega)) <| EnvLe.nil _, rfl, ⟨⟨by omega, by rw [ho, htn]; exact inv_step (by omega) hj⟩, le44, fr43⟩, (by (try dsimp only); omega)⟩
 ·
  refine Run.exit <| h11 _ _ <| .seq fun K45 h46 => .region <| .q rfl (qmove rfl) <| .l rfl (fun _ _ hk47 _ => wtoString (s := o) rfl u80 u9 u5 fr_s16.slc ?_)
  refine hk47 _ _ <| .q rfl (qassign rfl) <| .nil <| h46 _ _ <| .ret ?_
  repeat first | with_reducible refine thenQ_ret ?_ | with_reducible refine blockQ_ret ?_
  exact retQ rfl (⟨by rw [ho, show j = 0 by omega]; rfl, le16, wf18⟩)

theorem s_relator (g : Int) (u : Value) (l : List (List UInt8)) (rel : Int) (iv : Bool) (A : AH) (hr : 0 ≤ rel ∧ rel < (l.length : Int)) (hok : okl (l.getD rel.toNat []) ∧ (l.getD rel.toNat []).length ≤ 200) (hu : Slc A 1 u (strs l)) : RetA Tryz.prog 75 #[.agg #[num (g), u], num (rel), .bool (iv)] A (fun v A1 => v = str (if iv then inv (l.getD rel.toNat []) else l.getD rel.toNat []) ∧ A.le A1 ∧ A1.wf) := by
 refine enterA (e := [(0, .agg #[num (g), u]), (1, num (rel)), (2, .bool (iv))]) (args := [.agg #[num (g), u], num (rel), .bool (iv)]) Tryz.call75 Tryz.func75 rfl Tryz.results75 Tryz.ntmps75 rfl rfl rfl (fun wf => ?_)
 have le_ := AH.le.refl A
 obtain ⟨r, rfl⟩ : ∃ r : Nat, rel = r := ⟨rel.toNat, by omega⟩
 rw [Int.toNat_natCast] at hok
 refine Run.seq fun K1 h2 => .region <| .l rfl (fun _ _ hk3 _ => wbox wf rfl rfl fun A5 b4 nb6 => ?_)
 have le7 := le_.trans nb6.le
 refine hk3 _ _ <| .q rfl (qassign rfl) <| .nil <| h2 _ _ <| .seq fun K8 h9 => .seq fun K10 h11 => .region <| .q rfl (qmove rfl) <| .nil <| h11 _ _ ?_
 refine Run.ifB rfl (fun p12 => ?_) (fun p12 => ?_)
 ·
  refine Run.seq fun K13 h14 => .region <| .q rfl (qfieldAddr fl24_1 sz22 (by decide) rfl) <| .q rfl (qloadAt ag22 rfl rfl nb6.get rfl) <| .q rfl (qmove rfl) ?_
  obtain ⟨b15, f15, rw15, r15, rc15, n15, k15, e15, l15, g15, cl15, cs15⟩ := Slc.at (i := r) (hu.le le7) (by simp only [strs_length]; omega) (by omega)
  refine Ops.q rfl (qindexS u22 sz9 rfl e15 rfl l15) <| .q rfl (qloadAt ag9 rfl rfl g15 ((elt0 cs15).trans (strs_get (by omega)))) <| .l rfl (fun _ _ hk16 _ => vcallF rfl (s_Invert4 (l.getD r []) A5 hok.1 (by have := hok.2; omega)) ?_)
  rintro v17 A18 ⟨rfl, leq19, wfq19⟩
  have le21 := le7.trans leq19
  refine hk16 _ _ <| .q rfl (qassign rfl) <| .nil <| h14 _ _ <| .ret ?_
  repeat first | with_reducible refine thenQ_ret ?_ | with_reducible refine blockQ_ret ?_
  exact retQ rfl (⟨by first | (rw [show iv = true from ‹_›]; rfl) | (rw [show iv = false from ‹_›]; rfl), le21, wfq19⟩)
 ·
  refine Run.skip <| h9 _ _ <| .seq fun K22 h23 => .region <| .q rfl (qfieldAddr fl24_1 sz22 (by decide) rfl) <| .q rfl (qloadAt ag22 rfl rfl nb6.get rfl) <| .q rfl (qmove rfl) ?_
  obtain ⟨b24, f24, rw24, r24, rc24, n24, k24, e24, l24, g24, cl24, cs24⟩ := Slc.at (i := r) (hu.le le7) (by simp only [strs_length]; omega) (by omega)
  refine Ops.q rfl (qindexS u22 sz9 rfl e24 rfl l24) <| .q rfl (qloadAt ag9 rfl rfl g24 ((elt0 cs24).trans (strs_get (by omega)))) <| .q rfl (qassign rfl) <| .nil <| h23 _ _ <| .ret ?_
  repeat first | with_reducible refine thenQ_ret ?_ | with_reducible refine blockQ_ret ?_
  exact retQ rfl (⟨by first | (rw [show iv = true from ‹_›]; rfl) | (rw [show iv = false from ‹_›]; rfl), le7, nb6.wf⟩)

theorem s_Bounds (g : Int) (u : Value) (l : List (List UInt8)) (dv : Value) (d : List DCell) (A : AH) (hp : pcheck g l = 0) (hd : isDisk g l d = true) (hu : Slc A 1 u (strs l)) (hv : Slc A 3 dv (dcells d)) : RetA Tryz.prog 42 #[.agg #[num (g), u], dv] A (fun v A1 => v = str (bnds l d) ∧ A.le A1 ∧ A1.wf) := by
 refine enterA (e := [(0, .agg #[num (g), u]), (1, dv)]) (args := [.agg #[num (g), u], dv]) Tryz.call42 Tryz.func42 rfl Tryz.results42 Tryz.ntmps42 rfl rfl rfl (fun wf => ?_)
 have le_ := AH.le.refl A
 have hdl := (isDisk_len hd).1
 refine Run.seq fun K1 h2 => .region <| .l rfl (fun _ _ hk3 _ => wbox wf rfl rfl fun A5 b4 nb6 => ?_)
 have le7 := le_.trans nb6.le
 refine hk3 _ _ <| .q rfl (qassign rfl) <| .nil <| h2 _ _ <| .seq fun K8 h9 => .region <| .l rfl (fun _ _ hk10 _ => wbuildSlice (c := []) nb6.wf rfl (buildSliceV_of u80 sz5 z5 rfl (by decide) (by decide) rfl) fun A12 b11 nb13 => ?_)
 have ne_b4_b11 := ne_new nb6.wf nb6.get nb13.lo
 have ge_b11 := none_of wf (Nat.le_trans le7.n nb13.lo)
 have h14 := nb13.le.get _ _ nb6.get
 have le15 := le7.trans nb13.le
 refine hk10 _ _ <| .q rfl (qassign rfl) <| .nil <| h9 _ _ <| .seq fun K16 h17 => .seq fun K18 h19 => .region <| .q rfl (qmove rfl) <| .q rfl (qlenS (n := d.length) u34 rfl (hv.le le15) (by omega) (dcells_len _)) <| .q rfl (qmove rfl) ?_
 refine Ops.nil <| h19 _ _ <| .block ?_
 have fr20 : Fresh A A12 (.slice (some ⟨b11, 0, none⟩) 0 0) 1 (byteCells []) := Fresh.lit nb13.get ge_b11 rfl (by decide)
 refine Run.loop (X := Nat × List UInt8 × Value) (fun ⟨k, o, s⟩ => [(2, .pointer (some ⟨b4, 0, none⟩)), (5, s), (9, dv), (10, num ((d.length : Nat) : Int)), (11, num ((k : Nat) : Int))]) (fun ⟨k, o, s⟩ B => (k ≤ d.length ∧ (d.drop k).foldl (bndFold l) o = bnds l d ∧ o.length ≤ 200200 * k) ∧ A.le B ∧ Fresh A B s 1 (byteCells o) ∧ B.get b4 = some (.row true [num (g), u] 2) ∧ V.blk s ≠ some b4) (fun ⟨k, o, s⟩ => d.length - k) (⟨0, [], .slice (some ⟨b11, 0, none⟩) 0 0⟩) (EnvLe.cons rfl <| EnvLe.cons rfl <| EnvLe.cons rfl <| EnvLe.cons rfl <| EnvLe.cons rfl <| EnvLe.nil _) (⟨⟨Nat.zero_le _, rfl, Nat.zero_le _⟩, le15, (fresh_eq fr20 (congrArg byteCells ((by first | rfl | exact bnd_step)))), h14, (fun q => by cases q; exact ne_b4_b11 rfl)⟩) ?_
 rintro ⟨k, o, s⟩ B23 ⟨⟨hk, hf, ho⟩, le22, fr_s22, hr_b422, no_s_b422⟩
 refine Run.wf fun wf24 => ?_
 have hz := fun q : k < d.length => isDisk_cell hd _ (getD_mem (d := .zero) q)
 have hzl := fun q : k < d.length => wcheck_len (hz q).2
 have hzo := fun q : k < d.length => okl_wcheck (fun r => r (hz q).2)
 have hre := fun q : k < d.length => rel_ok hp (hz q).1
 have hb1 := foldl_push_length (d.getD k .zero).conj o
 have hb2 := foldl_push_length (if (d.getD k .zero).inv then inv (l.getD (d.getD k .zero).rel.toNat []) else l.getD (d.getD k .zero).rel.toNat []) ((d.getD k .zero).conj.foldl push o)
 have hrl : k < d.length → (if (d.getD k .zero).inv then inv (l.getD (d.getD k .zero).rel.toNat []) else l.getD (d.getD k .zero).rel.toNat []).length ≤ 200 := fun q => by have := (hre q).2; split <;> first | (rw [inv_length]; exact this) | exact this
 have hro : k < d.length → okl (if (d.getD k .zero).inv then inv (l.getD (d.getD k .zero).rel.toNat []) else l.getD (d.getD k .zero).rel.toNat []) := fun q => by have := (hre q).1; split <;> first | exact okl_inv this | exact this
 refine Run.seq fun K25 h26 => .region <| .q rfl (qlssN rfl rfl) <| .nil <| h26 _ _ <| .seq fun K27 h28 => .if rfl (fun p29 => ?_) (fun p29 => ?_)
 ·
  refine Run.skip <| h28 _ _ <| .seq fun K30 h31 => .block <| .seq fun K32 h33 => .region ?_
  obtain ⟨b34, f34, rw34, r34, rc34, n34, k34, e34, l34, g34, cl34, cs34⟩ := Slc.at (i := k) (hv.le le22) (by simp only [dcells_length]; omega) (by omega)
  refine Ops.q rfl (qindexS u34 sz79 rfl e34 rfl l34) <| .q rfl (qloadAggAt ag79 sz79 rfl rfl g34 (cl34.trans (congrArg some (dcells_at (by omega))))) <| .l rfl (fun _ _ hk35 _ => walloc wf24 z79 rfl fun A37 b36 nb38 => ?_)
  have ne_b4_b36 := ne_new wf24 hr_b422 nb38.lo
  have no39 := fr_s22.own.ne_new wf24 nb38.lo
  have ge_b36 := none_of wf (Nat.le_trans le22.n nb38.lo)
  have h40 := nb38.le.get _ _ hr_b422
  have fr41 := fr_s22.le nb38.le
  have le42 := le22.trans nb38.le
  refine hk35 _ _ <| .l rfl (fun _ _ hk43 _ => wstore (cs := [str ((d.getD k .zero).conj), num ((d.getD k .zero).rel), .bool ((d.getD k .zero).inv)]) (c' := [str ((d.getD k .zero).conj), num ((d.getD k .zero).rel), .bool ((d.getD k .zero).inv)]) nb38.wf rfl rfl rfl rfl sz79 nb38.get (Nat.le_of_ble_eq_true rfl) rfl rfl fun A44 sb45 => ?_)
  have h46 := sb45.keep _ _ ne_b4_b36 h40
  have fr47 := fr41.keep sb45.keep no39
  have le48 := le_store le42 wf ge_b36 sb45.n sb45.keep
  refine hk43 _ _ <| .nil <| h33 _ _ <| .seq fun K49 h50 => .region <| .q rfl (qmove rfl) <| .q rfl (qfieldAddr fl79_0 sz9 (by decide) rfl) <| .q rfl (qloadAt ag9 rfl rfl sb45.get rfl) ?_
  have le55 := le_hide (bs := [blk s]) le48 (hoV fr47.lo ho0)
  refine Ops.l rfl (fun _ _ hk51 _ => vcallF rfl (s_reduced4 s o ((d.getD k .zero).conj) (A44.hide [blk s]) A44 (hide_le A44 [blk s]) (hide_wf sb45.wf) (fr47.hide (by simp)) (hzo (by omega)) (by have := hzl (by omega); have := hrl (by omega); (try rw [inv_length]); omega) (by have := hzl (by omega); have := hrl (by omega); omega)) ?_)
  rintro v52 A53 ⟨leq54, wfq54, foq54_0⟩
  have hg56 := hide_get (bs := [blk s]) h46 (nmV no_s_b422 nm0)
  have h57 := leq54.get _ _ hg56
  have hg58 := hide_get (bs := [blk s]) sb45.get (nmV no39 nm0)
  have h59 := leq54.get _ _ hg58
  have fr60 := foq54_0.base le55
  have no61 := foq54_0.seph hg56
  have no62 := foq54_0.seph hg58
  have le63 := le55.trans leq54
  refine hk51 _ _ <| .q rfl (qassign rfl) <| .nil <| h50 _ _ <| .seq fun K64 h65 => .region <| .q rfl (qmove rfl) <| .q rfl (qloadAggAt ag24 sz24 rfl rfl h57 rfl) <| .q rfl (qfieldAddr fl79_1 sz3 (by decide) rfl) <| .q rfl (qloadAt ag3 rfl rfl h59 rfl) ?_
  refine Ops.q rfl (qfieldAddr fl79_2 sz4 (by decide) rfl) <| .q rfl (qloadAt ag4 rfl rfl h59 rfl) <| .l rfl (fun _ _ hk66 _ => vcallF rfl (s_relator ((g)) u l (((d.getD k .zero).rel)) ((d.getD k .zero).inv) A53 (hz (by omega)).1 (hre (by omega)) (hu.le le63)) ?_)
  rintro v67 A68 ⟨rfl, leq69, wfq69⟩
  have h70 := leq69.get _ _ h57
  have h71 := leq69.get _ _ h59
  have fr72 := fr60.le leq69
  have le73 := le63.trans leq69
  refine hk66 _ _ ?_
  have le78 := le_hide (bs := [blk v52]) le73 (hoV fr72.lo ho0)
  refine Ops.l rfl (fun _ _ hk74 _ => vcallF rfl (s_reduced4 v52 (((d.getD k .zero).conj).foldl push o) (if (d.getD k .zero).inv then inv (l.getD (((d.getD k .zero).rel)).toNat []) else l.getD (((d.getD k .zero).rel)).toNat []) (A68.hide [blk v52]) A68 (hide_le A68 [blk v52]) (hide_wf wfq69) (fr72.hide (by simp)) (hro (by omega)) (by have := hzl (by omega); have := hrl (by omega); (try rw [inv_length]); omega) (by have := hzl (by omega); have := hrl (by omega); omega)) ?_)
  rintro v75 A76 ⟨leq77, wfq77, foq77_0⟩
  have hg79 := hide_get (bs := [blk v52]) h70 (nmV no61 nm0)
  have h80 := leq77.get _ _ hg79
  have hg81 := hide_get (bs := [blk v52]) h71 (nmV no62 nm0)
  have h82 := leq77.get _ _ hg81
  have fr83 := foq77_0.base le78
  have no84 := foq77_0.seph hg79
  have le86 := le78.trans leq77
  refine hk74 _ _ <| .q rfl (qassign rfl) <| .nil <| h65 _ _ <| .region <| .q rfl (qmove rfl) <| .q rfl (qfieldAddr fl79_0 sz9 (by decide) rfl) <| .q rfl (qloadAt ag9 rfl rfl h82 rfl) <| .l rfl (fun _ _ hk87 _ => vcallF rfl (s_Invert4 ((d.getD k .zero).conj) A76 (hzo (by omega)) (by have := hzl (by omega); omega)) ?_)
  rintro v88 A89 ⟨rfl, leq90, wfq90⟩
  have h91 := leq90.get _ _ h80
  have fr93 := fr83.le leq90
  have le94 := le86.trans leq90
  refine hk87 _ _ ?_
  have le99 := le_hide (bs := [blk v75]) le94 (hoV fr93.lo ho0)
  refine Ops.l rfl (fun _ _ hk95 _ => vcallF rfl (s_reduced4 v75 ((if (d.getD k .zero).inv then inv (l.getD (((d.getD k .zero).rel)).toNat []) else l.getD (((d.getD k .zero).rel)).toNat []).foldl push (((d.getD k .zero).conj).foldl push o)) (inv ((d.getD k .zero).conj)) (A89.hide [blk v75]) A89 (hide_le A89 [blk v75]) (hide_wf wfq90) (fr93.hide (by simp)) (okl_inv (hzo (by omega))) (by have := hzl (by omega); have := hrl (by omega); (try rw [inv_length]); omega) (by have := hzl (by omega); have := hrl (by omega); omega)) ?_)
  rintro v96 A97 ⟨leq98, wfq98, foq98_0⟩
  have hg100 := hide_get (bs := [blk v75]) h91 (nmV no84 nm0)
  have h101 := leq98.get _ _ hg100
  have fr104 := foq98_0.base le99
  have no105 := foq98_0.seph hg100
  have le107 := le99.trans leq98
  refine hk95 _ _ <| .q rfl (qassign rfl) <| .nil <| h31 _ _ <| .region <| .q rfl (qaddN (b := 1) rfl rfl (by omega)) <| .q rfl (qmove rfl) <| .nil ?_
  exact ⟨⟨k + 1, bndFold l o (d.getD k .zero), v96⟩, EnvLe.cons rfl <| EnvLe.cons rfl <| EnvLe.cons rfl <| EnvLe.cons rfl <| EnvLe.cons rfl <| EnvLe.nil _, rfl, ⟨⟨by omega, fold_step (d := .zero) (by omega) hf rfl, by have := bnd_len (l := l) (o := o) (hzl (by omega)) (hre (by omega)).2; omega⟩, le107, (fresh_eq fr104 (congrArg byteCells ((by first | rfl | exact bnd_step)))), h101, no105⟩, (by (try dsimp only); omega)⟩
 ·
  refine Run.exit <| h17 _ _ <| .seq fun K108 h109 => .region <| .q rfl (qmove rfl) <| .l rfl (fun _ _ hk110 _ => wtoString (s := o) rfl u80 u9 u5 fr_s22.slc ?_)
  refine hk110 _ _ <| .q rfl (qassign rfl) <| .nil <| h109 _ _ <| .ret ?_
  repeat first | with_reducible refine thenQ_ret ?_ | with_reducible refine blockQ_ret ?_
  exact retQ rfl (⟨by rw [dropL_end (by omega)] at hf; rw [← hf]; rfl, le22, wf24⟩)

theorem s_IsPres (g : Int) (u : Value) (l : List (List UInt8)) (A : AH) (hn : l.length ≤ 100000000) (hll : ∀ x ∈ l, x.length ≤ 100000000) (hu : Slc A 1 u (strs l)) : RetA Tryz.prog 72 #[.agg #[num (g), u]] A (fun v A1 => v = .bool (decide (pcheck g l = 0)) ∧ A.le A1 ∧ A1.wf) := by
 refine enterA (e := [(0, .agg #[num (g), u])]) (args := [.agg #[num (g), u]]) Tryz.call72 Tryz.func72 rfl Tryz.results72 Tryz.ntmps72 rfl rfl rfl (fun wf => ?_)
 have le_ := AH.le.refl A
 refine Run.seq fun K1 h2 => .region <| .l rfl (fun _ _ hk3 _ => wbox wf rfl rfl fun A5 b4 nb6 => ?_)
 have le7 := le_.trans nb6.le
 refine hk3 _ _ <| .q rfl (qassign rfl) <| .nil <| h2 _ _ <| .seq fun K8 h9 => .seq fun K10 h11 => .region <| .q rfl (qfieldAddr fl24_0 sz3 (by decide) rfl) <| .q rfl (qloadAt ag3 rfl rfl nb6.get rfl) <| .q rfl (qlss rfl rfl) ?_
 refine Ops.q rfl (qmove rfl) <| .part (t := 8) rfl (fun p12 => ?_) (fun p12 => ?_)
 ·
  refine Ops.off rfl rfl rfl rfl <| .off rfl rfl rfl rfl <| .off rfl rfl rfl rfl <| .q rfl (qpickT rfl rfl) <| .q rfl (qmove rfl) <| .off rfl rfl rfl rfl <| .off rfl rfl rfl rfl <| .off rfl rfl rfl rfl <| .off rfl rfl rfl rfl <| .q rfl (qpickT rfl rfl) ?_
  refine Ops.nil <| h11 _ _ <| .cond_true rfl <| .seq fun K13 h14 => .region <| .q rfl (qassign rfl) <| .nil <| h14 _ _ <| .ret ?_
  repeat first | with_reducible refine thenQ_ret ?_ | with_reducible refine blockQ_ret ?_
  exact retQ rfl (⟨by rw [decide_eq_false (by first | (exact fun q => by have := (pcheck_zero q).1; omega) | (exact fun q => by have := (pcheck_zero q).2.1; omega) | exact pcheck_ne (i := k) (by omega) (.inl (by omega)) | exact pcheck_ne (i := k) (by omega) (.inr (by first | exact badRel_len (by omega) | exact badRel_2 ‹_› | exact badRel_4 ‹_›)))]; rfl, le7, nb6.wf⟩)
 ·
  refine Ops.on rfl rfl <| .q rfl (qfieldAddr fl24_0 sz3 (by decide) rfl) <| .on rfl rfl <| .q rfl (qloadAt ag3 rfl rfl nb6.get rfl) <| .on rfl rfl <| .q rfl (qgtr rfl rfl) <| .q rfl (qpickF rfl rfl) <| .q rfl (qmove rfl) <| .part (t := 13) rfl (fun p15 => ?_) (fun p15 => ?_)
  ·
   refine Ops.off rfl rfl rfl rfl <| .off rfl rfl rfl rfl <| .off rfl rfl rfl rfl <| .off rfl rfl rfl rfl <| .q rfl (qpickT rfl rfl) <| .nil <| h11 _ _ <| .cond_true rfl <| .seq fun K16 h17 => .region ?_
   refine Ops.q rfl (qassign rfl) <| .nil <| h17 _ _ <| .ret ?_
   repeat first | with_reducible refine thenQ_ret ?_ | with_reducible refine blockQ_ret ?_
   exact retQ rfl (⟨by rw [decide_eq_false (by first | (exact fun q => by have := (pcheck_zero q).1; omega) | (exact fun q => by have := (pcheck_zero q).2.1; omega) | exact pcheck_ne (i := k) (by omega) (.inl (by omega)) | exact pcheck_ne (i := k) (by omega) (.inr (by first | exact badRel_len (by omega) | exact badRel_2 ‹_› | exact badRel_4 ‹_›)))]; rfl, le7, nb6.wf⟩)
  ·
   refine Ops.on rfl rfl <| .q rfl (qfieldAddr fl24_1 sz22 (by decide) rfl) <| .on rfl rfl <| .q rfl (qloadAt ag22 rfl rfl nb6.get rfl) <| .on rfl rfl <| .q rfl (qlenS (n := l.length) u22 rfl (hu.le le7) (by omega) (strs_len _)) <| .on rfl rfl <| .q rfl (qgtrN (b := 60) rfl rfl) <| .q rfl (qpickF rfl rfl) <| .nil ?_
   refine h11 _ _ <| .if rfl (fun p18 => ?_) (fun p18 => ?_)
   ·
    refine Run.seq fun K19 h20 => .region <| .q rfl (qassign rfl) <| .nil <| h20 _ _ <| .ret ?_
    repeat first | with_reducible refine thenQ_ret ?_ | with_reducible refine blockQ_ret ?_
    exact retQ rfl (⟨by rw [decide_eq_false (by first | (exact fun q => by have := (pcheck_zero q).1; omega) | (exact fun q => by have := (pcheck_zero q).2.1; omega) | exact pcheck_ne (i := k) (by omega) (.inl (by omega)) | exact pcheck_ne (i := k) (by omega) (.inr (by first | exact badRel_len (by omega) | exact badRel_2 ‹_› | exact badRel_4 ‹_›)))]; rfl, le7, nb6.wf⟩)
   ·
    refine Run.skip <| h9 _ _ <| .seq fun K21 h22 => .seq fun K23 h24 => .region <| .q rfl (qfieldAddr fl24_1 sz22 (by decide) rfl) <| .q rfl (qloadAt ag22 rfl rfl nb6.get rfl) <| .q rfl (qlenS (n := l.length) u22 rfl (hu.le le7) (by omega) (strs_len _)) <| .q rfl (qmove rfl) <| .nil ?_
    refine h24 _ _ <| .block <| .loop (X := Nat) (fun k => [(1, .pointer (some ⟨b4, 0, none⟩)), (20, u), (21, num ((l.length : Nat) : Int)), (22, num ((k : Nat) : Int))]) (fun k B => (k ≤ l.length ∧ ∀ j, j < k → (l.getD j []).length ≤ 200 ∧ badRel g (l.getD j []) = false) ∧ A.le B ∧ B.get b4 = some (.row true [num (g), u] 2)) (fun k => l.length - k) 0 (EnvLe.cons rfl <| EnvLe.cons rfl <| EnvLe.cons rfl <| EnvLe.cons rfl <| EnvLe.nil _) (⟨⟨Nat.zero_le _, fun j h => by omega⟩, le7, nb6.get⟩) ?_
    rintro k B26 ⟨⟨hk, hb⟩, le25, hr_b425⟩
    refine Run.wf fun wf27 => ?_
    have hlk : k < l.length → (l.getD k []).length ≤ 100000000 := fun q => hll _ (getD_mem q)
    refine Run.seq fun K28 h29 => .region <| .q rfl (qlssN rfl rfl) <| .nil <| h29 _ _ <| .seq fun K30 h31 => .if rfl (fun p32 => ?_) (fun p32 => ?_)
    ·
     refine Run.skip <| h31 _ _ <| .seq fun K33 h34 => .block <| .seq fun K35 h36 => .region ?_
     obtain ⟨b37, f37, rw37, r37, rc37, n37, k37, e37, l37, g37, cl37, cs37⟩ := Slc.at (i := k) (hu.le le25) (by simp only [strs_length]; omega) (by omega)
     refine Ops.q rfl (qindexS u22 sz9 rfl e37 rfl l37) <| .q rfl (qloadAt ag9 rfl rfl g37 ((elt0 cs37).trans (strs_get (by omega)))) <| .q rfl (qassign rfl) <| .nil <| h36 _ _ <| .seq fun K38 h39 => .region <| .q rfl (qmove rfl) <| .q rfl (qslen u9 rfl) <| .q rfl (qlssN (b := 1) rfl rfl) ?_
     refine Ops.q rfl (qmove rfl) <| .part (t := 29) rfl (fun p40 => ?_) (fun p40 => ?_)
     ·
      refine Ops.off rfl rfl rfl rfl <| .off rfl rfl rfl rfl <| .off rfl rfl rfl rfl <| .q rfl (qpickT rfl rfl) <| .q rfl (qmove rfl) <| .off rfl rfl rfl rfl <| .off rfl rfl rfl rfl <| .off rfl rfl rfl rfl <| .off rfl rfl rfl rfl <| .off rfl rfl rfl rfl ?_
      refine Ops.q rfl (qpickT rfl rfl) <| .q rfl (qmove rfl) <| .off rfl rfl rfl rfl <| .off rfl rfl rfl rfl <| .off rfl rfl rfl rfl <| .off rfl rfl rfl rfl <| .q rfl (qpickT rfl rfl) <| .nil <| h39 _ _ <| .cond_true rfl ?_
      refine Run.seq fun K41 h42 => .region <| .q rfl (qassign rfl) <| .nil <| h42 _ _ <| .ret ?_
      repeat first | with_reducible refine thenQ_ret ?_ | with_reducible refine blockQ_ret ?_
      exact retQ rfl (⟨by rw [decide_eq_false (by first | (exact fun q => by have := (pcheck_zero q).1; omega) | (exact fun q => by have := (pcheck_zero q).2.1; omega) | exact pcheck_ne (i := k) (by omega) (.inl (by omega)) | exact pcheck_ne (i := k) (by omega) (.inr (by first | exact badRel_len (by omega) | exact badRel_2 ‹_› | exact badRel_4 ‹_›)))]; rfl, le25, wf27⟩)
     ·
      refine Ops.on rfl rfl <| .q rfl (qmove rfl) <| .on rfl rfl <| .q rfl (qslen u9 rfl) <| .on rfl rfl <| .q rfl (qgtrN (b := 200) rfl rfl) <| .q rfl (qpickF rfl rfl) <| .q rfl (qmove rfl) <| .part (t := 34) rfl (fun p43 => ?_) (fun p43 => ?_)
      ·
       refine Ops.off rfl rfl rfl rfl <| .off rfl rfl rfl rfl <| .off rfl rfl rfl rfl <| .off rfl rfl rfl rfl <| .off rfl rfl rfl rfl <| .q rfl (qpickT rfl rfl) <| .q rfl (qmove rfl) <| .off rfl rfl rfl rfl <| .off rfl rfl rfl rfl <| .off rfl rfl rfl rfl ?_
       refine Ops.off rfl rfl rfl rfl <| .q rfl (qpickT rfl rfl) <| .nil <| h39 _ _ <| .cond_true rfl <| .seq fun K44 h45 => .region <| .q rfl (qassign rfl) <| .nil <| h45 _ _ ?_
       refine Run.ret ?_
       repeat first | with_reducible refine thenQ_ret ?_ | with_reducible refine blockQ_ret ?_
       exact retQ rfl (⟨by rw [decide_eq_false (by first | (exact fun q => by have := (pcheck_zero q).1; omega) | (exact fun q => by have := (pcheck_zero q).2.1; omega) | exact pcheck_ne (i := k) (by omega) (.inl (by omega)) | exact pcheck_ne (i := k) (by omega) (.inr (by first | exact badRel_len (by omega) | exact badRel_2 ‹_› | exact badRel_4 ‹_›)))]; rfl, le25, wf27⟩)
      ·
       refine Ops.on rfl rfl <| .q rfl (qmove rfl) <| .on rfl rfl <| .q rfl (qfieldAddr fl24_0 sz3 (by decide) rfl) <| .on rfl rfl <| .q rfl (qloadAt ag3 rfl rfl hr_b425 rfl) <| .on rfl rfl <| .l rfl (fun _ _ hk46 _ => vcallF rfl (s_R4IsWord (l.getD k []) ((g)) B26 (by have := hlk (by omega); omega) (by omega)) ?_)
       rintro v47 A48 ⟨rfl, rfl⟩
       refine hk46 _ _ <| .on rfl rfl <| .q rfl (qnotP rfl) <| .q rfl (qpickF rfl rfl) <| .q rfl (qmove rfl) <| .part (t := 41) rfl (fun p50 => ?_) (fun p50 => ?_)
       ·
        refine Ops.off rfl rfl rfl rfl <| .off rfl rfl rfl rfl <| .off rfl rfl rfl rfl <| .off rfl rfl rfl rfl <| .q rfl (qpickT rfl rfl) <| .nil <| h39 _ _ <| .cond_true rfl <| .seq fun K51 h52 => .region ?_
        refine Ops.q rfl (qassign rfl) <| .nil <| h52 _ _ <| .ret ?_
        repeat first | with_reducible refine thenQ_ret ?_ | with_reducible refine blockQ_ret ?_
        exact retQ rfl (⟨by rw [decide_eq_false (by first | (exact fun q => by have := (pcheck_zero q).1; omega) | (exact fun q => by have := (pcheck_zero q).2.1; omega) | exact pcheck_ne (i := k) (by omega) (.inl (by omega)) | exact pcheck_ne (i := k) (by omega) (.inr (by first | exact badRel_len (by omega) | exact badRel_2 ‹_› | exact badRel_4 ‹_›)))]; rfl, le25, wf27⟩)
       ·
        refine Ops.on rfl rfl <| .q rfl (qmove rfl) <| .on rfl rfl <| .l rfl (fun _ _ hk53 _ => vcallF rfl (s_Reduce4 (l.getD k []) B26 (okl_wcheck ‹_›) (by omega)) ?_)
        rintro v54 A55 ⟨rfl, leq56, wfq56⟩
        have h57 := leq56.get _ _ hr_b425
        have le58 := le25.trans leq56
        refine hk53 _ _ <| .on rfl rfl <| .q rfl (qmove rfl) <| .on rfl rfl <| .q rfl (qsneq rfl rfl) <| .q rfl (qpickF rfl rfl) <| .nil <| h39 _ _ <| .if rfl (fun p59 => ?_) (fun p59 => ?_)
        ·
         refine Run.seq fun K60 h61 => .region <| .q rfl (qassign rfl) <| .nil <| h61 _ _ <| .ret ?_
         repeat first | with_reducible refine thenQ_ret ?_ | with_reducible refine blockQ_ret ?_
         exact retQ rfl (⟨by rw [decide_eq_false (by first | (exact fun q => by have := (pcheck_zero q).1; omega) | (exact fun q => by have := (pcheck_zero q).2.1; omega) | exact pcheck_ne (i := k) (by omega) (.inl (by omega)) | exact pcheck_ne (i := k) (by omega) (.inr (by first | exact badRel_len (by omega) | exact badRel_2 ‹_› | exact badRel_4 ‹_›)))]; rfl, le58, wfq56⟩)
        ·
         refine Run.skip <| h34 _ _ <| .region <| .q rfl (qaddN (b := 1) rfl rfl (by omega)) <| .q rfl (qmove rfl) <| .nil ?_
         exact ⟨k + 1, EnvLe.cons rfl <| EnvLe.cons rfl <| EnvLe.cons rfl <| EnvLe.cons rfl <| EnvLe.nil _, rfl, ⟨⟨by omega, fun j h => (Nat.lt_succ_iff_lt_or_eq.1 h).elim (hb j) (fun z => by subst z; exact ⟨by omega, badRel_is (by omega) ‹_› ‹_›⟩)⟩, le58, h57⟩, (by (try dsimp only); omega)⟩
    ·
     refine Run.exit <| h22 _ _ <| .seq fun K62 h63 => .region <| .q rfl (qassign rfl) <| .nil <| h63 _ _ <| .ret ?_
     repeat first | with_reducible refine thenQ_ret ?_ | with_reducible refine blockQ_ret ?_
     exact retQ rfl (⟨by rw [decide_eq_true (pcheck_is0 (i := k) (by omega) (by omega) (by omega) hb)]; rfl, le25, wf27⟩)

theorem s_IsDisk (g : Int) (u : Value) (l : List (List UInt8)) (dv : Value) (d : List DCell) (A : AH) (hg : 1 ≤ g ∧ g ≤ 8) (hn : l.length ≤ 100000000) (hdn : d.length ≤ 100000000) (hcl : ∀ c ∈ d, c.conj.length ≤ 9223372036854775807) (hu : Slc A 1 u (strs l)) (hv : Slc A 3 dv (dcells d)) : RetA Tryz.prog 73 #[.agg #[num (g), u], dv] A (fun v A1 => v = .bool (isDisk g l d) ∧ A.le A1 ∧ A1.wf) := by
 refine enterA (e := [(0, .agg #[num (g), u]), (1, dv)]) (args := [.agg #[num (g), u], dv]) Tryz.call73 Tryz.func73 rfl Tryz.results73 Tryz.ntmps73 rfl rfl rfl (fun wf => ?_)
 have le_ := AH.le.refl A
 refine Run.seq fun K1 h2 => .region <| .l rfl (fun _ _ hk3 _ => wbox wf rfl rfl fun A5 b4 nb6 => ?_)
 have le7 := le_.trans nb6.le
 refine hk3 _ _ <| .q rfl (qassign rfl) <| .nil <| h2 _ _ <| .seq fun K8 h9 => .region <| .q rfl (qassign rfl) <| .nil <| h9 _ _ <| .seq fun K10 h11 => ?_
 refine Run.seq fun K12 h13 => .region <| .q rfl (qmove rfl) <| .q rfl (qlenS (n := d.length) u34 rfl (hv.le le7) (by omega) (dcells_len _)) <| .q rfl (qmove rfl) <| .nil <| h13 _ _ <| .block <| .loop (X := Nat × Nat) (fun ⟨k, n⟩ => [(1, dv), (2, .pointer (some ⟨b4, 0, none⟩)), (5, num ((n : Nat) : Int)), (8, dv), (9, num ((d.length : Nat) : Int)), (10, num ((k : Nat) : Int))]) (fun ⟨k, n⟩ B => (k ≤ d.length ∧ n + conjs (d.drop k) = conjs d ∧ n ≤ 100000 * k ∧ ∀ j, j < k → okCell g l (d.getD j .zero) = true) ∧ A.le B ∧ B.get b4 = some (.row true [num (g), u] 2)) (fun ⟨k, n⟩ => d.length - k) (⟨0, 0⟩) (EnvLe.cons rfl <| EnvLe.cons rfl <| EnvLe.cons (by first | rfl | exact congrArg (fun z : Int => some (num z)) (by have := wcheck_len (Decidable.not_not.1 ‹¬ ¬ wcheck g (d.getD k .zero).conj = 0›); exact (i64in (by omega)).trans (by omega))) <| EnvLe.cons rfl <| EnvLe.cons rfl <| EnvLe.cons rfl <| EnvLe.nil _) (⟨⟨Nat.zero_le _, Nat.zero_add _, Nat.zero_le _, fun j h => by omega⟩, le7, nb6.get⟩) ?_
 rintro ⟨k, n⟩ B15 ⟨⟨hk, hc, hnk, hb⟩, le14, hr_b414⟩
 refine Run.wf fun wf16 => ?_
 have hcd := fun q : k < d.length => conjs_drop q
 have hck := fun q : k < d.length => hcl _ (getD_mem (d := .zero) q)
 refine Run.seq fun K17 h18 => .region <| .q rfl (qlssN rfl rfl) <| .nil <| h18 _ _ <| .seq fun K19 h20 => .if rfl (fun p21 => ?_) (fun p21 => ?_)
 ·
  refine Run.skip <| h20 _ _ <| .seq fun K22 h23 => .block <| .seq fun K24 h25 => .region ?_
  obtain ⟨b26, f26, rw26, r26, rc26, n26, k26, e26, l26, g26, cl26, cs26⟩ := Slc.at (i := k) (hv.le le14) (by simp only [dcells_length]; omega) (by omega)
  refine Ops.q rfl (qindexS u34 sz79 rfl e26 rfl l26) <| .q rfl (qloadAggAt ag79 sz79 rfl rfl g26 (cl26.trans (congrArg some (dcells_at (by omega))))) <| .l rfl (fun _ _ hk27 _ => walloc wf16 z79 rfl fun A29 b28 nb30 => ?_)
  have ne_b4_b28 := ne_new wf16 hr_b414 nb30.lo
  have ge_b28 := none_of wf (Nat.le_trans le14.n nb30.lo)
  have h31 := nb30.le.get _ _ hr_b414
  have le32 := le14.trans nb30.le
  refine hk27 _ _ <| .l rfl (fun _ _ hk33 _ => wstore (cs := [str ((d.getD k .zero).conj), num ((d.getD k .zero).rel), .bool ((d.getD k .zero).inv)]) (c' := [str ((d.getD k .zero).conj), num ((d.getD k .zero).rel), .bool ((d.getD k .zero).inv)]) nb30.wf rfl rfl rfl rfl sz79 nb30.get (Nat.le_of_ble_eq_true rfl) rfl rfl fun A34 sb35 => ?_)
  have h36 := sb35.keep _ _ ne_b4_b28 h31
  have le37 := le_store le32 wf ge_b28 sb35.n sb35.keep
  refine hk33 _ _ <| .nil <| h25 _ _ <| .seq fun K38 h39 => .region <| .q rfl (qmove rfl) <| .q rfl (qfieldAddr fl79_0 sz9 (by decide) rfl) <| .q rfl (qloadAt ag9 rfl rfl sb35.get rfl) <| .q rfl (qslen u9 rfl) <| .q rfl (qaddW rfl rfl) ?_
  refine Ops.q rfl (qassign rfl) <| .nil <| h39 _ _ <| .seq fun K40 h41 => .region <| .q rfl (qfieldAddr fl79_1 sz3 (by decide) rfl) <| .q rfl (qloadAt ag3 rfl rfl sb35.get rfl) <| .q rfl (qlss rfl rfl) <| .q rfl (qmove rfl) <| .part (t := 22) rfl (fun p42 => ?_) (fun p42 => ?_)
  ·
   refine Ops.off rfl rfl rfl rfl <| .off rfl rfl rfl rfl <| .off rfl rfl rfl rfl <| .off rfl rfl rfl rfl <| .off rfl rfl rfl rfl <| .off rfl rfl rfl rfl <| .q rfl (qpickT rfl rfl) <| .q rfl (qmove rfl) <| .off rfl rfl rfl rfl <| .off rfl rfl rfl rfl ?_
   refine Ops.off rfl rfl rfl rfl <| .off rfl rfl rfl rfl <| .off rfl rfl rfl rfl <| .off rfl rfl rfl rfl <| .q rfl (qpickT rfl rfl) <| .nil <| h41 _ _ <| .cond_true rfl <| .seq fun K43 h44 => .region ?_
   refine Ops.q rfl (qassign rfl) <| .nil <| h44 _ _ <| .ret ?_
   repeat first | with_reducible refine thenQ_ret ?_ | with_reducible refine blockQ_ret ?_
   exact retQ rfl (⟨by first | (rw [isDisk_bad (i := k) (by omega) (by first | exact okCell_1 ‹_› | exact okCell_2 ‹_› | exact okCell_3 ‹_›)]; rfl) | (rw [isDisk_of (i := k) (n := n) (by omega) hb hc]; simp_all [oneV] <;> omega), le37, sb35.wf⟩)
  ·
   refine Ops.on rfl rfl <| .q rfl (qfieldAddr fl79_1 sz3 (by decide) rfl) <| .on rfl rfl <| .q rfl (qloadAt ag3 rfl rfl sb35.get rfl) <| .on rfl rfl <| .q rfl (qfieldAddr fl24_1 sz22 (by decide) rfl) <| .on rfl rfl <| .q rfl (qloadAt ag22 rfl rfl h36 rfl) <| .on rfl rfl <| .q rfl (qlenS (n := l.length) u22 rfl (hu.le le37) (by omega) (strs_len _)) ?_
   refine Ops.on rfl rfl <| .q rfl (qgeq rfl rfl) <| .q rfl (qpickF rfl rfl) <| .q rfl (qmove rfl) <| .part (t := 30) rfl (fun p45 => ?_) (fun p45 => ?_)
   ·
    refine Ops.off rfl rfl rfl rfl <| .off rfl rfl rfl rfl <| .off rfl rfl rfl rfl <| .off rfl rfl rfl rfl <| .off rfl rfl rfl rfl <| .off rfl rfl rfl rfl <| .q rfl (qpickT rfl rfl) <| .nil <| h41 _ _ <| .cond_true rfl ?_
    refine Run.seq fun K46 h47 => .region <| .q rfl (qassign rfl) <| .nil <| h47 _ _ <| .ret ?_
    repeat first | with_reducible refine thenQ_ret ?_ | with_reducible refine blockQ_ret ?_
    exact retQ rfl (⟨by first | (rw [isDisk_bad (i := k) (by omega) (by first | exact okCell_1 ‹_› | exact okCell_2 ‹_› | exact okCell_3 ‹_›)]; rfl) | (rw [isDisk_of (i := k) (n := n) (by omega) hb hc]; simp_all [oneV] <;> omega), le37, sb35.wf⟩)
   ·
    refine Ops.on rfl rfl <| .q rfl (qfieldAddr fl79_0 sz9 (by decide) rfl) <| .on rfl rfl <| .q rfl (qloadAt ag9 rfl rfl sb35.get rfl) <| .on rfl rfl <| .q rfl (qfieldAddr fl24_0 sz3 (by decide) rfl) <| .on rfl rfl <| .q rfl (qloadAt ag3 rfl rfl h36 rfl) <| .on rfl rfl <| .l rfl (fun _ _ hk48 _ => vcallF rfl (s_R4IsWord ((d.getD k .zero).conj) ((g)) A34 (hck (by omega)) hg) ?_)
    rintro v49 A50 ⟨rfl, rfl⟩
    refine hk48 _ _ <| .on rfl rfl <| .q rfl (qnotP rfl) <| .q rfl (qpickF rfl rfl) <| .nil <| h41 _ _ <| .if rfl (fun p52 => ?_) (fun p52 => ?_)
    ·
     refine Run.seq fun K53 h54 => .region <| .q rfl (qassign rfl) <| .nil <| h54 _ _ <| .ret ?_
     repeat first | with_reducible refine thenQ_ret ?_ | with_reducible refine blockQ_ret ?_
     exact retQ rfl (⟨by first | (rw [isDisk_bad (i := k) (by omega) (by first | exact okCell_1 ‹_› | exact okCell_2 ‹_› | exact okCell_3 ‹_›)]; rfl) | (rw [isDisk_of (i := k) (n := n) (by omega) hb hc]; simp_all [oneV] <;> omega), le37, sb35.wf⟩)
    ·
     refine Run.skip <| h23 _ _ <| .region <| .q rfl (qaddN (b := 1) rfl rfl (by omega)) <| .q rfl (qmove rfl) <| .nil ?_
     exact ⟨⟨k + 1, n + (d.getD k .zero).conj.length⟩, EnvLe.cons rfl <| EnvLe.cons rfl <| EnvLe.cons (by first | rfl | exact congrArg (fun z : Int => some (num z)) (by have := wcheck_len (Decidable.not_not.1 ‹¬ ¬ wcheck g (d.getD k .zero).conj = 0›); exact (i64in (by omega)).trans (by omega))) <| EnvLe.cons rfl <| EnvLe.cons rfl <| EnvLe.cons rfl <| EnvLe.nil _, rfl, ⟨⟨by omega, by have := hcd (by omega); omega, by have := wcheck_len (Decidable.not_not.1 ‹¬ ¬ wcheck g (d.getD k .zero).conj = 0›); omega, fun j h => (Nat.lt_succ_iff_lt_or_eq.1 h).elim (hb j) (fun z => by subst z; exact okCell_is ‹_› ‹_› ‹_›)⟩, le37, h36⟩, (by (try dsimp only); omega)⟩
 ·
  refine Run.exit <| h11 _ _ <| .seq fun K55 h56 => .region <| .q rfl (qmove rfl) <| .q rfl (qlenS (n := d.length) u34 rfl (hv.le le14) (by omega) (dcells_len _)) <| .q rfl (qleqN (b := 100000) rfl rfl) <| .q rfl (qmove rfl) <| .part (t := 42) rfl (fun p57 => ?_) (fun p57 => ?_)
  ·
   refine Ops.on rfl rfl <| .q rfl (qmove rfl) <| .on rfl rfl <| .q rfl (qleqN (b := 1000000) rfl rfl) <| .q rfl (qpickT rfl rfl) <| .q rfl (qassign rfl) <| .nil <| h56 _ _ <| .ret ?_
   repeat first | with_reducible refine thenQ_ret ?_ | with_reducible refine blockQ_ret ?_
   exact retQ rfl (⟨by first | (rw [isDisk_bad (i := k) (by omega) (by first | exact okCell_1 ‹_› | exact okCell_2 ‹_› | exact okCell_3 ‹_›)]; rfl) | (rw [isDisk_of (i := k) (n := n) (by omega) hb hc]; simp_all [oneV] <;> omega), le14, wf16⟩)
  ·
   refine Ops.off rfl rfl rfl rfl <| .off rfl rfl rfl rfl <| .q rfl (qpickF rfl rfl) <| .q rfl (qassign rfl) <| .nil <| h56 _ _ <| .ret ?_
   repeat first | with_reducible refine thenQ_ret ?_ | with_reducible refine blockQ_ret ?_
   exact retQ rfl (⟨by first | (rw [isDisk_bad (i := k) (by omega) (by first | exact okCell_1 ‹_› | exact okCell_2 ‹_› | exact okCell_3 ‹_›)]; rfl) | (rw [isDisk_of (i := k) (n := n) (by omega) hb hc]; simp_all [oneV] <;> omega), le14, wf16⟩)

theorem s_checked4 (g : Int) (u : Value) (l : List (List UInt8)) (wsv : Value) (ws : List (List UInt8)) (dsv dv : Value) (d : List DCell) (A : AH) (hn : l.length ≤ 100000000) (hll : ∀ x ∈ l, x.length ≤ 100000000) (hwn : ws.length ≤ 100000000) (hwl : ∀ x ∈ ws, x.length ≤ 100000000) (hdn : d.length ≤ 100000000) (hcl : ∀ c ∈ d, c.conj.length ≤ 9223372036854775807) (hu : Slc A 1 u (strs l)) (hws : Slc A 1 wsv (strs ws)) (hds : Slc A 1 dsv (vals [dv])) (hv : Slc A 3 dv (dcells d)) : RetA Tryz.prog 41 #[.agg #[num (g), u], wsv, dsv] A (fun v A1 => v = num ((chk g l ws [d] : Nat) : Int) ∧ A.le A1 ∧ A1.wf) := by
 refine enterA (e := [(0, .agg #[num (g), u]), (1, wsv), (2, dsv)]) (args := [.agg #[num (g), u], wsv, dsv]) Tryz.call41 Tryz.func41 rfl Tryz.results41 Tryz.ntmps41 rfl rfl rfl (fun wf => ?_)
 have le_ := AH.le.refl A
 have hdl1 : ([dv] : List Value).length = 1 := rfl
 refine Run.seq fun K1 h2 => .region <| .l rfl (fun _ _ hk3 _ => wbox wf rfl rfl fun A5 b4 nb6 => ?_)
 have le7 := le_.trans nb6.le
 refine hk3 _ _ <| .q rfl (qassign rfl) <| .nil <| h2 _ _ <| .seq fun K8 h9 => .seq fun K10 h11 => .region <| .q rfl (qloadAggAt ag24 sz24 rfl rfl nb6.get rfl) <| .l rfl (fun _ _ hk12 _ => vcallF rfl (s_IsPres ((g)) u l A5 hn hll (hu.le le7)) ?_)
 rintro v13 A14 ⟨rfl, leq15, wfq15⟩
 have h16 := leq15.get _ _ nb6.get
 have le17 := le7.trans leq15
 refine hk12 _ _ <| .q rfl (qnotP rfl) <| .nil <| h11 _ _ <| .if rfl (fun p18 => ?_) (fun p18 => ?_)
 ·
  refine Run.seq fun K19 h20 => .region <| .q rfl (qassign rfl) <| .nil <| h20 _ _ <| .ret ?_
  repeat first | with_reducible refine thenQ_ret ?_ | with_reducible refine blockQ_ret ?_
  exact retQ rfl (⟨by first | (rw [chk_40 ‹_›]; rfl) | (rw [chk_41 (i := i) ‹¬ ¬ pcheck g l = 0› (by omega) ‹_›]; rfl) | (rw [chk_42 (i := i) ‹¬ ¬ pcheck g l = 0› (by omega) hw (by simpa using ‹(!isDisk g l d) = true›)]; rfl) | (rw [chk_0 (i := i) ‹¬ ¬ pcheck g l = 0› (by omega) hw (hd (by omega))]; rfl), le17, wfq15⟩)
 ·
  refine Run.skip <| h9 _ _ <| .seq fun K21 h22 => .seq fun K23 h24 => .region <| .q rfl (qmove rfl) <| .q rfl (qlenS (n := ws.length) u22 rfl (hws.le le17) (by omega) (strs_len _)) <| .q rfl (qmove rfl) <| .nil <| h24 _ _ ?_
  refine Run.block <| .loop (X := Nat) (fun i => [(2, dsv), (3, .pointer (some ⟨b4, 0, none⟩)), (14, wsv), (15, num ((ws.length : Nat) : Int)), (16, num ((i : Nat) : Int))]) (fun i B => (i ≤ ws.length ∧ ∀ j, j < i → wcheck g (ws.getD j []) = 0) ∧ A14 = B) (fun i => ws.length - i) 0 (EnvLe.cons rfl <| EnvLe.cons rfl <| EnvLe.cons rfl <| EnvLe.cons rfl <| EnvLe.cons rfl <| EnvLe.nil _) (⟨⟨Nat.zero_le _, fun j h => by omega⟩, rfl⟩) ?_
  rintro i B26 ⟨⟨hi, hw⟩, rfl⟩
  have hg := (pcheck_zero (Decidable.not_not.1 ‹¬ ¬ pcheck g l = 0›)).1
  have hwk : i < ws.length → (ws.getD i []).length ≤ 100000000 := fun q => hwl _ (getD_mem q)
  refine Run.seq fun K27 h28 => .region <| .q rfl (qlssN rfl rfl) <| .nil <| h28 _ _ <| .seq fun K29 h30 => .if rfl (fun p31 => ?_) (fun p31 => ?_)
  ·
   refine Run.skip <| h30 _ _ <| .seq fun K32 h33 => .block <| .seq fun K34 h35 => .region ?_
   obtain ⟨b36, f36, rw36, r36, rc36, n36, k36, e36, l36, g36, cl36, cs36⟩ := Slc.at (i := i) (hws.le le17) (by simp only [strs_length]; omega) (by omega)
   refine Ops.q rfl (qindexS u22 sz9 rfl e36 rfl l36) <| .q rfl (qloadAt ag9 rfl rfl g36 ((elt0 cs36).trans (strs_get (by omega)))) <| .q rfl (qassign rfl) <| .nil <| h35 _ _ <| .seq fun K37 h38 => .region <| .q rfl (qmove rfl) <| .q rfl (qfieldAddr fl24_0 sz3 (by decide) rfl) <| .q rfl (qloadAt ag3 rfl rfl h16 rfl) ?_
   refine Ops.l rfl (fun _ _ hk39 _ => vcallF rfl (s_R4IsWord (ws.getD i []) ((g)) A14 (by have := hwk (by omega); omega) hg) ?_)
   rintro v40 A41 ⟨rfl, rfl⟩
   refine hk39 _ _ <| .q rfl (qnotP rfl) <| .nil <| h38 _ _ <| .if rfl (fun p43 => ?_) (fun p43 => ?_)
   ·
    refine Run.seq fun K44 h45 => .region <| .q rfl (qassign rfl) <| .nil <| h45 _ _ <| .ret ?_
    repeat first | with_reducible refine thenQ_ret ?_ | with_reducible refine blockQ_ret ?_
    exact retQ rfl (⟨by first | (rw [chk_40 ‹_›]; rfl) | (rw [chk_41 (i := i) ‹¬ ¬ pcheck g l = 0› (by omega) ‹_›]; rfl) | (rw [chk_42 (i := i) ‹¬ ¬ pcheck g l = 0› (by omega) hw (by simpa using ‹(!isDisk g l d) = true›)]; rfl) | (rw [chk_0 (i := i) ‹¬ ¬ pcheck g l = 0› (by omega) hw (hd (by omega))]; rfl), le17, wfq15⟩)
   ·
    refine Run.skip <| h33 _ _ <| .region <| .q rfl (qaddN (b := 1) rfl rfl (by omega)) <| .q rfl (qmove rfl) <| .nil ?_
    exact ⟨i + 1, EnvLe.cons rfl <| EnvLe.cons rfl <| EnvLe.cons rfl <| EnvLe.cons rfl <| EnvLe.cons rfl <| EnvLe.nil _, rfl, ⟨⟨by omega, fun j h => (Nat.lt_succ_iff_lt_or_eq.1 h).elim (hw j) (fun z => by subst z; exact Decidable.not_not.1 ‹_›)⟩, rfl⟩, (by (try dsimp only); omega)⟩
  ·
   refine Run.exit <| h22 _ _ <| .seq fun K46 h47 => .seq fun K48 h49 => .region <| .q rfl (qmove rfl) <| .q rfl (qlenS (n := ([dv]).length) u71 rfl (hds.le le17) (by omega) (vals_len _)) <| .q rfl (qmove rfl) <| .nil <| h49 _ _ ?_
   refine Run.block <| .loop (X := Nat) (fun k => [(3, .pointer (some ⟨b4, 0, none⟩)), (26, dsv), (27, num ((([dv]).length : Nat) : Int)), (28, num ((k : Nat) : Int))]) (fun k B => (k ≤ 1 ∧ (0 < k → isDisk g l d = true)) ∧ A.le B ∧ B.get b4 = some (.row true [num (g), u] 2)) (fun k => 1 - k) 0 (EnvLe.cons rfl <| EnvLe.cons rfl <| EnvLe.cons rfl <| EnvLe.cons rfl <| EnvLe.nil _) (⟨⟨Nat.zero_le _, fun h => by omega⟩, le17, h16⟩) ?_
   rintro k B51 ⟨⟨hk, hd⟩, le50, hr_b450⟩
   refine Run.wf fun wf52 => .seq fun K53 h54 => .region <| .q rfl (qlssN rfl rfl) <| .nil <| h54 _ _ <| .seq fun K55 h56 => .if rfl (fun p57 => ?_) (fun p57 => ?_)
   ·
    refine Run.skip <| h56 _ _ <| .seq fun K58 h59 => .block <| .seq fun K60 h61 => .region ?_
    obtain ⟨b62, f62, rw62, r62, rc62, n62, k62, e62, l62, g62, cl62, cs62⟩ := Slc.at (i := k) (hds.le le50) (by simp only [vals_length]; omega) (by omega)
    refine Ops.q rfl (qindexS u71 sz34 rfl e62 rfl l62) <| .q rfl (qloadAt ag34 rfl rfl g62 (((elt0 cs62).trans (vals_get (by omega))).trans (congrArg some (one_get (by have : ([dv] : List Value).length = 1 := rfl; omega))))) <| .q rfl (qassign rfl) <| .nil <| h61 _ _ <| .seq fun K63 h64 => .region <| .q rfl (qloadAggAt ag24 sz24 rfl rfl hr_b450 rfl) <| .q rfl (qmove rfl) <| .l rfl (fun _ _ hk65 _ => vcallF rfl (s_IsDisk ((g)) u l dv d B51 hg hn hdn hcl (hu.le le50) (hv.le le50)) ?_)
    rintro v66 A67 ⟨rfl, leq68, wfq68⟩
    have h69 := leq68.get _ _ hr_b450
    have le70 := le50.trans leq68
    refine hk65 _ _ <| .q rfl (qnot rfl) <| .nil <| h64 _ _ <| .ifB rfl (fun p71 => ?_) (fun p71 => ?_)
    ·
     refine Run.seq fun K72 h73 => .region <| .q rfl (qassign rfl) <| .nil <| h73 _ _ <| .ret ?_
     repeat first | with_reducible refine thenQ_ret ?_ | with_reducible refine blockQ_ret ?_
     exact retQ rfl (⟨by first | (rw [chk_40 ‹_›]; rfl) | (rw [chk_41 (i := i) ‹¬ ¬ pcheck g l = 0› (by omega) ‹_›]; rfl) | (rw [chk_42 (i := i) ‹¬ ¬ pcheck g l = 0› (by omega) hw (by simpa using ‹(!isDisk g l d) = true›)]; rfl) | (rw [chk_0 (i := i) ‹¬ ¬ pcheck g l = 0› (by omega) hw (hd (by omega))]; rfl), le70, wfq68⟩)
    ·
     refine Run.skip <| h59 _ _ <| .region <| .q rfl (qaddN (b := 1) rfl rfl (by omega)) <| .q rfl (qmove rfl) <| .nil ?_
     exact ⟨k + 1, EnvLe.cons rfl <| EnvLe.cons rfl <| EnvLe.cons rfl <| EnvLe.cons rfl <| EnvLe.nil _, rfl, ⟨⟨by omega, fun _ => by simpa using ‹(!isDisk g l d) = false›⟩, le70, h69⟩, (by (try dsimp only); omega)⟩
   ·
    refine Run.exit <| h47 _ _ <| .seq fun K74 h75 => .region <| .q rfl (qassign rfl) <| .nil <| h75 _ _ <| .ret ?_
    repeat first | with_reducible refine thenQ_ret ?_ | with_reducible refine blockQ_ret ?_
    exact retQ rfl (⟨by first | (rw [chk_40 ‹_›]; rfl) | (rw [chk_41 (i := i) ‹¬ ¬ pcheck g l = 0› (by omega) ‹_›]; rfl) | (rw [chk_42 (i := i) ‹¬ ¬ pcheck g l = 0› (by omega) hw (by simpa using ‹(!isDisk g l d) = true›)]; rfl) | (rw [chk_0 (i := i) ‹¬ ¬ pcheck g l = 0› (by omega) hw (hd (by omega))]; rfl), le50, wf52⟩)

theorem s_Proves (g : Int) (u : Value) (l : List (List UInt8)) (dv : Value) (d : List DCell) (w : List UInt8) (A : AH) (hn : l.length ≤ 100000000) (hll : ∀ x ∈ l, x.length ≤ 100000000) (hw : w.length ≤ 100000000) (hdn : d.length ≤ 100000000) (hcn : conjs d ≤ 100000000) (hu : Slc A 1 u (strs l)) (hv : Slc A 3 dv (dcells d)) : RetA Tryz.prog 17 #[.agg #[num (g), u], dv, str (w)] A (fun v A1 => v = num ((proves g l d w : Nat) : Int) ∧ A.le A1 ∧ A1.wf) := by
 refine enterA (e := [(0, .agg #[num (g), u]), (1, dv), (2, str (w))]) (args := [.agg #[num (g), u], dv, str (w)]) Tryz.call17 Tryz.func17 rfl Tryz.results17 Tryz.ntmps17 rfl rfl rfl (fun wf => ?_)
 have le_ := AH.le.refl A
 refine Run.seq fun K1 h2 => .region <| .l rfl (fun _ _ hk3 _ => wbox wf rfl rfl fun A5 b4 nb6 => ?_)
 have le7 := le_.trans nb6.le
 refine hk3 _ _ <| .q rfl (qassign rfl) <| .nil <| h2 _ _ <| .seq fun K8 h9 => .seq fun K10 h11 => .region <| .q rfl (qloadAggAt ag24 sz24 rfl rfl nb6.get rfl) <| .q rfl (qmove rfl) <| .l rfl (fun _ _ hk12 _ => wbuildSlice (c := [str (w)]) nb6.wf rfl (buildSliceV_of u22 sz9 z9 rfl (by decide) (by decide) rfl) fun A14 b13 nb15 => ?_)
 have h16 := nb15.le.get _ _ nb6.get
 have le17 := le7.trans nb15.le
 refine hk12 _ _ <| .q rfl (qmove rfl) ?_
 obtain ⟨p22, l22, c22, q22, _⟩ := (hv.le le17)
 subst q22
 refine Ops.l rfl (fun _ _ hk18 _ => wbuildSlice (c := [.slice p22 l22 c22]) nb15.wf rfl (buildSliceV_of u71 sz34 z34 rfl (by decide) (by decide) rfl) fun A20 b19 nb21 => ?_)
 have h23 := nb21.le.get _ _ h16
 have h24 := nb21.le.get _ _ nb15.get
 have le25 := le17.trans nb21.le
 refine hk18 _ _ <| .l rfl (fun _ _ hk26 _ => vcallF rfl (s_checked4 ((g)) u l (.slice (some ⟨b13, 0, none⟩) 1 1) ([w]) (.slice (some ⟨b19, 0, none⟩) 1 1) (.slice p22 l22 c22) d A20 hn hll (by simp) (by simpa using hw) hdn (hcl_of hcn) (hu.le le25) (slc_row (n := 1) h24 rfl (Nat.le_refl _)) (slc_row (n := 1) nb21.get rfl (Nat.le_refl _)) (hv.le le25)) ?_)
 rintro v27 A28 ⟨rfl, leq29, wfq29⟩
 have h30 := leq29.get _ _ h23
 have le33 := le25.trans leq29
 refine hk26 _ _ <| .q rfl (qassign rfl) <| .nil <| h11 _ _ <| .seq fun K34 h35 => .region <| .q rfl (qmove rfl) <| .q rfl (qneqN (b := 0) rfl rfl) <| .nil <| h35 _ _ ?_
 refine Run.if rfl (fun p36 => ?_) (fun p36 => ?_)
 ·
  refine Run.seq fun K37 h38 => .region <| .q rfl (qmove rfl) <| .q rfl (qassign rfl) <| .nil <| h38 _ _ <| .ret ?_
  repeat first | with_reducible refine thenQ_ret ?_ | with_reducible refine blockQ_ret ?_
  exact retQ rfl (⟨by first | (rw [proves, if_pos ‹_›]; rfl) | (rw [proves, if_neg ‹_›, if_pos ‹_›]; rfl) | (rw [proves, if_neg ‹_›, if_neg ‹_›]; rfl), le33, wfq29⟩)
 ·
  refine Run.skip <| h9 _ _ <| .seq fun K39 h40 => .seq fun K41 h42 => .region <| .q rfl (qloadAggAt ag24 sz24 rfl rfl h30 rfl) <| .q rfl (qmove rfl) <| .l rfl (fun _ _ hk43 _ => vcallF rfl (s_Bounds ((g)) u l (.slice p22 l22 c22) d A28 (chk_spec ‹¬ ¬ chk g l [w] [d] = 0›).1 (chk_spec ‹¬ ¬ chk g l [w] [d] = 0›).2.2 (hu.le le33) (hv.le le33)) ?_)
  rintro v44 A45 ⟨rfl, leq46, wfq46⟩
  have le50 := le33.trans leq46
  refine hk43 _ _ <| .q rfl (qmove rfl) <| .l rfl (fun _ _ hk51 _ => vcallF rfl (s_Reduce4 w A45 (okl_wcheck (fun q => q ((chk_spec ‹¬ ¬ chk g l [w] [d] = 0›).2.1 w (by simp)))) (by have := wcheck_len ((chk_spec ‹¬ ¬ chk g l [w] [d] = 0›).2.1 w (by simp)); omega)) ?_)
  rintro v52 A53 ⟨rfl, leq54, wfq54⟩
  have le58 := le50.trans leq54
  refine hk51 _ _ <| .q rfl (qsneq rfl rfl) <| .nil <| h42 _ _ <| .if rfl (fun p59 => ?_) (fun p59 => ?_)
  ·
   refine Run.seq fun K60 h61 => .region <| .q rfl (qassign rfl) <| .nil <| h61 _ _ <| .ret ?_
   repeat first | with_reducible refine thenQ_ret ?_ | with_reducible refine blockQ_ret ?_
   exact retQ rfl (⟨by first | (rw [proves, if_pos ‹_›]; rfl) | (rw [proves, if_neg ‹_›, if_pos ‹_›]; rfl) | (rw [proves, if_neg ‹_›, if_neg ‹_›]; rfl), le58, wfq54⟩)
  ·
   refine Run.skip <| h40 _ _ <| .seq fun K62 h63 => .region <| .q rfl (qassign rfl) <| .nil <| h63 _ _ <| .ret ?_
   repeat first | with_reducible refine thenQ_ret ?_ | with_reducible refine blockQ_ret ?_
   exact retQ rfl (⟨by first | (rw [proves, if_pos ‹_›]; rfl) | (rw [proves, if_neg ‹_›, if_pos ‹_›]; rfl) | (rw [proves, if_neg ‹_›, if_neg ‹_›]; rfl), le58, wfq54⟩)

theorem s_Boundary (g : Int) (u : Value) (l : List (List UInt8)) (dv : Value) (d : List DCell) (A : AH) (hn : l.length ≤ 100000000) (hll : ∀ x ∈ l, x.length ≤ 100000000) (hdn : d.length ≤ 100000000) (hcl : ∀ c ∈ d, c.conj.length ≤ 9223372036854775807) (hu : Slc A 1 u (strs l)) (hv : Slc A 3 dv (dcells d)) : RetA Tryz.prog 23 #[.agg #[num (g), u], dv] A (fun v A1 => v = .tuple #[str (bndary g l d).1, num (((bndary g l d).2 : Nat) : Int)] ∧ A.le A1 ∧ A1.wf) := by
 refine enterA (e := [(0, .agg #[num (g), u]), (1, dv)]) (args := [.agg #[num (g), u], dv]) Tryz.call23 Tryz.func23 rfl Tryz.results23 Tryz.ntmps23 rfl rfl rfl (fun wf => ?_)
 have le_ := AH.le.refl A
 refine Run.seq fun K1 h2 => .region <| .l rfl (fun _ _ hk3 _ => wbox wf rfl rfl fun A5 b4 nb6 => ?_)
 have le7 := le_.trans nb6.le
 refine hk3 _ _ <| .q rfl (qassign rfl) <| .q rfl (qassign rfl) <| .nil <| h2 _ _ <| .seq fun K8 h9 => .seq fun K10 h11 => .region <| .q rfl (qloadAggAt ag24 sz24 rfl rfl nb6.get rfl) <| .q rfl (qmove rfl) ?_
 obtain ⟨p16, l16, c16, q16, _⟩ := (hv.le le7)
 subst q16
 refine Ops.l rfl (fun _ _ hk12 _ => wbuildSlice (c := [.slice p16 l16 c16]) nb6.wf rfl (buildSliceV_of u71 sz34 z34 rfl (by decide) (by decide) rfl) fun A14 b13 nb15 => ?_)
 have h17 := nb15.le.get _ _ nb6.get
 have le18 := le7.trans nb15.le
 refine hk12 _ _ <| .l rfl (fun _ _ hk19 _ => vcallF rfl (s_checked4 ((g)) u l (.slice none 0 0) ([]) (.slice (some ⟨b13, 0, none⟩) 1 1) (.slice p16 l16 c16) d A14 hn hll (by simp) (by simp) hdn hcl (hu.le le18) (Fresh.nil A14 A14 1).slc (slc_row (n := 1) nb15.get rfl (Nat.le_refl _)) (hv.le le18)) ?_)
 rintro v20 A21 ⟨rfl, leq22, wfq22⟩
 have h23 := leq22.get _ _ h17
 have le25 := le18.trans leq22
 refine hk19 _ _ <| .q rfl (qassign rfl) <| .nil <| h11 _ _ <| .seq fun K26 h27 => .region <| .q rfl (qmove rfl) <| .q rfl (qneqN (b := 0) rfl rfl) <| .nil <| h27 _ _ ?_
 refine Run.if rfl (fun p28 => ?_) (fun p28 => ?_)
 ·
  refine Run.seq fun K29 h30 => .region <| .q rfl (qmove rfl) <| .q rfl (qassign rfl) <| .q rfl (qassign rfl) <| .nil <| h30 _ _ <| .ret ?_
  repeat first | with_reducible refine thenQ_ret ?_ | with_reducible refine blockQ_ret ?_
  exact retQ rfl (⟨by first | (rw [bndary, if_pos ‹_›]; rfl) | (rw [bndary, if_neg ‹_›]; rfl), le25, wfq22⟩)
 ·
  refine Run.skip <| h9 _ _ <| .seq fun K31 h32 => .region <| .q rfl (qloadAggAt ag24 sz24 rfl rfl h23 rfl) <| .q rfl (qmove rfl) <| .l rfl (fun _ _ hk33 _ => vcallF rfl (s_Bounds ((g)) u l (.slice p16 l16 c16) d A21 (chk_spec ‹¬ ¬ chk g l [] [d] = 0›).1 (chk_spec ‹¬ ¬ chk g l [] [d] = 0›).2.2 (hu.le le25) (hv.le le25)) ?_)
  rintro v34 A35 ⟨rfl, leq36, wfq36⟩
  have le39 := le25.trans leq36
  refine hk33 _ _ <| .q rfl (qassign rfl) <| .q rfl (qassign rfl) <| .nil <| h32 _ _ <| .ret ?_
  repeat first | with_reducible refine thenQ_ret ?_ | with_reducible refine blockQ_ret ?_
  exact retQ rfl (⟨by first | (rw [bndary, if_pos ‹_›]; rfl) | (rw [bndary, if_neg ‹_›]; rfl), le39, wfq36⟩)
end Go.Proofs.YtaccklloepfemaaGreatDoor

namespace Go.Proofs.YtaccklloepfemaaGreatDoor
set_option linter.unusedVariables false
set_option linter.unusedSimpArgs false
open Go Go.RowKit V

/-- A word of the closure: it is conj r conj^-1 for a relator or its inverse. -/
structure Rot where
  w : List UInt8
  c : List UInt8
  r : Nat
  i : Bool
def Rot.zero : Rot := ⟨[], [], 0, false⟩
def rcell (x : Rot) : List Value := [str x.w, str x.c, num ((x.r : Nat) : Int), .bool x.i]
def rcells (l : List Rot) : List Value := l.flatMap rcell
theorem rcells_length (l : List Rot) : (rcells l).length = l.length * 4 := by
  induction l with
  | nil => rfl
  | cons c l ih => simp only [rcells, List.flatMap_cons, List.length_append, List.length_cons] at ih ⊢; rw [ih]; simp [rcell]; omega
theorem rcells_len (l : List Rot) : (rcells l).length = l.length * 4 := rcells_length l
theorem rcells_append (a b : List Rot) : rcells a ++ rcells b = rcells (a ++ b) := by simp [rcells]
theorem rcells_drop (l : List Rot) (i : Nat) : (rcells l).drop (i * 4) = rcells (l.drop i) := by
  induction l generalizing i with
  | nil => simp [rcells]
  | cons c l ih =>
    cases i with
    | zero => simp
    | succ i =>
      have : (i + 1) * 4 = (rcell c).length + i * 4 := by simp [rcell]; omega
      show (rcell c ++ rcells l).drop ((i + 1) * 4) = _
      rw [this, ← List.drop_drop, List.drop_left]
      exact ih i
theorem rcells_at {l : List Rot} {i : Nat} (h : i < l.length) : ((rcells l).drop (i * 4)).take 4 = rcell (l.getD i .zero) := by
  rw [rcells_drop, List.drop_eq_getElem_cons h]
  have e : l.getD i .zero = l[i] := by simp [h]
  rw [e]
  show (rcell l[i] ++ rcells (l.drop (i + 1))).take 4 = _
  exact List.take_left' rfl
def ncell (p : Nat × Int) : List Value := [.map (some p.1), num p.2]
def ncells (l : List (Nat × Int)) : List Value := l.flatMap ncell
theorem ncells_length (l : List (Nat × Int)) : (ncells l).length = l.length * 2 := by
  induction l with
  | nil => rfl
  | cons c l ih => simp only [ncells, List.flatMap_cons, List.length_append, List.length_cons] at ih ⊢; rw [ih]; simp [ncell]; omega
theorem ncells_len (l : List (Nat × Int)) : (ncells l).length = l.length * 2 := ncells_length l
theorem ncells_append (a b : List (Nat × Int)) : ncells a ++ ncells b = ncells (a ++ b) := by simp [ncells]
theorem ncells_drop (l : List (Nat × Int)) (i : Nat) : (ncells l).drop (i * 2) = ncells (l.drop i) := by
  induction l generalizing i with
  | nil => simp [ncells]
  | cons c l ih =>
    cases i with
    | zero => simp
    | succ i =>
      have : (i + 1) * 2 = (ncell c).length + i * 2 := by simp [ncell]; omega
      show (ncell c ++ ncells l).drop ((i + 1) * 2) = _
      rw [this, ← List.drop_drop, List.drop_left]
      exact ih i
theorem ncells_get2 {l : List (Nat × Int)} {i k : Nat} (h : i < l.length) (hk : k < 2) : (ncells l)[i * 2 + k]? = (ncell (l.getD i (0, 0)))[k]? := by
  have e1 : (ncells l)[i * 2 + k]? = ((ncells l).drop (i * 2))[k]? := by rw [List.getElem?_drop]
  rw [e1, ncells_drop, List.drop_eq_getElem_cons h]
  have e : l.getD i (0, 0) = l[i] := by simp [h]
  rw [e]
  show (ncell l[i] ++ ncells (l.drop (i + 1)))[k]? = _
  exact List.getElem?_append_left (by simpa [ncell] using hk)
theorem ncells_f0 {l : List (Nat × Int)} {i : Nat} (h : i < l.length) : (ncells l)[i * 2 + 0]? = some (.map (some (l.getD i (0, 0)).1)) := ncells_get2 h (by omega)
theorem ncells_f1 {l : List (Nat × Int)} {i : Nat} (h : i < l.length) : (ncells l)[i * 2 + 1]? = some (num (l.getD i (0, 0)).2) := ncells_get2 h (by omega)

/-! ### What is found -/
/-- The first word of which a path is a prefix and more than half. -/
def bestOf (l : List Rot) (p : List UInt8) : Int := ifl (fun x : Rot => p.isPrefixOf x.w && decide (x.w.length < 2 * p.length)) l
def longStep (l : List Rot) (s : List UInt8) (i : Nat) (t : Int × Nat) : Int × Nat :=
  let b := bestOf l (s.take (i + 1))
  if 0 ≤ b then (if t.1 < 0 then (b, i + 1) else (if b < t.1 then b else t.1, t.2)) else t
def longU (l : List Rot) (s : List UInt8) : Nat → Int × Nat
  | 0 => (-1, 0)
  | i + 1 => longStep l s i (longU l s i)
def longF (l : List Rot) (s : List UInt8) : Int × Nat := longU l s s.length

structure RS where
  list : List Rot
  most : Nat
  pf : List (List UInt8)
  best : List Int
/-- The entries of a node's map: where letters lead. -/
def Ents (pf : List (List UInt8)) (p : List UInt8) (es : Array MapEntry) : Prop :=
  ∃ l : List (UInt8 × Nat × Nat), es.toList = l.map (fun x => { key := byt x.1, val := num ((x.2.1 : Nat) : Int), born := x.2.2 }) ∧ ∀ c, (l.find? fun x => x.1 == c).map (fun x => x.2.1) = if p ++ [c] ∈ pf then some (pf.idxOf (p ++ [c])) else none
def Nodes (A : AH) (S : RS) (bl : List Nat) : Prop :=
  bl.length = S.pf.length ∧ S.best.length = S.pf.length ∧ ∀ j, j < S.pf.length → ∃ rw es clock, A.get (bl.getD j 0) = some (.obj rw (.map es clock)) ∧ Ents S.pf (S.pf.getD j []) es
/-- The rules in memory. -/
def Rules (A : AH) (br : Nat) (S : RS) : Prop :=
  ∃ rw cap lsv nv bl, A.get br = some (.row rw [lsv, nv, num ((S.most : Nat) : Int)] cap) ∧ Slc A 4 lsv (rcells S.list) ∧ Slc A 2 nv (ncells (bl.zip S.best)) ∧ Nodes A S bl
theorem Rules.le {A B : AH} {br : Nat} {S : RS} (h : Rules A br S) (le : A.le B) : Rules B br S := by
  obtain ⟨rw, cap, lsv, nv, bl, h1, h2, h3, h4, h5, h6⟩ := h
  refine ⟨rw, cap, lsv, nv, bl, le.get _ _ h1, h2.le le, h3.le le, h4, h5, fun j hj => ?_⟩
  obtain ⟨r, es, k, g1, g2⟩ := h6 j hj
  exact ⟨r, es, k, le.get _ _ g1, g2⟩
/-- What is so of rules: the trie is that of the words. -/
structure RSok (S : RS) : Prop where
  root : S.pf.getD 0 [] = [] ∧ 0 < S.pf.length
  nodup : S.pf.Nodup
  mem : ∀ p, p ∈ S.pf ↔ p = [] ∨ ∃ x ∈ S.list, p <+: x.w
  best : ∀ j, j < S.pf.length → S.best.getD j 0 = bestOf S.list (S.pf.getD j [])
  most : ∀ x ∈ S.list, x.w.length ≤ S.most
  small : S.most ≤ 200 ∧ S.list.length ≤ 30000
  isw : ∀ x ∈ S.list, isw x.w = true ∧ isw x.c = true ∧ x.c.length ≤ 1000
theorem take_next {s : List UInt8} {i : Nat} (h : i < s.length) : s.take i ++ [s.getD i 0] = s.take (i + 1) := by
  rw [List.take_add_one, List.getElem?_eq_getElem h]; simp [h]
theorem idxOf_lt {l : List (List UInt8)} {p : List UInt8} (h : p ∈ l) : l.idxOf p < l.length := List.idxOf_lt_length_of_mem h
theorem getD_idxOf {l : List (List UInt8)} {p : List UInt8} (h : p ∈ l) : l.getD (l.idxOf p) [] = p := by
  have := idxOf_lt h
  rw [List.getD_eq_getElem?_getD, List.getElem?_eq_getElem this]
  simp
theorem RSok.best_at {S : RS} (h : RSok S) {bl : List Nat} (hb : bl.length = S.pf.length ∧ S.best.length = S.pf.length) {p : List UInt8} (hp : p ∈ S.pf) : ((bl.zip S.best).getD (S.pf.idxOf p) (0, 0)).2 = bestOf S.list p := by
  have hi := idxOf_lt hp
  have h1 := h.best _ hi
  rw [getD_idxOf hp] at h1
  rw [← h1]
  have hz : S.pf.idxOf p < (bl.zip S.best).length := by simp; omega
  have h2 : S.pf.idxOf p < S.best.length := by omega
  have h3 : S.pf.idxOf p < bl.length := by omega
  rw [List.getD_eq_getElem?_getD, List.getElem?_eq_getElem hz, Option.getD_some, List.getElem_zip, List.getD_eq_getElem?_getD, List.getElem?_eq_getElem h2, Option.getD_some]
theorem RSok.blk_at {S : RS} {bl : List Nat} (hb : bl.length = S.pf.length ∧ S.best.length = S.pf.length) {j : Nat} (hj : j < S.pf.length) : ((bl.zip S.best).getD j (0, 0)).1 = bl.getD j 0 := by
  have hz : j < (bl.zip S.best).length := by simp; omega
  have h2 : j < bl.length := by omega
  rw [List.getD_eq_getElem?_getD, List.getElem?_eq_getElem hz, Option.getD_some, List.getElem_zip, List.getD_eq_getElem?_getD, List.getElem?_eq_getElem h2, Option.getD_some]
theorem bestOf_none {l : List Rot} {p : List UInt8} (h : ∀ x ∈ l, ¬ p <+: x.w) : bestOf l p = -1 := by
  unfold bestOf
  refine ifl_none (d := .zero) fun j hj => ?_
  have := h _ (getD_mem (d := .zero) hj)
  simp only [Bool.and_eq_false_iff]
  left
  rw [← Bool.not_eq_true, List.isPrefixOf_iff_prefix]; exact this
theorem longU_stop {S : RS} (h : RSok S) {s : List UInt8} {i : Nat} (hi : i < s.length) (hn : ¬ s.take (i + 1) ∈ S.pf) : longU S.list s i = longF S.list s := by
  have key : ∀ n, i ≤ n → n ≤ s.length → longU S.list s n = longU S.list s i := by
    intro n
    induction n with
    | zero => intro h1 _; rw [show i = 0 by omega]
    | succ n ih =>
      intro h1 h2
      rcases Nat.lt_or_eq_of_le h1 with q | q
      · have e := ih (by omega) (by omega)
        have hb : bestOf S.list (s.take (n + 1)) = -1 := bestOf_none fun x hx hp => hn ((h.mem _).2 (.inr ⟨x, hx, by
          refine List.IsPrefix.trans ?_ hp
          exact List.take_prefix_take_left (by omega)⟩))
        rw [longU, longStep, hb, if_neg (by decide), e]
      · rw [q]
  exact (key s.length (by omega) (Nat.le_refl _)).symm
theorem same_byt (a c : UInt8) : Instr.sameNow (.int .u8) (byt a) (byt c) = some (decide (a = c)) := by
  have : decide ((a.toNat : Int) = (c.toNat : Int)) = decide (a = c) := by simp only [u8_inj]
  simp only [Instr.sameNow]
  rw [← this]
  rfl
theorem find_key (c : UInt8) : ∀ (l : List (UInt8 × Nat × Nat)) (n : Nat), ∃ r, Instr.findNow (.int .u8) (byt c) (l.map fun x => { key := byt x.1, val := num ((x.2.1 : Nat) : Int), born := x.2.2 }) n = some r ∧ r.map (fun p => p.2) = (l.find? fun x => x.1 == c).map fun x => num ((x.2.1 : Nat) : Int) := by
  intro l
  induction l with
  | nil => intro n; exact ⟨none, rfl, rfl⟩
  | cons x l ih =>
    intro n
    by_cases q : c = x.1
    · refine ⟨some (n, num ((x.2.1 : Nat) : Int)), ?_, by simp [q]⟩
      simp only [List.map_cons, Instr.findNow, same_byt, decide_eq_true q]
    · obtain ⟨r, h1, h2⟩ := ih (n + 1)
      refine ⟨r, ?_, ?_⟩
      · simp only [List.map_cons, Instr.findNow, same_byt, decide_eq_false q]; exact h1
      · rw [h2, List.find?_cons_of_neg]
        simp only [beq_iff_eq]; exact fun h => q h.symm
theorem wlookupB {P : Program} {e : Env} {A : AH} {x y : Operand} {t kt et : TypeId} {ty : TypeId} {ps : String} {af : Array Edge} {dst : Option Nat} {K : Value → AH → Prop} {Kp : List PanicEntry → AH → Prop} {g : Option (Nat × Bool)} {m clock : Nat} {rw : Bool} {es : Array MapEntry} {pf : List (List UInt8)} {p q : List UInt8} {c : UInt8}
    (hx : opd e x = some (.map (some m))) (hy : opd e y = some (byt c)) (hu : P.underlying t = some (.map kt et)) (hk : P.underlying kt = some (.int .u8)) (hz : zeroOf P et = some (num 0)) (hg : A.get m = some (.obj rw (.map es clock))) (hE : Ents pf p es) (hq : p ++ [c] = q)
    (h1 : q ∈ pf → K (.tuple #[num ((pf.idxOf q : Nat) : Int), .bool true]) A) (h2 : ¬ q ∈ pf → K (.tuple #[num ((0 : Nat) : Int), .bool false]) A) : opV P e A { dst := dst, op := .lookup t x y true, type := ty, pos := ps, after := af, guard := g } K Kp := by
  subst hq
  obtain ⟨l, hl, hf⟩ := hE
  obtain ⟨r, g1, g2⟩ := find_key c l 0
  refine ⟨_, _, hx, hy, kt, et, .int .u8, num 0, es, r, hu, hk, rfl, hz, .inr ⟨m, rw, clock, rfl, hg⟩, by rw [hl]; exact g1, ?_⟩
  have hf := hf c
  by_cases hp : p ++ [c] ∈ pf
  · rw [if_pos hp] at hf
    cases hfind : l.find? fun x => x.1 == c with
    | none => rw [hfind] at hf; cases hf
    | some z =>
      rw [hfind] at hf g2
      simp only [Option.map_some, Option.some.injEq] at hf g2
      cases r with
      | none => cases g2
      | some w =>
        simp only [Option.map_some, Option.some.injEq] at g2
        have := h1 hp
        rw [← hf] at this
        obtain ⟨w1, w2⟩ := w
        simp only at g2
        subst g2
        exact this
  · rw [if_neg hp] at hf
    cases hfind : l.find? fun x => x.1 == c with
    | some z => rw [hfind] at hf; cases hf
    | none =>
      rw [hfind] at g2
      cases r with
      | some w => cases g2
      | none => exact h2 hp

/-! ### Replacing -/
/-- Letters are put onto a reduced word; how short it has been. -/
def putF (t : List UInt8 × Nat) (w : List UInt8) : List UInt8 × Nat := w.foldl (fun t c => (push t.1 c, min t.2 (push t.1 c).length)) t
def repN (l : List UInt8) (p : Nat) (x : Rot) : Nat := cmn (l.drop p) x.w
def repl (l : List UInt8) (p : Nat) (x : Rot) : List UInt8 × Nat := putF (putF (l.take p, p) (wInverse (x.w.drop (repN l p x)))) (l.drop (p + repN l p x))
def repC (l : List UInt8) (p : Nat) (x : Rot) : DCell := ⟨wReduce (l.take p ++ x.c), ((x.r : Nat) : Int), x.i⟩
def drun (L : List Rot) (most : Nat) : Nat → List UInt8 → List DCell → Nat → List UInt8 × List DCell
  | 0, l, d, _ => (l, d)
  | f + 1, l, d, p => if p < l.length then
      (if 0 ≤ (longF L (l.drop p)).1 then drun L most f (repl l p (L.getD (longF L (l.drop p)).1.toNat .zero)).1 (d ++ [repC l p (L.getD (longF L (l.drop p)).1.toNat .zero)]) ((repl l p (L.getD (longF L (l.drop p)).1.toNat .zero)).2 - most)
       else drun L most f l d (p + 1))
    else (l, d)
theorem at_none {l : List UInt8} {p i : Nat} (h : l.length ≤ p + i) : (l.drop p).getD i 0 = 0 ∧ decide (i < (l.drop p).length) = false := by
  refine ⟨?_, decide_eq_false (by rw [List.length_drop]; omega)⟩
  rw [List.getD_eq_getElem?_getD, List.getElem?_drop, List.getElem?_eq_none (by omega)]; rfl
theorem at_some {l : List UInt8} {p i : Nat} (h : ¬ l.length ≤ p + i) : (l.drop p).getD i 0 = l.getD (p + i) 0 ∧ decide (i < (l.drop p).length) = true := by
  refine ⟨?_, decide_eq_true (by rw [List.length_drop]; omega)⟩
  rw [List.getD_eq_getElem?_getD, List.getElem?_drop, List.getD_eq_getElem?_getD]
theorem letter_of {w : List UInt8} {k : Nat} (h : k < w.length) : (w.take (k + 1)).drop k = [w.getD k 0] := by
  rw [← take_next h, List.drop_left' (by simp; omega)]
theorem putF_fst (w : List UInt8) : ∀ t : List UInt8 × Nat, (putF t w).1 = w.foldl push t.1 := by
  induction w with
  | nil => intro t; rfl
  | cons c w ih => intro t; exact ih _
theorem putF_step {w : List UInt8} {t R : List UInt8 × Nat} {k : Nat} (h : k < w.length) (e : putF t (w.drop k) = R) : putF (push t.1 (w.getD k 0), min t.2 (push t.1 (w.getD k 0)).length) (w.drop (k + 1)) = R := by
  rw [drop_cons h] at e; exact e
theorem putF_end {w : List UInt8} {t R : List UInt8 × Nat} {k : Nat} (h : w.length ≤ k) (e : putF t (w.drop k) = R) : R = t := by
  rw [drop_end h] at e; exact e.symm
theorem ifl_le {α : Type} (q : α → Bool) (l : List α) : -1 ≤ ifl q l ∧ ifl q l < l.length := by
  unfold ifl
  split
  · rename_i i h; rw [List.findIdx?_eq_some_iff_getElem] at h; obtain ⟨h, _⟩ := h; omega
  · omega
theorem longU_bound (l : List Rot) (s : List UInt8) (i : Nat) : -1 ≤ (longU l s i).1 ∧ (longU l s i).1 < l.length := by
  induction i with
  | zero => simp [longU]; omega
  | succ i ih =>
    have hb : -1 ≤ bestOf l (s.take (i + 1)) ∧ bestOf l (s.take (i + 1)) < l.length := ifl_le _ _
    rw [longU, longStep]
    generalize bestOf l (s.take (i + 1)) = b at hb ⊢
    split
    · split
      · exact hb
      · dsimp only; split <;> omega
    · exact ih
theorem longF_bound (l : List Rot) (s : List UInt8) : -1 ≤ (longF l s).1 ∧ (longF l s).1 < l.length := longU_bound l s _
theorem repN_go {l : List UInt8} {p n : Nat} {x : Rot} (h : n ≤ repN l p x) (hc : n < x.w.length ∧ p + n < l.length ∧ l.getD (p + n) 0 = x.w.getD n 0) : n + 1 ≤ repN l p x :=
  cmn_go h ⟨by rw [List.length_drop]; omega, hc.1, by rw [(at_some (l := l) (p := p) (i := n) (by omega)).1]; exact hc.2.2⟩
theorem repN_stop {l : List UInt8} {p n : Nat} {x : Rot} (h : n ≤ repN l p x) (hc : ¬ (n < x.w.length ∧ p + n < l.length ∧ l.getD (p + n) 0 = x.w.getD n 0)) : n = repN l p x :=
  cmn_stop h fun q => hc ⟨q.2.1, by have := q.1; rw [List.length_drop] at this; omega, by rw [← (at_some (l := l) (p := p) (i := n) (by have := q.1; rw [List.length_drop] at this; omega)).1]; exact q.2.2⟩
theorem repN_le (l : List UInt8) (p : Nat) (x : Rot) : repN l p x ≤ l.length - p ∧ repN l p x ≤ x.w.length := by
  have := cmn_le (l.drop p) x.w
  rw [List.length_drop] at this; exact this
theorem putF_len (t : List UInt8 × Nat) (w : List UInt8) : (putF t w).1.length ≤ t.1.length + w.length := by rw [putF_fst]; exact foldl_push_length w t.1
theorem repl_len (l : List UInt8) (p : Nat) (x : Rot) : (repl l p x).1.length + repN l p x ≤ min p l.length + (x.w.length - repN l p x) + (l.length - p) := by
  have h1 := putF_len (putF (l.take p, p) (wInverse (x.w.drop (repN l p x)))) (l.drop (p + repN l p x))
  have h2 := putF_len (l.take p, p) (wInverse (x.w.drop (repN l p x)))
  have h3 := wInverse_length (x.w.drop (repN l p x))
  have h4 := repN_le l p x
  simp only [List.length_drop, List.length_take] at h1 h2 h3
  unfold repl
  omega
/-- A prefix that is more than half of a word is one that is found. -/
theorem cmn_prefix : ∀ (s x : List UInt8) (k : Nat), k ≤ s.length → (s.take k <+: x ↔ k ≤ cmn s x)
  | s, x, 0, _ => by simp
  | [], x, k + 1, h => by simp at h
  | a :: s, [], k + 1, _ => by simp [cmn]
  | a :: s, b :: x, k + 1, h => by
    simp only [List.take_succ_cons, List.cons_prefix_cons, cmn]
    have := cmn_prefix s x k (by simpa using h)
    split
    · rename_i q; subst q; rw [this]; simp
    · rename_i q; simp [q]
theorem bestOf_spec {l : List Rot} {p : List UInt8} (h : 0 ≤ bestOf l p) : ∃ i, bestOf l p = ((i : Nat) : Int) ∧ i < l.length ∧ p <+: (l.getD i .zero).w ∧ (l.getD i .zero).w.length < 2 * p.length ∧ ∀ j, j < i → ¬ (p <+: (l.getD j .zero).w ∧ (l.getD j .zero).w.length < 2 * p.length) := by
  unfold bestOf ifl at h ⊢
  cases hf : l.findIdx? (fun x : Rot => p.isPrefixOf x.w && decide (x.w.length < 2 * p.length)) with
  | none => rw [hf] at h; simp at h
  | some i =>
    rw [List.findIdx?_eq_some_iff_getElem] at hf
    obtain ⟨hi, h1, h2⟩ := hf
    simp only [Bool.and_eq_true, List.isPrefixOf_iff_prefix, decide_eq_true_eq] at h1
    refine ⟨i, rfl, hi, by simpa [hi] using h1.1, by simpa [hi] using h1.2, fun j hj => ?_⟩
    have := h2 j hj
    have hjl : j < l.length := by omega
    simpa [hjl] using this
theorem bestOf_neg {l : List Rot} {p : List UInt8} (h : ¬ 0 ≤ bestOf l p) : ∀ x ∈ l, ¬ (p <+: x.w ∧ x.w.length < 2 * p.length) := by
  intro x hx q
  have : 0 ≤ bestOf l p := (ifl_any _ _).2 (List.any_eq_true.2 ⟨x, hx, by simp [q.1, q.2]⟩)
  exact h this
def partB (s x : List UInt8) : Bool := partOf s x
/-- What is found is the first word with a long part at the beginning. -/
theorem longU_spec (l : List Rot) (s : List UInt8) : ∀ n, n ≤ s.length →
    ((longU l s n).1 = -1 ∧ (longU l s n).2 = 0 ∧ ∀ k, 1 ≤ k → k ≤ n → ¬ 0 ≤ bestOf l (s.take k)) ∨
    (∃ i : Nat, (longU l s n).1 = i ∧ (∃ k, 1 ≤ k ∧ k ≤ n ∧ bestOf l (s.take k) = i) ∧ (∀ k, 1 ≤ k → k ≤ n → 0 ≤ bestOf l (s.take k) → (i : Int) ≤ bestOf l (s.take k)) ∧
      1 ≤ (longU l s n).2 ∧ (longU l s n).2 ≤ n ∧ 0 ≤ bestOf l (s.take (longU l s n).2) ∧ ∀ k, 1 ≤ k → k < (longU l s n).2 → ¬ 0 ≤ bestOf l (s.take k)) := by
  intro n
  induction n with
  | zero => intro _; left; exact ⟨rfl, rfl, fun k h1 h2 => by omega⟩
  | succ n ih =>
    intro hn
    have ih := ih (by omega)
    rw [longU, longStep]
    by_cases hb : 0 ≤ bestOf l (s.take (n + 1))
    · simp only [hb, if_true]
      rcases ih with ⟨h1, h2, h3⟩ | ⟨i, h1, h2, h3, h4, h5, h6, h7⟩
      · rw [h1, if_pos (by decide)]
        right
        obtain ⟨i, e, _⟩ := bestOf_spec hb
        refine ⟨i, e, ⟨n + 1, by omega, by omega, e⟩, fun k k1 k2 k3 => ?_, by simp, by simp, hb, fun k k1 k2 => h3 k k1 (by simp at k2; omega)⟩
        rcases Nat.lt_or_eq_of_le k2 with q | q
        · exact absurd k3 (h3 k k1 (by omega))
        · rw [q]; omega
      · rw [if_neg (by omega)]
        right
        obtain ⟨j, e, _⟩ := bestOf_spec hb
        by_cases hlt : bestOf l (s.take (n + 1)) < (longU l s n).1
        · refine ⟨j, by show (if _ then _ else _) = _; rw [if_pos hlt]; exact e, ⟨n + 1, by omega, by omega, e⟩, fun k k1 k2 k3 => ?_, h4, by simp only; omega, h6, h7⟩
          rcases Nat.lt_or_eq_of_le k2 with q | q
          · have := h3 k k1 (by omega) k3; omega
          · rw [q]; omega
        · refine ⟨i, by show (if _ then _ else _) = _; rw [if_neg hlt]; exact h1, ?_, fun k k1 k2 k3 => ?_, h4, by simp only; omega, h6, h7⟩
          · obtain ⟨k, k1, k2, k3⟩ := h2; exact ⟨k, k1, by omega, k3⟩
          · rcases Nat.lt_or_eq_of_le k2 with q | q
            · exact h3 k k1 (by omega) k3
            · rw [q]; omega
    · simp only [hb, if_false]
      rcases ih with ⟨h1, h2, h3⟩ | ⟨i, h1, h2, h3, h4, h5, h6, h7⟩
      · left
        refine ⟨h1, h2, fun k k1 k2 => ?_⟩
        rcases Nat.lt_or_eq_of_le k2 with q | q
        · exact h3 k k1 (by omega)
        · rw [q]; exact hb
      · right
        refine ⟨i, h1, ?_, fun k k1 k2 k3 => ?_, h4, by omega, h6, h7⟩
        · obtain ⟨k, k1, k2, k3⟩ := h2; exact ⟨k, k1, by omega, k3⟩
        · rcases Nat.lt_or_eq_of_le k2 with q | q
          · exact h3 k k1 (by omega) k3
          · rw [q] at k3; exact absurd k3 hb
theorem longF_neg {l : List Rot} {s : List UInt8} (h : ¬ 0 ≤ (longF l s).1) : ∀ x ∈ l, ¬ x.w.length < 2 * cmn s x.w := by
  rcases longU_spec l s s.length (Nat.le_refl _) with ⟨h1, h2, h3⟩ | ⟨i, h1, _⟩
  · intro x hx q
    have hc := cmn_le s x.w
    exact bestOf_neg (h3 (cmn s x.w) (by omega) hc.1) x hx ⟨(cmn_prefix s x.w _ hc.1).2 (Nat.le_refl _), by rw [List.length_take, Nat.min_eq_left hc.1]; exact q⟩
  · exact absurd (show 0 ≤ (longF l s).1 by unfold longF; omega) h
theorem longF_pos {l : List Rot} {s : List UInt8} (h : 0 ≤ (longF l s).1) : (longF l s).1.toNat < l.length ∧ (l.getD (longF l s).1.toNat .zero).w.length < 2 * cmn s (l.getD (longF l s).1.toNat .zero).w ∧ ∀ j, j < (longF l s).1.toNat → ¬ (l.getD j .zero).w.length < 2 * cmn s (l.getD j .zero).w := by
  rcases longU_spec l s s.length (Nat.le_refl _) with ⟨h1, h2, h3⟩ | ⟨i, h1, ⟨k, k1, k2, k3⟩, h3, _⟩
  · unfold longF at h; omega
  · have e : (longF l s).1 = (i : Int) := h1
    rw [e, Int.toNat_natCast]
    obtain ⟨i', e', g1, g2, g3, g4⟩ := bestOf_spec (l := l) (p := s.take k) (by omega)
    have : i' = i := by omega
    subst this
    rw [List.length_take, Nat.min_eq_left k2] at g3
    have hk := (cmn_prefix s _ k k2).1 g2
    refine ⟨g1, by omega, fun j hj q => ?_⟩
    have hc := cmn_le s (l.getD j .zero).w
    have hjl : j < l.length := by omega
    have hb : 0 ≤ bestOf l (s.take (cmn s (l.getD j .zero).w)) := by
      refine (ifl_any _ _).2 (List.any_eq_true.2 ⟨_, getD_mem (d := .zero) hjl, ?_⟩)
      simp only [Bool.and_eq_true, List.isPrefixOf_iff_prefix, decide_eq_true_eq]
      exact ⟨(cmn_prefix s _ _ hc.1).2 (Nat.le_refl _), by rw [List.length_take, Nat.min_eq_left hc.1]; exact q⟩
    have h5 := h3 _ (by omega) hc.1 hb
    obtain ⟨i2, e2, q1, q2, q3, q4⟩ := bestOf_spec hb
    have : i2 ≤ j := by
      rcases Nat.lt_or_ge j i2 with z | z
      · exact absurd ⟨(cmn_prefix s _ _ hc.1).2 (Nat.le_refl _), by rw [List.length_take, Nat.min_eq_left hc.1]; exact q⟩ (q4 j z)
      · exact z
    omega
theorem drun_go {L : List Rot} {m f p : Nat} {l : List UInt8} {d : List DCell} {R : List UInt8 × List DCell} (hf : 0 < f) (hp : p < l.length) (h : 0 ≤ (longF L (l.drop p)).1) (e : drun L m f l d p = R) :
    drun L m (f - 1) (repl l p (L.getD (longF L (l.drop p)).1.toNat .zero)).1 (d ++ [repC l p (L.getD (longF L (l.drop p)).1.toNat .zero)]) ((repl l p (L.getD (longF L (l.drop p)).1.toNat .zero)).2 - m) = R := by
  cases f with
  | zero => omega
  | succ f => rw [drun, if_pos hp, if_pos h] at e; exact e
theorem drun_no {L : List Rot} {m f p : Nat} {l : List UInt8} {d : List DCell} {R : List UInt8 × List DCell} (hf : 0 < f) (hp : p < l.length) (h : ¬ 0 ≤ (longF L (l.drop p)).1) (e : drun L m f l d p = R) : drun L m (f - 1) l d (p + 1) = R := by
  cases f with
  | zero => omega
  | succ f => rw [drun, if_pos hp, if_neg h] at e; exact e
theorem drun_end {L : List Rot} {m f p : Nat} {l : List UInt8} {d : List DCell} {R : List UInt8 × List DCell} (hp : ¬ p < l.length) (e : drun L m f l d p = R) : R = (l, d) := by
  cases f with
  | zero => exact e.symm
  | succ f => rw [drun, if_neg hp] at e; exact e.symm
theorem repl_lt {L : List Rot} {l : List UInt8} {p : Nat} (hp : p < l.length) (h : 0 ≤ (longF L (l.drop p)).1) : (repl l p (L.getD (longF L (l.drop p)).1.toNat .zero)).1.length < l.length := by
  have h1 := longF_pos h
  have h2 := repl_len l p (L.getD (longF L (l.drop p)).1.toNat .zero)
  have h3 := repN_le l p (L.getD (longF L (l.drop p)).1.toNat .zero)
  have h4 : (L.getD (longF L (l.drop p)).1.toNat .zero).w.length < 2 * repN l p (L.getD (longF L (l.drop p)).1.toNat .zero) := h1.2.1
  omega
theorem putF_snd (w : List UInt8) : ∀ t : List UInt8 × Nat, (putF t w).2 ≤ t.2 := by
  induction w with
  | nil => intro t; exact Nat.le_refl _
  | cons c w ih => intro t; exact Nat.le_trans (ih _) (Nat.min_le_left _ _)
theorem repl_low (l : List UInt8) (p : Nat) (x : Rot) : (repl l p x).2 ≤ p := Nat.le_trans (putF_snd _ _) (putF_snd _ _)
def fuel (n : Nat) : Nat := 100001 * n + n + 1
def dsh (S : RS) (w : List UInt8) : List UInt8 × List DCell := drun S.list S.most (fuel (red w).length) (red w) [] 0
end Go.Proofs.YtaccklloepfemaaGreatDoor

namespace Go.Proofs.YtaccklloepfemaaGreatDoor
open Go Go.RowKit V
set_option maxRecDepth 100000
set_option linter.unusedVariables false
set_option linter.unusedSimpArgs false
theorem ag100 : aggOf Tryz.prog 100 = some false := by kernel_rfl
theorem ag107 : aggOf Tryz.prog 107 = some false := by kernel_rfl
theorem ag80 : aggOf Tryz.prog 80 = some false := by kernel_rfl
theorem ag97 : aggOf Tryz.prog 97 = some false := by kernel_rfl
theorem fl103_1 : fldOf Tryz.prog 103 1 = some (100, 1) := by kernel_rfl
theorem fl109_0 : fldOf Tryz.prog 109 0 = some (80, 0) := by kernel_rfl
theorem fl111_0 : fldOf Tryz.prog 111 0 = some (109, 0) := by kernel_rfl
theorem fl99_0 : fldOf Tryz.prog 99 0 = some (97, 0) := by kernel_rfl
theorem fl99_1 : fldOf Tryz.prog 99 1 = some (3, 1) := by kernel_rfl
theorem sz100 : szOf Tryz.prog 100 = some 1 := by kernel_rfl
theorem sz109 : szOf Tryz.prog 109 = some 1 := by kernel_rfl
theorem sz80 : szOf Tryz.prog 80 = some 1 := by kernel_rfl
theorem sz97 : szOf Tryz.prog 97 = some 1 := by kernel_rfl
theorem sz99 : szOf Tryz.prog 99 = some 2 := by kernel_rfl
theorem u100 : type_of% @Tryz.underlying100 := @Tryz.underlying100
theorem u97 : type_of% @Tryz.underlying97 := @Tryz.underlying97
theorem z3 : zeroOf Tryz.prog 3 = some (.int .i64 0) := by kernel_rfl

theorem s_long (br : Nat) (S : RS) (g : Nat) (caps : Array Value) (s : List UInt8) (A : AH) (hR : Rules A br S) (hS : RSok S) (hs : s.length ≤ 1000000000) (hf : ∀ (i : Nat) B, i ≤ s.length → A.le B → B.wf → RetA Tryz.prog g (#[] ++ #[num ((i : Nat) : Int)] ++ caps) B (fun v B1 => v = .tuple #[byt (s.getD i 0), .bool (decide (i < s.length))] ∧ B = B1)) : RetA Tryz.prog 78 #[.pointer (some ⟨br, 0, none⟩), .func (.func g) #[] caps] A (fun v A1 => v = .tuple #[num (longF S.list s).1, num (((longF S.list s).2 : Nat) : Int)] ∧ A = A1) := by
 refine enterA (e := [(0, .pointer (some ⟨br, 0, none⟩)), (1, .func (.func g) #[] caps)]) (args := [.pointer (some ⟨br, 0, none⟩), .func (.func g) #[] caps]) Tryz.call78 Tryz.func78 rfl Tryz.results78 Tryz.ntmps78 rfl rfl rfl (fun wf => ?_)
 have le_ := AH.le.refl A
 obtain ⟨rwr, capr, lsv, nv, bl, hbr, hls, hnv, hN⟩ := hR
 have hzl : (bl.zip S.best).length = S.pf.length := by rw [List.length_zip, hN.1, hN.2.1, Nat.min_self]
 refine Run.seq fun K1 h2 => .region <| .q rfl (qassign rfl) <| .q rfl (qassign rfl) <| .nil <| h2 _ _ <| .seq fun K3 h4 => .region <| .q rfl (qassign rfl) <| .nil ?_
 refine h4 _ _ <| .seq fun K5 h6 => .region <| .q rfl (qassign rfl) <| .nil <| h6 _ _ <| .seq fun K7 h8 => .region <| .q rfl (qassign rfl) <| .nil ?_
 refine h8 _ _ <| .block <| .loop (X := Int × Nat × Nat × Nat) (fun ⟨f, sh, nd, i⟩ => [(0, .pointer (some ⟨br, 0, none⟩)), (1, .func (.func g) #[] caps), (4, num (f)), (5, num ((sh : Nat) : Int)), (6, num ((nd : Nat) : Int)), (7, num ((i : Nat) : Int))]) (fun ⟨f, sh, nd, i⟩ B => (i ≤ s.length ∧ s.take i ∈ S.pf ∧ nd = S.pf.idxOf (s.take i) ∧ (f, sh) = longU S.list s i) ∧ A = B) (fun ⟨f, sh, nd, i⟩ => s.length - i) (⟨-1, 0, 0, 0⟩) (EnvLe.cons rfl <| EnvLe.cons rfl <| EnvLe.cons rfl <| EnvLe.cons rfl <| EnvLe.cons rfl <| EnvLe.cons rfl <| EnvLe.nil _) (⟨⟨Nat.zero_le _, (hS.mem _).2 (.inl rfl), (by have h := hS.root; cases hl : S.pf with | nil => (rw [hl] at h; exact absurd h.2 (Nat.lt_irrefl 0)) | cons a t => (rw [hl] at h; have h2 : a = [] := h.1; subst h2; simp)), rfl⟩, rfl⟩) ?_
 rintro ⟨f, sh, nd, i⟩ B10 ⟨⟨hi, hp, hq, hu⟩, rfl⟩
 have hnd : nd < S.pf.length := hq ▸ idxOf_lt hp
 refine Run.seq fun K11 h12 => .block <| .seq fun K13 h14 => .region <| .q rfl (qmove rfl) <| .q rfl (qmove rfl) <| .l rfl (fun _ _ hk15 _ => vcall rfl rfl (hf i A (by omega) le_ wf) ?_)
 rintro v16 A17 ⟨rfl, rfl⟩
 refine hk15 _ _ <| .q rfl (qmove rfl) <| .q rfl (qextract rfl rfl) <| .q rfl (qextract rfl rfl) <| .q rfl (qassign rfl) <| .q rfl (qassign rfl) <| .nil <| h14 _ _ <| .seq fun K19 h20 => .seq fun K21 h22 => ?_
 refine Run.region <| .q rfl (qmove rfl) <| .q rfl (qnotP rfl) <| .nil <| h22 _ _ <| .if rfl (fun p23 => ?_) (fun p23 => ?_)
 ·
  refine Run.seq fun K24 h25 => .region <| .q rfl (qmove rfl) <| .q rfl (qmove rfl) <| .q rfl (qassign rfl) <| .q rfl (qassign rfl) <| .nil <| h25 _ _ <| .ret ?_
  repeat first | with_reducible refine thenQ_ret ?_ | with_reducible refine blockQ_ret ?_
  exact retQ rfl (⟨by first | (rw [longF, show s.length = i by omega, ← hu]; rfl) | (rw [← longU_stop hS (by omega) hmem, ← hu]; rfl), rfl⟩)
 ·
  refine Run.skip <| h20 _ _ <| .seq fun K26 h27 => .seq fun K28 h29 => .region <| .q rfl (qmove rfl) <| .q rfl (qnil rfl) <| .q rfl (qfieldAddr fl103_1 sz100 (by decide) rfl) <| .q rfl (qloadAt ag100 rfl rfl (le_.get _ _ hbr) rfl) <| .q rfl (qmove rfl) ?_
  obtain ⟨b30, f30, rw30, r30, rc30, n30, k30, e30, l30, g30, cl30, cs30⟩ := Slc.at (i := nd) (hnv.le le_) (by simp only [ncells_length]; omega) (by omega)
  refine Ops.q rfl (qindexS u100 sz99 rfl e30 rfl l30) <| .q rfl (qfieldAddr fl99_0 sz97 (by decide) rfl) <| .q rfl (qloadAt ag97 rfl rfl g30 ((cs30 0 (by decide)).trans (ncells_f0 (by omega)))) <| .q rfl (qmove rfl) ?_
  obtain ⟨rwm, es, clk, hgm, hE⟩ := hN.2.2 nd hnd
  refine Ops.l rfl (fun _ _ hk31 _ => wlookupB (q := s.take (i + 1)) rfl rfl u97 u5 z3 (by rw [RSok.blk_at ⟨hN.1, hN.2.1⟩ hnd]; exact le_.get _ _ hgm) hE (by rw [hq, getD_idxOf hp]; exact take_next (by omega)) (fun hmem => ?_) (fun hmem => ?_))
  ·
   refine hk31 _ _ <| .q rfl (qmove rfl) <| .q rfl (qextract rfl rfl) <| .q rfl (qextract rfl rfl) <| .q rfl (qassign rfl) <| .q rfl (qassign rfl) <| .nil <| h29 _ _ <| .seq fun K32 h33 => .region ?_
   refine Ops.q rfl (qmove rfl) <| .q rfl (qnot rfl) <| .nil <| h33 _ _ <| .cond_false rfl <| .skip <| h27 _ _ <| .seq fun K34 h35 => .region <| .q rfl (qmove rfl) ?_
   refine Ops.q rfl (qnil rfl) <| .q rfl (qfieldAddr fl103_1 sz100 (by decide) rfl) <| .q rfl (qloadAt ag100 rfl rfl (le_.get _ _ hbr) rfl) <| .q rfl (qmove rfl) ?_
   obtain ⟨b36, f36, rw36, r36, rc36, n36, k36, e36, l36, g36, cl36, cs36⟩ := Slc.at (i := S.pf.idxOf (s.take (i + 1))) (hnv.le le_) (by simp only [ncells_length]; have := idxOf_lt hmem; omega) (by omega)
   refine Ops.q rfl (qindexS u100 sz99 rfl e36 rfl l36) <| .q rfl (qfieldAddr fl99_1 sz3 (by decide) rfl) <| .q rfl (qloadAt ag3 rfl rfl g36 (((cs36 1 (by decide)).trans (ncells_f1 (by have := idxOf_lt hmem; omega))).trans (congrArg (fun z => some (num z)) (hS.best_at ⟨hN.1, hN.2.1⟩ hmem)))) <| .q rfl (qassign rfl) <| .nil <| h35 _ _ <| .seq fun K37 h38 => .region <| .q rfl (qmove rfl) <| .q rfl (qgeq rfl rfl) ?_
   refine Ops.nil <| h38 _ _ <| .if rfl (fun p39 => ?_) (fun p39 => ?_)
   ·
    refine Run.seq fun K40 h41 => .seq fun K42 h43 => .region <| .q rfl (qmove rfl) <| .q rfl (qlss rfl rfl) <| .nil <| h43 _ _ <| .if rfl (fun p44 => ?_) (fun p44 => ?_)
    ·
     refine Run.region <| .q rfl (qmove rfl) <| .q rfl (qmove rfl) <| .q rfl (qaddN (b := 1) rfl rfl (by omega)) <| .q rfl (qassign rfl) <| .q rfl (qassign rfl) <| .nil <| h41 _ _ <| .region <| .q rfl (qmove rfl) ?_
     refine Ops.q rfl (qmove rfl) <| .q rfl (qmin rfl rfl) <| .q rfl (qassign rfl) <| .nil <| h12 _ _ <| .region <| .q rfl (qmove rfl) <| .q rfl (qaddN (b := 1) rfl rfl (by omega)) <| .q rfl (qassign rfl) <| .nil ?_
     exact ⟨⟨(if (bestOf S.list (s.take (i + 1))) < (bestOf S.list (s.take (i + 1))) then (bestOf S.list (s.take (i + 1))) else (bestOf S.list (s.take (i + 1)))), i + 1, S.pf.idxOf (s.take (i + 1)), i + 1⟩, EnvLe.cons rfl <| EnvLe.cons rfl <| EnvLe.cons rfl <| EnvLe.cons rfl <| EnvLe.cons rfl <| EnvLe.cons rfl <| EnvLe.nil _, rfl, ⟨⟨by omega, hmem, rfl, by rw [longU, ← hu]; simp only [longStep]; first | (rw [if_pos ‹0 ≤ bestOf _ _›, if_pos ‹f < 0›, if_neg (Int.lt_irrefl _)]) | (rw [if_pos ‹0 ≤ bestOf _ _›, if_neg ‹¬ f < 0›]) | (rw [if_neg ‹_›])⟩, rfl⟩, (by (try dsimp only); omega)⟩
    ·
     refine Run.skip <| h41 _ _ <| .region <| .q rfl (qmove rfl) <| .q rfl (qmove rfl) <| .q rfl (qmin rfl rfl) <| .q rfl (qassign rfl) <| .nil <| h12 _ _ <| .region ?_
     refine Ops.q rfl (qmove rfl) <| .q rfl (qaddN (b := 1) rfl rfl (by omega)) <| .q rfl (qassign rfl) <| .nil ?_
     exact ⟨⟨(if (bestOf S.list (s.take (i + 1))) < (f) then (bestOf S.list (s.take (i + 1))) else (f)), sh, S.pf.idxOf (s.take (i + 1)), i + 1⟩, EnvLe.cons rfl <| EnvLe.cons rfl <| EnvLe.cons rfl <| EnvLe.cons rfl <| EnvLe.cons rfl <| EnvLe.cons rfl <| EnvLe.nil _, rfl, ⟨⟨by omega, hmem, rfl, by rw [longU, ← hu]; simp only [longStep]; first | (rw [if_pos ‹0 ≤ bestOf _ _›, if_pos ‹f < 0›, if_neg (Int.lt_irrefl _)]) | (rw [if_pos ‹0 ≤ bestOf _ _›, if_neg ‹¬ f < 0›]) | (rw [if_neg ‹_›])⟩, rfl⟩, (by (try dsimp only); omega)⟩
   ·
    refine Run.skip <| h12 _ _ <| .region <| .q rfl (qmove rfl) <| .q rfl (qaddN (b := 1) rfl rfl (by omega)) <| .q rfl (qassign rfl) <| .nil ?_
    exact ⟨⟨(f), sh, S.pf.idxOf (s.take (i + 1)), i + 1⟩, EnvLe.cons rfl <| EnvLe.cons rfl <| EnvLe.cons rfl <| EnvLe.cons rfl <| EnvLe.cons rfl <| EnvLe.cons rfl <| EnvLe.nil _, rfl, ⟨⟨by omega, hmem, rfl, by rw [longU, ← hu]; simp only [longStep]; first | (rw [if_pos ‹0 ≤ bestOf _ _›, if_pos ‹f < 0›, if_neg (Int.lt_irrefl _)]) | (rw [if_pos ‹0 ≤ bestOf _ _›, if_neg ‹¬ f < 0›]) | (rw [if_neg ‹_›])⟩, rfl⟩, (by (try dsimp only); omega)⟩
  ·
   refine hk31 _ _ <| .q rfl (qmove rfl) <| .q rfl (qextract rfl rfl) <| .q rfl (qextract rfl rfl) <| .q rfl (qassign rfl) <| .q rfl (qassign rfl) <| .nil <| h29 _ _ <| .seq fun K45 h46 => .region ?_
   refine Ops.q rfl (qmove rfl) <| .q rfl (qnot rfl) <| .nil <| h46 _ _ <| .cond_true rfl <| .seq fun K47 h48 => .region <| .q rfl (qmove rfl) <| .q rfl (qmove rfl) <| .q rfl (qassign rfl) ?_
   refine Ops.q rfl (qassign rfl) <| .nil <| h48 _ _ <| .ret ?_
   repeat first | with_reducible refine thenQ_ret ?_ | with_reducible refine blockQ_ret ?_
   exact retQ rfl (⟨by first | (rw [longF, show s.length = i by omega, ← hu]; rfl) | (rw [← longU_stop hS (by omega) hmem, ← hu]; rfl), rfl⟩)

theorem s_at1 (i p : Nat) (l : List UInt8) (lv rv dv : Value) (b0 b1 b2 cap cap1 cap2 : Nat) (rw rw1 rw2 : Bool) (A : AH) (hi : p + i ≤ 1000000000) (gb1 : A.get b1 = some (.row rw1 [num ((p : Nat) : Int)] cap1)) (gb2 : A.get b2 = some (.row rw2 [.pointer (some ⟨b0, 0, none⟩)] cap2)) (gb0 : A.get b0 = some (.row rw [lv, rv, dv] cap)) (gl : Slc A 1 lv (byteCells l)) : RetA Tryz.prog 112 #[num ((i : Nat) : Int), .pointer (some ⟨b1, 0, none⟩), .pointer (some ⟨b2, 0, none⟩)] A (fun v A1 => v = .tuple #[byt ((l.drop p).getD i 0), .bool (decide (i < (l.drop p).length))] ∧ A = A1) := by
 refine enterA (e := [(0, num ((i : Nat) : Int)), (1, .pointer (some ⟨b1, 0, none⟩)), (2, .pointer (some ⟨b2, 0, none⟩))]) (args := [num ((i : Nat) : Int), .pointer (some ⟨b1, 0, none⟩), .pointer (some ⟨b2, 0, none⟩)]) Tryz.call112 Tryz.func112 rfl Tryz.results112 Tryz.ntmps112 rfl rfl rfl (fun wf => ?_)
 have le_ := AH.le.refl A
 refine Run.seq fun K1 h2 => .region <| .q rfl (qassign rfl) <| .q rfl (qassign rfl) <| .nil <| h2 _ _ <| .seq fun K3 h4 => .seq fun K5 h6 => .drawn [0, 1, 2, 3, 4, 5, 6, 7, 8, 9] mixed (by kernel_rfl) (by kernel_rfl) rfl <| .q rfl rfl rfl (qloadAt ag3 rfl rfl (le_.get _ _ gb1) rfl) ?_
 refine DOps.q rfl rfl rfl (qmove rfl) <| .q rfl rfl rfl (qaddN rfl rfl (by omega)) <| .q rfl rfl rfl (qloadAt ag107 rfl rfl (le_.get _ _ gb2) rfl) <| .q rfl rfl rfl (qnil rfl) <| .q rfl rfl rfl (qfieldAddr fl111_0 sz109 (by decide) rfl) <| .q rfl rfl rfl (qfieldAddr fl109_0 sz80 (by decide) rfl) <| .q rfl rfl rfl (qloadAt ag80 rfl rfl (le_.get _ _ gb0) rfl) <| .q rfl rfl rfl (qlenS (n := l.length) u80 rfl (gl.le le_) (by omega) (bytes_len _)) <| .q rfl rfl rfl (qgeqN rfl rfl) <| .done ?_
 refine h6 _ _ <| .if rfl (fun p10 => ?_) (fun p10 => ?_)
 ·
  refine Run.seq fun K11 h12 => .region <| .q rfl (qassign rfl) <| .q rfl (qassign rfl) <| .nil <| h12 _ _ <| .ret ?_
  repeat first | with_reducible refine thenQ_ret ?_ | with_reducible refine blockQ_ret ?_
  exact retQ rfl (⟨by first | (rw [(at_none (l := l) (p := p) (i := i) (by omega)).1, (at_none (l := l) (p := p) (i := i) (by omega)).2]; rfl) | (rw [(at_some (l := l) (p := p) (i := i) (by omega)).1, (at_some (l := l) (p := p) (i := i) (by omega)).2]; rfl), rfl⟩)
 ·
  refine Run.skip <| h4 _ _ <| .seq fun K13 h14 => .drawn [0, 1, 2, 3, 4, 5, 6, 7, 8, 9, 10, 11] mixed (by kernel_rfl) (by kernel_rfl) rfl <| .q rfl rfl rfl (qloadAt ag107 rfl rfl (le_.get _ _ gb2) rfl) <| .q rfl rfl rfl (qnil rfl) <| .q rfl rfl rfl (qfieldAddr fl111_0 sz109 (by decide) rfl) <| .q rfl rfl rfl (qfieldAddr fl109_0 sz80 (by decide) rfl) <| .q rfl rfl rfl (qloadAt ag80 rfl rfl (le_.get _ _ gb0) rfl) <| .q rfl rfl rfl (qloadAt ag3 rfl rfl (le_.get _ _ gb1) rfl) ?_
  refine DOps.q rfl rfl rfl (qmove rfl) <| .q rfl rfl rfl (qaddN rfl rfl (by omega)) ?_
  obtain ⟨b18, f18, rw18, r18, rc18, n18, k18, e18, l18, g18, cl18, cs18⟩ := Slc.at (i := p + i) (gl.le le_) (by simp only [bytes_length]; omega) (by omega)
  refine DOps.q rfl rfl rfl (qindexS u80 sz5 rfl e18 rfl l18) <| .q rfl rfl rfl (qloadAt ag5 rfl rfl g18 ((elt0 cs18).trans (bytes_get (by omega)))) <| .q rfl rfl rfl (qassign rfl) <| .q rfl rfl rfl (qassign rfl) <| .done <| h14 _ _ <| .ret ?_
  repeat first | with_reducible refine thenQ_ret ?_ | with_reducible refine blockQ_ret ?_
  exact retQ rfl (⟨by first | (rw [(at_none (l := l) (p := p) (i := i) (by omega)).1, (at_none (l := l) (p := p) (i := i) (by omega)).2]; rfl) | (rw [(at_some (l := l) (p := p) (i := i) (by omega)).1, (at_some (l := l) (p := p) (i := i) (by omega)).2]; rfl), rfl⟩)

theorem s_push (w l : List UInt8) (lv rv dv : Value) (b0 : Nat) (A0 A : AH) (le_ : A0.le A) (wf0 : A0.wf) (hb : A.get b0 = some (.row true [lv, rv, dv] 3)) (no0 : A0.get b0 = none) (fr : Fresh A0 A lv 1 (byteCells l)) (ne0 : blk lv ≠ some b0) (hw : w.length ≤ 1000000) (hl : l.length ≤ 1000000000) : RetA Tryz.prog 61 #[.pointer (some ⟨b0, 0, none⟩), str (w)] A (fun v A1 => ∃ lv2, v = .tuple #[] ∧ A0.le A1 ∧ A1.wf ∧ A1.get b0 = some (.row true [lv2, rv, dv] 3) ∧ Fresh A0 A1 lv2 1 (byteCells (w.foldl push l)) ∧ blk lv2 ≠ some b0) := by
 refine enterA (e := [(0, .pointer (some ⟨b0, 0, none⟩)), (1, str (w))]) (args := [.pointer (some ⟨b0, 0, none⟩), str (w)]) Tryz.call61 Tryz.func61 rfl Tryz.results61 Tryz.ntmps61 rfl rfl rfl (fun wf => ?_)
 refine Run.seq fun K1 h2 => .region <| .q rfl (qmove rfl) <| .q rfl (qslen u9 rfl) <| .q rfl (qmove rfl) <| .nil <| h2 _ _ <| .block <| .loop (X := Nat × List UInt8 × Value) (fun ⟨k, x, s⟩ => [(0, .pointer (some ⟨b0, 0, none⟩)), (1, str (w)), (7, num ((w.length : Nat) : Int)), (8, num ((k : Nat) : Int))]) (fun ⟨k, x, s⟩ B => (k ≤ w.length ∧ (w.drop k).foldl push x = w.foldl push l ∧ x.length ≤ l.length + k) ∧ A0.le B ∧ Fresh A0 B s 1 (byteCells x) ∧ B.get b0 = some (.row true [s, rv, dv] 3) ∧ V.blk s ≠ some b0) (fun ⟨k, x, s⟩ => w.length - k) (⟨0, l, lv⟩) (EnvLe.cons rfl <| EnvLe.cons rfl <| EnvLe.cons rfl <| EnvLe.cons rfl <| EnvLe.nil _) (⟨⟨Nat.zero_le _, rfl, Nat.le_refl _⟩, le_, fr, hb, ne0⟩) ?_
 rintro ⟨k, x, s⟩ B4 ⟨⟨hk, ha3, ha4⟩, le3, fr_s3, hr_b03, no_s_b03⟩
 refine Run.wf fun wf5 => .seq fun K6 h7 => .region <| .q rfl (qlssN rfl rfl) <| .nil <| h7 _ _ <| .seq fun K8 h9 => .if rfl (fun p10 => ?_) (fun p10 => ?_)
 ·
  refine Run.skip <| h9 _ _ <| .seq fun K11 h12 => .block <| .seq fun K13 h14 => .region <| .q rfl (qmove rfl) <| .q rfl (qassign rfl) <| .nil <| h14 _ _ ?_
  refine Run.seq fun K15 h16 => .region <| .q rfl (qmove rfl) <| .q rfl (qnil rfl) <| .q rfl (qfieldAddr fl109_0 sz80 (by decide) rfl) <| .q rfl (qloadAt ag80 rfl rfl hr_b03 rfl) <| .q rfl (qlenS (n := x.length) u80 rfl fr_s3.slc (by omega) (bytes_len _)) <| .q rfl (qassign rfl) <| .nil <| h16 _ _ ?_
  refine Run.join (fun f A1 => EnvLe [(32, .bool (decide (0 < x.length ∧ x.getD (x.length - 1) 0 = w.getD k 0 ^^^ 32))), (0, .pointer (some ⟨b0, 0, none⟩)), (1, str (w)), (7, num ((w.length : Nat) : Int)), (8, num ((k : Nat) : Int)), (9, .bool (decide (k < w.length))), (10, num ((k : Nat) : Int)), (4, num ((k : Nat) : Int)), (11, .pointer (some ⟨b0, 0, none⟩)), (12, .pointer (some ⟨b0, 0, none⟩)), (13, .pointer (some ⟨b0, 0, none⟩)), (14, s), (15, num ((x.length : Nat) : Int)), (5, num ((x.length : Nat) : Int))] f.e ∧ f.ds = [] ∧ B4 = A1) ?_ ?_
  ·
   refine Run.drawn [0, 1, 2, 3, 4, 5, 6, 7, 8, 9, 10, 11, 12, 13, 14, 15, 16] mixed (by kernel_rfl) (by kernel_rfl) rfl <| .q rfl rfl rfl (qmove rfl) <| .q rfl rfl rfl (qgtrN (b := 0) rfl rfl) <| .q rfl rfl rfl (qmove rfl) <| .part (t := 18) rfl (fun p19 => ?_) (fun p19 => ?_)
   ·
    refine DOps.qOn rfl rfl rfl rfl rfl (qmove rfl) <| .qOn rfl rfl rfl rfl rfl (qnil rfl) <| .qOn rfl rfl rfl rfl rfl (qfieldAddr fl109_0 sz80 (by decide) rfl) <| .qOn rfl rfl rfl rfl rfl (qloadAt ag80 rfl rfl hr_b03 rfl) <| .qOn rfl rfl rfl rfl rfl (qmove rfl) <| .qOn rfl rfl rfl rfl rfl (qsubN (b := 1) rfl rfl (by omega)) ?_
    obtain ⟨b21, f21, rw21, r21, rc21, n21, k21, e21, l21, g21, cl21, cs21⟩ := Slc.at (i := x.length - 1) fr_s3.slc (by simp only [bytes_length]; omega) (by omega)
    refine DOps.qOn rfl rfl rfl rfl rfl (qindexS u80 sz5 rfl e21 rfl l21) <| .qOn rfl rfl rfl rfl rfl (qloadAt ag5 rfl rfl g21 ((elt0 cs21).trans (bytes_get (by omega)))) <| .qOn rfl rfl rfl rfl rfl (qmove rfl) <| .qOn rfl rfl rfl rfl rfl (qmove rfl) <| .qOn rfl rfl rfl rfl rfl (qsix u9 rfl rfl (by omega)) <| .qOn rfl rfl rfl rfl rfl (qxorB (d := 32) rfl rfl) <| .qOn rfl rfl rfl rfl rfl (qeqlB rfl rfl) <| .q rfl rfl rfl (qpickT rfl rfl) <| .done ?_
    exact ⟨EnvLe.cons (show some _ = some _ from congrArg (fun b => some (Value.bool b)) (show (decide ((x.getD (x.length - 1) 0) = ((w.getD k 0) ^^^ 32))) = decide (0 < x.length ∧ x.getD (x.length - 1) 0 = w.getD k 0 ^^^ 32) from (by first | rfl | simp only [‹0 < _›, true_and] | simp only [‹¬ 0 < _›, false_and, decide_false]))) <| EnvLe.cons rfl <| EnvLe.cons rfl <| EnvLe.cons rfl <| EnvLe.cons rfl <| EnvLe.cons rfl <| EnvLe.cons rfl <| EnvLe.cons rfl <| EnvLe.cons rfl <| EnvLe.cons rfl <| EnvLe.cons rfl <| EnvLe.cons rfl <| EnvLe.cons rfl <| EnvLe.cons rfl <| EnvLe.nil _, rfl, rfl⟩
   ·
    refine DOps.qOff rfl rfl rfl rfl rfl rfl <| .qOff rfl rfl rfl rfl rfl rfl <| .qOff rfl rfl rfl rfl rfl rfl <| .qOff rfl rfl rfl rfl rfl rfl <| .qOff rfl rfl rfl rfl rfl rfl <| .qOff rfl rfl rfl rfl rfl rfl <| .qOff rfl rfl rfl rfl rfl rfl <| .qOff rfl rfl rfl rfl rfl rfl <| .qOff rfl rfl rfl rfl rfl rfl <| .qOff rfl rfl rfl rfl rfl rfl ?_
    refine DOps.qOff rfl rfl rfl rfl rfl rfl <| .qOff rfl rfl rfl rfl rfl rfl <| .qOff rfl rfl rfl rfl rfl rfl <| .q rfl rfl rfl (qpickF rfl rfl) <| .done ?_
    exact ⟨EnvLe.cons (show some _ = some _ from congrArg (fun b => some (Value.bool b)) (show (false) = decide (0 < x.length ∧ x.getD (x.length - 1) 0 = w.getD k 0 ^^^ 32) from (by first | rfl | simp only [‹0 < _›, true_and] | simp only [‹¬ 0 < _›, false_and, decide_false]))) <| EnvLe.cons rfl <| EnvLe.cons rfl <| EnvLe.cons rfl <| EnvLe.cons rfl <| EnvLe.cons rfl <| EnvLe.cons rfl <| EnvLe.cons rfl <| EnvLe.cons rfl <| EnvLe.cons rfl <| EnvLe.cons rfl <| EnvLe.cons rfl <| EnvLe.cons rfl <| EnvLe.cons rfl <| EnvLe.nil _, rfl, rfl⟩
  ·
   rintro ⟨fe, fd⟩ _ ⟨hE, rfl, rfl⟩
   refine Run.forget hE <| .if rfl (fun p23 => ?_) (fun p23 => ?_)
   ·
    refine Run.region <| .q rfl (qmove rfl) <| .q rfl (qmove rfl) <| .q rfl (qnil rfl) <| .q rfl (qfieldAddr fl109_0 sz80 (by decide) rfl) <| .q rfl (qloadAt ag80 rfl rfl hr_b03 rfl) <| .q rfl (qmove rfl) <| .q rfl (qsubN (b := 1) rfl rfl (by omega)) ?_
    obtain ⟨b24, n24, c24, q24, m24, d24⟩ := fr_s3.nonnil (by intro q; have := congrArg List.length q; simp only [bytes_length, List.length_nil] at this; omega)
    subst q24
    rw [bytes_length, Nat.mul_one] at m24
    have fr25 := fr_s3.take (k := x.length - 1) (by omega)
    rw [Nat.mul_one, bytes_take] at fr25
    refine Ops.q rfl (qsliceHi u80 sz5 rfl rfl (by omega)) <| .q rfl (qnil rfl) <| .q rfl (qfieldAddr fl109_0 sz80 (by decide) rfl) <| .l rfl (fun _ _ hk26 _ => wstore (cs := [.slice (some ⟨b24, 0, none⟩) (x.length - 1) c24]) (c' := [.slice (some ⟨b24, 0, none⟩) (x.length - 1) c24, rv, dv]) wf5 rfl rfl rfl rfl sz80 hr_b03 (Nat.le_of_ble_eq_true rfl) rfl rfl fun A27 sb28 => ?_)
    have fr30 := fr25.keep sb28.keep no_s_b03
    have le31 := le_store le3 wf0 no0 sb28.n sb28.keep
    refine hk26 _ _ <| .nil <| h12 _ _ <| .region <| .q rfl (qaddN (b := 1) rfl rfl (by omega)) <| .q rfl (qmove rfl) <| .nil ?_
    exact ⟨⟨k + 1, x.take (x.length - 1), .slice (some ⟨b24, 0, none⟩) (x.length - 1) c24⟩, EnvLe.cons rfl <| EnvLe.cons rfl <| EnvLe.cons rfl <| EnvLe.cons rfl <| EnvLe.nil _, rfl, ⟨⟨by omega, by first | exact push_go (by assumption) ha3 ‹_› | exact push_no (by assumption) ha3 ‹_›, by simp only [List.length_append, List.length_take, List.length_cons, List.length_nil]; omega⟩, le31, fr30, sb28.get, no_s_b03⟩, (by (try dsimp only); omega)⟩
   ·
    refine Run.drawn [0, 1, 2, 3, 4, 5, 6, 7, 8, 9, 10, 11, 12] mixed (by kernel_rfl) (by kernel_rfl) rfl <| .q rfl rfl rfl (qmove rfl) <| .q rfl rfl rfl (qmove rfl) <| .q rfl rfl rfl (qnil rfl) <| .q rfl rfl rfl (qfieldAddr fl109_0 sz80 (by decide) rfl) ?_
    have hc32 := cellOf (off := 0) hr_b03 (show _ = some (s) from rfl)
    refine DOps.q rfl rfl rfl (qloadAt ag80 rfl rfl hr_b03 rfl) <| .q rfl rfl rfl (qmove rfl) <| .q rfl rfl rfl (qmove rfl) <| .q rfl rfl rfl (qsix u9 rfl rfl (by omega)) <| .l rfl rfl rfl (fun _ _ hk33 _ => wbuildSlice (c := [byt (w.getD k 0)]) wf5 rfl (buildSliceV_of u80 sz5 z5 rfl (by decide) (by decide) rfl) fun A35 b34 nb36 => ?_)
    have h38 := nb36.le.get _ _ hr_b03
    have fr39 := fr_s3.le nb36.le
    have hc40 := cell_le nb36.le hc32
    have le41 := le3.trans nb36.le
    refine hk33 _ _ (HeldNow.list (L := [(⟨b0, 0, none⟩, s)]) (by kernel_rfl) (heldCons hc40 heldNil)) <| .l rfl rfl rfl (fun _ _ hk42 _ => wappend (ys := [byt (w.getD k 0)]) rfl rfl u80 sz5 inf5 z5 rfl (by decide) u80 (fun _ h => by cases h) fr39.own (listOf_row (n := 1) nb36.get rfl) rfl rfl (by show (_ + _) * 1 ≤ _; simp only [bytes_length, List.length_cons, List.length_nil]; (try simp only [List.length_append, List.length_cons, List.length_nil]); omega) (by simp only [bytes_length, List.length_cons, List.length_nil]; (try simp only [List.length_append, List.length_cons, List.length_nil]); omega) fun A43 v44 ap45 => ?_)
    rw [show ([byt (w.getD k 0)] : List Value) = byteCells [w.getD k 0] from rfl, bytes_append] at ap45
    obtain ⟨fr48, le49⟩ := Fresh.grow fr39 le41 wf0 ap45
    have h50 := ap45.keep no_s_b03 h38
    have ne51 := ap45.ne no_s_b03 nb36.wf h38
    refine hk42 _ _ (HeldNow.none (by kernel_rfl)) <| .q rfl rfl rfl (qnil rfl) <| .q rfl rfl rfl (qfieldAddr fl109_0 sz80 (by decide) rfl) ?_
    obtain ⟨p54, l54, c54, q54, _⟩ := fr48.own.slice
    subst q54
    refine DOps.l rfl rfl rfl (fun _ _ hk53 _ => wstore (cs := [.slice p54 l54 c54]) (c' := [.slice p54 l54 c54, rv, dv]) ap45.wf rfl rfl rfl rfl sz80 h50 (Nat.le_of_ble_eq_true rfl) rfl rfl fun A55 sb56 => ?_)
    have fr57 := fr48.keep sb56.keep ne51
    have le58 := le_store le49 wf0 no0 sb56.n sb56.keep
    refine hk53 _ _ (HeldNow.none (by kernel_rfl)) <| .done <| h12 _ _ <| .region <| .q rfl (qaddN (b := 1) rfl rfl (by omega)) <| .q rfl (qmove rfl) <| .nil ?_
    exact ⟨⟨k + 1, x ++ [w.getD k 0], .slice p54 l54 c54⟩, EnvLe.cons rfl <| EnvLe.cons rfl <| EnvLe.cons rfl <| EnvLe.cons rfl <| EnvLe.nil _, rfl, ⟨⟨by omega, by first | exact push_go (by assumption) ha3 ‹_› | exact push_no (by assumption) ha3 ‹_›, by simp only [List.length_append, List.length_take, List.length_cons, List.length_nil]; omega⟩, le58, fr57, sb56.get, ne51⟩, (by (try dsimp only); omega)⟩
 ·
  refine Run.exit ?_
  repeat first | with_reducible refine thenQ_ret ?_ | with_reducible refine blockQ_ret ?_
  repeat first | with_reducible refine thenQ_exit ?_ | with_reducible refine blockQ_same ?_ | with_reducible refine blockQ_other (by decide) ?_ | with_reducible refine noGotoQ_exit ?_ | with_reducible refine noGotoQ_normal ?_
  exact retQn (vs := []) rfl (⟨_, rfl, le3, wf5, hr_b03, fresh_eq fr_s3 (congrArg byteCells (by rw [drop_end (by omega)] at ha3; exact ha3)), no_s_b03⟩)

theorem s_at (b0 p : Nat) (A : AH) : RetA Tryz.prog 95 #[.pointer (some ⟨b0, 0, none⟩), num ((p : Nat) : Int)] A (fun v A1 => ∃ b2 b1, v = .func (.func 112) #[] #[.pointer (some ⟨b1, 0, none⟩), .pointer (some ⟨b2, 0, none⟩)] ∧ A.le A1 ∧ A1.wf ∧ A1.get b1 = some (.row true [num ((p : Nat) : Int)] 1) ∧ A1.get b2 = some (.row true [.pointer (some ⟨b0, 0, none⟩)] 1)) := by
 refine enterA (e := [(0, .pointer (some ⟨b0, 0, none⟩)), (1, num ((p : Nat) : Int))]) (args := [.pointer (some ⟨b0, 0, none⟩), num ((p : Nat) : Int)]) Tryz.call95 Tryz.func95 rfl Tryz.results95 Tryz.ntmps95 rfl rfl rfl (fun wf => ?_)
 have le_ := AH.le.refl A
 refine Run.seq fun K1 h2 => .region <| .l rfl (fun _ _ hk3 _ => wbox wf rfl rfl fun A5 b4 nb6 => ?_)
 have le7 := le_.trans nb6.le
 refine hk3 _ _ <| .l rfl (fun _ _ hk8 _ => wbox nb6.wf rfl rfl fun A10 b9 nb11 => ?_)
 have h12 := nb11.le.get _ _ nb6.get
 have le13 := le7.trans nb11.le
 refine hk8 _ _ <| .q rfl (qassign rfl) <| .nil <| h2 _ _ <| .seq fun K14 h15 => .region <| .q rfl (qfunc rfl rfl) <| .q rfl (qassign rfl) <| .nil <| h15 _ _ ?_
 refine Run.ret ?_
 repeat first | with_reducible refine thenQ_ret ?_ | with_reducible refine blockQ_ret ?_
 exact retQ rfl (⟨_, _, rfl, le13, nb11.wf, nb11.get, h12⟩)
end Go.Proofs.YtaccklloepfemaaGreatDoor

namespace Go.Proofs.YtaccklloepfemaaGreatDoor
open Go Go.RowKit V
set_option maxRecDepth 100000
set_option linter.unusedVariables false
set_option linter.unusedSimpArgs false
theorem ag101 : aggOf Tryz.prog 101 = some false := by kernel_rfl
theorem ag36 : aggOf Tryz.prog 36 = some true := by kernel_rfl
theorem ag65 : aggOf Tryz.prog 65 = some false := by kernel_rfl
theorem ag95 : aggOf Tryz.prog 95 = some true := by kernel_rfl
theorem fl103_0 : fldOf Tryz.prog 103 0 = some (101, 0) := by kernel_rfl
theorem fl103_2 : fldOf Tryz.prog 103 2 = some (3, 2) := by kernel_rfl
theorem fl111_1 : fldOf Tryz.prog 111 1 = some (65, 1) := by kernel_rfl
theorem fl111_2 : fldOf Tryz.prog 111 2 = some (34, 2) := by kernel_rfl
theorem fl95_0 : fldOf Tryz.prog 95 0 = some (9, 0) := by kernel_rfl
theorem fl95_1 : fldOf Tryz.prog 95 1 = some (9, 1) := by kernel_rfl
theorem fl95_2 : fldOf Tryz.prog 95 2 = some (3, 2) := by kernel_rfl
theorem fl95_3 : fldOf Tryz.prog 95 3 = some (4, 3) := by kernel_rfl
theorem inf79 : Tryz.prog.info? 79 = some Tryz.t79 := by kernel_rfl
theorem pl111 : structPlaces Tryz.prog 111 = some [(0, 1), (1, 1), (2, 1)] := by kernel_rfl
theorem pl36 : structPlaces Tryz.prog 36 = some [(0, 1), (1, 1), (2, 1)] := by kernel_rfl
theorem pl79 : structPlaces Tryz.prog 79 = some [(0, 1), (1, 1), (2, 1)] := by kernel_rfl
theorem sz101 : szOf Tryz.prog 101 = some 1 := by kernel_rfl
theorem sz36 : szOf Tryz.prog 36 = some 3 := by kernel_rfl
theorem sz65 : szOf Tryz.prog 65 = some 1 := by kernel_rfl
theorem sz95 : szOf Tryz.prog 95 = some 4 := by kernel_rfl
theorem u101 : type_of% @Tryz.underlying101 := @Tryz.underlying101
theorem u111 : type_of% @Tryz.underlying111 := @Tryz.underlying111
theorem u36 : type_of% @Tryz.underlying36 := @Tryz.underlying36
theorem u79 : type_of% @Tryz.underlying79 := @Tryz.underlying79
theorem z111 : zeroOf Tryz.prog 111 = some (.agg #[.slice none 0 0, .pointer none, .slice none 0 0]) := by kernel_rfl
theorem z36 : zeroOf Tryz.prog 36 = some (.agg #[.string ⟨⟨[]⟩⟩, .int .i64 0, .slice none 0 0]) := by kernel_rfl

theorem s_put (w l : List UInt8) (low : Nat) (lv rv dv : Value) (b0 b1 b2 cap1 : Nat) (rw1 : Bool) (A0 A : AH) (le_ : A0.le A) (wf0 : A0.wf) (hb : A.get b0 = some (.row true [lv, rv, dv] 3)) (no0 : A0.get b0 = none) (hc : A.get b2 = some (.row true [num ((low : Nat) : Int)] 1)) (no2 : A0.get b2 = none) (fr : Fresh A0 A lv 1 (byteCells l)) (ne0 : blk lv ≠ some b0) (ne2 : blk lv ≠ some b2) (ne_b0_b2 : b0 ≠ b2) (gb1 : A0.get b1 = some (.row rw1 [.pointer (some ⟨b0, 0, none⟩)] cap1)) (hw : w.length ≤ 500000) (hl : l.length ≤ 500000000) : RetA Tryz.prog 113 #[str (w), .pointer (some ⟨b1, 0, none⟩), .pointer (some ⟨b2, 0, none⟩)] A (fun v A1 => ∃ lv2, v = .tuple #[] ∧ A0.le A1 ∧ A1.wf ∧ A1.get b0 = some (.row true [lv2, rv, dv] 3) ∧ A1.get b2 = some (.row true [num (((putF (l, low) w).2 : Nat) : Int)] 1) ∧ Fresh A0 A1 lv2 1 (byteCells (putF (l, low) w).1) ∧ blk lv2 ≠ some b0 ∧ blk lv2 ≠ some b2) := by
 refine enterA (e := [(0, str (w)), (1, .pointer (some ⟨b1, 0, none⟩)), (2, .pointer (some ⟨b2, 0, none⟩))]) (args := [str (w), .pointer (some ⟨b1, 0, none⟩), .pointer (some ⟨b2, 0, none⟩)]) Tryz.call113 Tryz.func113 rfl Tryz.results113 Tryz.ntmps113 rfl rfl rfl (fun wf => ?_)
 refine Run.seq fun K1 h2 => .region <| .q rfl (qmove rfl) <| .q rfl (qslen u9 rfl) <| .q rfl (qmove rfl) <| .nil <| h2 _ _ <| .block <| .loop (X := Nat × List UInt8 × Nat × Value) (fun ⟨k, x, lo, s⟩ => [(0, str (w)), (1, .pointer (some ⟨b1, 0, none⟩)), (2, .pointer (some ⟨b2, 0, none⟩)), (6, num ((w.length : Nat) : Int)), (7, num ((k : Nat) : Int))]) (fun ⟨k, x, lo, s⟩ B => (k ≤ w.length ∧ putF (x, lo) (w.drop k) = putF (l, low) w ∧ x.length ≤ l.length + k) ∧ A0.le B ∧ Fresh A0 B s 1 (byteCells x) ∧ B.get b2 = some (.row true [num ((lo : Nat) : Int)] 1) ∧ B.get b0 = some (.row true [s, rv, dv] 3) ∧ V.blk s ≠ some b2 ∧ V.blk s ≠ some b0) (fun ⟨k, x, lo, s⟩ => w.length - k) (⟨0, l, low, lv⟩) (EnvLe.cons rfl <| EnvLe.cons rfl <| EnvLe.cons rfl <| EnvLe.cons rfl <| EnvLe.cons rfl <| EnvLe.nil _) (⟨⟨Nat.zero_le _, rfl, Nat.le_refl _⟩, le_, (fresh_eq fr (congrArg byteCells ((by first | rfl | (rw [letter_of (by omega)]; rfl))))), hc, hb, ne2, ne0⟩) ?_
 rintro ⟨k, x, lo, s⟩ B4 ⟨⟨hk, hput, hxl⟩, le3, fr_s3, hr_b23, hr_b03, no_s_b23, no_s_b03⟩
 refine Run.wf fun wf5 => .seq fun K6 h7 => .region <| .q rfl (qlssN rfl rfl) <| .nil <| h7 _ _ <| .seq fun K8 h9 => .if rfl (fun p10 => ?_) (fun p10 => ?_)
 ·
  refine Run.skip <| h9 _ _ <| .seq fun K11 h12 => .block <| .seq fun K13 h14 => .region <| .q rfl (qmove rfl) <| .q rfl (qassign rfl) <| .nil <| h14 _ _ ?_
  refine Run.seq fun K15 h16 => .drawn [0, 1, 2, 3, 4, 5, 6, 7, 8] mixed (by kernel_rfl) (by kernel_rfl) rfl <| .q rfl rfl rfl (qloadAt ag107 rfl rfl (le3.get _ _ gb1) rfl) <| .q rfl rfl rfl (qnil rfl) <| .q rfl rfl rfl (qfieldAddr fl111_0 sz109 (by decide) rfl) <| .q rfl rfl rfl (qmove rfl) <| .q rfl rfl rfl (qmove rfl) <| .q rfl rfl rfl (qmove rfl) <| .q rfl rfl rfl (qaddN (b := 1) rfl rfl (by omega)) <| .q rfl rfl rfl (qsl u9 rfl rfl rfl (by omega)) ?_
  have le22 := le_hide (bs := [some b0, blk s]) le3 (hoB no0 (hoV fr_s3.lo ho0))
  refine DOps.l rfl rfl rfl (fun _ _ hk18 _ => vcallF rfl (s_push ((w.take (k + 1)).drop k) x s rv dv b0 (B4.hide [some b0, blk s]) B4 (hide_le B4 [some b0, blk s]) (hide_wf wf5) hr_b03 (hide_none (by simp)) (fr_s3.hide (by simp)) no_s_b03 (by rw [List.length_drop, List.length_take]; omega) (by omega)) ?_)
  rintro v19 A20 ⟨lvq21, rfl, leq21, wfq21, hrq21_b0, foq21_0, neq21_0_b0⟩
  have hg23 := hide_get (bs := [some b0, blk s]) hr_b23 (nmB ne_b0_b2.symm (nmV no_s_b23 nm0))
  have h24 := leq21.get _ _ hg23
  have fr25 := foq21_0.base le22
  have no26 := foq21_0.seph hg23
  have le27 := le22.trans leq21
  refine hk18 _ _ (HeldNow.none (by kernel_rfl)) <| .done <| h16 _ _ <| .drawn [0, 1, 2, 3, 4, 5, 6, 7, 8] mixed (by kernel_rfl) (by kernel_rfl) rfl <| .q rfl rfl rfl (qloadAt ag3 rfl rfl h24 rfl) <| .q rfl rfl rfl (qloadAt ag107 rfl rfl (le27.get _ _ gb1) rfl) <| .q rfl rfl rfl (qnil rfl) <| .q rfl rfl rfl (qfieldAddr fl111_0 sz109 (by decide) rfl) <| .q rfl rfl rfl (qfieldAddr fl109_0 sz80 (by decide) rfl) <| .q rfl rfl rfl (qloadAt ag80 rfl rfl hrq21_b0 rfl) ?_
  refine DOps.q rfl rfl rfl (qlenS (n := (((w.take (k + 1)).drop k).foldl push x).length) u80 rfl fr25.slc (by omega) (bytes_len _)) <| .q rfl rfl rfl (qminN rfl rfl) <| .l rfl rfl rfl (fun _ _ hk31 _ => wstore (cs := [num ((min lo ((((w.take (k + 1)).drop k).foldl push x).length) : Nat) : Int)]) (c' := [num ((min lo ((((w.take (k + 1)).drop k).foldl push x).length) : Nat) : Int)]) wfq21 rfl rfl rfl rfl sz3 h24 (Nat.le_of_ble_eq_true rfl) rfl rfl fun A32 sb33 => ?_)
  have h34 := sb33.keep _ _ ne_b0_b2 hrq21_b0
  have fr35 := fr25.keep sb33.keep no26
  have le36 := le_store le27 wf0 no2 sb33.n sb33.keep
  refine hk31 _ _ (HeldNow.none (by kernel_rfl)) <| .done <| h12 _ _ <| .region <| .q rfl (qaddN (b := 1) rfl rfl (by omega)) <| .q rfl (qmove rfl) <| .nil ?_
  exact ⟨⟨k + 1, push x (w.getD k 0), min lo ((((w.take (k + 1)).drop k).foldl push x).length), lvq21⟩, EnvLe.cons rfl <| EnvLe.cons rfl <| EnvLe.cons rfl <| EnvLe.cons rfl <| EnvLe.cons rfl <| EnvLe.nil _, rfl, ⟨⟨by omega, by rw [letter_of (by omega)]; exact putF_step (by omega) hput, by have := push_length x (w.getD k 0); omega⟩, le36, (fresh_eq fr35 (congrArg byteCells ((by first | rfl | (rw [letter_of (by omega)]; rfl))))), sb33.get, h34, no26, neq21_0_b0⟩, (by (try dsimp only); omega)⟩
 ·
  refine Run.exit ?_
  repeat first | with_reducible refine thenQ_ret ?_ | with_reducible refine blockQ_ret ?_
  repeat first | with_reducible refine thenQ_exit ?_ | with_reducible refine blockQ_same ?_ | with_reducible refine blockQ_other (by decide) ?_ | with_reducible refine noGotoQ_exit ?_ | with_reducible refine noGotoQ_normal ?_
  exact retQn (vs := []) rfl (⟨_, rfl, le3, wf5, hr_b03, row_eq hr_b23 (congrArg (fun z : Nat => [num (z : Int)]) (by rw [putF_end (by omega) hput])), fresh_eq fr_s3 (congrArg byteCells (by rw [putF_end (by omega) hput])), no_s_b03, no_s_b23⟩)

theorem s_replace (p : Nat) (x : Rot) (l : List UInt8) (d : List DCell) (lv rv dv : Value) (b0 : Nat) (A0 A : AH) (le_ : A0.le A) (wf0 : A0.wf) (hb : A.get b0 = some (.row true [lv, rv, dv] 3)) (no0 : A0.get b0 = none) (fr : Fresh A0 A lv 1 (byteCells l)) (frd : Fresh A0 A dv 3 (dcells d)) (ne0 : blk lv ≠ some b0) (ned : blk dv ≠ some b0) (sp : Sep lv dv) (hL : Lets A0) (hp : p < l.length) (hl : l.length ≤ 100000) (hxw : x.w.length ≤ 200) (hxc : x.c.length ≤ 1000) (hd : d.length ≤ 1000000) : RetA Tryz.prog 96 #[.pointer (some ⟨b0, 0, none⟩), num ((p : Nat) : Int), .agg #[str (x.w), str (x.c), num ((x.r : Nat) : Int), .bool (x.i)]] A (fun v A1 => ∃ lv2 dv2, v = num (((repl l p x).2 : Nat) : Int) ∧ A0.le A1 ∧ A1.wf ∧ A1.get b0 = some (.row true [lv2, rv, dv2] 3) ∧ Fresh A0 A1 lv2 1 (byteCells (repl l p x).1) ∧ Fresh A0 A1 dv2 3 (dcells (d ++ [repC l p x])) ∧ blk lv2 ≠ some b0 ∧ blk dv2 ≠ some b0 ∧ Sep lv2 dv2) := by
 refine enterA (e := [(0, .pointer (some ⟨b0, 0, none⟩)), (1, num ((p : Nat) : Int)), (2, .agg #[str (x.w), str (x.c), num ((x.r : Nat) : Int), .bool (x.i)])]) (args := [.pointer (some ⟨b0, 0, none⟩), num ((p : Nat) : Int), .agg #[str (x.w), str (x.c), num ((x.r : Nat) : Int), .bool (x.i)]]) Tryz.call96 Tryz.func96 rfl Tryz.results96 Tryz.ntmps96 rfl rfl rfl (fun wf => ?_)
 refine Run.seq fun K1 h2 => .region <| .l rfl (fun _ _ hk3 _ => wbox wf rfl rfl fun A5 b4 nb6 => ?_)
 have ne_b0_b4 := ne_new wf hb nb6.lo
 have no7 := fr.own.ne_new wf nb6.lo
 have no8 := frd.own.ne_new wf nb6.lo
 have h9 := nb6.le.get _ _ hb
 have fr10 := fr.le nb6.le
 have fr11 := frd.le nb6.le
 have le12 := le_.trans nb6.le
 refine hk3 _ _ <| .l rfl (fun _ _ hk13 _ => wbox nb6.wf rfl rfl fun A15 b14 nb16 => ?_)
 have ne_b0_b14 := ne_new nb6.wf h9 nb16.lo
 have no18 := fr11.own.ne_new nb6.wf nb16.lo
 have h19 := nb16.le.get _ _ h9
 have h20 := nb16.le.get _ _ nb6.get
 have fr21 := fr10.le nb16.le
 have fr22 := fr11.le nb16.le
 have le23 := le12.trans nb16.le
 refine hk13 _ _ <| .q rfl (qassign rfl) <| .nil <| h2 _ _ <| .seq fun K24 h25 => .region <| .q rfl (qassign rfl) <| .nil <| h25 _ _ <| .seq fun K26 h27 => ?_
 refine Run.block <| .loop (X := Nat) (fun n => [(1, num ((p : Nat) : Int)), (3, .pointer (some ⟨b4, 0, none⟩)), (5, .pointer (some ⟨b14, 0, none⟩)), (7, num ((n : Nat) : Int))]) (fun n B => (n ≤ repN l p x) ∧ A15 = B) (fun n => x.w.length - n) 0 (EnvLe.cons rfl <| EnvLe.cons rfl <| EnvLe.cons rfl <| EnvLe.cons rfl <| EnvLe.nil _) (⟨Nat.zero_le _, rfl⟩) ?_
 rintro n B29 ⟨hn, rfl⟩
 have hrn := repN_le l p x
 refine Run.seq fun K30 h31 => .join (fun f A1 => EnvLe [(45, .bool (decide (n < x.w.length ∧ p + n < l.length ∧ l.getD (p + n) 0 = x.w.getD n 0))), (1, num ((p : Nat) : Int)), (3, .pointer (some ⟨b4, 0, none⟩)), (5, .pointer (some ⟨b14, 0, none⟩)), (7, num ((n : Nat) : Int))] f.e ∧ f.ds = [] ∧ A15 = A1) ?_ ?_
 ·
  refine Run.drawn [0, 1, 2, 3, 4, 5, 6, 7, 8, 9, 10, 11, 12, 13, 14, 15, 16, 17, 18, 19, 20, 21, 22, 23, 24, 25, 26, 27, 28, 29, 30, 31, 32, 33] mixed (by kernel_rfl) (by kernel_rfl) rfl <| .q rfl rfl rfl (qmove rfl) <| .q rfl rfl rfl (qfieldAddr fl95_0 sz9 (by decide) rfl) <| .q rfl rfl rfl (qloadAt ag9 rfl rfl nb16.get rfl) <| .q rfl rfl rfl (qslen u9 rfl) <| .q rfl rfl rfl (qlssN rfl rfl) <| .q rfl rfl rfl (qmove rfl) <| .part (t := 17) rfl (fun p35 => ?_) (fun p35 => ?_)
  ·
   refine DOps.qOn rfl rfl rfl rfl rfl (qmove rfl) <| .qOn rfl rfl rfl rfl rfl (qmove rfl) <| .qOn rfl rfl rfl rfl rfl (qaddN rfl rfl (by omega)) <| .qOn rfl rfl rfl rfl rfl (qloadAt ag107 rfl rfl h20 rfl) <| .qOn rfl rfl rfl rfl rfl (qnil rfl) <| .qOn rfl rfl rfl rfl rfl (qfieldAddr fl111_0 sz109 (by decide) rfl) <| .qOn rfl rfl rfl rfl rfl (qfieldAddr fl109_0 sz80 (by decide) rfl) <| .qOn rfl rfl rfl rfl rfl (qloadAt ag80 rfl rfl h19 rfl) <| .qOn rfl rfl rfl rfl rfl (qlenS (n := l.length) u80 rfl fr21.slc (by omega) (bytes_len _)) <| .qOn rfl rfl rfl rfl rfl (qlssN rfl rfl) ?_
   refine DOps.q rfl rfl rfl (qpickT rfl rfl) <| .q rfl rfl rfl (qmove rfl) <| .part (t := 29) rfl (fun p38 => ?_) (fun p38 => ?_)
   ·
    refine DOps.qOn rfl rfl rfl rfl rfl (qloadAt ag107 rfl rfl h20 rfl) <| .qOn rfl rfl rfl rfl rfl (qnil rfl) <| .qOn rfl rfl rfl rfl rfl (qfieldAddr fl111_0 sz109 (by decide) rfl) <| .qOn rfl rfl rfl rfl rfl (qfieldAddr fl109_0 sz80 (by decide) rfl) <| .qOn rfl rfl rfl rfl rfl (qloadAt ag80 rfl rfl h19 rfl) <| .qOn rfl rfl rfl rfl rfl (qmove rfl) <| .qOn rfl rfl rfl rfl rfl (qmove rfl) <| .qOn rfl rfl rfl rfl rfl (qaddN rfl rfl (by omega)) ?_
    obtain ⟨b41, f41, rw41, r41, rc41, n41, k41, e41, l41, g41, cl41, cs41⟩ := Slc.at (i := p + n) fr21.slc (by simp only [bytes_length]; omega) (by omega)
    refine DOps.qOn rfl rfl rfl rfl rfl (qindexS u80 sz5 rfl e41 rfl l41) <| .qOn rfl rfl rfl rfl rfl (qloadAt ag5 rfl rfl g41 ((elt0 cs41).trans (bytes_get (by omega)))) <| .qOn rfl rfl rfl rfl rfl (qfieldAddr fl95_0 sz9 (by decide) rfl) <| .qOn rfl rfl rfl rfl rfl (qloadAt ag9 rfl rfl nb16.get rfl) <| .qOn rfl rfl rfl rfl rfl (qmove rfl) <| .qOn rfl rfl rfl rfl rfl (qsix u9 rfl rfl (by omega)) <| .qOn rfl rfl rfl rfl rfl (qeqlB rfl rfl) <| .q rfl rfl rfl (qpickT rfl rfl) <| .done ?_
    exact ⟨EnvLe.cons (show some _ = some _ from congrArg (fun b => some (Value.bool b)) (show (decide ((l.getD (p + n) 0) = (x.w.getD n 0))) = decide (n < x.w.length ∧ p + n < l.length ∧ l.getD (p + n) 0 = x.w.getD n 0) from (by simp [*]))) <| EnvLe.cons rfl <| EnvLe.cons rfl <| EnvLe.cons rfl <| EnvLe.cons rfl <| EnvLe.nil _, rfl, rfl⟩
   ·
    refine DOps.qOff rfl rfl rfl rfl rfl rfl <| .qOff rfl rfl rfl rfl rfl rfl <| .qOff rfl rfl rfl rfl rfl rfl <| .qOff rfl rfl rfl rfl rfl rfl <| .qOff rfl rfl rfl rfl rfl rfl <| .qOff rfl rfl rfl rfl rfl rfl <| .qOff rfl rfl rfl rfl rfl rfl <| .qOff rfl rfl rfl rfl rfl rfl <| .qOff rfl rfl rfl rfl rfl rfl <| .qOff rfl rfl rfl rfl rfl rfl ?_
    refine DOps.qOff rfl rfl rfl rfl rfl rfl <| .qOff rfl rfl rfl rfl rfl rfl <| .qOff rfl rfl rfl rfl rfl rfl <| .qOff rfl rfl rfl rfl rfl rfl <| .qOff rfl rfl rfl rfl rfl rfl <| .q rfl rfl rfl (qpickF rfl rfl) <| .done ?_
    exact ⟨EnvLe.cons (show some _ = some _ from congrArg (fun b => some (Value.bool b)) (show (false) = decide (n < x.w.length ∧ p + n < l.length ∧ l.getD (p + n) 0 = x.w.getD n 0) from (by simp [*]))) <| EnvLe.cons rfl <| EnvLe.cons rfl <| EnvLe.cons rfl <| EnvLe.cons rfl <| EnvLe.nil _, rfl, rfl⟩
  ·
   refine DOps.qOff rfl rfl rfl rfl rfl rfl <| .qOff rfl rfl rfl rfl rfl rfl <| .qOff rfl rfl rfl rfl rfl rfl <| .qOff rfl rfl rfl rfl rfl rfl <| .qOff rfl rfl rfl rfl rfl rfl <| .qOff rfl rfl rfl rfl rfl rfl <| .qOff rfl rfl rfl rfl rfl rfl <| .qOff rfl rfl rfl rfl rfl rfl <| .qOff rfl rfl rfl rfl rfl rfl <| .qOff rfl rfl rfl rfl rfl rfl ?_
   refine DOps.q rfl rfl rfl (qpickF rfl rfl) <| .q rfl rfl rfl (qmove rfl) <| .qOff rfl rfl rfl rfl rfl rfl <| .qOff rfl rfl rfl rfl rfl rfl <| .qOff rfl rfl rfl rfl rfl rfl <| .qOff rfl rfl rfl rfl rfl rfl <| .qOff rfl rfl rfl rfl rfl rfl <| .qOff rfl rfl rfl rfl rfl rfl <| .qOff rfl rfl rfl rfl rfl rfl <| .qOff rfl rfl rfl rfl rfl rfl ?_
   refine DOps.qOff rfl rfl rfl rfl rfl rfl <| .qOff rfl rfl rfl rfl rfl rfl <| .qOff rfl rfl rfl rfl rfl rfl <| .qOff rfl rfl rfl rfl rfl rfl <| .qOff rfl rfl rfl rfl rfl rfl <| .qOff rfl rfl rfl rfl rfl rfl <| .qOff rfl rfl rfl rfl rfl rfl <| .q rfl rfl rfl (qpickF rfl rfl) <| .done ?_
   exact ⟨EnvLe.cons (show some _ = some _ from congrArg (fun b => some (Value.bool b)) (show (false) = decide (n < x.w.length ∧ p + n < l.length ∧ l.getD (p + n) 0 = x.w.getD n 0) from (by simp [*]))) <| EnvLe.cons rfl <| EnvLe.cons rfl <| EnvLe.cons rfl <| EnvLe.cons rfl <| EnvLe.nil _, rfl, rfl⟩
 ·
  rintro ⟨fe, fd⟩ _ ⟨hE, rfl, rfl⟩
  refine Run.forget hE <| .if rfl (fun p44 => ?_) (fun p44 => ?_)
  ·
   refine Run.skip <| h31 _ _ <| .block <| .region <| .q rfl (qmove rfl) <| .q rfl (qaddN (b := 1) rfl rfl (by omega)) <| .q rfl (qassign rfl) <| .nil ?_
   exact ⟨n + 1, EnvLe.cons rfl <| EnvLe.cons rfl <| EnvLe.cons rfl <| EnvLe.cons rfl <| EnvLe.nil _, rfl, ⟨repN_go hn ‹_›, rfl⟩, (by (try dsimp only); omega)⟩
  ·
   refine Run.exit <| h27 _ _ <| .seq fun K45 h46 => .drawn [0, 1, 2, 3, 4, 5, 6, 7, 8, 9, 10, 11, 12, 13, 14, 15, 16, 17, 18, 19] mixed (by kernel_rfl) (by kernel_rfl) rfl <| .q rfl rfl rfl (qloadAt ag107 rfl rfl h20 rfl) <| .q rfl rfl rfl (qnil rfl) <| .q rfl rfl rfl (qfieldAddr fl111_0 sz109 (by decide) rfl) <| .q rfl rfl rfl (qfieldAddr fl109_0 sz80 (by decide) rfl) <| .q rfl rfl rfl (qloadAt ag80 rfl rfl h19 rfl) <| .q rfl rfl rfl (qmove rfl) ?_
   obtain ⟨b49, n49, c49, q49, m49, d49⟩ := fr21.nonnil (by intro q; have := congrArg List.length q; simp only [bytes_length, List.length_nil] at this; omega)
   subst q49
   rw [bytes_length, Nat.mul_one] at m49
   have fr50 := fr21.take (k := p) (by omega)
   rw [Nat.mul_one, bytes_take] at fr50
   refine DOps.q rfl rfl rfl (qsliceHi u80 sz5 rfl rfl (by omega)) <| .qstr (l := l.take p) rfl rfl rfl u80 u9 u5 fr50.slc fun T51 => .q rfl rfl rfl (qloadAt ag107 rfl rfl h20 rfl) <| .q rfl rfl rfl (qnil rfl) <| .q rfl rfl rfl (qfieldAddr fl111_0 sz109 (by decide) rfl) <| .q rfl rfl rfl (qfieldAddr fl109_0 sz80 (by decide) rfl) <| .q rfl rfl rfl (qloadAt ag80 rfl rfl h19 rfl) <| .q rfl rfl rfl (qmove rfl) <| .q rfl rfl rfl (qmove rfl) <| .q rfl rfl rfl (qaddN rfl rfl (by omega)) ?_
   have sl54 := Slc.lo (j := p + n) fr21.slc (by decide) (by simp only [bytes_length]; omega)
   rw [Nat.mul_one, bytes_drop] at sl54
   refine DOps.q rfl rfl rfl (qsliceLo u80 sz5 rfl fr21.slc rfl (by decide) (by simp only [bytes_length]; omega)) <| .qstr (l := l.drop (p + n)) rfl rfl rfl u80 u9 u5 sl54 fun T55 => .q rfl rfl rfl (qassign rfl) <| .q rfl rfl rfl (qassign rfl) <| .done <| h46 _ _ <| .seq fun K56 h57 => .drawn [0, 1, 2, 3, 4, 5, 6, 7, 8, 10, 11, 12, 13, 9, 14, 15, 16, 17, 18, 19] mixed (by kernel_rfl) (by kernel_rfl) rfl ?_
   have hc58 := cellOf (off := 0) h20 (show _ = some (.pointer (some ⟨b0, 0, none⟩)) from rfl)
   refine DOps.q rfl rfl rfl (qloadAt ag107 rfl rfl h20 rfl) ?_
   have hc59 := cellOf (off := 0) h20 (show _ = some (.pointer (some ⟨b0, 0, none⟩)) from rfl)
   refine DOps.q rfl rfl rfl (qloadAt ag107 rfl rfl h20 rfl) <| .q rfl rfl rfl (qnil rfl) <| .q rfl rfl rfl (qfieldAddr fl111_2 sz34 (by decide) rfl) ?_
   have hc60 := cellOf (off := 2) h19 (show _ = some (dv) from rfl)
   refine DOps.q rfl rfl rfl (qloadAt ag34 rfl rfl h19 rfl) <| .q rfl rfl rfl (qmove rfl) <| .q rfl rfl rfl (qfieldAddr fl95_1 sz9 (by decide) rfl) <| .q rfl rfl rfl (qloadAt ag9 rfl rfl nb16.get rfl) <| .q rfl rfl rfl (qsadd rfl rfl (by (try simp only [List.length_append, List.length_drop, List.length_take]); omega)) <| .q rfl rfl rfl (qfieldAddr fl95_2 sz3 (by decide) rfl) ?_
   have hc62 := cellOf (off := 2) nb16.get (show _ = some (num ((x.r : Nat) : Int)) from rfl)
   refine DOps.q rfl rfl rfl (qloadAt ag3 rfl rfl nb16.get rfl) <| .q rfl rfl rfl (qfieldAddr fl95_3 sz4 (by decide) rfl) ?_
   have hc63 := cellOf (off := 3) nb16.get (show _ = some (.bool (x.i)) from rfl)
   refine DOps.q rfl rfl rfl (qloadAt ag4 rfl rfl nb16.get rfl) <| .l rfl rfl rfl (fun _ _ hk64 _ => vcallF rfl (s_Reduce ((l.take p) ++ x.c) A15 (by first | omega | (simp only [List.length_append, List.length_drop, List.length_take]; omega)) (hL.le le23)) ?_)
   rintro v65 A66 ⟨rfl, leq67, wfq67⟩
   have h68 := leq67.get _ _ h19
   have h69 := leq67.get _ _ h20
   have h70 := leq67.get _ _ nb16.get
   have fr71 := fr21.le leq67
   have fr72 := fr22.le leq67
   have hc75 := cell_le leq67 hc58
   have hc76 := cell_le leq67 hc59
   have hc77 := cell_le leq67 hc60
   have hc79 := cell_le leq67 hc62
   have hc80 := cell_le leq67 hc63
   have le81 := le23.trans leq67
   refine hk64 _ _ (HeldNow.list (L := [(⟨b14, 3, none⟩, .bool (x.i)), (⟨b14, 2, none⟩, num ((x.r : Nat) : Int)), (⟨b0, 2, none⟩, dv), (⟨b4, 0, none⟩, .pointer (some ⟨b0, 0, none⟩)), (⟨b4, 0, none⟩, .pointer (some ⟨b0, 0, none⟩))]) (by kernel_rfl) (heldCons hc80 (heldCons hc79 (heldCons hc77 (heldCons hc76 (heldCons hc75 heldNil)))))) <| .q rfl rfl rfl (qbuild rfl (buildV_struct u79 z79 pl79 rfl)) <| .l rfl rfl rfl (fun _ _ hk82 _ => wbuildSlice (c := [str (wReduce ((l.take p) ++ x.c)), num ((x.r : Nat) : Int), .bool (x.i)]) wfq67 rfl (buildSliceV_of u34 sz79 z79 rfl (by decide) (by decide) rfl) fun A84 b83 nb85 => ?_)
   have h89 := nb85.le.get _ _ h68
   have h90 := nb85.le.get _ _ h69
   have h91 := nb85.le.get _ _ h70
   have fr92 := fr71.le nb85.le
   have fr93 := fr72.le nb85.le
   have hc96 := cell_le nb85.le hc75
   have hc97 := cell_le nb85.le hc76
   have hc98 := cell_le nb85.le hc77
   have le101 := le81.trans nb85.le
   refine hk82 _ _ (HeldNow.list (L := [(⟨b0, 2, none⟩, dv), (⟨b4, 0, none⟩, .pointer (some ⟨b0, 0, none⟩)), (⟨b4, 0, none⟩, .pointer (some ⟨b0, 0, none⟩))]) (by kernel_rfl) (heldCons hc98 (heldCons hc97 (heldCons hc96 heldNil)))) <| .l rfl rfl rfl (fun _ _ hk102 _ => wappend (ys := [str (wReduce ((l.take p) ++ x.c)), num ((x.r : Nat) : Int), .bool (x.i)]) rfl rfl u34 sz79 inf79 z79 rfl (by decide) u34 (fun _ h => by cases h) fr93.own (listOf_row (n := 1) nb85.get rfl) rfl rfl (by show (_ + _) * 32 ≤ _; simp only [dcells_length, List.length_cons, List.length_nil]; (try simp only [List.length_append, List.length_cons, List.length_nil]); omega) (by simp only [dcells_length, List.length_cons, List.length_nil]; (try simp only [List.length_append, List.length_cons, List.length_nil]); omega) fun A103 v104 ap105 => ?_)
   rw [show ([str (wReduce ((l.take p) ++ x.c)), num ((x.r : Nat) : Int), .bool (x.i)] : List Value) = dcells [⟨wReduce ((l.take p) ++ x.c), ((x.r : Nat) : Int), x.i⟩] from rfl, dcells_append] at ap105
   obtain ⟨fr108, le109⟩ := Fresh.grow fr93 le101 wf0 ap105
   have h110 := ap105.keep ned h89
   have ne111 := ap105.ne ned nb85.wf h89
   have h112 := ap105.keep no8 h90
   have h114 := ap105.keep no18 h91
   have sp117 := Sep.appd (show Sep dv (.slice (some ⟨b49, 0, none⟩) n49 c49) from (Sep.symm sp)) fr92.own nb85.wf ap105
   have fr116 := fr92.appd ap105 (Sep.symm sp)
   have hc120 := ap105.cell no8 hc96
   refine hk102 _ _ (HeldNow.list (L := [(⟨b4, 0, none⟩, .pointer (some ⟨b0, 0, none⟩))]) (by kernel_rfl) (heldCons hc120 heldNil)) <| .q rfl rfl rfl (qnil rfl) <| .q rfl rfl rfl (qfieldAddr fl111_2 sz34 (by decide) rfl) ?_
   obtain ⟨p124, l124, c124, q124, _⟩ := fr108.own.slice
   subst q124
   refine DOps.l rfl rfl rfl (fun _ _ hk123 _ => wstore (cs := [.slice p124 l124 c124]) (c' := [.slice (some ⟨b49, 0, none⟩) n49 c49, rv, .slice p124 l124 c124]) ap105.wf rfl rfl rfl rfl sz34 h110 (Nat.le_of_ble_eq_true rfl) rfl rfl fun A125 sb126 => ?_)
   have h127 := sb126.keep _ _ ne_b0_b4.symm h112
   have h128 := sb126.keep _ _ ne_b0_b14.symm h114
   have fr129 := fr116.keep sb126.keep ne0
   have fr131 := fr108.keep sb126.keep ne111
   have le132 := le_store le109 wf0 no0 sb126.n sb126.keep
   refine hk123 _ _ (HeldNow.none (by kernel_rfl)) <| .done <| h57 _ _ <| .seq fun K133 h134 => .drawn [0, 1, 2, 3, 4, 5, 6, 7, 8, 9, 10, 11] mixed (by kernel_rfl) (by kernel_rfl) rfl <| .q rfl rfl rfl (qloadAt ag107 rfl rfl h127 rfl) <| .q rfl rfl rfl (qloadAt ag107 rfl rfl h127 rfl) <| .q rfl rfl rfl (qnil rfl) <| .q rfl rfl rfl (qfieldAddr fl111_0 sz109 (by decide) rfl) <| .q rfl rfl rfl (qfieldAddr fl109_0 sz80 (by decide) rfl) ?_
   refine DOps.q rfl rfl rfl (qloadAt ag80 rfl rfl sb126.get rfl) <| .q rfl rfl rfl (qmove rfl) ?_
   have fr139 := fr129.take (k := p) (by omega)
   rw [Nat.mul_one, bytes_take] at fr139
   refine DOps.q rfl rfl rfl (qsliceHi u80 sz5 rfl rfl (by omega)) <| .q rfl rfl rfl (qnil rfl) <| .q rfl rfl rfl (qfieldAddr fl111_0 sz109 (by decide) rfl) <| .q rfl rfl rfl (qfieldAddr fl109_0 sz80 (by decide) rfl) <| .l rfl rfl rfl (fun _ _ hk140 _ => wstore (cs := [.slice (some ⟨b49, 0, none⟩) p c49]) (c' := [.slice (some ⟨b49, 0, none⟩) p c49, rv, .slice p124 l124 c124]) sb126.wf rfl rfl rfl rfl sz80 sb126.get (Nat.le_of_ble_eq_true rfl) rfl rfl fun A141 sb142 => ?_)
   have h143 := sb142.keep _ _ ne_b0_b4.symm h127
   have h144 := sb142.keep _ _ ne_b0_b14.symm h128
   have fr147 := fr131.keep sb142.keep ne111
   have fr148 := fr139.keep sb142.keep ne0
   have le149 := le_store le132 wf0 no0 sb142.n sb142.keep
   refine hk140 _ _ (HeldNow.none (by kernel_rfl)) <| .done <| h134 _ _ <| .seq fun K150 h151 => .region <| .q rfl (qmove rfl) <| .l rfl (fun _ _ hk152 _ => walloc sb142.wf z3 rfl fun A154 b153 nb155 => ?_)
   have ne_b0_b153 := ne_new sb142.wf sb142.get nb155.lo
   have ne_b4_b153 := ne_new sb142.wf h143 nb155.lo
   have ne_b14_b153 := ne_new sb142.wf h144 nb155.lo
   have no158 := fr147.own.ne_new sb142.wf nb155.lo
   have no159 := fr148.own.ne_new sb142.wf nb155.lo
   have ge_b153 := none_of wf0 (Nat.le_trans le149.n nb155.lo)
   have h160 := nb155.le.get _ _ sb142.get
   have h161 := nb155.le.get _ _ h143
   have h162 := nb155.le.get _ _ h144
   have fr165 := fr147.le nb155.le
   have fr166 := fr148.le nb155.le
   have le167 := le149.trans nb155.le
   refine hk152 _ _ <| .l rfl (fun _ _ hk168 _ => wstore (cs := [num ((p : Nat) : Int)]) (c' := [num ((p : Nat) : Int)]) nb155.wf rfl rfl rfl rfl sz3 nb155.get (Nat.le_of_ble_eq_true rfl) rfl rfl fun A169 sb170 => ?_)
   have h171 := sb170.keep _ _ ne_b0_b153 h160
   have h172 := sb170.keep _ _ ne_b4_b153 h161
   have h173 := sb170.keep _ _ ne_b14_b153 h162
   have fr176 := fr165.keep sb170.keep no158
   have fr177 := fr166.keep sb170.keep no159
   have le178 := le_store le167 wf0 ge_b153 sb170.n sb170.keep
   refine hk168 _ _ <| .nil <| h151 _ _ <| .seq fun K179 h180 => .region <| .q rfl (qfunc rfl rfl) <| .q rfl (qassign rfl) <| .nil <| h180 _ _ <| .seq fun K181 h182 => ?_
   refine Run.region <| .q rfl (qmove rfl) <| .q rfl (qfieldAddr fl95_0 sz9 (by decide) rfl) <| .q rfl (qloadAt ag9 rfl rfl h173 rfl) <| .q rfl (qmove rfl) <| .q rfl (qslLo u9 rfl rfl (by omega)) <| .l rfl (fun _ _ hk183 _ => vcallF rfl (s_Inverse (x.w.drop n) A169 (by first | omega | (simp only [List.length_append, List.length_drop, List.length_take]; omega)) (hL.le le178)) ?_)
   rintro v184 A185 ⟨rfl, leq186, wfq186⟩
   have h187 := leq186.get _ _ h171
   have h188 := leq186.get _ _ h172
   have h190 := leq186.get _ _ sb170.get
   have fr193 := fr176.le leq186
   have fr194 := fr177.le leq186
   have le195 := le178.trans leq186
   refine hk183 _ _ ?_
   have le200 := le_hide (bs := [some b0, some b153, blk (.slice (some ⟨b49, 0, none⟩) p c49)]) le195 (hoB no0 (hoB ge_b153 (hoV fr194.lo ho0)))
   refine Ops.l rfl (fun _ _ hk196 _ => vcall rfl rfl (s_put (wInverse (x.w.drop n)) (l.take p) p (.slice (some ⟨b49, 0, none⟩) p c49) rv (.slice p124 l124 c124) b0 b4 b153 _ _ (A185.hide [some b0, some b153, blk (.slice (some ⟨b49, 0, none⟩) p c49)]) A185 (hide_le A185 [some b0, some b153, blk (.slice (some ⟨b49, 0, none⟩) p c49)]) (hide_wf wfq186) h187 (hide_none (by simp)) h190 (hide_none (by simp)) (fr194.hide (by simp)) ne0 no159 ne_b0_b153 (hide_get (bs := [some b0, some b153, blk (.slice (some ⟨b49, 0, none⟩) p c49)]) h188 (nmB ne_b0_b4.symm (nmB ne_b4_b153 (nmV no7 nm0)))) (by first | (have := wInverse_length (x.w.drop n); rw [List.length_drop] at this; omega) | (rw [List.length_drop]; omega)) (by first | (rw [List.length_take]; omega) | (have h1 := putF_len (l.take p, p) (wInverse (x.w.drop n)); have h2 := wInverse_length (x.w.drop n); simp only [List.length_drop, List.length_take] at h1 h2; omega))) ?_)
   rintro v197 A198 ⟨lvq199, rfl, leq199, wfq199, hrq199_b0, hrq199_b153, foq199_0, neq199_0_b0, neq199_0_b153⟩
   have hg201 := hide_get (bs := [some b0, some b153, blk (.slice (some ⟨b49, 0, none⟩) p c49)]) h188 (nmB ne_b0_b4.symm (nmB ne_b4_b153 (nmV no7 nm0)))
   have h202 := leq199.get _ _ hg201
   have sp205 := foq199_0.sep fr193.own (offB ne111 (offB no158 (offV (Sep.symm sp117) off0)))
   have fr206 := fr193.off (offB ne111 (offB no158 (offV (Sep.symm sp117) off0))) leq199
   have fr207 := foq199_0.base le200
   have no208 := foq199_0.seph hg201
   have le210 := le200.trans leq199
   refine hk196 _ _ <| .nil <| h182 _ _ <| .seq fun K211 h212 => .region <| .q rfl (qmove rfl) <| .q rfl (qmove rfl) ?_
   have le217 := le_hide (bs := [some b0, some b153, blk lvq199]) le210 (hoB no0 (hoB ge_b153 (hoV fr207.lo ho0)))
   refine Ops.l rfl (fun _ _ hk213 _ => vcall rfl rfl (s_put (l.drop (p + n)) ((putF (l.take p, p) (wInverse (x.w.drop n))).1) ((putF (l.take p, p) (wInverse (x.w.drop n))).2) lvq199 rv (.slice p124 l124 c124) b0 b4 b153 _ _ (A198.hide [some b0, some b153, blk lvq199]) A198 (hide_le A198 [some b0, some b153, blk lvq199]) (hide_wf wfq199) hrq199_b0 (hide_none (by simp)) hrq199_b153 (hide_none (by simp)) (fr207.hide (by simp)) neq199_0_b0 neq199_0_b153 ne_b0_b153 (hide_get (bs := [some b0, some b153, blk lvq199]) h202 (nmB ne_b0_b4.symm (nmB ne_b4_b153 (nmV no208 nm0)))) (by first | (have := wInverse_length (x.w.drop n); rw [List.length_drop] at this; omega) | (rw [List.length_drop]; omega)) (by first | (rw [List.length_take]; omega) | (have h1 := putF_len (l.take p, p) (wInverse (x.w.drop n)); have h2 := wInverse_length (x.w.drop n); simp only [List.length_drop, List.length_take] at h1 h2; omega))) ?_)
   rintro v214 A215 ⟨lvq216, rfl, leq216, wfq216, hrq216_b0, hrq216_b153, foq216_0, neq216_0_b0, neq216_0_b153⟩
   have sp222 := foq216_0.sep fr206.own (offB ne111 (offB no158 (offV sp205 off0)))
   have fr223 := fr206.off (offB ne111 (offB no158 (offV sp205 off0))) leq216
   have fr224 := foq216_0.base le217
   have le227 := le217.trans leq216
   refine hk213 _ _ <| .nil <| h212 _ _ <| .seq fun K228 h229 => .region <| .q rfl (qloadAt ag3 rfl rfl hrq216_b153 rfl) <| .q rfl (qassign rfl) <| .nil <| h229 _ _ <| .ret ?_
   repeat first | with_reducible refine thenQ_ret ?_ | with_reducible refine blockQ_ret ?_
   exact retQ rfl (⟨_, _, by rw [repl, ← repN_stop hn ‹_›]; rfl, le227, wfq216, hrq216_b0, fresh_eq fr224 (congrArg byteCells (by rw [repl, ← repN_stop hn ‹_›])), fresh_eq fr223 (congrArg dcells rfl), neq216_0_b0, ne111, sp222⟩)

theorem s_run (br : Nat) (S : RS) (l : List UInt8) (d : List DCell) (lv dv : Value) (b0 : Nat) (A0 A : AH) (le_ : A0.le A) (wf0 : A0.wf) (hb : A.get b0 = some (.row true [lv, .pointer (some ⟨br, 0, none⟩), dv] 3)) (no0 : A0.get b0 = none) (fr : Fresh A0 A lv 1 (byteCells l)) (frd : Fresh A0 A dv 3 (dcells d)) (ne0 : blk lv ≠ some b0) (ned : blk dv ≠ some b0) (sp : Sep lv dv) (hR : Rules A0 br S) (hS : RSok S) (hL : Lets A0) (hl : l.length ≤ 6000) (hd : d.length ≤ 6000) : RetA Tryz.prog 62 #[.pointer (some ⟨b0, 0, none⟩)] A (fun v A1 => ∃ lv2 dv2, v = .tuple #[] ∧ A0.le A1 ∧ A1.wf ∧ A1.get b0 = some (.row true [lv2, .pointer (some ⟨br, 0, none⟩), dv2] 3) ∧ Fresh A0 A1 lv2 1 (byteCells (drun S.list S.most (fuel l.length) l d 0).1) ∧ Fresh A0 A1 dv2 3 (dcells (drun S.list S.most (fuel l.length) l d 0).2) ∧ blk lv2 ≠ some b0 ∧ blk dv2 ≠ some b0 ∧ Sep lv2 dv2) := by
 refine enterA (e := [(0, .pointer (some ⟨b0, 0, none⟩))]) (args := [.pointer (some ⟨b0, 0, none⟩)]) Tryz.call62 Tryz.func62 rfl Tryz.results62 Tryz.ntmps62 rfl rfl rfl (fun wf => ?_)
 have hR0 := hR
 obtain ⟨rwr, capr, lsv, nv, bl, hbr, hls, hnv, hN⟩ := hR
 have hsm := hS.small
 refine Run.scope <| .seq fun K1 h2 => .label <| h2 _ _ <| .seq fun K3 h4 => .region <| .q rfl (qassign rfl) <| .nil <| h4 _ _ <| .block ?_
 refine Run.loop (X := Nat × List UInt8 × List DCell × Nat × Value × Value) (fun ⟨p, y, e, f, s, t⟩ => [(0, .pointer (some ⟨b0, 0, none⟩)), (2, num ((p : Nat) : Int))]) (fun ⟨p, y, e, f, s, t⟩ B => (drun S.list S.most f y e p = (drun S.list S.most (fuel l.length) l d 0) ∧ 100001 * y.length + (y.length - p) < f ∧ y.length ≤ 6000 ∧ e.length + y.length ≤ 12000) ∧ A0.le B ∧ Fresh A0 B s 1 (byteCells y) ∧ Fresh A0 B t 3 (dcells e) ∧ B.get b0 = some (.row true [s, .pointer (some ⟨br, 0, none⟩), t] 3) ∧ V.blk s ≠ some b0 ∧ V.blk t ≠ some b0 ∧ Sep s t) (fun ⟨p, y, e, f, s, t⟩ => 100001 * y.length + (y.length - p)) (⟨0, l, d, fuel l.length, lv, dv⟩) (EnvLe.cons rfl <| EnvLe.cons (congrArg (fun z : Int => some (num z)) (by (try split) <;> omega)) <| EnvLe.nil _) (⟨⟨rfl, by unfold fuel; omega, hl, by omega⟩, le_, fr, frd, hb, ne0, ned, sp⟩) ?_
 rintro ⟨p, y, e, f, s, t⟩ B6 ⟨⟨hu, hf, hy, he⟩, le5, fr_s5, fr_t5, hr_b05, no_s_b05, no_t_b05, sq5_0_1⟩
 refine Run.wf fun wf7 => ?_
 have hlb := longF_bound S.list (y.drop p)
 have hlt := fun (q : p < y.length) (z : 0 ≤ (longF S.list (y.drop p)).1) => repl_lt q z
 have hxm := fun z : 0 ≤ (longF S.list (y.drop p)).1 => getD_mem (d := Rot.zero) (longF_pos z).1
 have hlow := repl_low y p (S.list.getD (longF S.list (y.drop p)).1.toNat .zero)
 refine Run.seq fun K8 h9 => .seq fun K10 h11 => .region <| .q rfl (qmove rfl) <| .q rfl (qmove rfl) <| .q rfl (qnil rfl) <| .q rfl (qfieldAddr fl111_0 sz109 (by decide) rfl) <| .q rfl (qfieldAddr fl109_0 sz80 (by decide) rfl) <| .q rfl (qloadAt ag80 rfl rfl hr_b05 rfl) <| .q rfl (qlenS (n := y.length) u80 rfl fr_s5.slc (by omega) (bytes_len _)) ?_
 refine Ops.q rfl (qlssN rfl rfl) <| .nil <| h11 _ _ <| .if rfl (fun p12 => ?_) (fun p12 => ?_)
 ·
  refine Run.skip <| h9 _ _ <| .seq fun K13 h14 => .block <| .seq fun K15 h16 => .drawn [0, 1, 2, 3, 4, 5, 6, 7, 8, 9, 10, 11, 12] mixed (by kernel_rfl) (by kernel_rfl) rfl <| .q rfl rfl rfl (qmove rfl) <| .q rfl rfl rfl (qnil rfl) <| .q rfl rfl rfl (qfieldAddr fl111_1 sz65 (by decide) rfl) ?_
  have hc17 := cellOf (off := 1) hr_b05 (show _ = some (.pointer (some ⟨br, 0, none⟩)) from rfl)
  refine DOps.q rfl rfl rfl (qloadAt ag65 rfl rfl hr_b05 rfl) <| .q rfl rfl rfl (qmove rfl) <| .q rfl rfl rfl (qmove rfl) <| .l rfl rfl rfl (fun _ _ hk18 _ => vcallF rfl (s_at b0 p B6) ?_)
  rintro v19 A20 ⟨b2q21, b1q21, rfl, leq21, wfq21, hAq21, hBq21⟩
  have h22 := leq21.get _ _ hr_b05
  have fr23 := fr_s5.le leq21
  have fr24 := fr_t5.le leq21
  have hc25 := cell_le leq21 hc17
  have le26 := le5.trans leq21
  have hA := hAq21
  have hB := hBq21
  refine hk18 _ _ (HeldNow.list (L := [(⟨b0, 1, none⟩, .pointer (some ⟨br, 0, none⟩))]) (by kernel_rfl) (heldCons hc25 heldNil)) <| .l rfl rfl rfl (fun _ _ hk27 _ => vcallF rfl (s_long br S 112 #[.pointer (some ⟨b1q21, 0, none⟩), .pointer (some ⟨b2q21, 0, none⟩)] (y.drop p) A20 (hR0.le le26) hS (by rw [List.length_drop]; omega) (fun i B hi le wf => s_at1 i p y s (.pointer (some ⟨br, 0, none⟩)) t b0 b1q21 b2q21 _ _ _ _ _ _ B (by rw [List.length_drop] at hi; omega) (le.get _ _ hAq21) (le.get _ _ hBq21) (le.get _ _ h22) (fr23.slc.le le))) ?_)
  rintro v28 A29 ⟨rfl, rfl⟩
  refine hk27 _ _ (HeldNow.none (by kernel_rfl)) <| .q rfl rfl rfl (qmove rfl) <| .q rfl rfl rfl (qextract rfl rfl) <| .q rfl rfl rfl (qextract rfl rfl) <| .q rfl rfl rfl (qassign rfl) <| .q rfl rfl rfl (qassign rfl) <| .done <| h16 _ _ <| .seq fun K31 h32 => .region ?_
  refine Ops.q rfl (qmove rfl) <| .q rfl (qgeq rfl rfl) <| .nil <| h32 _ _ <| .if rfl (fun p33 => ?_) (fun p33 => ?_)
  ·
   refine Run.seq fun K34 h35 => .region <| .q rfl (qmove rfl) <| .q rfl (qmove rfl) <| .q rfl (qmove rfl) <| .q rfl (qnil rfl) <| .q rfl (qfieldAddr fl111_1 sz65 (by decide) rfl) <| .q rfl (qloadAt ag65 rfl rfl h22 rfl) <| .q rfl (qnil rfl) <| .q rfl (qfieldAddr fl103_0 sz101 (by decide) rfl) ?_
   refine Ops.q rfl (qloadAt ag101 rfl rfl (le26.get _ _ hbr) rfl) <| .q rfl (qmove rfl) ?_
   obtain ⟨b36, f36, rw36, r36, rc36, n36, k36, e36, l36, g36, cl36, cs36⟩ := Slc.at (i := ((longF S.list (y.drop p)).1).toNat) (hls.le le26) (by simp only [rcells_length]; have := (longF_pos ‹0 ≤ (longF S.list (y.drop p)).1›).1; omega) (by omega)
   refine Ops.q rfl (qindexS u101 sz95 rfl e36 (natI (by omega)) l36) <| .q rfl (qloadAggAt ag95 sz95 rfl rfl g36 (cl36.trans (congrArg some (rcells_at (by omega))))) ?_
   have le41 := le_hide (bs := [some b0, blk s, blk t]) le26 (hoB no0 (hoV fr23.lo (hoV fr24.lo ho0)))
   refine Ops.l rfl (fun _ _ hk37 _ => vcallF rfl (s_replace p (S.list.getD (((longF S.list (y.drop p)).1).toNat) .zero) y e s (.pointer (some ⟨br, 0, none⟩)) t b0 (A20.hide [some b0, blk s, blk t]) A20 (hide_le A20 [some b0, blk s, blk t]) (hide_wf wfq21) h22 (hide_none (by simp)) (fr23.hide (by simp)) (fr24.hide (by simp)) no_s_b05 no_t_b05 sq5_0_1 (hL.le le41) (by omega) (by omega) (by have := hS.most _ (hxm ‹_›); omega) (hS.isw _ (hxm ‹_›)).2.2 (by omega)) ?_)
   rintro v38 A39 ⟨lvq40, dvq40, rfl, leq40, wfq40, hrq40_b0, foq40_0, foq40_1, neq40_0_b0, neq40_1_b0, spq40_0_1⟩
   have fr42 := foq40_0.base le41
   have fr43 := foq40_1.base le41
   have le44 := le41.trans leq40
   refine hk37 _ _ <| .q rfl (qassign rfl) <| .nil <| h35 _ _ <| .seq fun K45 h46 => .region <| .q rfl (qmove rfl) <| .q rfl (qmove rfl) <| .q rfl (qnil rfl) <| .q rfl (qfieldAddr fl111_1 sz65 (by decide) rfl) ?_
   refine Ops.q rfl (qloadAt ag65 rfl rfl hrq40_b0 rfl) <| .q rfl (qnil rfl) <| .q rfl (qfieldAddr fl103_2 sz3 (by decide) rfl) <| .q rfl (qloadAt ag3 rfl rfl (le44.get _ _ hbr) rfl) <| .q rfl (qsub rfl rfl (by first | omega | (have := hlt (by omega) ‹_›; omega) | (split <;> omega))) <| .q rfl (qmax rfl rfl) <| .q rfl (qsub rfl rfl (by first | omega | (have := hlt (by omega) ‹_›; omega) | (split <;> omega))) <| .q rfl (qassign rfl) <| .nil <| h46 _ _ ?_
   refine Run.exit <| h14 _ _ <| .region <| .q rfl (qmove rfl) <| .q rfl (qadd rfl rfl (by first | omega | (have := hlt (by omega) ‹_›; omega) | (split <;> omega))) <| .q rfl (qassign rfl) <| .nil ?_
   exact ⟨⟨(repl y p (S.list.getD (longF S.list (y.drop p)).1.toNat .zero)).2 - S.most, (repl y p (S.list.getD (((longF S.list (y.drop p)).1).toNat) .zero)).1, e ++ [repC y p (S.list.getD (((longF S.list (y.drop p)).1).toNat) .zero)], f - 1, lvq40, dvq40⟩, EnvLe.cons rfl <| EnvLe.cons (congrArg (fun z : Int => some (num z)) (by (try split) <;> omega)) <| EnvLe.nil _, rfl, ⟨⟨drun_go (by omega) (by omega) ‹_› hu, by have := hlt (by omega) ‹_›; omega, by have := hlt (by omega) ‹_›; omega, by have := hlt (by omega) ‹_›; simp only [List.length_append, List.length_cons, List.length_nil]; omega⟩, le44, fr42, fr43, hrq40_b0, neq40_0_b0, neq40_1_b0, spq40_0_1⟩, (by (try dsimp only); first | omega | (have := hlt (by omega) ‹_›; omega))⟩
  ·
   refine Run.skip <| h14 _ _ <| .region <| .q rfl (qmove rfl) <| .q rfl (qaddN (b := 1) rfl rfl (by first | omega | (have := hlt (by omega) ‹_›; omega) | (split <;> omega))) <| .q rfl (qassign rfl) <| .nil ?_
   exact ⟨⟨p + 1, y, e, f - 1, s, t⟩, EnvLe.cons rfl <| EnvLe.cons (congrArg (fun z : Int => some (num z)) (by (try split) <;> omega)) <| EnvLe.nil _, rfl, ⟨⟨drun_no (by omega) (by omega) ‹_› hu, by omega, hy, he⟩, le26, fr23, fr24, h22, no_s_b05, no_t_b05, sq5_0_1⟩, (by (try dsimp only); first | omega | (have := hlt (by omega) ‹_›; omega))⟩
 ·
  refine Run.exit ?_
  repeat first | with_reducible refine thenQ_ret ?_ | with_reducible refine blockQ_ret ?_ | with_reducible refine noGotoQ_ret ?_
  repeat first | with_reducible refine thenQ_exit ?_ | with_reducible refine blockQ_same ?_ | with_reducible refine blockQ_other (by decide) ?_ | with_reducible refine noGotoQ_exit ?_ | with_reducible refine noGotoQ_normal ?_
  exact retQn (vs := []) rfl (⟨_, _, rfl, le5, wf7, hr_b05, fresh_eq fr_s5 (congrArg byteCells (by rw [drun_end ‹_› hu])), fresh_eq fr_t5 (congrArg dcells (by rw [drun_end ‹_› hu])), no_s_b05, no_t_b05, sq5_0_1⟩)

theorem s_dshort (br : Nat) (S : RS) (w : List UInt8) (A : AH) (hR : Rules A br S) (hS : RSok S) (hL : Lets A) (hw : w.length ≤ 6000) : RetA Tryz.prog 34 #[.pointer (some ⟨br, 0, none⟩), str (w)] A (fun v A1 => ∃ dv, v = .agg #[str (dsh S w).1, num (((dsh S w).2.length : Nat) : Int), dv] ∧ A.le A1 ∧ A1.wf ∧ Fresh A A1 dv 3 (dcells (dsh S w).2)) := by
 refine enterA (e := [(0, .pointer (some ⟨br, 0, none⟩)), (1, str (w))]) (args := [.pointer (some ⟨br, 0, none⟩), str (w)]) Tryz.call34 Tryz.func34 rfl Tryz.results34 Tryz.ntmps34 rfl rfl rfl (fun wf => ?_)
 have le_ := AH.le.refl A
 have hR0 := hR
 obtain ⟨rwr, capr, lsv, nv, bl, hbr, hls, hnv, hN⟩ := hR
 have hrw := red_length w
 refine Run.seq fun K1 h2 => .region <| .l rfl (fun _ _ hk3 _ => walloc wf z36 rfl fun A5 b4 nb6 => ?_)
 have ge_b4 := none_of wf (Nat.le_trans le_.n nb6.lo)
 have le7 := le_.trans nb6.le
 refine hk3 _ _ <| .nil <| h2 _ _ <| .seq fun K8 h9 => .region <| .q rfl (qmove rfl) <| .q rfl (qbuild rfl (buildV_struct u111 z111 pl111 rfl)) <| .l rfl (fun _ _ hk10 _ => wbox nb6.wf rfl rfl fun A12 b11 nb13 => ?_)
 have ne_b4_b11 := ne_new nb6.wf nb6.get nb13.lo
 have ge_b11 := none_of wf (Nat.le_trans le7.n nb13.lo)
 have h14 := nb13.le.get _ _ nb6.get
 have le15 := le7.trans nb13.le
 refine hk10 _ _ <| .q rfl (qassign rfl) <| .nil <| h9 _ _ <| .seq fun K16 h17 => .region <| .q rfl (qmove rfl) <| .q rfl (qnil rfl) <| .q rfl (qfieldAddr fl111_0 sz109 (by decide) rfl) <| .q rfl (qmove rfl) ?_
 have fr20 := Fresh.nil A A12 1
 have le24 := le_hide (bs := [some b11, blk (.slice none 0 0)]) le15 (hoB ge_b11 (hoV fr20.lo ho0))
 refine Ops.l rfl (fun _ _ hk18 _ => vcallF rfl (s_push w ([]) (.slice none 0 0) (.pointer (some ⟨br, 0, none⟩)) (.slice none 0 0) b11 (A12.hide [some b11, blk (.slice none 0 0)]) A12 (hide_le A12 [some b11, blk (.slice none 0 0)]) (hide_wf nb13.wf) nb13.get (hide_none (by simp)) (fr20.hide (by simp)) (fun q => by cases q) (by omega) (by simp)) ?_)
 rintro v21 A22 ⟨lvq23, rfl, leq23, wfq23, hrq23_b11, foq23_0, neq23_0_b11⟩
 have hg25 := hide_get (bs := [some b11, blk (.slice none 0 0)]) h14 (nmB ne_b4_b11 (nmV (fun q => by cases q) nm0))
 have h26 := leq23.get _ _ hg25
 have fr27 := foq23_0.base le24
 have no28 := foq23_0.seph hg25
 have le29 := le24.trans leq23
 refine hk18 _ _ <| .nil <| h17 _ _ <| .seq fun K30 h31 => .region <| .q rfl (qmove rfl) ?_
 have fr34 := Fresh.nil A A22 3
 have le38 := le_hide (bs := [some b11, blk lvq23, blk (.slice none 0 0)]) le29 (hoB ge_b11 (hoV fr27.lo (hoV fr34.lo ho0)))
 refine Ops.l rfl (fun _ _ hk32 _ => vcallF rfl (s_run br S (w.foldl push ([])) ([]) lvq23 (.slice none 0 0) b11 (A22.hide [some b11, blk lvq23, blk (.slice none 0 0)]) A22 (hide_le A22 [some b11, blk lvq23, blk (.slice none 0 0)]) (hide_wf wfq23) hrq23_b11 (hide_none (by simp)) (fr27.hide (by simp)) (fr34.hide (by simp)) neq23_0_b11 (fun q => by cases q) (Sep.symm Sep.nil) (hR0.le le38) hS (hL.le le38) (by show (red w).length ≤ 6000; omega) (by simp)) ?_)
 rintro v35 A36 ⟨lvq37, dvq37, rfl, leq37, wfq37, hrq37_b11, foq37_0, foq37_1, neq37_0_b11, neq37_1_b11, spq37_0_1⟩
 have hg39 := hide_get (bs := [some b11, blk lvq23, blk (.slice none 0 0)]) h26 (nmB ne_b4_b11 (nmV no28 (nmV (fun q => by cases q) nm0)))
 have h40 := leq37.get _ _ hg39
 have fr41 := foq37_0.base le38
 have fr43 := foq37_1.base le38
 have no44 := foq37_1.seph hg39
 have le45 := le38.trans leq37
 refine hk32 _ _ <| .nil <| h31 _ _ <| .seq fun K46 h47 => .drawn [0, 1, 2, 3, 4, 5, 6, 7, 8, 9, 10, 11, 12, 13, 14, 15, 16] mixed (by kernel_rfl) (by kernel_rfl) rfl <| .q rfl rfl rfl (qmove rfl) <| .q rfl rfl rfl (qnil rfl) <| .q rfl rfl rfl (qfieldAddr fl111_0 sz109 (by decide) rfl) <| .q rfl rfl rfl (qfieldAddr fl109_0 sz80 (by decide) rfl) <| .q rfl rfl rfl (qloadAt ag80 rfl rfl hrq37_b11 rfl) ?_
 refine DOps.qstr (l := (drun S.list S.most (fuel (w.foldl push ([])).length) (w.foldl push ([])) ([]) 0).1) rfl rfl rfl u80 u9 u5 fr41.slc fun T49 => .q rfl rfl rfl (qmove rfl) <| .q rfl rfl rfl (qnil rfl) <| .q rfl rfl rfl (qfieldAddr fl111_2 sz34 (by decide) rfl) <| .q rfl rfl rfl (qloadAt ag34 rfl rfl hrq37_b11 rfl) <| .q rfl rfl rfl (qlenS (n := ((drun S.list S.most (fuel (w.foldl push ([])).length) (w.foldl push ([])) ([]) 0).2).length) u34 rfl fr43.slc (by omega) (dcells_len _)) <| .q rfl rfl rfl (qmove rfl) <| .q rfl rfl rfl (qnil rfl) <| .q rfl rfl rfl (qfieldAddr fl111_2 sz34 (by decide) rfl) <| .q rfl rfl rfl (qloadAt ag34 rfl rfl hrq37_b11 rfl) ?_
 obtain ⟨p52, l52, c52, q52, _⟩ := fr43.own.slice
 subst q52
 refine DOps.q rfl rfl rfl (qbuild rfl (buildV_struct u36 z36 pl36 rfl)) <| .l rfl rfl rfl (fun _ _ hk53 _ => wstore (cs := [str ((drun S.list S.most (fuel (w.foldl push ([])).length) (w.foldl push ([])) ([]) 0).1), num ((((drun S.list S.most (fuel (w.foldl push ([])).length) (w.foldl push ([])) ([]) 0).2).length : Nat) : Int), .slice p52 l52 c52]) (c' := [str ((drun S.list S.most (fuel (w.foldl push ([])).length) (w.foldl push ([])) ([]) 0).1), num ((((drun S.list S.most (fuel (w.foldl push ([])).length) (w.foldl push ([])) ([]) 0).2).length : Nat) : Int), .slice p52 l52 c52]) wfq37 rfl rfl rfl rfl sz36 h40 (Nat.le_of_ble_eq_true rfl) rfl rfl fun A54 sb55 => ?_)
 have fr58 := fr43.keep sb55.keep no44
 have le59 := le_store le45 wf ge_b4 sb55.n sb55.keep
 refine hk53 _ _ (HeldNow.list (L := []) (by kernel_rfl) heldNil) <| .done <| h47 _ _ <| .ret ?_
 repeat first | with_reducible refine thenQ_ret ?_ | with_reducible refine blockQ_ret ?_
 exact retQ (resCell ag36 sz36 rfl sb55.get rfl resNil) (⟨_, rfl, le59, sb55.wf, fr58⟩)

theorem s_refused (g : Int) (u : Value) (l : List (List UInt8)) (w : List UInt8) (A : AH) (hn : l.length ≤ 1000000) (hL : Lets A) (hw : w.length ≤ 100000) (hu : Slc A 1 u (strs l)) : RetA Tryz.prog 32 #[.agg #[num (g), u], str (w)] A (fun v A1 => v = num ((rasked g l w : Nat) : Int) ∧ A.le A1 ∧ A1.wf) := by
 refine enterA (e := [(0, .agg #[num (g), u]), (1, str (w))]) (args := [.agg #[num (g), u], str (w)]) Tryz.call32 Tryz.func32 rfl Tryz.results32 Tryz.ntmps32 rfl rfl rfl (fun wf => ?_)
 have le_ := AH.le.refl A
 refine Run.seq fun K1 h2 => .region <| .l rfl (fun _ _ hk3 _ => wbox wf rfl rfl fun A5 b4 nb6 => ?_)
 have le7 := le_.trans nb6.le
 refine hk3 _ _ <| .q rfl (qassign rfl) <| .nil <| h2 _ _ <| .seq fun K8 h9 => .seq fun K10 h11 => .region <| .q rfl (qloadAggAt ag24 sz24 rfl rfl nb6.get rfl) <| .l rfl (fun _ _ hk12 _ => vcallF rfl (s_pCheck ((g)) u l A5 (by omega) (hL.le le7) (hu.le le7)) ?_)
 rintro v13 A14 ⟨rfl, leq15, wfq15⟩
 have h16 := leq15.get _ _ nb6.get
 have le17 := le7.trans leq15
 refine hk12 _ _ <| .q rfl (qassign rfl) <| .nil <| h11 _ _ <| .seq fun K18 h19 => .region <| .q rfl (qmove rfl) <| .q rfl (qneqN (b := 0) rfl rfl) <| .nil <| h19 _ _ ?_
 refine Run.if rfl (fun p20 => ?_) (fun p20 => ?_)
 ·
  refine Run.seq fun K21 h22 => .region <| .q rfl (qmove rfl) <| .q rfl (qassign rfl) <| .nil <| h22 _ _ <| .ret ?_
  repeat first | with_reducible refine thenQ_ret ?_ | with_reducible refine blockQ_ret ?_
  exact retQ rfl (⟨by first | (rw [rasked, if_pos ‹_›]; rfl) | (rw [rasked, if_neg ‹_›, if_pos ‹_›]; rfl) | (rw [rasked, if_neg ‹_›, if_neg ‹_›, if_pos ‹_›]; rfl) | (rw [rasked, if_neg ‹_›, if_neg ‹_›, if_neg ‹_›]; rfl), le17, wfq15⟩)
 ·
  refine Run.skip <| h9 _ _ <| .seq fun K23 h24 => .seq fun K25 h26 => .region <| .q rfl (qfieldAddr fl24_0 sz3 (by decide) rfl) <| .q rfl (qloadAt ag3 rfl rfl h16 rfl) <| .q rfl (qmove rfl) <| .l rfl (fun _ _ hk27 _ => vcallF rfl (s_wCheck (g) w A14 (hL.le le17)) ?_)
  rintro v28 A29 ⟨rfl, leq30, wfq30⟩
  have le32 := le17.trans leq30
  refine hk27 _ _ <| .q rfl (qneqN (b := 0) rfl rfl) <| .nil <| h26 _ _ <| .if rfl (fun p33 => ?_) (fun p33 => ?_)
  ·
   refine Run.seq fun K34 h35 => .region <| .q rfl (qassign rfl) <| .nil <| h35 _ _ <| .ret ?_
   repeat first | with_reducible refine thenQ_ret ?_ | with_reducible refine blockQ_ret ?_
   exact retQ rfl (⟨by first | (rw [rasked, if_pos ‹_›]; rfl) | (rw [rasked, if_neg ‹_›, if_pos ‹_›]; rfl) | (rw [rasked, if_neg ‹_›, if_neg ‹_›, if_pos ‹_›]; rfl) | (rw [rasked, if_neg ‹_›, if_neg ‹_›, if_neg ‹_›]; rfl), le32, wfq30⟩)
  ·
   refine Run.skip <| h24 _ _ <| .seq fun K36 h37 => .seq fun K38 h39 => .region <| .q rfl (qmove rfl) <| .q rfl (qslen u9 rfl) <| .q rfl (qgtrN (b := 5000) rfl rfl) <| .nil <| h39 _ _ ?_
   refine Run.if rfl (fun p40 => ?_) (fun p40 => ?_)
   ·
    refine Run.seq fun K41 h42 => .region <| .q rfl (qassign rfl) <| .nil <| h42 _ _ <| .ret ?_
    repeat first | with_reducible refine thenQ_ret ?_ | with_reducible refine blockQ_ret ?_
    exact retQ rfl (⟨by first | (rw [rasked, if_pos ‹_›]; rfl) | (rw [rasked, if_neg ‹_›, if_pos ‹_›]; rfl) | (rw [rasked, if_neg ‹_›, if_neg ‹_›, if_pos ‹_›]; rfl) | (rw [rasked, if_neg ‹_›, if_neg ‹_›, if_neg ‹_›]; rfl), le32, wfq30⟩)
   ·
    refine Run.skip <| h37 _ _ <| .seq fun K43 h44 => .region <| .q rfl (qassign rfl) <| .nil <| h44 _ _ <| .ret ?_
    repeat first | with_reducible refine thenQ_ret ?_ | with_reducible refine blockQ_ret ?_
    exact retQ rfl (⟨by first | (rw [rasked, if_pos ‹_›]; rfl) | (rw [rasked, if_neg ‹_›, if_pos ‹_›]; rfl) | (rw [rasked, if_neg ‹_›, if_neg ‹_›, if_pos ‹_›]; rfl) | (rw [rasked, if_neg ‹_›, if_neg ‹_›, if_neg ‹_›]; rfl), le32, wfq30⟩)

theorem s_heavy (dv : Value) (d : List DCell) (A : AH) (hdn : d.length ≤ 100000000) (hcn : conjs d ≤ 1000000000000) (hv : Slc A 3 dv (dcells d)) : RetA Tryz.prog 35 #[dv] A (fun v A1 => v = .bool (decide (1000000 < conjs d ∨ 100000 < d.length)) ∧ A.le A1 ∧ A1.wf) := by
 refine enterA (e := [(0, dv)]) (args := [dv]) Tryz.call35 Tryz.func35 rfl Tryz.results35 Tryz.ntmps35 rfl rfl rfl (fun wf => ?_)
 have le_ := AH.le.refl A
 refine Run.seq fun K1 h2 => .region <| .q rfl (qassign rfl) <| .nil <| h2 _ _ <| .seq fun K3 h4 => .region <| .q rfl (qassign rfl) <| .nil <| h4 _ _ ?_
 refine Run.seq fun K5 h6 => .seq fun K7 h8 => .region <| .q rfl (qmove rfl) <| .q rfl (qlenS (n := d.length) u34 rfl (hv.le le_) (by omega) (dcells_len _)) <| .q rfl (qmove rfl) <| .nil <| h8 _ _ <| .block <| .loop (X := Nat × Nat) (fun ⟨k, n⟩ => [(0, dv), (3, num ((n : Nat) : Int)), (6, dv), (7, num ((d.length : Nat) : Int)), (8, num ((k : Nat) : Int))]) (fun ⟨k, n⟩ B => (k ≤ d.length ∧ n + conjs (d.drop k) = conjs d) ∧ A.le B) (fun ⟨k, n⟩ => d.length - k) (⟨0, 0⟩) (EnvLe.cons rfl <| EnvLe.cons rfl <| EnvLe.cons rfl <| EnvLe.cons rfl <| EnvLe.cons rfl <| EnvLe.nil _) (⟨⟨Nat.zero_le _, Nat.zero_add _⟩, le_⟩) ?_
 rintro ⟨k, n⟩ B10 ⟨⟨hk, hc⟩, le9⟩
 refine Run.wf fun wf11 => ?_
 have hcd := fun q : k < d.length => conjs_drop q
 refine Run.seq fun K12 h13 => .region <| .q rfl (qlssN rfl rfl) <| .nil <| h13 _ _ <| .seq fun K14 h15 => .if rfl (fun p16 => ?_) (fun p16 => ?_)
 ·
  refine Run.skip <| h15 _ _ <| .seq fun K17 h18 => .block <| .seq fun K19 h20 => .region ?_
  obtain ⟨b21, f21, rw21, r21, rc21, n21, k21, e21, l21, g21, cl21, cs21⟩ := Slc.at (i := k) (hv.le le9) (by simp only [dcells_length]; omega) (by omega)
  refine Ops.q rfl (qindexS u34 sz79 rfl e21 rfl l21) <| .q rfl (qloadAggAt ag79 sz79 rfl rfl g21 (cl21.trans (congrArg some (dcells_at (by omega))))) <| .l rfl (fun _ _ hk22 _ => walloc wf11 z79 rfl fun A24 b23 nb25 => ?_)
  have ge_b23 := none_of wf (Nat.le_trans le9.n nb25.lo)
  have le26 := le9.trans nb25.le
  refine hk22 _ _ <| .l rfl (fun _ _ hk27 _ => wstore (cs := [str ((d.getD k .zero).conj), num ((d.getD k .zero).rel), .bool ((d.getD k .zero).inv)]) (c' := [str ((d.getD k .zero).conj), num ((d.getD k .zero).rel), .bool ((d.getD k .zero).inv)]) nb25.wf rfl rfl rfl rfl sz79 nb25.get (Nat.le_of_ble_eq_true rfl) rfl rfl fun A28 sb29 => ?_)
  have le30 := le_store le26 wf ge_b23 sb29.n sb29.keep
  refine hk27 _ _ <| .nil <| h20 _ _ <| .region <| .q rfl (qmove rfl) <| .q rfl (qfieldAddr fl79_0 sz9 (by decide) rfl) <| .q rfl (qloadAt ag9 rfl rfl sb29.get rfl) <| .q rfl (qslen u9 rfl) <| .q rfl (qaddN rfl rfl (by have := hcd (by omega); omega)) <| .q rfl (qassign rfl) ?_
  refine Ops.nil <| h18 _ _ <| .region <| .q rfl (qaddN (b := 1) rfl rfl (by omega)) <| .q rfl (qmove rfl) <| .nil ?_
  exact ⟨⟨k + 1, n + (d.getD k .zero).conj.length⟩, EnvLe.cons rfl <| EnvLe.cons rfl <| EnvLe.cons rfl <| EnvLe.cons rfl <| EnvLe.cons rfl <| EnvLe.nil _, rfl, ⟨⟨by omega, by have := hcd (by omega); omega⟩, le30⟩, (by (try dsimp only); omega)⟩
 ·
  refine Run.exit <| h6 _ _ <| .seq fun K31 h32 => .region <| .q rfl (qmove rfl) <| .q rfl (qgtrN (b := 1000000) rfl rfl) <| .q rfl (qmove rfl) <| .part (t := 20) rfl (fun p33 => ?_) (fun p33 => ?_)
  ·
   refine Ops.off rfl rfl rfl rfl <| .off rfl rfl rfl rfl <| .off rfl rfl rfl rfl <| .q rfl (qpickT rfl rfl) <| .q rfl (qassign rfl) <| .nil <| h32 _ _ <| .ret ?_
   repeat first | with_reducible refine thenQ_ret ?_ | with_reducible refine blockQ_ret ?_
   exact retQ rfl (⟨by have hz : conjs (d.drop k) = 0 := (by rw [dropL_end (by omega)]; rfl); have hn2 : n = conjs d := (by omega); subst hn2; simp_all [oneV] <;> omega, le9, wf11⟩)
  ·
   refine Ops.on rfl rfl <| .q rfl (qmove rfl) <| .on rfl rfl <| .q rfl (qlenS (n := d.length) u34 rfl (hv.le le9) (by omega) (dcells_len _)) <| .on rfl rfl <| .q rfl (qgtrN (b := 100000) rfl rfl) <| .q rfl (qpickF rfl rfl) <| .q rfl (qassign rfl) <| .nil <| h32 _ _ ?_
   refine Run.ret ?_
   repeat first | with_reducible refine thenQ_ret ?_ | with_reducible refine blockQ_ret ?_
   exact retQ rfl (⟨by have hz : conjs (d.drop k) = 0 := (by rw [dropL_end (by omega)]; rfl); have hn2 : n = conjs d := (by omega); subst hn2; simp_all [oneV] <;> omega, le9, wf11⟩)
end Go.Proofs.YtaccklloepfemaaGreatDoor

namespace Go.Proofs.YtaccklloepfemaaGreatDoor
set_option linter.unusedVariables false
set_option linter.unusedSimpArgs false
open Go Go.RowKit
namespace V

theorem getE_app : ∀ (l : Env) (e : Env) (t : Nat) (v : Value), getE (l ++ e) t = some v → (t, v) ∈ l ∨ getE e t = some v
  | [], _, _, _, h => .inr h
  | (k, u) :: l, e, t, v, h => by
    rw [List.cons_append, getE_cons] at h
    split at h
    · rename_i q; cases h; subst q; exact .inl List.mem_cons_self
    · rcases getE_app l e t v h with q | q
      · exact .inl (List.mem_cons_of_mem _ q)
      · exact .inr q
def depsE (q : Nat → Option (Nat × Value)) (o : Oper) (e : Env) : Env := o.after.toList.filterMap (fun x => q x.on) ++ e
/-- What the slots hold when some quiet operations have come up. -/
structure Know (nt : Nat) (e : Env) (ds : List Deferred) (q : Nat → Option (Nat × Value)) (listed : Array Bool) (a : Act) : Prop where
  ok : ActOk nt ⟨e, ds⟩ a
  got : ∀ j d v, listed.getD j false = true → q j = some (d, v) → a.tmps.getD d undef = v ∧ d < nt

theorem phaseIn {P : Program} {F : Fence} (hF : okF F) {n nt : Nat} {ops : Array Oper} {Q : Exit → Act → World → Prop} {e : Env} {ds : List Deferred} {A : AH} {w : World} (hw : View A w) (q : Nat → Option (Nat × Value))
    (hop : ∀ i d v, q i = some (d, v) → ∃ o T, ops[i]? = some o ∧ o.guard = none ∧ o.dst = some d ∧ noDefer o = true ∧ d < nt ∧ getE e d = none ∧ (∀ x ∈ o.after, Region.binds .any x = true ∧ x.on < i ∧ (q x.on).isSome = true) ∧ quietV P (depsE q o e) A o.op = some (v, T))
    (hdist : ∀ i j d v u, q i = some (d, v) → q j = some (d, u) → i = j)
    (hloud : ∀ listed : Array Bool, Closed ops listed → (∀ j, listed.getD j false = true → (q j).isSome = true) → ∀ i, i ∈ Region.ready .any ops listed → q i = none → ∀ j, (q j).isSome = true → listed.getD j false = true)
    (r : Nat) (hcont : ∀ (listed : Array Bool) a, listed.size = ops.size → (∀ j, listed.getD j false = (q j).isSome) → Know nt e ds q listed a → wpAnyIn F n P .any ops Q r listed a w) :
    ∀ (m : Nat) (listed : Array Bool) (a : Act), ((List.range ops.size).filter fun j => (q j).isSome && !listed.getD j false).length = m → listed.size = ops.size → Closed ops listed → (∀ j, listed.getD j false = true → (q j).isSome = true) → Know nt e ds q listed a →
      wpAnyIn F n P .any ops Q (m + r) listed a w := by
  have qlt : ∀ j, (q j).isSome = true → j < ops.size := fun j hj => by
    obtain ⟨⟨d, v⟩, hq⟩ := Option.isSome_iff_exists.1 hj
    obtain ⟨o, T, ho, _⟩ := hop j d v hq
    exact (Array.getElem?_eq_some_iff.1 ho).1
  intro m
  induction m with
  | zero =>
    intro listed a hm hs hc hsub hk
    rw [Nat.zero_add]
    refine hcont listed a hs (fun j => ?_) hk
    cases hl : listed.getD j false with
    | true => exact (hsub j hl).symm
    | false =>
      cases hj : (q j).isSome with
      | false => rfl
      | true =>
        exfalso
        have : j ∈ (List.range ops.size).filter fun j => (q j).isSome && !listed.getD j false := by
          rw [List.mem_filter]; exact ⟨by simpa using qlt j hj, by rw [hj, hl]; rfl⟩
        rw [List.length_eq_zero_iff.1 hm] at this; cases this
  | succ m ih =>
    intro listed a hm hs hc hsub hk
    rw [Nat.add_right_comm]
    obtain ⟨j0, hj0⟩ : ∃ j, j ∈ (List.range ops.size).filter fun j => (q j).isSome && !listed.getD j false := by
      cases hl : (List.range ops.size).filter fun j => (q j).isSome && !listed.getD j false with
      | nil => rw [hl] at hm; cases hm
      | cons x xs => exact ⟨x, List.mem_cons_self⟩
    rw [List.mem_filter] at hj0
    simp only [Bool.and_eq_true, Bool.not_eq_true'] at hj0
    have good : ∀ i d v, q i = some (d, v) → listed.getD i false = false → i ∈ Region.ready .any ops listed → wpOpIn F n P ops Q i (wpAnyIn F n P .any ops Q (m + r) (listed.setIfInBounds i true)) a w := by
      intro i d v hq hl hr
      obtain ⟨o, T, ho, hg, hd, hnd, hlt, hnone, haf, hv⟩ := hop i d v hq
      have hi : i < listed.size := by rw [hs]; exact (Array.getElem?_eq_some_iff.1 ho).1
      have hset : ∀ j, (listed.setIfInBounds i true).getD j false = (if j = i then true else listed.getD j false) := fun j => by
        by_cases hji : j = i
        · subst hji; simp [hi]
        · rw [if_neg hji, getD_set_ne false (Ne.symm hji)]
      have hdeps : ∀ x ∈ o.after, listed.getD x.on false = true := fun x hx => by
        obtain ⟨_, o', ho', hall⟩ := mem_ready.1 hr
        rw [ho] at ho'; cases ho'
        exact hall x hx (haf x hx).1
      have hact : ActOk nt ⟨depsE q o e, ds⟩ a := ⟨hk.ok.size, fun t u ht => by
        rcases getE_app _ _ _ _ ht with hm2 | hm2
        · obtain ⟨x, hx, hqx⟩ := List.mem_filterMap.1 hm2
          exact hk.got _ _ _ (hdeps x (by simpa using hx)) hqx
        · exact hk.ok.slot t u hm2, hk.ok.ds⟩
      obtain ⟨h1, h2⟩ := quietV_sound (o := o) (f := ⟨depsE q o e, ds⟩) hv hact hw
      unfold wpOpIn
      simp only [ho]
      rw [if_pos (by simp [Region.wanted, hg])]
      have hs2 : o.semAt F.round a.eval = execOp a.eval o := Oper.semAt_eq _ _ _ (fun c hc => by simp [noDefer, hc] at hnd)
      refine ⟨fun f _ => okF_fn hF f, ?_⟩
      rw [hs2, h2 w h1]
      show wpAnyIn F n P .any ops Q (m + r) (listed.setIfInBounds i true) (a.put o.dst v) w
      refine ih _ _ ?_ (by simpa using hs) (closed_set hc hr) (fun j hj => ?_) ⟨?_, fun j d' v' hj hqj => ?_⟩
      · have e1 : ((List.range ops.size).filter fun j => (q j).isSome && !(listed.setIfInBounds i true).getD j false) = ((List.range ops.size).filter fun j => (q j).isSome && !listed.getD j false).erase i := by
          rw [List.Nodup.erase_eq_filter (List.Pairwise.filter _ List.nodup_range), List.filter_filter]
          apply List.filter_congr
          intro j _
          rw [hset j]
          by_cases hji : j = i
          · subst hji; simp
          · simp [hji]
        rw [e1, List.length_erase_of_mem, hm]
        · rfl
        · rw [List.mem_filter]
          exact ⟨by rw [List.mem_range]; omega, by rw [hq, hl]; rfl⟩
      · rw [hset j] at hj
        split at hj
        · rename_i hji; subst hji; rw [hq]; rfl
        · exact hsub j hj
      · refine ⟨?_, fun t u ht => ?_, ?_⟩
        · rw [hd]; simp [Act.put, hk.ok.size]
        · have hne : t ≠ d := by rintro rfl; rw [hnone] at ht; cases ht
          obtain ⟨g1, g2⟩ := hk.ok.slot t u ht
          refine ⟨?_, g2⟩
          rw [hd]; simp only [Act.put]
          rw [← g1]; simp [Array.getElem?_setIfInBounds_ne (Ne.symm hne)]
        · rw [hd]; simp [Act.put, hk.ok.ds]
      · rw [hset j] at hj
        by_cases hji : j = i
        · subst hji
          rw [hq] at hqj; cases hqj
          refine ⟨?_, hlt⟩
          rw [hd]; simp [Act.put, hk.ok.size, hlt]
        · rw [if_neg hji] at hj
          have hne : d' ≠ d := by rintro rfl; exact hji (hdist j i d' v' v hqj hq)
          obtain ⟨g1, g2⟩ := hk.got j d' v' hj hqj
          refine ⟨?_, g2⟩
          rw [hd]; simp only [Act.put]
          rw [← g1]; simp [Array.getElem?_setIfInBounds_ne (Ne.symm hne)]
    refine ⟨fun hnil => ?_, fun i hi => ?_⟩
    · exfalso
      -- the least one that has not come up is ready
      have key : ∀ k j, j ≤ k → (q j).isSome = true → listed.getD j false = false → False := by
        intro k
        induction k using Nat.strongRecOn with
        | _ k ihk =>
          intro j hjk hqj hlj
          obtain ⟨⟨d, v⟩, hq⟩ := Option.isSome_iff_exists.1 hqj
          obtain ⟨o, T, ho, _, _, _, _, _, haf, _⟩ := hop j d v hq
          by_cases hall : ∀ x ∈ o.after, listed.getD x.on false = true
          · have hjs : j < listed.size := by rw [hs]; exact qlt j hqj
            have : j ∈ Region.ready .any ops listed := mem_ready.2 ⟨by simpa [hjs] using hlj, o, ho, fun x hx _ => by
              have h2 := hall x hx
              have h3 : x.on < listed.size := by rw [hs]; exact qlt _ (haf x hx).2.2
              simpa [h3] using h2⟩
            rw [hnil] at this; cases this
          · obtain ⟨x, hx⟩ := Classical.not_forall.1 hall
            obtain ⟨hx1, hx2⟩ := Classical.not_imp.1 hx
            exact ihk x.on (by have := (haf x hx1).2.1; omega) x.on (Nat.le_refl _) (haf x hx1).2.2 (by simpa using hx2)
      exact key j0 j0 (Nat.le_refl _) hj0.2.1 hj0.2.2
    · cases hqi : q i with
      | none =>
        have := hloud listed hc hsub i hi hqi j0 hj0.2.1
        rw [hj0.2.2] at this; cases this
      | some x =>
        obtain ⟨d, v⟩ := x
        refine good i d v hqi ?_ hi
        have h1 := (mem_ready.1 hi).1
        exact getD_false h1

theorem Run.drawnY {P : Program} {nt : Nat} {ops : Array Oper} {Q : Exit → Fr → AH → Prop} {e : Env} {ds : List Deferred} {A : AH} {id : Nat} (q : Nat → Option (Nat × Value)) (y z l m : Nat) (L : Array Bool) {dy dz : Nat} {fo : Operand} {aa : Array Operand} {tt : Array TypeId} {opz : Op} {ty tz : TypeId} {ps pz : String} {afy afz : Array Edge} {vs : List Value} {R : Value → AH → Prop} (ey : Env)
    (hm : P.follows .mixedOrders = true)
    (hop : ∀ i d v, q i = some (d, v) → ∃ o T, ops[i]? = some o ∧ o.guard = none ∧ o.dst = some d ∧ noDefer o = true ∧ d < nt ∧ getE e d = none ∧ (∀ x ∈ o.after, Region.binds .any x = true ∧ x.on < i ∧ (q x.on).isSome = true) ∧ quietV P (depsE q o e) A o.op = some (v, T))
    (hdist : ∀ i j d v u, q i = some (d, v) → q j = some (d, u) → i = j)
    (hloud : ∀ listed : Array Bool, Closed ops listed → (∀ j, listed.getD j false = true → (q j).isSome = true) → ∀ i, i ∈ Region.ready .any ops listed → q i = none → ∀ j, (q j).isSome = true → listed.getD j false = true)
    (hy : ops[y]? = some { dst := some dy, op := .call { callee := .value fo, args := aa, argTypes := tt }, type := ty, pos := ps, after := afy, guard := none })
    (hz : ops[z]? = some { dst := some dz, op := opz, type := tz, pos := pz, after := afz, guard := none }) (hzd : noDefer { dst := some dz, op := opz, type := tz, pos := pz, after := afz, guard := none } = true)
    (hdy : dy < nt) (hdz : dz < nt) (hL : ∀ j, L.getD j false = (q j).isSome) (hLs : L.size = ops.size) (r1 : Region.ready .any ops L = [y]) (r2 : Region.ready .any ops (L.setIfInBounds y true) = [z]) (r3 : Region.ready .any ops ((L.setIfInBounds y true).setIfInBounds z true) = [])
    (hcount : ((List.range ops.size).filter fun j => (q j).isSome && !(Array.replicate ops.size false).getD j false).length = m) (hsz : ops.size = m + 2)
    (hey : ∀ t v, getE ey t = some v → getE e t = some v ∨ ∃ j, q j = some (t, v))
    (hf : opd ey fo = some (.func (.yield l) #[] #[])) (ha : allV (opd ey) aa.toList = some vs) (hc : YieldA P l vs.toArray A R)
    (h : ∀ v A', R v A' → ∃ u T, quietV P ((dy, v) :: e) A' opz = some (u, T) ∧ Q .normal ⟨(dz, u) :: (dy, v) :: e, ds⟩ A') :
    Run P nt (.region id ops true) Q ⟨e, ds⟩ A := by
  intro a w hact hw
  obtain ⟨v1, s1⟩ := view_drawn hw
  refine wpIn_wide.1 (wpIn_region_any (F := Fence.wide) (n := 0) hm ?_)
  generalize ({ w with drawn := w.drawn + 1 } : World) = W at v1 s1 ⊢
  rw [hsz]
  have hrep : ∀ j, (Array.replicate ops.size false).getD j false = false := fun j => by
    rcases Nat.lt_or_ge j ops.size with g | g
    · simp [g]
    · simp [g]
  have start := phaseIn (P := P) (n := 0) okF_wide v1 q hop hdist hloud 2 (Q := PostQ nt Q A w) (ds := ds) ?_ m (Array.replicate ops.size false) a hcount (by simp) (fun j o _ hj => by rw [hrep j] at hj; cases hj) (fun j hj => by rw [hrep j] at hj; cases hj) ⟨hact, fun j d v hj => by rw [hrep j] at hj; cases hj⟩
  · rw [hsz] at start; exact start
  intro listed a1 hls hlq hk
  have hlL : listed = L := by
    apply Array.ext (by rw [hls, hLs])
    intro j h1 h2
    have g1 := hlq j
    have g2 := hL j
    simp only [Array.getD_eq_getD_getElem?, Array.getElem?_eq_getElem h1, Array.getElem?_eq_getElem h2, Option.getD_some] at g1 g2
    rw [g1, g2]
  subst hlL
  have hacty : ActOk nt ⟨ey, ds⟩ a1 := ⟨hk.ok.size, fun t v ht => by
    rcases hey t v ht with g | ⟨j, g⟩
    · exact hk.ok.slot t v g
    · exact hk.got j t v (by rw [hlq j, g]; rfl) g, hk.ok.ds⟩
  refine ⟨fun g => (by rw [r1] at g; cases g), fun i hi => ?_⟩
  rw [r1] at hi
  obtain rfl := List.mem_singleton.1 hi
  unfold wpOpIn
  simp only [hy]
  rw [if_pos (by simp [Region.wanted])]
  refine ⟨fun _ _ => trivial, ?_⟩
  have hev : ∀ x v, opd ey x = some v → a1.eval x = v := fun x v g => opd_eval hacty g
  have hargs : aa.map a1.eval = vs.toArray := by apply Array.ext'; simp [all_eval hev _ _ ha]
  obtain ⟨fn, tmps, assign, body, hyy, hr⟩ := hc _ v1
  have hx : (execOp a1.eval { dst := some dy, op := .call { callee := .value fo, args := aa, argTypes := tt }, type := ty, pos := ps, after := afy, guard := none }).run P W = .ok (.round l fn tmps assign body) W := by
    simp [execOp, resolve, hev _ _ hf, hargs, Deferred.ofValue, invoke, hyy]
  rw [show Fence.wide.round = none from rfl, Oper.semAt_none, hx]
  refine ⟨fun g => (by cases g), RoundIn.mono hr ?_⟩
  rintro en w' ⟨A', v, rfl, hv, hst, hR⟩
  obtain ⟨u, T, hu, hQ⟩ := h v A' hR
  show wpAnyIn Fence.wide 0 P .any ops (PostQ nt Q A w) 1 (listed.setIfInBounds i true) (a1.put (some dy) v) w'
  refine ⟨fun g => (by rw [r2] at g; cases g), fun k hk2 => ?_⟩
  rw [r2] at hk2
  obtain rfl := List.mem_singleton.1 hk2
  have hact2 : ActOk nt ⟨(dy, v) :: e, ds⟩ (a1.put (some dy) v) := hk.ok.put (some dy) v (fun t g => by cases g; exact hdy)
  obtain ⟨h1, h2⟩ := quietV_sound (o := { dst := some dz, op := opz, type := tz, pos := pz, after := afz, guard := none }) (f := ⟨(dy, v) :: e, ds⟩) hu hact2 hv
  unfold wpOpIn
  simp only [hz]
  rw [if_pos (by simp [Region.wanted])]
  refine ⟨fun _ _ => trivial, ?_⟩
  rw [show Fence.wide.round = none from rfl, Oper.semAt_none, h2 w' h1]
  show wpAnyIn Fence.wide 0 P .any ops (PostQ nt Q A w) 0 ((listed.setIfInBounds i true).setIfInBounds k true) ((a1.put (some dy) v).put (some dz) u) w'
  exact ⟨r3, _, A', hact2.put (some dz) u (fun t g => by cases g; exact hdz), hv, s1.trans hst, hQ, fun _ g => by cases g⟩
end V
end Go.Proofs.YtaccklloepfemaaGreatDoor

namespace Go.Proofs.YtaccklloepfemaaGreatDoor
open Go Go.RowKit V
set_option maxRecDepth 100000
set_option linter.unusedVariables false
set_option linter.unusedSimpArgs false


theorem s_rotations (w : List UInt8) (A : AH) : RetA Tryz.prog 57 #[str (w)] A (fun v A1 => ∃ b1, v = .func (.func 91) #[] #[.pointer (some ⟨b1, 0, none⟩)] ∧ A.le A1 ∧ A1.wf ∧ A1.get b1 = some (.row true [str w] 1)) := by
 refine enterA (e := [(0, str (w))]) (args := [str (w)]) Tryz.call57 Tryz.func57 rfl Tryz.results57 Tryz.ntmps57 rfl rfl rfl (fun wf => ?_)
 have le_ := AH.le.refl A
 refine Run.seq fun K1 h2 => .region <| .l rfl (fun _ _ hk3 _ => wbox wf rfl rfl fun A5 b4 nb6 => ?_)
 have le7 := le_.trans nb6.le
 refine hk3 _ _ <| .q rfl (qassign rfl) <| .nil <| h2 _ _ <| .seq fun K8 h9 => .region <| .q rfl (qfunc rfl rfl) <| .q rfl (qassign rfl) <| .nil <| h9 _ _ ?_
 refine Run.ret ?_
 repeat first | with_reducible refine thenQ_ret ?_ | with_reducible refine blockQ_ret ?_
 exact retQ rfl (⟨_, rfl, le7, nb6.wf, nb6.get⟩)

def rq (w : List UInt8) (l b1 i : Nat) : Nat → Option (Nat × Value)
  | 0 => some (9, .func (.yield l) #[] #[])
  | 1 => some (10, str w)
  | 2 => some (11, num ((i : Nat) : Int))
  | 3 => some (12, str (w.take i))
  | 4 => some (13, str w)
  | 5 => some (14, num ((i : Nat) : Int))
  | 6 => some (15, str (w.drop i))
  | 7 => some (16, str w)
  | 8 => some (17, num ((i : Nat) : Int))
  | 9 => some (18, str (w.take i))
  | 10 => some (19, str (w.drop i ++ w.take i))
  | _ => none
theorem rq_dst {w : List UInt8} {l b1 i j d : Nat} {v : Value} (h : rq w l b1 i j = some (d, v)) : d = j + 9 ∧ j ≤ 10 := by
  rcases j with _ | _ | _ | _ | _ | _ | _ | _ | _ | _ | _ | j <;> first | (cases h; exact ⟨rfl, by decide⟩) | cases h
theorem s_rot1 (w : List UInt8) (b1 l : Nat) (J : Nat → AH → Prop) (B : AH) (hw : w.length ≤ 1000000) (hJb : ∀ i C, J i C → ∃ rw cap, C.get b1 = some (.row rw [str w] cap)) (wfB : B.wf) (h0 : J 0 B)
    (hy : ∀ i C, i < w.length → C.wf → J i C → YieldA Tryz.prog l #[str (w.take i), str (w.drop i ++ w.take i)] C (fun v C' => v = .bool true ∧ J (i + 1) C' ∧ C'.wf)) : RetA Tryz.prog 91 #[.func (.yield l) #[] #[], .pointer (some ⟨b1, 0, none⟩)] B (fun _ C => J w.length C ∧ C.wf) := by
  refine enterA (e := [(0, .func (.yield l) #[] #[]), (1, .pointer (some ⟨b1, 0, none⟩))]) (args := [.func (.yield l) #[] #[], .pointer (some ⟨b1, 0, none⟩)]) Tryz.call91 Tryz.func91 rfl Tryz.results91 Tryz.ntmps91 rfl rfl rfl (fun wf => ?_)
  obtain ⟨rw0, cap0, hb0⟩ := hJb 0 B h0
  refine Run.seq fun K1 k2 => ?_
  refine Run.region ?_
  refine Ops.q rfl (qloadAt ag9 rfl rfl hb0 rfl) ?_
  refine Ops.q rfl (qslen u9 rfl) ?_
  refine Ops.q rfl (qmove rfl) ?_
  refine Ops.nil ?_
  refine k2 _ _ ?_
  refine Run.block ?_
  refine Run.loop (X := Nat) (fun k => [(0, .func (.yield l) #[] #[]), (1, .pointer (some ⟨b1, 0, none⟩)), (5, num ((w.length : Nat) : Int)), (6, num ((k : Nat) : Int))]) (fun k C => k ≤ w.length ∧ C.wf ∧ J k C) (fun k => w.length - k) 0 (EnvLe.cons rfl <| EnvLe.cons rfl <| EnvLe.cons rfl <| EnvLe.cons rfl <| EnvLe.nil _) ⟨Nat.zero_le _, wfB, h0⟩ ?_
  rintro k C ⟨hk, wfC, hJ⟩
  refine Run.seq fun K3 k4 => ?_
  refine Run.region ?_
  refine Ops.q rfl (qlssN rfl rfl) ?_
  refine Ops.nil ?_
  refine k4 _ _ ?_
  refine Run.seq fun K5 k6 => ?_
  refine Run.if rfl (fun p1 => ?_) (fun p1 => ?_)
  · refine Run.skip ?_
    refine k6 _ _ ?_
    refine Run.seq fun K7 k8 => ?_
    refine Run.block ?_
    refine Run.seq fun K9 k10 => ?_
    refine Run.region ?_
    refine Ops.q rfl (qmove rfl) ?_
    refine Ops.q rfl (qassign rfl) ?_
    refine Ops.nil ?_
    refine k10 _ _ ?_
    refine Run.seq fun K11 k12 => ?_
    obtain ⟨rw1, cap1, hb1⟩ := hJb k C hJ
    refine Run.forget (e := [(0, .func (.yield l) #[] #[]), (1, .pointer (some ⟨b1, 0, none⟩)), (5, num ((w.length : Nat) : Int)), (6, num ((k : Nat) : Int)), (3, num ((k : Nat) : Int))]) (EnvLe.cons rfl <| EnvLe.cons rfl <| EnvLe.cons rfl <| EnvLe.cons rfl <| EnvLe.cons rfl <| EnvLe.nil _) ?_
    refine Run.drawnY (rq w l b1 k) 11 12 l 11 #[true, true, true, true, true, true, true, true, true, true, true, false, false] [(9, .func (.yield l) #[] #[]), (12, str (w.take k)), (19, str (w.drop k ++ w.take k))] mixed ?_ ?_ ?_ rfl rfl rfl (by decide) (by decide) ?_ rfl (by kernel_rfl) (by kernel_rfl) (by kernel_rfl) rfl rfl ?_ rfl rfl (hy k C p1 wfC hJ) ?_
    · intro i d v h
      have dep : ∀ (o : Oper), (∀ x ∈ o.after.toList, Region.binds .any x = true ∧ x.on < i ∧ (rq w l b1 k x.on).isSome = true) → (∀ x ∈ o.after, Region.binds .any x = true ∧ x.on < i ∧ (rq w l b1 k x.on).isSome = true) := fun o h x hx => h x (by simpa using hx)
      rcases i with _ | _ | _ | _ | _ | _ | _ | _ | _ | _ | _ | i
      · cases h; exact ⟨_, _, rfl, rfl, rfl, rfl, by decide, rfl, dep _ (fun x hx => by cases hx), qmove rfl⟩
      · cases h; exact ⟨_, _, rfl, rfl, rfl, rfl, by decide, rfl, dep _ (fun x hx => by cases hx), qloadAt ag9 rfl rfl hb1 rfl⟩
      · cases h; exact ⟨_, _, rfl, rfl, rfl, rfl, by decide, rfl, dep _ (fun x hx => by cases hx), qmove rfl⟩
      · cases h; exact ⟨_, _, rfl, rfl, rfl, rfl, by decide, rfl, dep _ (List.forall_mem_cons.2 ⟨⟨rfl, by decide, rfl⟩, List.forall_mem_cons.2 ⟨⟨rfl, by decide, rfl⟩, fun x hx => by cases hx⟩⟩), qslHi u9 rfl rfl (by omega)⟩
      · cases h; exact ⟨_, _, rfl, rfl, rfl, rfl, by decide, rfl, dep _ (fun x hx => by cases hx), qloadAt ag9 rfl rfl hb1 rfl⟩
      · cases h; exact ⟨_, _, rfl, rfl, rfl, rfl, by decide, rfl, dep _ (fun x hx => by cases hx), qmove rfl⟩
      · cases h; exact ⟨_, _, rfl, rfl, rfl, rfl, by decide, rfl, dep _ (List.forall_mem_cons.2 ⟨⟨rfl, by decide, rfl⟩, List.forall_mem_cons.2 ⟨⟨rfl, by decide, rfl⟩, fun x hx => by cases hx⟩⟩), qslLo u9 rfl rfl (by omega)⟩
      · cases h; exact ⟨_, _, rfl, rfl, rfl, rfl, by decide, rfl, dep _ (fun x hx => by cases hx), qloadAt ag9 rfl rfl hb1 rfl⟩
      · cases h; exact ⟨_, _, rfl, rfl, rfl, rfl, by decide, rfl, dep _ (fun x hx => by cases hx), qmove rfl⟩
      · cases h; exact ⟨_, _, rfl, rfl, rfl, rfl, by decide, rfl, dep _ (List.forall_mem_cons.2 ⟨⟨rfl, by decide, rfl⟩, List.forall_mem_cons.2 ⟨⟨rfl, by decide, rfl⟩, fun x hx => by cases hx⟩⟩), qslHi u9 rfl rfl (by omega)⟩
      · cases h; exact ⟨_, _, rfl, rfl, rfl, rfl, by decide, rfl, dep _ (List.forall_mem_cons.2 ⟨⟨rfl, by decide, rfl⟩, List.forall_mem_cons.2 ⟨⟨rfl, by decide, rfl⟩, fun x hx => by cases hx⟩⟩), qsadd rfl rfl (by simp only [List.length_drop, List.length_take]; omega)⟩
      · cases h
    · intro i j d v u hi hj
      have h1 := rq_dst hi; have h2 := rq_dst hj; omega
    · intro listed hc hsub i hr hq j hj
      obtain ⟨_, o, ho, hall⟩ := mem_ready.1 hr
      rcases i with _ | _ | _ | _ | _ | _ | _ | _ | _ | _ | _ | i
      iterate 11 cases hq
      have hi : i = 0 ∨ i = 1 := by
        have := (Array.getElem?_eq_some_iff.1 ho).1
        simp at this; omega
      rcases hi with rfl | rfl
      · cases ho
        have d0 := hall ⟨0, .data⟩ (by simp) rfl
        have d3 := hall ⟨3, .data⟩ (by simp) rfl
        have d10 := hall ⟨10, .data⟩ (by simp) rfl
        have d1 := hc 3 _ rfl d3 ⟨1, .data⟩ (by simp) rfl
        have d2 := hc 3 _ rfl d3 ⟨2, .data⟩ (by simp) rfl
        have d6 := hc 10 _ rfl d10 ⟨6, .data⟩ (by simp) rfl
        have d9 := hc 10 _ rfl d10 ⟨9, .data⟩ (by simp) rfl
        have d4 := hc 6 _ rfl d6 ⟨4, .data⟩ (by simp) rfl
        have d5 := hc 6 _ rfl d6 ⟨5, .data⟩ (by simp) rfl
        have d7 := hc 9 _ rfl d9 ⟨7, .data⟩ (by simp) rfl
        have d8 := hc 9 _ rfl d9 ⟨8, .data⟩ (by simp) rfl
        rcases j with _ | _ | _ | _ | _ | _ | _ | _ | _ | _ | _ | j <;> first | assumption | cases hj
      · cases ho
        have d11 := hall ⟨11, .data⟩ (by simp) rfl
        have := hsub 11 d11
        cases this
    · intro j
      rcases j with _ | _ | _ | _ | _ | _ | _ | _ | _ | _ | _ | _ | _ | j <;> rfl
    · intro t v h
      rw [getE_cons] at h
      split at h
      · rename_i q; subst q; cases h; exact .inr ⟨0, rfl⟩
      · rw [getE_cons] at h
        split at h
        · rename_i q; subst q; cases h; exact .inr ⟨3, rfl⟩
        · rw [getE_cons] at h
          split at h
          · rename_i q; subst q; cases h; exact .inr ⟨10, rfl⟩
          · cases h
    · rintro v C2 ⟨rfl, hJ2, wf2⟩
      refine ⟨_, _, qnot rfl, ?_⟩
      refine k12 _ _ ?_
      refine Run.cond_false rfl ?_
      refine Run.skip ?_
      refine k8 _ _ ?_
      refine Run.region ?_
      refine Ops.q rfl (qaddN (b := 1) rfl rfl (by omega)) ?_
      refine Ops.q rfl (qmove rfl) ?_
      refine Ops.nil ?_
      exact ⟨k + 1, EnvLe.cons rfl <| EnvLe.cons rfl <| EnvLe.cons rfl <| EnvLe.cons rfl <| EnvLe.nil _, rfl, ⟨by omega, wf2, hJ2⟩, by omega⟩
  · refine Run.exit ?_
    repeat first | with_reducible refine thenQ_exit ?_ | with_reducible refine blockQ_same ?_ | with_reducible refine blockQ_other (by decide) ?_
    have hk2 : k = w.length := by omega
    subst hk2
    exact retQn (vs := []) rfl ⟨hJ, wfC⟩

end Go.Proofs.YtaccklloepfemaaGreatDoor

namespace Go.Proofs.YtaccklloepfemaaGreatDoor
set_option linter.unusedVariables false
set_option linter.unusedSimpArgs false
open Go Go.RowKit
namespace V
/-- All objects that are no rows are as they were. -/
structure Objs (A B : AH) : Prop where
  n : A.n ≤ B.n
  get : ∀ b o, A.get b = some (.obj true o) → B.get b = some (.obj true o)
section
variable {A B C : AH} {b : Nat} {v v' : Value} {size : Nat} {xs ys : List Value}
theorem Objs.refl (A : AH) : Objs A A := ⟨Nat.le_refl _, fun _ _ h => h⟩
theorem Objs.le (h : Objs A B) (le : B.le C) : Objs A C := ⟨Nat.le_trans h.n le.n, fun b o g => le.get _ _ (h.get b o g)⟩
theorem Objs.set {c : List Value} {cap : Nat} {rw : Bool} (h : Objs A B) (g : B.get b = some (.row rw c cap)) (hn : C.n = B.n) (k : ∀ b' o, b' ≠ b → B.get b' = some o → C.get b' = some o) : Objs A C :=
  ⟨by rw [hn]; exact h.n, fun b' o g' => k b' _ (by rintro rfl; rw [h.get _ _ g'] at g; cases g) (h.get _ _ g')⟩
theorem Objs.appd (h : Objs A B) (own : Own B v size xs) (ap : Appd B v size ys v' C) : Objs A C :=
  ⟨Nat.le_trans h.n ap.n, fun b o g => ap.get b _ (h.get _ _ g) fun q => by
    rcases own with ⟨rfl, _⟩ | ⟨b', n, k, r, rcap, rfl, h2, _⟩
    · cases q
    · cases q; rw [h.get _ _ g] at h2; cases h2⟩
/-- The blocks of the marks that a function has pushed. -/
def Defs (A0 A : AH) (Ds : List Nat) : Prop := Ds.Nodup ∧ ∀ D ∈ Ds, A.get D = some (.obj true (.deferred (some []))) ∧ A0.get D = none
theorem Defs.objs {A0 : AH} {Ds : List Nat} (h : Defs A0 A Ds) (ob : Objs A B) : Defs A0 B Ds := ⟨h.1, fun D hD => ⟨ob.get _ _ (h.2 D hD).1, (h.2 D hD).2⟩⟩
theorem Defs.keep {A0 : AH} {Ds : List Nat} {o : AObj} (h : Defs A0 A Ds) (k : ∀ b' o, b' ≠ b → A.get b' = some o → B.get b' = some o) (g : A.get b = some o) (hne : o ≠ .obj true (.deferred (some []))) : Defs A0 B Ds :=
  ⟨h.1, fun D hD => ⟨k D _ (by rintro rfl; rw [(h.2 _ hD).1] at g; cases g; exact hne rfl) (h.2 D hD).1, (h.2 D hD).2⟩⟩
theorem Defs.push {A0 : AH} {Ds : List Nat} {D : Nat} (h : Defs A0 A Ds) (le : A0.le A) (hD : B.get D = some (.obj true (.deferred (some [])))) (hle : ∀ b o, A.get b = some (.obj true (.deferred o)) → B.get b = some (.obj true (.deferred o))) (hn : A.get D = none) : Defs A0 B (D :: Ds) :=
  ⟨List.nodup_cons.2 ⟨fun q => (by rw [(h.2 D q).1] at hn; cases hn), h.1⟩, fun E hE => by
    rcases List.mem_cons.1 hE with rfl | hE
    · exact ⟨hD, by
        cases q : A0.get E with
        | none => rfl
        | some o => rw [le.get _ _ q] at hn; cases hn⟩
    · exact ⟨hle _ _ (h.2 E hE).1, (h.2 E hE).2⟩⟩
theorem Defs.out {A0 : AH} {Ds : List Nat} {o : AObj} (h : Defs A0 A Ds) (g : A.get b = some o) (hne : o ≠ .obj true (.deferred (some []))) : b ∉ Ds := fun q => by
  rw [(h.2 b q).1] at g; cases g; exact hne rfl
theorem Defs.leave {A0 : AH} {Ds : List Nat} (h : Defs A0 A Ds) (le : A0.le A) (hn : B.n = A.n) (hk : ∀ b o, b ∉ Ds → A.get b = some o → B.get b = some o) : A0.le B :=
  ⟨by rw [hn]; exact le.n, fun b o g => hk b o (fun q => by rw [(h.2 b q).2] at g; cases g) (le.get _ _ g)⟩
end
end V
end Go.Proofs.YtaccklloepfemaaGreatDoor

namespace Go.Proofs.YtaccklloepfemaaGreatDoor
set_option linter.unusedVariables false
set_option linter.unusedSimpArgs false
open Go Go.RowKit V

def mkR (i : Nat) (iv : Bool) (core cj : List UInt8) (j : Nat) : Rot := ⟨core.drop j ++ core.take j, wReduce (wInverse (core.take j) ++ wInverse cj), i, iv⟩
def addE (E : List Rot) (x : Rot) : List Rot := if E.any (fun y => decide (y.w = x.w)) then E else E ++ [x]
def addJ (i : Nat) (iv : Bool) (core cj : List UInt8) (E : List Rot) (n : Nat) : List Rot := (List.range n).foldl (fun E j => addE E (mkR i iv core cj j)) E
def wOf (r : List UInt8) (iv : Bool) : List UInt8 := if iv then wInverse r else r
theorem wOf_length (r : List UInt8) (iv : Bool) : (wOf r iv).length ≤ r.length := by
  unfold wOf; split
  · exact wInverse_length r
  · exact Nat.le_refl _
theorem wConj_length (w : List UInt8) : (wConj w).length ≤ w.length := by
  unfold wConj; split
  · have := red_length w
    simp only [conj, List.length_take]; omega
  · simp
def addV (i : Nat) (r : List UInt8) (E : List Rot) (iv : Bool) : List Rot := addJ i iv (wCore (wOf r iv)) (wConj (wOf r iv)) E (wCore (wOf r iv)).length
def addR (l : List (List UInt8)) (E : List Rot) (k : Nat) : List Rot := addV k (l.getD k []) (addV k (l.getD k []) E false) true
def allR (l : List (List UInt8)) : List Rot := (List.range l.length).foldl (addR l) []
theorem addJ_succ (i : Nat) (iv : Bool) (core cj : List UInt8) (E : List Rot) (n : Nat) : addJ i iv core cj E (n + 1) = addE (addJ i iv core cj E n) (mkR i iv core cj n) := by
  simp [addJ, List.range_succ]
theorem addE_met {E : List Rot} {x : Rot} {y : Rot} (h : y ∈ E) (e : y.w = x.w) : addE E x = E := by
  rw [addE, if_pos]; exact List.any_eq_true.2 ⟨y, h, by simp [e]⟩
theorem addE_new {E : List Rot} {x : Rot} (h : ∀ y ∈ E, y.w ≠ x.w) : addE E x = E ++ [x] := by
  rw [addE, if_neg]
  intro q
  obtain ⟨y, h1, h2⟩ := List.any_eq_true.1 q
  exact h y h1 (by simpa using h2)
theorem addE_len (E : List Rot) (x : Rot) : (addE E x).length ≤ E.length + 1 := by unfold addE; split <;> simp
theorem addJ_len (i : Nat) (iv : Bool) (core cj : List UInt8) (E : List Rot) (n : Nat) : (addJ i iv core cj E n).length ≤ E.length + n := by
  induction n with
  | zero => simp [addJ]
  | succ n ih => rw [addJ_succ]; have := addE_len (addJ i iv core cj E n) (mkR i iv core cj n); omega
def mEnt (x : Rot) (k : Nat) : MapEntry := { key := str x.w, val := .agg (rcell x).toArray, born := k }
def mes (E : List Rot) : Array MapEntry := (E.mapIdx fun k x => mEnt x k).toArray
theorem mes_push (E : List Rot) (x : Rot) : mes (E ++ [x]) = (mes E).push (mEnt x E.length) := by
  simp [mes, List.mapIdx_concat]
theorem same_str (a c : List UInt8) : Instr.sameNow .string (str a) (str c) = some (decide (a = c)) := by
  simp only [Instr.sameNow]
  congr 1
  have e : (bs a == bs c) = ((bs a).data == (bs c).data) := rfl
  rw [e, Bool.eq_iff_iff, beq_iff_eq, decide_eq_true_iff]
  constructor
  · intro h
    have : (bs a).data.toList = (bs c).data.toList := by rw [h]
    exact this
  · intro h; rw [h]
theorem find_str (t : List UInt8) : ∀ (E : List Rot) (g : Nat → Nat) (n : Nat), (∃ i y, Instr.findNow .string (str t) (E.mapIdx fun k x => mEnt x (g k)) n = some (some (i, .agg (rcell y).toArray)) ∧ y ∈ E ∧ y.w = t) ∨ (Instr.findNow .string (str t) (E.mapIdx fun k x => mEnt x (g k)) n = some none ∧ ∀ y ∈ E, y.w ≠ t) := by
  intro E
  induction E with
  | nil => intro g n; right; exact ⟨rfl, fun _ h => by cases h⟩
  | cons x E ih =>
    intro g n
    rw [List.mapIdx_cons]
    by_cases q : t = x.w
    · left
      exact ⟨n, x, by simp only [Instr.findNow, mEnt, same_str, decide_eq_true q], List.mem_cons_self, q.symm⟩
    · rcases ih (fun k => g (k + 1)) (n + 1) with ⟨i, y, h1, h2, h3⟩ | ⟨h1, h2⟩
      · left; exact ⟨i, y, by simp only [Instr.findNow, mEnt, same_str, decide_eq_false q]; exact h1, List.mem_cons_of_mem _ h2, h3⟩
      · right
        refine ⟨by simp only [Instr.findNow, mEnt, same_str, decide_eq_false q]; exact h1, fun y hy => ?_⟩
        rcases List.mem_cons.1 hy with rfl | hy
        · exact fun h => q h.symm
        · exact h2 y hy
def mobj (E : List Rot) : Obj := .map (mes E) E.length
section
variable {P : Program} {e : Env} {A : AH} {x y z : Operand} {t kt et : TypeId} {ty : TypeId} {ps : String} {af : Array Edge} {dst : Option Nat} {K : Value → AH → Prop} {Kp : List PanicEntry → AH → Prop} {g : Option (Nat × Bool)} {m : Nat} {E : List Rot} {w : List UInt8}
theorem wlookupS {zv : Value} (hx : opd e x = some (.map (some m))) (hy : opd e y = some (str w)) (hu : P.underlying t = some (.map kt et)) (hk : P.underlying kt = some .string) (hz : zeroOf P et = some zv) (hg : A.get m = some (.obj true (mobj E)))
    (h1 : ∀ r ∈ E, r.w = w → K (.tuple #[.agg (rcell r).toArray, .bool true]) A) (h2 : (∀ r ∈ E, r.w ≠ w) → K (.tuple #[zv, .bool false]) A) : opV P e A { dst := dst, op := .lookup t x y true, type := ty, pos := ps, after := af, guard := g } K Kp := by
  rcases find_str w E id 0 with ⟨i, r, g1, g2, g3⟩ | ⟨g1, g2⟩
  · exact ⟨_, _, hx, hy, kt, et, .string, zv, mes E, some (i, .agg (rcell r).toArray), hu, hk, rfl, hz, .inr ⟨m, true, E.length, rfl, hg⟩, by simpa [mes] using g1, h1 r g2 g3⟩
  · exact ⟨_, _, hx, hy, kt, et, .string, zv, mes E, none, hu, hk, rfl, hz, .inr ⟨m, true, E.length, rfl, hg⟩, by simpa [mes] using g1, h2 g2⟩
theorem wupdateS {r : Rot} {v : Value} (wf : A.wf) (hx : opd e x = some (.map (some m))) (hy : opd e y = some (str r.w)) (hz : opd e z = some v) (hv : v = .agg (rcell r).toArray) (hu : P.underlying t = some (.map kt et)) (hk : P.underlying kt = some .string) (hg : A.get m = some (.obj true (mobj E))) (hn : ∀ q ∈ E, q.w ≠ r.w)
    (h : ∀ A1, SetB A A1 m (.obj true (mobj (E ++ [r]))) → K undef A1) : opV P e A { dst := dst, op := .mapUpdate t x y z, type := ty, pos := ps, after := af, guard := g } K Kp := by
  subst hv
  rcases find_str r.w E id 0 with ⟨i, q, g1, g2, g3⟩ | ⟨g1, g2⟩
  · exact absurd g3 (hn q g2)
  · refine ⟨_, _, _, hx, hy, hz, kt, et, .string, m, mes E, E.length, none, hu, hk, rfl, rfl, hg, by simpa [mes] using g1, ?_⟩
    have := h _ (setB wf hg (.obj true (mobj (E ++ [r]))))
    simp only [mobj, mes_push, List.length_append, List.length_cons, List.length_nil] at this
    exact this
theorem wrangeM (wf : A.wf) (hx : opd e x = some (.map (some m))) (hu : P.underlying t = some (.map kt et)) (hg : A.get m = some (.obj true (mobj E)))
    (h : ∀ A1 b, NewB A A1 b (.obj true (.mapIter (some m) E.length #[] E.length)) → K (.pointer (some ⟨b, 0, none⟩)) A1) : opV P e A { dst := dst, op := .range t x, type := ty, pos := ps, after := af, guard := g } K Kp :=
  ⟨_, hx, by simp only [rangeV, hu]; exact ⟨true, mes E, E.length, hg, h _ _ (newB wf _)⟩⟩
theorem mes_mem {E : List Rot} {en : MapEntry} (h : en ∈ mes E) : ∃ k, k < E.length ∧ en = mEnt (E.getD k .zero) k := by
  simp only [mes, List.mem_toArray, List.mem_mapIdx] at h
  obtain ⟨k, hk, rfl⟩ := h
  exact ⟨k, hk, by simp [hk]⟩
theorem mes_at {E : List Rot} {k : Nat} (h : k < E.length) : mEnt (E.getD k .zero) k ∈ mes E := by
  simp only [mes, List.mem_toArray, List.mem_mapIdx]
  exact ⟨k, h, by simp [h]⟩
theorem wnextM {b : Nat} {idx : List Nat} (wf : A.wf) (hx : opd e x = some (.pointer (some ⟨b, 0, none⟩))) (hb : A.get b = some (.obj true (.mapIter (some m) E.length idx.toArray E.length))) (hg : A.get m = some (.obj true (mobj E))) (hm : m ≠ b)
    (h1 : ∀ k, k < E.length → k ∉ idx → ∀ A1, SetB A A1 b (.obj true (.mapIter (some m) E.length (idx ++ [k]).toArray E.length)) → K (.tuple #[.bool true, str (E.getD k .zero).w, .agg (rcell (E.getD k .zero)).toArray]) A1)
    (h2 : (∀ k, k < E.length → k ∈ idx) → K (.tuple #[.bool false]) A) : opV P e A { dst := dst, op := .next x false, type := ty, pos := ps, after := af, guard := g } K Kp := by
  refine ⟨_, hx, b, rfl, .inr (.inr ⟨rfl, m, E.length, idx.toArray, E.length, true, mes E, E.length, hb, hg, hm, fun x hx => ?_, ?_, fun x hx => ?_, fun hnil => ?_⟩)⟩
  · obtain ⟨k, hk, rfl⟩ := mes_mem hx; exact hk
  · right
    cases E with
    | nil => left; rfl
    | cons a E =>
      right
      intro hall
      have := Array.all_eq_true'.1 hall (mEnt a 0) (by simpa using mes_at (E := a :: E) (k := 0) (by simp))
      simp [mEnt] at this
  · simp only [V.leftOf, Array.mem_filter, Bool.not_eq_true'] at hx
    obtain ⟨hm1, hm2⟩ := hx
    obtain ⟨k, hk, rfl⟩ := mes_mem hm1
    have hki : k ∉ idx := fun q => by
      have : idx.toArray.contains k = true := by simpa using q
      rw [show (mEnt (E.getD k .zero) k).born = k from rfl, this] at hm2; cases hm2
    have := h1 k hk hki _ (setB wf hb _)
    have e1 : (idx ++ [k]).toArray = idx.toArray.push k := by simp
    rw [e1] at this
    exact this
  · refine h2 fun k hk => ?_
    apply Classical.byContradiction
    intro hki
    have : mEnt (E.getD k .zero) k ∈ V.leftOf (mes E) idx.toArray := by
      simp only [V.leftOf, Array.mem_filter, Bool.not_eq_true']
      refine ⟨mes_at hk, ?_⟩
      rw [show (mEnt (E.getD k .zero) k).born = k from rfl]
      simpa using hki
    rw [hnil] at this; simp at this
theorem wentryM {b k : Nat} {idx : List Nat} (hx : opd e x = some (.pointer (some ⟨b, 0, none⟩))) (hb : A.get b = some (.obj true (.mapIter (some m) E.length (idx ++ [k]).toArray E.length))) (hg : A.get m = some (.obj true (mobj E))) (hm : m ≠ b) (hk : k < E.length)
    (h : K (.tuple #[str (E.getD k .zero).w, .agg (rcell (E.getD k .zero)).toArray]) A) : opV P e A { dst := dst, op := .entry x, type := ty, pos := ps, after := af, guard := g } K Kp := by
  refine ⟨_, hx, b, m, E.length, (idx ++ [k]).toArray, E.length, true, mes E, mEnt (E.getD k .zero) k, rfl, hb, hg, hm, by simp [mEnt], ?_, h⟩
  rw [Array.find?_eq_some_iff_getElem]
  refine ⟨by simp [mEnt], k, by simpa [mes] using hk, by simp [mes, hk], fun j hj => ?_⟩
  simp [mes, mEnt]; omega
end

/-! ### The trie -/
/-- The nodes' maps, in blocks of the call's own. -/
def Trie (A0 A : AH) (pf : List (List UInt8)) (bl : List Nat) : Prop :=
  bl.length = pf.length ∧ bl.Nodup ∧ pf.Nodup ∧ (∀ b ∈ bl, A0.get b = none) ∧ ∀ j, j < pf.length → ∃ es clock, A.get (bl.getD j 0) = some (.obj true (.map es clock)) ∧ Ents pf (pf.getD j []) es
theorem Trie.objs {A0 A B : AH} {pf : List (List UInt8)} {bl : List Nat} (h : Trie A0 A pf bl) (ob : Objs A B) : Trie A0 B pf bl :=
  ⟨h.1, h.2.1, h.2.2.1, h.2.2.2.1, fun j hj => by obtain ⟨es, k, g1, g2⟩ := h.2.2.2.2 j hj; exact ⟨es, k, ob.get _ _ g1, g2⟩⟩
theorem getD_lt_mem {bl : List Nat} {j : Nat} (h : j < bl.length) : bl.getD j 0 ∈ bl := getD_mem h
theorem nodup_getD {α : Type} {bl : List α} {d : α} (h : bl.Nodup) {i j : Nat} (hi : i < bl.length) (hj : j < bl.length) (e : bl.getD i d = bl.getD j d) : i = j := by
  simp only [List.getD_eq_getElem?_getD, List.getElem?_eq_getElem hi, List.getElem?_eq_getElem hj, Option.getD_some] at e
  rcases Nat.lt_trichotomy i j with q | q | q
  · exact absurd e (List.pairwise_iff_getElem.1 h i j hi hj q)
  · exact q
  · exact absurd e.symm (List.pairwise_iff_getElem.1 h j i hj hi q)
theorem Ents.weak {pf : List (List UInt8)} {p q : List UInt8} {es : Array MapEntry} (h : Ents pf p es) (hq : q ∉ pf) (hp : ∀ c, p ++ [c] ≠ q) : Ents (pf ++ [q]) p es := by
  obtain ⟨l, h1, h2⟩ := h
  refine ⟨l, h1, fun c => ?_⟩
  rw [h2 c]
  by_cases hm : p ++ [c] ∈ pf
  · rw [if_pos hm, if_pos (List.mem_append_left _ hm), List.idxOf_append, if_pos hm]
  · rw [if_neg hm, if_neg]
    simp only [List.mem_append, List.mem_singleton, not_or]
    exact ⟨hm, hp c⟩
theorem Ents.push {pf : List (List UInt8)} {p : List UInt8} {c : UInt8} {es : Array MapEntry} {clock : Nat} (h : Ents pf p es) (hq : p ++ [c] ∉ pf) : Ents (pf ++ [p ++ [c]]) p (es.push { key := byt c, val := num ((pf.length : Nat) : Int), born := clock }) := by
  obtain ⟨l, h1, h2⟩ := h
  refine ⟨l ++ [(c, pf.length, clock)], by simp [h1], fun d => ?_⟩
  have hn : l.find? (fun x => x.1 == c) = none := by
    have := h2 c
    rw [if_neg hq] at this
    cases hf : l.find? (fun x => x.1 == c) with
    | none => rfl
    | some z => rw [hf] at this; cases this
  rw [List.find?_append]
  by_cases hd : d = c
  · subst hd
    have : pf.idxOf (p ++ [d]) = pf.length := List.idxOf_eq_length hq
    rw [hn, if_pos (by simp)]
    rw [List.idxOf_append, if_neg hq]; simp
  · have e := h2 d
    have hx : List.find? (fun x : UInt8 × Nat × Nat => x.1 == d) [(c, pf.length, clock)] = none := by simp; exact fun h => hd h.symm
    rw [hx, Option.or_none, e]
    have hne : p ++ [d] ≠ p ++ [c] := fun h => hd (by simpa using h)
    by_cases hm : p ++ [d] ∈ pf
    · rw [if_pos hm, if_pos (List.mem_append_left _ hm), List.idxOf_append, if_pos hm]
    · rw [if_neg hm, if_neg]
      simp only [List.mem_append, List.mem_singleton, not_or]
      exact ⟨hm, hne⟩
theorem Ents.fresh (pf : List (List UInt8)) {q : List UInt8} (h : ∀ c, q ++ [c] ∉ pf) : Ents (pf ++ [q]) q #[] := by
  refine ⟨[], rfl, fun c => ?_⟩
  rw [if_neg]
  · rfl
  · simp only [List.mem_append, List.mem_singleton, not_or]
    refine ⟨h c, fun e => ?_⟩
    have := congrArg List.length e
    simp at this
/-- A node more, and the letter that leads to it. -/
theorem Trie.grow {A0 A B : AH} {pf : List (List UInt8)} {bl : List Nat} {nd b : Nat} {c : UInt8} {es : Array MapEntry} {clock : Nat} (h : Trie A0 A pf bl) (hnd : nd < pf.length) (hq : pf.getD nd [] ++ [c] ∉ pf) (hcl : ∀ d, (pf.getD nd [] ++ [c]) ++ [d] ∉ pf)
    (hb : A.get b = some (.obj true (.map #[] 0))) (hbl : b ∉ bl) (h0 : A0.get b = none) (hes : Ents pf (pf.getD nd []) es)
    (sb : SetB A B (bl.getD nd 0) (.obj true (.map (es.push { key := byt c, val := num ((pf.length : Nat) : Int), born := clock }) (clock + 1)))) :
    Trie A0 B (pf ++ [pf.getD nd [] ++ [c]]) (bl ++ [b]) := by
  obtain ⟨h1, h2, h3, h4, h5⟩ := h
  refine ⟨by simp [h1], List.nodup_append.2 ⟨h2, by simp, fun x hx y hy => by simp at hy; rw [hy]; exact fun e => hbl (e ▸ hx)⟩, List.nodup_append.2 ⟨h3, by simp, fun x hx y hy => by simp at hy; rw [hy]; exact fun e => hq (e ▸ hx)⟩, fun x hx => ?_, fun j hj => ?_⟩
  · rcases List.mem_append.1 hx with hx | hx
    · exact h4 x hx
    · simp at hx; rw [hx]; exact h0
  · have hbn : b ≠ bl.getD nd 0 := fun e => hbl (e ▸ getD_lt_mem (by omega))
    simp only [List.length_append, List.length_cons, List.length_nil] at hj
    by_cases hlast : j = pf.length
    · subst hlast
      have e1 : (bl ++ [b]).getD pf.length 0 = b := by rw [← h1]; simp
      have e2 : (pf ++ [pf.getD nd [] ++ [c]]).getD pf.length [] = pf.getD nd [] ++ [c] := by simp
      rw [e1, e2]
      exact ⟨#[], 0, sb.keep b _ hbn hb, Ents.fresh pf hcl⟩
    · have hj2 : j < pf.length := by omega
      have e1 : (bl ++ [b]).getD j 0 = bl.getD j 0 := by
        have : j < bl.length := by omega
        simp [List.getElem?_append_left this]
      have e2 : (pf ++ [pf.getD nd [] ++ [c]]).getD j [] = pf.getD j [] := by simp [List.getElem?_append_left hj2]
      rw [e1, e2]
      by_cases hjn : j = nd
      · subst hjn
        exact ⟨_, _, sb.get, Ents.push hes hq⟩
      · obtain ⟨es', k', g1, g2⟩ := h5 j hj2
        refine ⟨es', k', sb.keep _ _ (fun e => hjn (nodup_getD h2 (by omega) (by omega) e)) g1, Ents.weak g2 hq fun d e => ?_⟩
        have e3 : pf.getD j [] = pf.getD nd [] := (List.append_inj' e rfl).1
        exact hjn (nodup_getD h3 hj2 hnd e3)
theorem wupdateB {P : Program} {e : Env} {A : AH} {x y z : Operand} {t kt et : TypeId} {ty : TypeId} {ps : String} {af : Array Edge} {dst : Option Nat} {K : Value → AH → Prop} {Kp : List PanicEntry → AH → Prop} {g : Option (Nat × Bool)} {m clock n : Nat} {es : Array MapEntry} {pf : List (List UInt8)} {p : List UInt8} {c : UInt8}
    (wf : A.wf) (hx : opd e x = some (.map (some m))) (hy : opd e y = some (byt c)) (hz : opd e z = some (num ((n : Nat) : Int))) (hu : P.underlying t = some (.map kt et)) (hk : P.underlying kt = some (.int .u8)) (hg : A.get m = some (.obj true (.map es clock))) (hE : Ents pf p es) (hq : p ++ [c] ∉ pf)
    (h : ∀ A1, SetB A A1 m (.obj true (.map (es.push { key := byt c, val := num ((n : Nat) : Int), born := clock }) (clock + 1))) → K undef A1) : opV P e A { dst := dst, op := .mapUpdate t x y z, type := ty, pos := ps, after := af, guard := g } K Kp := by
  obtain ⟨l, hl, hf⟩ := hE
  obtain ⟨r, g1, g2⟩ := find_key c l 0
  have hf := hf c
  rw [if_neg hq] at hf
  cases hfind : l.find? fun x => x.1 == c with
  | some w => rw [hfind] at hf; cases hf
  | none =>
    rw [hfind] at g2
    cases r with
    | some w => cases g2
    | none => exact ⟨_, _, _, hx, hy, hz, kt, et, .int .u8, m, es, clock, none, hu, hk, rfl, rfl, hg, by rw [hl]; exact g1, h _ (setB wf hg _)⟩

theorem two_get {m : Nat} (h : m < 2) : ([.bool false, .bool true] : List Value)[0 + m * 1]? = some (.bool (decide (m = 1))) := by
  rcases m with _ | _ | m
  · rfl
  · rfl
  · omega
theorem Lets.hide {A : AH} {m : Nat} {o : Obj} {rw : Bool} (h : Lets A) (g : A.get m = some (.obj rw o)) : Lets (A.hide [some m]) := by
  obtain ⟨r, c, h⟩ := h
  exact ⟨r, c, hide_get h (nmB (by rintro rfl; rw [h] at g; cases g) nm0)⟩
theorem Lets.hideLe {A B : AH} {m : Nat} {o : Obj} {rw : Bool} (h : Lets A) (le : A.le B) (g : B.get m = some (.obj rw o)) : Lets (B.hide [some m]) := Lets.hide (h.le le) g
theorem nodup_bound : ∀ (n : Nat) (l : List Nat), l.Nodup → (∀ x ∈ l, x < n) → l.length ≤ n
  | 0, l, _, h => by
    cases l with
    | nil => exact Nat.le_refl _
    | cons a l => exact absurd (h a List.mem_cons_self) (by omega)
  | n + 1, l, hn, h => by
    have h1 := nodup_bound n (l.erase n) (hn.erase n) (fun x hx => by
      have h2 := h x (List.mem_of_mem_erase hx)
      have h3 : x ≠ n := by rintro rfl; exact hn.not_mem_erase hx
      omega)
    by_cases hm : n ∈ l
    · rw [List.length_erase_of_mem hm] at h1; omega
    · rw [List.erase_of_not_mem hm] at h1; omega
theorem picks_perm {E : List Rot} {idx : List Nat} (hn : idx.Nodup) (hb : ∀ j ∈ idx, j < E.length) (hall : ∀ k, k < E.length → k ∈ idx) : (idx.map fun j => E.getD j .zero).Perm E := by
  have h1 : idx.Perm (List.range E.length) := by
    refine (List.perm_ext_iff_of_nodup hn List.nodup_range).2 fun a => ?_
    rw [List.mem_range]
    exact ⟨hb a, hall a⟩
  have h2 := h1.map fun j => E.getD j .zero
  have h3 : ((List.range E.length).map fun j => E.getD j .zero) = E := by
    apply List.ext_getElem (by simp)
    intro i h1 h2
    simp [h2]
  rw [h3] at h2; exact h2
theorem nodup_snoc {l : List Nat} {k : Nat} (h : l.Nodup) (hk : k ∉ l) : (l ++ [k]).Nodup := List.nodup_append.2 ⟨h, by simp, fun x hx y hy => by simp at hy; rw [hy]; exact fun e => hk (e ▸ hx)⟩
/-- What is so of the words that are met. -/
def okR (x : Rot) : Prop := x.w.length ≤ 200 ∧ isw x.w = true ∧ isw x.c = true ∧ x.c.length ≤ 1000
/-- The paths and the bests of a trie, word by word, letter by letter. -/
def tstep (x : List UInt8) (i : Nat) (t : List (List UInt8) × List Int) (k : Nat) : List (List UInt8) × List Int :=
  let q := x.take (k + 1)
  let t1 := if q ∈ t.1 then t else (t.1 ++ [q], t.2 ++ [-1])
  if x.length < 2 * (k + 1) ∧ t1.2.getD (t1.1.idxOf q) 0 < 0 then (t1.1, t1.2.set (t1.1.idxOf q) ((i : Nat) : Int)) else t1
def tword (L : List Rot) (t : List (List UInt8) × List Int) (i : Nat) : List (List UInt8) × List Int := (List.range (L.getD i .zero).w.length).foldl (tstep (L.getD i .zero).w i) t
def tall (L : List Rot) : List (List UInt8) × List Int := (List.range L.length).foldl (tword L) ([[]], [-1])
end Go.Proofs.YtaccklloepfemaaGreatDoor

namespace Go.Proofs.YtaccklloepfemaaGreatDoor
set_option linter.unusedVariables false
set_option linter.unusedSimpArgs false
open Go Go.RowKit Go.Sort
namespace V
section
variable {A : AH} {w : World} {α : Type} [Inhabited α]

theorem putCells_get (enc : α → Value) (d : Array α) (c : Array Value) (i : Nat) (hd : d.size ≤ c.size) : (putCells enc 0 d c)[i]? = if i < d.size then some (enc d[i]!) else c[i]? := by
  simp only [putCells, Array.getElem?_mapIdx]
  by_cases h : i < d.size
  · have : i < c.size := by omega
    simp [h, this]
  · rw [if_neg h]
    cases c[i]? with
    | none => rfl
    | some x => simp [h]

theorem view_sorted (enc : α → Value) {b cap : Nat} {r : List Value} (d : Array α) (n : Nat) (os : Array Obj) (h : View A w) (g : A.get b = some (.row true r cap)) (hd : d.size ≤ r.length) :
    View ((A.set b (.row true (d.toList.map enc ++ r.drop d.size) cap)).grow (A.n + os.size)) (Sort.grow (putRow enc (Sort.ahead w n) b 0 d) os) ∧
    Step A w ((A.set b (.row true (d.toList.map enc ++ r.drop d.size) cap)).grow (A.n + os.size)) (Sort.grow (putRow enc (Sort.ahead w n) b 0 d) os) := by
  obtain ⟨cs, e, fr, h1, h0, h2, h3, h4⟩ := h.fits b _ g
  have hb : b < w.heap.size := (Array.getElem?_eq_some_iff.1 h1).1
  have hsz : (Sort.grow (putRow enc (Sort.ahead w n) b 0 d) os).heap.size = w.heap.size + os.size := by simp [Sort.grow, putRow, mapBlock, Sort.ahead]
  have old : ∀ k, k < w.heap.size → k ≠ b → (Sort.grow (putRow enc (Sort.ahead w n) b 0 d) os).heap[k]? = w.heap[k]? := fun k hk hne => by
    simp only [Sort.grow, putRow, mapBlock, Sort.ahead]
    rw [Array.getElem?_append_left (by simpa using hk), Array.getElem?_modify, if_neg (Ne.symm hne)]
  have new : (Sort.grow (putRow enc (Sort.ahead w n) b 0 d) os).heap[b]? = some (.cells (putCells enc 0 d cs) e fr) := by
    simp only [Sort.grow, putRow, mapBlock, Sort.ahead]
    rw [Array.getElem?_append_left (by simpa using hb), Array.getElem?_modify, if_pos rfl, h1]
    rfl
  refine ⟨⟨by rw [hsz, h.size]; rfl, fun k o hk => ?_⟩, ⟨rfl, rfl, ⟨rfl, Nat.le_add_right _ _⟩, by rw [hsz]; omega, fun k hk hr => ?_, fun k hk => ?_⟩⟩
  · simp only [AH.grow_get, AH.set_get] at hk
    split at hk
    · rename_i q; subst q; cases hk
      have hps : (putCells enc 0 d cs).size = cs.size := by simp [putCells]
      refine ⟨_, _, _, new, by simp; omega, by rw [hps]; exact h2, fun i hi => ?_, h4⟩
      rw [putCells_get enc d cs i (by omega)]
      simp only [List.length_append, List.length_map, Array.length_toList, List.length_drop] at hi
      by_cases q : i < d.size
      · rw [if_pos q, List.getElem?_append_left (by simpa using q)]
        simp [q]
      · rw [if_neg q, List.getElem?_append_right (by simp; omega), h3 i (by omega), List.getElem?_drop]
        congr 1; simp; omega
    · rename_i q
      have := h.wf k o hk
      rw [old k (by rw [h.size]; exact this) q]
      exact h.fits k o hk
  · have : k ≠ b := by rintro rfl; simp [AH.rw, g, AObj.rw] at hr
    exact old k hk this
  · left
    simp only [AH.rw, AH.grow_get, AH.set_get] at hk ⊢
    split at hk
    · rename_i o ho
      split at ho
      · rename_i e; subst e; simp [g, AObj.rw]
      · simp [ho, hk]
    · cases hk

def AObj.freeze : AObj → AObj
  | .row _ c cap => .row false c cap
  | .obj _ o => .obj false o
/-- The view of a world in which a sort stands: all but its row, and nothing may be written. -/
def AH.frozen (A : AH) (b n : Nat) : AH := ⟨n, fun k => if k = b then none else (A.get k).map AObj.freeze⟩
theorem frozen_view {b n : Nat} {W : World} (h : View A w) (hn : W.heap.size = n) (hle : w.heap.size ≤ n) (hk : ∀ k, k < w.heap.size → k ≠ b → W.heap[k]? = w.heap[k]?) : View (A.frozen b n) W := by
  refine ⟨hn, fun k o ho => ?_⟩
  simp only [AH.frozen] at ho
  split at ho
  · cases ho
  · rename_i q
    cases hg : A.get k with
    | none => rw [hg] at ho; cases ho
    | some x =>
      rw [hg] at ho; cases ho
      have hlt := h.wf k x hg
      rw [hk k (by rw [h.size]; exact hlt) q]
      have := h.fits k x hg
      cases x with
      | row rw c cap =>
        obtain ⟨cs, e, fr, h1, h0, h2, h3, h4⟩ := this
        exact ⟨cs, e, fr, h1, h0, h2, h3, fun q => by cases q⟩
      | obj rw o => exact this
theorem frozen_rw {b n k : Nat} : (A.frozen b n).rw k = false := by
  unfold AH.rw AH.frozen
  simp only
  split
  · rename_i o ho
    split at ho
    · cases ho
    · cases hg : A.get k with
      | none => rw [hg] at ho; cases ho
      | some x => rw [hg] at ho; cases ho; cases x <;> rfl
  · rfl
theorem step_grow {A1 : AH} {W w' : World} {b n : Nat} (h : Step (A.frozen b n) W A1 w') : ∃ q os', w' = Sort.grow (W.drewN q) os' := by
  refine ⟨w'.drawn - W.drawn, w'.heap.extract W.heap.size w'.heap.size, ?_⟩
  have hh : w'.heap = W.heap ++ w'.heap.extract W.heap.size w'.heap.size := by
    apply Array.ext_getElem?
    intro k
    by_cases hk : k < W.heap.size
    · rw [Array.getElem?_append_left hk]; exact h.kept k hk frozen_rw
    · rw [Array.getElem?_append_right (by omega), Array.getElem?_extract]
      have := h.size
      by_cases q : k < w'.heap.size
      · rw [if_pos (by omega)]; congr 1; omega
      · rw [if_neg (by omega)]; exact Array.getElem?_eq_none (by omega)
  have ho := h.output.1; have hd := h.output.2; have hos := h.os; have ht := h.tape
  cases w' with | mk heap tape drawn os output =>
  cases W with | mk heap0 tape0 drawn0 os0 output0 =>
  simp only at ho hd hos ht hh
  subst ho; subst hos; subst ht
  simp only [Sort.grow, World.drewN]
  rw [show drawn0 + (drawn - drawn0) = drawn by omega]
  congr 1

theorem flat_eq (enc : α → List Value) (k : Nat) (hk : ∀ x, (enc x).length = k) (d : List α) : (flatK enc k d.toArray).toList = d.flatMap enc := by
  apply List.ext_getElem?
  intro t
  by_cases h : t < d.length * k
  · have k0 : 0 < k := by rcases Nat.eq_zero_or_pos k with q | q; · subst q; simp at h
                          · exact q
    have hq : t / k < d.length := Nat.div_lt_of_lt_mul (by rw [Nat.mul_comm]; exact h)
    have e1 : (flatK enc k d.toArray).toList[t]? = some ((enc d.toArray[t / k]!)[t % k]!) := by
      have := get_flatK enc k d.toArray t (by simpa using h)
      rw [Array.getElem?_toList, ← this]
      simp [h]
    rw [e1]
    have key : ∀ (d : List α) (t : Nat), t / k < d.length → (d.flatMap enc)[t]? = some ((enc d[t / k]!)[t % k]!) := by
      intro d
      induction d with
      | nil => intro t h; simp at h
      | cons a d ih =>
        intro t ht
        rw [List.flatMap_cons]
        by_cases q : t < k
        · rw [List.getElem?_append_left (by rw [hk]; exact q), Nat.div_eq_of_lt q, Nat.mod_eq_of_lt q]
          have : t < (enc a).length := by rw [hk]; exact q
          simp [this]
        · rw [List.getElem?_append_right (by rw [hk]; omega), hk]
          have h1 : t / k = (t - k) / k + 1 := by rw [Nat.div_eq_sub_div k0 (by omega)]
          have h2 : t % k = (t - k) % k := Nat.mod_eq_sub_mod (by omega)
          rw [ih (t - k) (by simp only [List.length_cons] at ht; omega), h1, h2]
          simp
    rw [key d t hq]
    simp
  · rw [List.getElem?_eq_none (by simp; omega), List.getElem?_eq_none]
    rw [List.length_flatMap]
    have : (d.map fun x => (enc x).length).sum = d.length * k := by
      clear h
      induction d with
      | nil => simp
      | cons a d ih => simp only [List.map_cons, List.sum_cons, List.length_cons, hk a, ih, Nat.add_mul]; omega
    omega

/-- slices.SortFunc of structs. -/
theorem sortFunc_ret {P : Program} {ρ : Go.Shelf.Ren} (L : SlLaysF0.n6 P ρ) (k : Nat) (k0 : 0 < k) (aE : ∀ w, (isAgg (ρ.t 24)).run P w = .ok true w) (zE : ∀ w, (Go.sizeOf (ρ.t 24)).run P w = .ok k w) (enc : α → List Value) (hk : ∀ x, (enc x).length = k) (h1 : ∀ x, ∀ v ∈ enc x, v.oneCell' = true)
    (cf : α → α → Int) (hO : SWO (ltOf cf)) (g : Nat) (cb : Array Value) (e6 : Enters P (ρ.f 6)) (eg : Enters P g) {v : Value} {d : List α} {A0 : AH} (hsz : d.length < 4611686018427387904) (wf0 : A0.wf) (le : A0.le A) (own : Fresh A0 A v k (d.flatMap enc))
    (hcmp : ∀ n, A.n ≤ n → ∀ b, blk v = some b → ∀ x y : α, RetA P g (#[.agg (enc x).toArray, .agg (enc y).toArray] ++ cb) (A.frozen b n) fun u _ => u = .int .i64 (cf x y)) :
    RetA P (ρ.f 6) #[v, .func (.func g) #[] cb] A fun u A1 => u = .tuple #[] ∧ A0.le A1 ∧ A1.wf ∧ (∀ b o, A.get b = some o → blk v ≠ some b → A1.get b = some o) ∧ ∃ d' : List α, d'.Perm d ∧ d'.Pairwise (fun x y => ¬ cf y x < 0) ∧ Fresh A0 A1 v k (d'.flatMap enc) := by
  have hfl : ∀ d : List α, (d.flatMap enc).length = d.length * k := fun d => by
    rw [← flat_eq enc k hk]; simp
  have nilcase : ∀ (p : Option Addr) (c : Nat), v = .slice p 0 c → d = [] → RetA P (ρ.f 6) #[v, .func (.func g) #[] cb] A fun u A1 => u = .tuple #[] ∧ A0.le A1 ∧ A1.wf ∧ (∀ b o, A.get b = some o → blk v ≠ some b → A1.get b = some o) ∧ ∃ d' : List α, d'.Perm d ∧ d'.Pairwise (fun x y => ¬ cf y x < 0) ∧ Fresh A0 A1 v k (d'.flatMap enc) := by
    rintro p c rfl rfl
    refine ⟨e6, fun w hw => (AnyF.slices_SortFunc_none L p c _ w).mono ?_⟩
    rintro e w' ⟨rfl, rfl⟩
    exact ⟨A, hw, .refl _ _, _, rfl, rfl, le, hw.wf, fun _ _ h _ => h, [], .refl _, List.Pairwise.nil, own⟩
  rcases own.own with ⟨rfl, hx⟩ | ⟨b, n, c, r, rcap, rfl, g2, g3, g4, g5, g6⟩
  · have : d = [] := List.length_eq_zero_iff.1 (by
      have := hfl d; rw [hx] at this
      rcases Nat.mul_eq_zero.1 this.symm with q | q
      · exact q
      · omega)
    exact nilcase none 0 rfl this
  · have hn : n = d.length := Nat.eq_of_mul_eq_mul_right k0 (g3.symm.trans (hfl d))
    subst hn
    have hrl : d.length * k ≤ r.length := by rw [← g4, List.length_take] at g3; omega
    refine ⟨e6, fun w hw => ?_⟩
    obtain ⟨cs, el, fr, q1, q0, q2, q3, q4⟩ := hw.fits b _ g2
    have hb : b < w.heap.size := (Array.getElem?_eq_some_iff.1 q1).1
    have hfe : (flatK enc k d.toArray).toList = r.take (d.length * k) := by rw [flat_eq enc k hk, g4]
    have hH : HoldsK enc k w b 0 d.toArray := fun j hj => by
      simp only [size_flatK, List.size_toArray] at hj
      have hjr : j < r.length := by omega
      have hjc : j < cs.size := by omega
      have e1 : (flatK enc k d.toArray)[j]! = r[j] := by
        have : (flatK enc k d.toArray).toList[j]? = (r.take (d.length * k))[j]? := by rw [hfe]
        have hlt : j < (flatK enc k d.toArray).size := by rw [size_flatK]; simpa using hj
        rw [List.getElem?_take_of_lt hj, List.getElem?_eq_getElem hjr, Array.getElem?_toList, Array.getElem?_eq_getElem hlt] at this
        rw [getElem!_pos (flatK enc k d.toArray) j hlt]; exact Option.some.inj this
      have e2 := q3 j hjr
      rw [List.getElem?_eq_getElem hjr] at e2
      refine ⟨?_, ?_⟩
      · simp only [World.cell?, q1, Nat.zero_add, id]; rw [e1]; exact e2
      · have := q4 rfl j (by omega)
        simp only [World.frozen?, q1, Nat.zero_add]
        obtain ⟨f1, f2⟩ := fr
        simp only at this ⊢
        simp only [Bool.and_eq_false_iff, decide_eq_false_iff_not]; omega
    have hc : CmpLays P g cb enc k cf b 0 d.toArray.size w := fun m os dk hdk x y => by
      have hs : (sortWorldK enc k w b 0 m dk os).heap.size = w.heap.size + os.size := by simp [sortWorldK, Sort.grow, putRowK, putRow, mapBlock, Sort.ahead]
      have hv : View (A.frozen b (w.heap.size + os.size)) (sortWorldK enc k w b 0 m dk os) := frozen_view hw hs (by omega) fun j hj hne => by
        simp only [sortWorldK, Sort.grow, putRowK, putRow, mapBlock, Sort.ahead]
        rw [Array.getElem?_append_left (by simpa using hj), Array.getElem?_modify, if_neg (Ne.symm hne)]
      refine ((hcmp (w.heap.size + os.size) (by rw [hw.size]; omega) b rfl x y).2 _ hv).mono ?_
      rintro e w' ⟨A1, _, hst, u, rfl, rfl⟩
      exact ⟨rfl, step_grow hst⟩
    have key := AnyQ.slices_SortFunc L k aE zE enc hk h1 cf hO g cb b 0 c d.toArray w eg hc hH hb (by simpa using hsz)
    simp only [List.size_toArray] at key
    refine key.mono ?_
    rintro e w' ⟨rfl, d', m, os, hp, hs, rfl⟩
    have hds : d'.size = d.length := by simpa using hp.1
    obtain ⟨v1, s1⟩ := view_sorted (α := Value) id (flatK enc k d') m os hw g2 (by rw [size_flatK, hds]; exact hrl)
    refine ⟨_, v1, s1, _, rfl, rfl, ?_, v1.wf, fun j o hj hne => ?_, d'.toList, ?_, ?_, ?_⟩
    · exact ⟨Nat.le_trans le.n (Nat.le_add_right _ _), fun j o hj => by
        rw [AH.grow_get, AH.set_get_ne _ _ (by rintro rfl; rw [own.lo j rfl] at hj; cases hj)]; exact le.get j o hj⟩
    · rw [AH.grow_get, AH.set_get_ne _ _ (by rintro rfl; exact hne rfl)]; exact hj
    · have := hp.2.2
      have e1 : d'.extract 0 d.length = d' := by rw [← hds]; simp
      have e2 : d.toArray.extract 0 d.length = d.toArray := by
        simp
      rw [e1, e2] at this
      exact this
    · rw [List.pairwise_iff_getElem]
      intro i j hi hj hij
      have := hs i j (Nat.zero_le _) hij (by simpa [hds] using hj)
      simp only [ltOf, decide_eq_false_iff_not] at this
      simp only [Array.length_toList] at hi hj
      simpa [hi, hj] using this
    · have e3 : (flatK enc k d').toList = d'.toList.flatMap enc := by
        have := flat_eq enc k hk d'.toList; simpa using this
      refine ⟨.inr ⟨b, d.length, c, _, rcap, rfl, by rw [AH.grow_get]; exact AH.set_get_same _ _ _, ?_, ?_, g5, g6⟩, own.lo⟩
      · rw [hfl, Array.length_toList, hds]
      · rw [List.map_id_fun, id, List.take_left' (by rw [Array.length_toList, size_flatK, hds])]
        exact e3

/-- slices.Sort of strings. -/
theorem sort_ret {P : Program} {ρ : Go.Shelf.Ren} (L : Lays.n190 P ρ) (e190 : Enters P (ρ.f 190)) {v : Value} {d : List (List UInt8)} {A0 : AH} (hsz : d.length < 4611686018427387904) (le : A0.le A) (own : Fresh A0 A v 1 (strs d)) :
    RetA P (ρ.f 190) #[v] A fun u A1 => u = .tuple #[] ∧ A0.le A1 ∧ A1.wf ∧ Fresh A0 A1 v 1 (strs (d.mergeSort fun x y => decide (x ≤ y))) ∧ (∀ b o, A.get b = some o → blk v ≠ some b → A1.get b = some o) := by
  rcases own.own with ⟨rfl, hx⟩ | ⟨b, n, c, r, rcap, rfl, g2, g3, g4, g5, g6⟩
  · have : d = [] := List.length_eq_zero_iff.1 (by have := strs_length d; rw [hx] at this; simpa using this.symm)
    subst this
    refine ⟨e190, fun w hw => (Any.slices_Sort_string_none L none 0 w).mono ?_⟩
    rintro e w' ⟨rfl, rfl⟩
    exact ⟨A, hw, .refl _ _, _, rfl, rfl, le, hw.wf, by simpa using own, fun _ _ h _ => h⟩
  · have hn : n = d.length := by rw [strs_length, Nat.mul_one] at g3; exact g3.symm
    subst hn
    rw [Nat.mul_one] at g3 g4 g6
    have hrl : d.length ≤ r.length := by rw [← g4, List.length_take] at g3; omega
    refine ⟨e190, fun w hw => ?_⟩
    obtain ⟨cs, el, fr, q1, q0, q2, q3, q4⟩ := hw.fits b _ g2
    have hb : b < w.heap.size := (Array.getElem?_eq_some_iff.1 q1).1
    have hH : Holds encStr w b 0 d.toArray := fun j hj => by
      simp only [List.size_toArray] at hj
      have hjr : j < r.length := by omega
      have e2 := q3 j hjr
      have e1 : r[j]? = some (str d[j]) := by
        rw [← List.getElem?_take_of_lt hj, g4]; simp [strs, hj]
      rw [e1] at e2
      refine ⟨?_, ?_⟩
      · simp only [World.cell?, q1, Nat.zero_add]
        have : d.toArray[j]! = d[j] := by simp [hj]
        rw [this]; exact e2
      · have := q4 rfl j (by omega)
        simp only [World.frozen?, q1, Nat.zero_add]
        obtain ⟨f1, f2⟩ := fr
        simp only at this ⊢
        simp only [Bool.and_eq_false_iff, decide_eq_false_iff_not]; omega
    refine (Any.slices_Sort_string L b 0 c d w hH hb hsz).mono ?_
    rintro e w' ⟨rfl, m, os, rfl⟩
    have hlen : (d.mergeSort fun x y => decide (x ≤ y)).length = d.length := List.length_mergeSort _
    obtain ⟨v1, s1⟩ := view_sorted (α := List UInt8) encStr (d.mergeSort fun x y => decide (x ≤ y)).toArray m os hw g2 (by simpa [hlen] using hrl)
    refine ⟨_, v1, s1, _, rfl, rfl, ?_, v1.wf, ?_, fun j o hj hne => ?_⟩
    · exact ⟨Nat.le_trans le.n (Nat.le_add_right _ _), fun j o hj => by
        rw [AH.grow_get, AH.set_get_ne _ _ (by rintro rfl; rw [own.lo j rfl] at hj; cases hj)]; exact le.get j o hj⟩
    · refine ⟨.inr ⟨b, d.length, c, _, rcap, rfl, by rw [AH.grow_get]; exact AH.set_get_same _ _ _, ?_, ?_, g5, by omega⟩, own.lo⟩
      · rw [strs_length, hlen, Nat.mul_one]
      · rw [Nat.mul_one, List.take_left' (by simp [hlen])]
        simp only [strs]; rfl
    · rw [AH.grow_get, AH.set_get_ne _ _ (by rintro rfl; exact hne rfl)]; exact hj
end
end V
end Go.Proofs.YtaccklloepfemaaGreatDoor
