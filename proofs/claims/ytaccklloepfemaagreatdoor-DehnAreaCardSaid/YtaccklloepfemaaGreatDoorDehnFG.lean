/- The contracts of the functions, one by one: what each comes to. -/
import Derived.Test.YtaccklloepfemaaGreatDoorDehnFF
import Derived.Test.YtaccklloepfemaaGreatDoorDehnDisk
namespace Go.Proofs.YtaccklloepfemaaGreatDoor
open Go Go.RowKit V
set_option maxRecDepth 100000
set_option linter.unusedVariables false
set_option linter.unusedSimpArgs false
theorem ag34 : aggOf Tryz.prog 34 = some false := by kernel_rfl
theorem ag79 : aggOf Tryz.prog 79 = some true := by kernel_rfl
theorem fl79_0 : fldOf Tryz.prog 79 0 = some (9, 0) := by kernel_rfl
theorem fl79_1 : fldOf Tryz.prog 79 1 = some (3, 1) := by kernel_rfl
theorem fl79_2 : fldOf Tryz.prog 79 2 = some (4, 2) := by kernel_rfl
theorem sz34 : szOf Tryz.prog 34 = some 1 := by kernel_rfl
theorem sz79 : szOf Tryz.prog 79 = some 3 := by kernel_rfl
theorem u34 : type_of% @Tryz.underlying34 := @Tryz.underlying34
theorem u71 : type_of% @Tryz.underlying71 := @Tryz.underlying71
theorem z34 : zeroOf Tryz.prog 34 = some (.slice none 0 0) := by kernel_rfl
theorem z79 : zeroOf Tryz.prog 79 = some (.agg #[.string ⟨⟨[]⟩⟩, .int .i64 0, .bool false]) := by kernel_rfl

theorem s_inv4 (c : UInt8) (A : AH) (hc : 0 ≤ ix c) : RetA Tryz.prog 99 #[byt (c)] A (fun v A1 => v = byt (c ^^^ 32) ∧ A = A1) := by
 refine enterA (e := [(0, byt (c))]) (args := [byt (c)]) Tryz.call99 Tryz.func99 rfl Tryz.results99 Tryz.ntmps99 rfl rfl rfl (fun wf => ?_)
 have le_ := AH.le.refl A
 refine Run.seq fun K1 h2 => ?_
 refine Run.region ?_
 refine Ops.q rfl (qassign rfl) ?_
 refine Ops.nil ?_
 refine h2 _ _ ?_
 refine Run.seq fun K3 h4 => ?_
 refine Run.seq fun K5 h6 => ?_
 refine Run.region ?_
 refine Ops.q rfl (qmove rfl) ?_
 refine Ops.q rfl (qgeqB (d := 97) rfl rfl) ?_
 refine Ops.nil ?_
 refine h6 _ _ ?_
 refine Run.if rfl (fun p7 => ?_) (fun p7 => ?_)
 ·
  refine Run.seq fun K8 h9 => ?_
  refine Run.region ?_
  refine Ops.q rfl (qmove rfl) ?_
  refine Ops.q rfl (qsubB (d := 97) rfl rfl) ?_
  refine Ops.q rfl (qaddB (d := 65) rfl rfl) ?_
  refine Ops.q rfl (qassign rfl) ?_
  refine Ops.nil ?_
  refine h9 _ _ ?_
  refine Run.ret ?_
  repeat first | with_reducible refine thenQ_ret ?_ | with_reducible refine blockQ_ret ?_
  exact retQ rfl (⟨by first | (rw [← (inv4 c hc).1 ‹_›]; rfl) | (rw [← (inv4 c hc).2 ‹_›]; rfl), rfl⟩)
 ·
  refine Run.skip ?_
  refine h4 _ _ ?_
  refine Run.seq fun K10 h11 => ?_
  refine Run.region ?_
  refine Ops.q rfl (qmove rfl) ?_
  refine Ops.q rfl (qsubB (d := 65) rfl rfl) ?_
  refine Ops.q rfl (qaddB (d := 97) rfl rfl) ?_
  refine Ops.q rfl (qassign rfl) ?_
  refine Ops.nil ?_
  refine h11 _ _ ?_
  refine Run.ret ?_
  repeat first | with_reducible refine thenQ_ret ?_ | with_reducible refine blockQ_ret ?_
  exact retQ rfl (⟨by first | (rw [← (inv4 c hc).1 ‹_›]; rfl) | (rw [← (inv4 c hc).2 ‹_›]; rfl), rfl⟩)

theorem s_reduced4 (u : Value) (o w : List UInt8) (A0 A : AH) (le_ : A0.le A) (wf0 : A0.wf) (hu : Fresh A0 A u 1 (byteCells o)) (hw : okl w) (hwl : w.length ≤ 1000000) (hol : o.length ≤ 100000000000) : RetA Tryz.prog 74 #[u, str (w)] A (fun v A1 => A0.le A1 ∧ A1.wf ∧ Fresh A0 A1 v 1 (byteCells (w.foldl push o))) := by
 refine enterA (e := [(0, u), (1, str (w))]) (args := [u, str (w)]) Tryz.call74 Tryz.func74 rfl Tryz.results74 Tryz.ntmps74 rfl rfl rfl (fun wf => ?_)
 refine Run.seq fun K1 h2 => ?_
 refine Run.region ?_
 refine Ops.q rfl (qassign rfl) ?_
 refine Ops.nil ?_
 refine h2 _ _ ?_
 refine Run.seq fun K3 h4 => ?_
 refine Run.seq fun K5 h6 => ?_
 refine Run.region ?_
 refine Ops.q rfl (qassign rfl) ?_
 refine Ops.nil ?_
 refine h6 _ _ ?_
 refine Run.block ?_
 refine Run.loop (X := Nat × List UInt8 × Value) (fun ⟨i, x, s⟩ => [(0, s), (1, str (w)), (5, num ((i : Nat) : Int))]) (fun ⟨i, x, s⟩ B => (i ≤ w.length ∧ (w.drop i).foldl push x = w.foldl push o ∧ x.length ≤ o.length + i) ∧ A0.le B ∧ Fresh A0 B s 1 (byteCells x)) (fun ⟨i, x, s⟩ => w.length - i) (⟨0, o, u⟩) (EnvLe.cons rfl <| EnvLe.cons rfl <| EnvLe.cons rfl <| EnvLe.nil _) (⟨⟨Nat.zero_le _, rfl, Nat.le_refl _⟩, le_, hu⟩) ?_
 rintro ⟨i, x, s⟩ B8 ⟨⟨hi, ha3, ha4⟩, le7, fr_s7⟩
 refine Run.wf fun wf9 => ?_
 refine Run.seq fun K10 h11 => ?_
 refine Run.seq fun K12 h13 => ?_
 refine Run.region ?_
 refine Ops.q rfl (qmove rfl) ?_
 refine Ops.q rfl (qmove rfl) ?_
 refine Ops.q rfl (qslen u9 rfl) ?_
 refine Ops.q rfl (qlssN rfl rfl) ?_
 refine Ops.nil ?_
 refine h13 _ _ ?_
 refine Run.if rfl (fun p14 => ?_) (fun p14 => ?_)
 ·
  refine Run.skip ?_
  refine h11 _ _ ?_
  refine Run.seq fun K15 h16 => ?_
  refine Run.block ?_
  refine Run.seq fun K17 h18 => ?_
  refine Run.region ?_
  refine Ops.q rfl (qmove rfl) ?_
  refine Ops.q rfl (qlenS (n := x.length) u80 rfl fr_s7.slc (by omega) (bytes_len _)) ?_
  refine Ops.q rfl (qassign rfl) ?_
  refine Ops.nil ?_
  refine h18 _ _ ?_
  refine Run.join (fun f A1 => EnvLe [(28, .bool (decide (0 < x.length ∧ x.getD (x.length - 1) 0 = w.getD i 0 ^^^ 32))), (0, s), (1, str (w)), (5, num ((i : Nat) : Int)), (7, num ((i : Nat) : Int)), (8, str (w)), (9, num ((w.length : Nat) : Int)), (10, .bool (decide (i < w.length))), (13, s), (14, num ((x.length : Nat) : Int)), (6, num ((x.length : Nat) : Int))] f.e ∧ f.ds = [] ∧ B8 = A1) ?_ ?_
  ·
   refine Run.drawn [0, 1, 2, 3, 4, 5, 6, 7, 8, 9, 10, 11, 12, 13] mixed (by kernel_rfl) (by kernel_rfl) rfl ?_
   refine DOps.q rfl rfl rfl (qmove rfl) ?_
   refine DOps.q rfl rfl rfl (qgtrN (b := 0) rfl rfl) ?_
   refine DOps.q rfl rfl rfl (qmove rfl) ?_
   refine DOps.part (t := 17) rfl (fun p21 => ?_) (fun p21 => ?_)
   ·
    refine DOps.qOn rfl rfl rfl rfl rfl (qmove rfl) ?_
    refine DOps.qOn rfl rfl rfl rfl rfl (qmove rfl) ?_
    refine DOps.qOn rfl rfl rfl rfl rfl (qsubN (b := 1) rfl rfl (by omega)) ?_
    obtain ⟨b22, f22, rw22, r22, rc22, n22, k22, e22, l22, g22, cl22, cs22⟩ := Slc.at (i := x.length - 1) fr_s7.slc (by simp only [bytes_length]; omega) (by omega)
    refine DOps.qOn rfl rfl rfl rfl rfl (qindexS u80 sz5 rfl e22 rfl l22) ?_
    have hc23 := cellOf (off := f22 + (x.length - 1) * 1) g22 ((elt0 cs22).trans (bytes_get (by omega)))
    refine DOps.qOn rfl rfl rfl rfl rfl (qloadAt ag5 rfl rfl g22 ((elt0 cs22).trans (bytes_get (by omega)))) ?_
    refine DOps.qOn rfl rfl rfl rfl rfl (qmove rfl) ?_
    refine DOps.qOn rfl rfl rfl rfl rfl (qmove rfl) ?_
    refine DOps.qOn rfl rfl rfl rfl rfl (qsix u9 rfl rfl (by omega)) ?_
    refine DOps.lOn rfl rfl rfl rfl rfl (fun _ _ hk24 _ => vcallF rfl (s_inv4 (w.getD i 0) B8 (okl_get hw (by omega))) ?_)
    rintro v25 A26 ⟨rfl, rfl⟩
    refine hk24 _ _ (HeldNow.list (L := [(⟨b22, f22 + (x.length - 1) * 1, none⟩, byt (x.getD (x.length - 1) 0))]) (by kernel_rfl) (heldCons hc23 heldNil)) ?_
    refine DOps.qOn rfl rfl rfl rfl rfl (qeqlB rfl rfl) ?_
    refine DOps.q rfl rfl rfl (qpickT rfl rfl) ?_
    refine DOps.done ?_
    exact ⟨EnvLe.cons (show some _ = some _ from congrArg (fun b => some (Value.bool b)) (show (decide ((x.getD (x.length - 1) 0) = ((w.getD i 0) ^^^ 32))) = decide (0 < x.length ∧ x.getD (x.length - 1) 0 = w.getD i 0 ^^^ 32) from (by first | rfl | simp only [‹0 < _›, true_and] | simp only [‹¬ 0 < _›, false_and, decide_false]))) <| EnvLe.cons rfl <| EnvLe.cons rfl <| EnvLe.cons rfl <| EnvLe.cons rfl <| EnvLe.cons rfl <| EnvLe.cons rfl <| EnvLe.cons rfl <| EnvLe.cons rfl <| EnvLe.cons rfl <| EnvLe.cons rfl <| EnvLe.nil _, rfl, rfl⟩
   ·
    refine DOps.qOff rfl rfl rfl rfl rfl rfl ?_
    refine DOps.qOff rfl rfl rfl rfl rfl rfl ?_
    refine DOps.qOff rfl rfl rfl rfl rfl rfl ?_
    refine DOps.qOff rfl rfl rfl rfl rfl rfl ?_
    refine DOps.qOff rfl rfl rfl rfl rfl rfl ?_
    refine DOps.qOff rfl rfl rfl rfl rfl rfl ?_
    refine DOps.qOff rfl rfl rfl rfl rfl rfl ?_
    refine DOps.qOff rfl rfl rfl rfl rfl rfl ?_
    refine DOps.lOff rfl rfl rfl rfl rfl rfl ?_
    refine DOps.qOff rfl rfl rfl rfl rfl rfl ?_
    refine DOps.q rfl rfl rfl (qpickF rfl rfl) ?_
    refine DOps.done ?_
    exact ⟨EnvLe.cons (show some _ = some _ from congrArg (fun b => some (Value.bool b)) (show (false) = decide (0 < x.length ∧ x.getD (x.length - 1) 0 = w.getD i 0 ^^^ 32) from (by first | rfl | simp only [‹0 < _›, true_and] | simp only [‹¬ 0 < _›, false_and, decide_false]))) <| EnvLe.cons rfl <| EnvLe.cons rfl <| EnvLe.cons rfl <| EnvLe.cons rfl <| EnvLe.cons rfl <| EnvLe.cons rfl <| EnvLe.cons rfl <| EnvLe.cons rfl <| EnvLe.cons rfl <| EnvLe.cons rfl <| EnvLe.nil _, rfl, rfl⟩
  ·
   rintro ⟨fe, fd⟩ _ ⟨hE, rfl, rfl⟩
   refine Run.forget hE ?_
   refine Run.if rfl (fun p28 => ?_) (fun p28 => ?_)
   ·
    refine Run.region ?_
    refine Ops.q rfl (qmove rfl) ?_
    refine Ops.q rfl (qmove rfl) ?_
    refine Ops.q rfl (qsubN (b := 1) rfl rfl (by omega)) ?_
    obtain ⟨b29, n29, c29, q29, m29, d29⟩ := fr_s7.nonnil (by intro q; have := congrArg List.length q; simp only [bytes_length, List.length_nil] at this; omega)
    subst q29
    rw [bytes_length, Nat.mul_one] at m29
    have fr30 := fr_s7.take (k := x.length - 1) (by omega)
    rw [Nat.mul_one, bytes_take] at fr30
    refine Ops.q rfl (qsliceHi u80 sz5 rfl rfl (by omega)) ?_
    refine Ops.q rfl (qassign rfl) ?_
    refine Ops.nil ?_
    refine h16 _ _ ?_
    refine Run.region ?_
    refine Ops.q rfl (qmove rfl) ?_
    refine Ops.q rfl (qaddN (b := 1) rfl rfl (by omega)) ?_
    refine Ops.q rfl (qassign rfl) ?_
    refine Ops.nil ?_
    exact ⟨⟨i + 1, x.take (x.length - 1), .slice (some ⟨b29, 0, none⟩) (x.length - 1) c29⟩, EnvLe.cons rfl <| EnvLe.cons rfl <| EnvLe.cons rfl <| EnvLe.nil _, rfl, ⟨⟨by omega, by first | exact push_go (by assumption) ha3 ‹_› | exact push_no (by assumption) ha3 ‹_›, by simp only [List.length_append, List.length_take, List.length_cons, List.length_nil]; omega⟩, le7, fr30⟩, (by (try dsimp only); omega)⟩
   ·
    refine Run.region ?_
    refine Ops.q rfl (qmove rfl) ?_
    refine Ops.q rfl (qmove rfl) ?_
    refine Ops.q rfl (qmove rfl) ?_
    refine Ops.q rfl (qsix u9 rfl rfl (by omega)) ?_
    refine Ops.l rfl (fun _ _ hk31 _ => wbuildSlice (c := [byt (w.getD i 0)]) wf9 rfl (buildSliceV_of u80 sz5 z5 rfl (by decide) (by decide) rfl) fun A33 b32 nb34 => ?_)
    have no35 := fr_s7.own.ne_new wf9 nb34.lo
    have ge_b32 := none_of wf0 (Nat.le_trans le7.n nb34.lo)
    have fr36 := fr_s7.le nb34.le
    have le37 := le7.trans nb34.le
    refine hk31 _ _ ?_
    refine Ops.l rfl (fun _ _ hk38 _ => wappend (ys := [byt (w.getD i 0)]) rfl rfl u80 sz5 inf5 z5 rfl (by decide) u80 (fun _ h => by cases h) fr36.own (listOf_row (n := 1) nb34.get rfl) rfl rfl (by show (_ + _) * 1 ≤ _; simp only [bytes_length, List.length_cons, List.length_nil]; (try simp only [List.length_append, List.length_cons, List.length_nil]); omega) (by simp only [bytes_length, List.length_cons, List.length_nil]; (try simp only [List.length_append, List.length_cons, List.length_nil]); omega) fun A39 v40 ap41 => ?_)
    rw [show ([byt (w.getD i 0)] : List Value) = byteCells [w.getD i 0] from rfl, bytes_append] at ap41
    obtain ⟨fr44, le45⟩ := Fresh.grow fr36 le37 wf0 ap41
    refine hk38 _ _ ?_
    refine Ops.q rfl (qassign rfl) ?_
    refine Ops.nil ?_
    refine h16 _ _ ?_
    refine Run.region ?_
    refine Ops.q rfl (qmove rfl) ?_
    refine Ops.q rfl (qaddN (b := 1) rfl rfl (by omega)) ?_
    refine Ops.q rfl (qassign rfl) ?_
    refine Ops.nil ?_
    exact ⟨⟨i + 1, x ++ [w.getD i 0], v40⟩, EnvLe.cons rfl <| EnvLe.cons rfl <| EnvLe.cons rfl <| EnvLe.nil _, rfl, ⟨⟨by omega, by first | exact push_go (by assumption) ha3 ‹_› | exact push_no (by assumption) ha3 ‹_›, by simp only [List.length_append, List.length_take, List.length_cons, List.length_nil]; omega⟩, le45, fr44⟩, (by (try dsimp only); omega)⟩
 ·
  refine Run.exit ?_
  refine h4 _ _ ?_
  refine Run.seq fun K46 h47 => ?_
  refine Run.region ?_
  refine Ops.q rfl (qmove rfl) ?_
  refine Ops.q rfl (qassign rfl) ?_
  refine Ops.nil ?_
  refine h47 _ _ ?_
  refine Run.ret ?_
  repeat first | with_reducible refine thenQ_ret ?_ | with_reducible refine blockQ_ret ?_
  exact retQ rfl (⟨le7, wf9, fresh_eq fr_s7 (congrArg byteCells (by rw [drop_end (by omega)] at ha3; exact ha3))⟩)

theorem s_Reduce4 (w : List UInt8) (A : AH) (hw : okl w) (hwl : w.length ≤ 1000000) : RetA Tryz.prog 43 #[str (w)] A (fun v A1 => v = str (red w) ∧ A.le A1 ∧ A1.wf) := by
 refine enterA (e := [(0, str (w))]) (args := [str (w)]) Tryz.call43 Tryz.func43 rfl Tryz.results43 Tryz.ntmps43 rfl rfl rfl (fun wf => ?_)
 have le_ := AH.le.refl A
 refine Run.seq fun K1 h2 => ?_
 refine Run.region ?_
 refine Ops.q rfl (qassign rfl) ?_
 refine Ops.nil ?_
 refine h2 _ _ ?_
 refine Run.seq fun K3 h4 => ?_
 refine Run.region ?_
 refine Ops.l rfl (fun _ _ hk5 _ => wbuildSlice (c := []) wf rfl (buildSliceV_of u80 sz5 z5 rfl (by decide) (by decide) rfl) fun A7 b6 nb8 => ?_)
 have ge_b6 := none_of wf (Nat.le_trans le_.n nb8.lo)
 have le9 := le_.trans nb8.le
 refine hk5 _ _ ?_
 refine Ops.q rfl (qmove rfl) ?_
 have fr11 : Fresh A A7 (.slice (some ⟨b6, 0, none⟩) 0 0) 1 (byteCells []) := Fresh.lit nb8.get ge_b6 rfl (by decide)
 have le16 := le_hide (bs := [blk (.slice (some ⟨b6, 0, none⟩) 0 0)]) le9 (hoV fr11.lo ho0)
 refine Ops.l rfl (fun _ _ hk10 _ => vcallF rfl (s_reduced4 (.slice (some ⟨b6, 0, none⟩) 0 0) ([]) w (A7.hide [blk (.slice (some ⟨b6, 0, none⟩) 0 0)]) A7 (hide_le A7 [blk (.slice (some ⟨b6, 0, none⟩) 0 0)]) (hide_wf nb8.wf) (fr11.hide (by simp)) hw hwl (by simp)) ?_)
 rintro v13 A14 ⟨leq15, wfq15, foq15_0⟩
 have fr17 := foq15_0.base le16
 have le18 := le16.trans leq15
 refine hk10 _ _ ?_
 refine Ops.l rfl (fun _ _ hk19 _ => wtoString (s := w.foldl push ([])) rfl u80 u9 u5 fr17.slc ?_)
 refine hk19 _ _ ?_
 refine Ops.q rfl (qassign rfl) ?_
 refine Ops.nil ?_
 refine h4 _ _ ?_
 refine Run.ret ?_
 repeat first | with_reducible refine thenQ_ret ?_ | with_reducible refine blockQ_ret ?_
 exact retQ rfl (⟨rfl, le18, wfq15⟩)

theorem s_Invert4 (w : List UInt8) (A : AH) (hw : okl w) (hwl : w.length ≤ 1000000) : RetA Tryz.prog 76 #[str (w)] A (fun v A1 => v = str (inv w) ∧ A.le A1 ∧ A1.wf) := by
 refine enterA (e := [(0, str (w))]) (args := [str (w)]) Tryz.call76 Tryz.func76 rfl Tryz.results76 Tryz.ntmps76 rfl rfl rfl (fun wf => ?_)
 have le_ := AH.le.refl A
 refine Run.seq fun K1 h2 => ?_
 refine Run.region ?_
 refine Ops.q rfl (qassign rfl) ?_
 refine Ops.nil ?_
 refine h2 _ _ ?_
 refine Run.seq fun K3 h4 => ?_
 refine Run.region ?_
 refine Ops.l rfl (fun _ _ hk5 _ => wbuildSlice (c := []) wf rfl (buildSliceV_of u80 sz5 z5 rfl (by decide) (by decide) rfl) fun A7 b6 nb8 => ?_)
 have ge_b6 := none_of wf (Nat.le_trans le_.n nb8.lo)
 have le9 := le_.trans nb8.le
 refine hk5 _ _ ?_
 refine Ops.q rfl (qassign rfl) ?_
 refine Ops.nil ?_
 refine h4 _ _ ?_
 refine Run.seq fun K10 h11 => ?_
 refine Run.seq fun K12 h13 => ?_
 refine Run.region ?_
 refine Ops.q rfl (qmove rfl) ?_
 refine Ops.q rfl (qslen u9 rfl) ?_
 refine Ops.q rfl (qsub rfl rfl (by omega)) ?_
 refine Ops.q rfl (qassign rfl) ?_
 refine Ops.nil ?_
 refine h13 _ _ ?_
 refine Run.block ?_
 have fr14 : Fresh A A7 (.slice (some ⟨b6, 0, none⟩) 0 0) 1 (byteCells []) := Fresh.lit nb8.get ge_b6 rfl (by decide)
 refine Run.loop (X := Nat × List UInt8 × Value) (fun ⟨j, o, s⟩ => [(0, str (w)), (3, s), (4, num ((j : Int) - 1))]) (fun ⟨j, o, s⟩ B => (j ≤ w.length ∧ o = ((w.drop j).map (· ^^^ 32)).reverse) ∧ A.le B ∧ Fresh A B s 1 (byteCells o)) (fun ⟨j, o, s⟩ => j) (⟨w.length, [], .slice (some ⟨b6, 0, none⟩) 0 0⟩) (EnvLe.cons rfl <| EnvLe.cons rfl <| EnvLe.cons (congrArg (fun z : Int => some (num z)) (by omega)) <| EnvLe.nil _) (⟨⟨Nat.le_refl _, by simp⟩, le9, fr14⟩) ?_
 rintro ⟨j, o, s⟩ B17 ⟨⟨hj, ho⟩, le16, fr_s16⟩
 refine Run.wf fun wf18 => ?_
 have hlo : o.length = w.length - j := by rw [ho]; simp
 have htn : ((j : Int) - 1).toNat = j - 1 := by omega
 refine Run.seq fun K19 h20 => ?_
 refine Run.seq fun K21 h22 => ?_
 refine Run.region ?_
 refine Ops.q rfl (qmove rfl) ?_
 refine Ops.q rfl (qgeq rfl rfl) ?_
 refine Ops.nil ?_
 refine h22 _ _ ?_
 refine Run.if rfl (fun p23 => ?_) (fun p23 => ?_)
 ·
  refine Run.skip ?_
  refine h20 _ _ ?_
  refine Run.seq fun K24 h25 => ?_
  refine Run.block ?_
  refine Run.region ?_
  refine Ops.q rfl (qmove rfl) ?_
  refine Ops.q rfl (qmove rfl) ?_
  refine Ops.q rfl (qmove rfl) ?_
  refine Ops.q rfl (qsix u9 rfl (natI (by omega)) (by omega)) ?_
  refine Ops.l rfl (fun _ _ hk26 _ => vcallF rfl (s_inv4 (w.getD ((j : Int) - 1).toNat 0) B17 (okl_get hw (by omega))) ?_)
  rintro v27 A28 ⟨rfl, rfl⟩
  refine hk26 _ _ ?_
  refine Ops.l rfl (fun _ _ hk30 _ => wbuildSlice (c := [byt ((w.getD ((j : Int) - 1).toNat 0) ^^^ 32)]) wf18 rfl (buildSliceV_of u80 sz5 z5 rfl (by decide) (by decide) rfl) fun A32 b31 nb33 => ?_)
  have no34 := fr_s16.own.ne_new wf18 nb33.lo
  have ge_b31 := none_of wf (Nat.le_trans le16.n nb33.lo)
  have fr35 := fr_s16.le nb33.le
  have le36 := le16.trans nb33.le
  refine hk30 _ _ ?_
  refine Ops.l rfl (fun _ _ hk37 _ => wappend (ys := [byt ((w.getD ((j : Int) - 1).toNat 0) ^^^ 32)]) rfl rfl u80 sz5 inf5 z5 rfl (by decide) u80 (fun _ h => by cases h) fr35.own (listOf_row (n := 1) nb33.get rfl) rfl rfl (by show (_ + _) * 1 ≤ _; simp only [bytes_length, List.length_cons, List.length_nil]; (try simp only [List.length_append, List.length_cons, List.length_nil]); omega) (by simp only [bytes_length, List.length_cons, List.length_nil]; (try simp only [List.length_append, List.length_cons, List.length_nil]); omega) fun A38 v39 ap40 => ?_)
  rw [show ([byt ((w.getD ((j : Int) - 1).toNat 0) ^^^ 32)] : List Value) = byteCells [(w.getD ((j : Int) - 1).toNat 0) ^^^ 32] from rfl, bytes_append] at ap40
  obtain ⟨fr43, le44⟩ := Fresh.grow fr35 le36 wf ap40
  refine hk37 _ _ ?_
  refine Ops.q rfl (qassign rfl) ?_
  refine Ops.nil ?_
  refine h25 _ _ ?_
  refine Run.region ?_
  refine Ops.q rfl (qmove rfl) ?_
  refine Ops.q rfl (qsub rfl rfl (by omega)) ?_
  refine Ops.q rfl (qassign rfl) ?_
  refine Ops.nil ?_
  exact ⟨⟨j - 1, o ++ [(w.getD ((j : Int) - 1).toNat 0) ^^^ 32], v39⟩, EnvLe.cons rfl <| EnvLe.cons rfl <| EnvLe.cons (congrArg (fun z : Int => some (num z)) (by omega)) <| EnvLe.nil _, rfl, ⟨⟨by omega, by rw [ho, htn]; exact inv_step (by omega) hj⟩, le44, fr43⟩, (by (try dsimp only); omega)⟩
 ·
  refine Run.exit ?_
  refine h11 _ _ ?_
  refine Run.seq fun K45 h46 => ?_
  refine Run.region ?_
  refine Ops.q rfl (qmove rfl) ?_
  refine Ops.l rfl (fun _ _ hk47 _ => wtoString (s := o) rfl u80 u9 u5 fr_s16.slc ?_)
  refine hk47 _ _ ?_
  refine Ops.q rfl (qassign rfl) ?_
  refine Ops.nil ?_
  refine h46 _ _ ?_
  refine Run.ret ?_
  repeat first | with_reducible refine thenQ_ret ?_ | with_reducible refine blockQ_ret ?_
  exact retQ rfl (⟨by rw [ho, show j = 0 by omega]; rfl, le16, wf18⟩)

theorem s_relator (g : Int) (u : Value) (l : List (List UInt8)) (rel : Int) (iv : Bool) (A : AH) (hr : 0 ≤ rel ∧ rel < (l.length : Int)) (hok : okl (l.getD rel.toNat []) ∧ (l.getD rel.toNat []).length ≤ 200) (hu : Slc A 1 u (strs l)) : RetA Tryz.prog 75 #[.agg #[num (g), u], num (rel), .bool (iv)] A (fun v A1 => v = str (if iv then inv (l.getD rel.toNat []) else l.getD rel.toNat []) ∧ A.le A1 ∧ A1.wf) := by
 refine enterA (e := [(0, .agg #[num (g), u]), (1, num (rel)), (2, .bool (iv))]) (args := [.agg #[num (g), u], num (rel), .bool (iv)]) Tryz.call75 Tryz.func75 rfl Tryz.results75 Tryz.ntmps75 rfl rfl rfl (fun wf => ?_)
 have le_ := AH.le.refl A
 obtain ⟨r, rfl⟩ : ∃ r : Nat, rel = r := ⟨rel.toNat, by omega⟩
 rw [Int.toNat_natCast] at hok
 refine Run.seq fun K1 h2 => ?_
 refine Run.region ?_
 refine Ops.l rfl (fun _ _ hk3 _ => wbox wf rfl rfl fun A5 b4 nb6 => ?_)
 have ge_b4 := none_of wf (Nat.le_trans le_.n nb6.lo)
 have le7 := le_.trans nb6.le
 refine hk3 _ _ ?_
 refine Ops.q rfl (qassign rfl) ?_
 refine Ops.nil ?_
 refine h2 _ _ ?_
 refine Run.seq fun K8 h9 => ?_
 refine Run.seq fun K10 h11 => ?_
 refine Run.region ?_
 refine Ops.q rfl (qmove rfl) ?_
 refine Ops.nil ?_
 refine h11 _ _ ?_
 refine Run.ifB rfl (fun p12 => ?_) (fun p12 => ?_)
 ·
  refine Run.seq fun K13 h14 => ?_
  refine Run.region ?_
  refine Ops.q rfl (qfieldAddr fl24_1 sz22 (by decide) rfl) ?_
  refine Ops.q rfl (qloadAt ag22 rfl rfl nb6.get rfl) ?_
  refine Ops.q rfl (qmove rfl) ?_
  obtain ⟨b15, f15, rw15, r15, rc15, n15, k15, e15, l15, g15, cl15, cs15⟩ := Slc.at (i := r) (hu.le le7) (by simp only [strs_length]; omega) (by omega)
  refine Ops.q rfl (qindexS u22 sz9 rfl e15 rfl l15) ?_
  refine Ops.q rfl (qloadAt ag9 rfl rfl g15 ((elt0 cs15).trans (strs_get (by omega)))) ?_
  refine Ops.l rfl (fun _ _ hk16 _ => vcallF rfl (s_Invert4 (l.getD r []) A5 hok.1 (by have := hok.2; omega)) ?_)
  rintro v17 A18 ⟨rfl, leq19, wfq19⟩
  have h20 := leq19.get _ _ nb6.get
  have le21 := le7.trans leq19
  refine hk16 _ _ ?_
  refine Ops.q rfl (qassign rfl) ?_
  refine Ops.nil ?_
  refine h14 _ _ ?_
  refine Run.ret ?_
  repeat first | with_reducible refine thenQ_ret ?_ | with_reducible refine blockQ_ret ?_
  exact retQ rfl (⟨by first | (rw [show iv = true from ‹_›]; rfl) | (rw [show iv = false from ‹_›]; rfl), le21, wfq19⟩)
 ·
  refine Run.skip ?_
  refine h9 _ _ ?_
  refine Run.seq fun K22 h23 => ?_
  refine Run.region ?_
  refine Ops.q rfl (qfieldAddr fl24_1 sz22 (by decide) rfl) ?_
  refine Ops.q rfl (qloadAt ag22 rfl rfl nb6.get rfl) ?_
  refine Ops.q rfl (qmove rfl) ?_
  obtain ⟨b24, f24, rw24, r24, rc24, n24, k24, e24, l24, g24, cl24, cs24⟩ := Slc.at (i := r) (hu.le le7) (by simp only [strs_length]; omega) (by omega)
  refine Ops.q rfl (qindexS u22 sz9 rfl e24 rfl l24) ?_
  refine Ops.q rfl (qloadAt ag9 rfl rfl g24 ((elt0 cs24).trans (strs_get (by omega)))) ?_
  refine Ops.q rfl (qassign rfl) ?_
  refine Ops.nil ?_
  refine h23 _ _ ?_
  refine Run.ret ?_
  repeat first | with_reducible refine thenQ_ret ?_ | with_reducible refine blockQ_ret ?_
  exact retQ rfl (⟨by first | (rw [show iv = true from ‹_›]; rfl) | (rw [show iv = false from ‹_›]; rfl), le7, nb6.wf⟩)

theorem s_Bounds (g : Int) (u : Value) (l : List (List UInt8)) (dv : Value) (d : List DCell) (A : AH) (hp : pcheck g l = 0) (hd : isDisk g l d = true) (hu : Slc A 1 u (strs l)) (hv : Slc A 3 dv (dcells d)) : RetA Tryz.prog 42 #[.agg #[num (g), u], dv] A (fun v A1 => v = str (bnds l d) ∧ A.le A1 ∧ A1.wf) := by
 refine enterA (e := [(0, .agg #[num (g), u]), (1, dv)]) (args := [.agg #[num (g), u], dv]) Tryz.call42 Tryz.func42 rfl Tryz.results42 Tryz.ntmps42 rfl rfl rfl (fun wf => ?_)
 have le_ := AH.le.refl A
 have hdl := (isDisk_len hd).1
 refine Run.seq fun K1 h2 => ?_
 refine Run.region ?_
 refine Ops.l rfl (fun _ _ hk3 _ => wbox wf rfl rfl fun A5 b4 nb6 => ?_)
 have ge_b4 := none_of wf (Nat.le_trans le_.n nb6.lo)
 have le7 := le_.trans nb6.le
 refine hk3 _ _ ?_
 refine Ops.q rfl (qassign rfl) ?_
 refine Ops.nil ?_
 refine h2 _ _ ?_
 refine Run.seq fun K8 h9 => ?_
 refine Run.region ?_
 refine Ops.l rfl (fun _ _ hk10 _ => wbuildSlice (c := []) nb6.wf rfl (buildSliceV_of u80 sz5 z5 rfl (by decide) (by decide) rfl) fun A12 b11 nb13 => ?_)
 have ne_b4_b11 := ne_new nb6.wf nb6.get nb13.lo
 have ge_b11 := none_of wf (Nat.le_trans le7.n nb13.lo)
 have h14 := nb13.le.get _ _ nb6.get
 have le15 := le7.trans nb13.le
 refine hk10 _ _ ?_
 refine Ops.q rfl (qassign rfl) ?_
 refine Ops.nil ?_
 refine h9 _ _ ?_
 refine Run.seq fun K16 h17 => ?_
 refine Run.seq fun K18 h19 => ?_
 refine Run.region ?_
 refine Ops.q rfl (qmove rfl) ?_
 refine Ops.q rfl (qlenS (n := d.length) u34 rfl (hv.le le15) (by omega) (dcells_len _)) ?_
 refine Ops.q rfl (qmove rfl) ?_
 refine Ops.nil ?_
 refine h19 _ _ ?_
 refine Run.block ?_
 have fr20 : Fresh A A12 (.slice (some ⟨b11, 0, none⟩) 0 0) 1 (byteCells []) := Fresh.lit nb13.get ge_b11 rfl (by decide)
 refine Run.loop (X := Nat × List UInt8 × Value) (fun ⟨k, o, s⟩ => [(2, .pointer (some ⟨b4, 0, none⟩)), (5, s), (9, dv), (10, num ((d.length : Nat) : Int)), (11, num ((k : Nat) : Int))]) (fun ⟨k, o, s⟩ B => (k ≤ d.length ∧ (d.drop k).foldl (bndFold l) o = bnds l d ∧ o.length ≤ 200200 * k) ∧ A.le B ∧ Fresh A B s 1 (byteCells o) ∧ B.get b4 = some (.row true [num (g), u] 2) ∧ V.blk s ≠ some b4) (fun ⟨k, o, s⟩ => d.length - k) (⟨0, [], .slice (some ⟨b11, 0, none⟩) 0 0⟩) (EnvLe.cons rfl <| EnvLe.cons rfl <| EnvLe.cons rfl <| EnvLe.cons rfl <| EnvLe.cons rfl <| EnvLe.nil _) (⟨⟨Nat.zero_le _, rfl, Nat.zero_le _⟩, le15, (fresh_eq fr20 (congrArg byteCells ((by first | rfl | exact bnd_step)))), h14, (fun q => by cases q; exact ne_b4_b11 rfl)⟩) ?_
 rintro ⟨k, o, s⟩ B23 ⟨⟨hk, hf, ho⟩, le22, fr_s22, hr_b422, no_s_b422⟩
 refine Run.wf fun wf24 => ?_
 have hz := fun q : k < d.length => isDisk_cell hd _ (getD_mem (d := .zero) q)
 have hzl := fun q : k < d.length => wcheck_len (hz q).2
 have hzo := fun q : k < d.length => okl_wcheck (fun r => r (hz q).2)
 have hre := fun q : k < d.length => rel_ok hp (hz q).1
 have hb1 := foldl_push_length (d.getD k .zero).conj o
 have hb2 := foldl_push_length (if (d.getD k .zero).inv then inv (l.getD (d.getD k .zero).rel.toNat []) else l.getD (d.getD k .zero).rel.toNat []) ((d.getD k .zero).conj.foldl push o)
 have hrl : k < d.length → (if (d.getD k .zero).inv then inv (l.getD (d.getD k .zero).rel.toNat []) else l.getD (d.getD k .zero).rel.toNat []).length ≤ 200 := fun q => by have := (hre q).2; split <;> first | (rw [inv_length]; exact this) | exact this
 have hro : k < d.length → okl (if (d.getD k .zero).inv then inv (l.getD (d.getD k .zero).rel.toNat []) else l.getD (d.getD k .zero).rel.toNat []) := fun q => by have := (hre q).1; split <;> first | exact okl_inv this | exact this
 refine Run.seq fun K25 h26 => ?_
 refine Run.region ?_
 refine Ops.q rfl (qlssN rfl rfl) ?_
 refine Ops.nil ?_
 refine h26 _ _ ?_
 refine Run.seq fun K27 h28 => ?_
 refine Run.if rfl (fun p29 => ?_) (fun p29 => ?_)
 ·
  refine Run.skip ?_
  refine h28 _ _ ?_
  refine Run.seq fun K30 h31 => ?_
  refine Run.block ?_
  refine Run.seq fun K32 h33 => ?_
  refine Run.region ?_
  obtain ⟨b34, f34, rw34, r34, rc34, n34, k34, e34, l34, g34, cl34, cs34⟩ := Slc.at (i := k) (hv.le le22) (by simp only [dcells_length]; omega) (by omega)
  refine Ops.q rfl (qindexS u34 sz79 rfl e34 rfl l34) ?_
  refine Ops.q rfl (qloadAggAt ag79 sz79 rfl rfl g34 (cl34.trans (congrArg some (dcells_at (by omega))))) ?_
  refine Ops.l rfl (fun _ _ hk35 _ => walloc wf24 z79 rfl fun A37 b36 nb38 => ?_)
  have ne_b4_b36 := ne_new wf24 hr_b422 nb38.lo
  have no39 := fr_s22.own.ne_new wf24 nb38.lo
  have ge_b36 := none_of wf (Nat.le_trans le22.n nb38.lo)
  have h40 := nb38.le.get _ _ hr_b422
  have fr41 := fr_s22.le nb38.le
  have le42 := le22.trans nb38.le
  refine hk35 _ _ ?_
  refine Ops.l rfl (fun _ _ hk43 _ => wstore (cs := [str ((d.getD k .zero).conj), num ((d.getD k .zero).rel), .bool ((d.getD k .zero).inv)]) (c' := [str ((d.getD k .zero).conj), num ((d.getD k .zero).rel), .bool ((d.getD k .zero).inv)]) nb38.wf rfl rfl rfl rfl sz79 nb38.get (Nat.le_of_ble_eq_true rfl) rfl rfl fun A44 sb45 => ?_)
  have h46 := sb45.keep _ _ ne_b4_b36 h40
  have fr47 := fr41.keep sb45.keep no39
  have le48 := le_store le42 wf ge_b36 sb45.n sb45.keep
  refine hk43 _ _ ?_
  refine Ops.nil ?_
  refine h33 _ _ ?_
  refine Run.seq fun K49 h50 => ?_
  refine Run.region ?_
  refine Ops.q rfl (qmove rfl) ?_
  refine Ops.q rfl (qfieldAddr fl79_0 sz9 (by decide) rfl) ?_
  refine Ops.q rfl (qloadAt ag9 rfl rfl sb45.get rfl) ?_
  have le55 := le_hide (bs := [blk s]) le48 (hoV fr47.lo ho0)
  refine Ops.l rfl (fun _ _ hk51 _ => vcallF rfl (s_reduced4 s o ((d.getD k .zero).conj) (A44.hide [blk s]) A44 (hide_le A44 [blk s]) (hide_wf sb45.wf) (fr47.hide (by simp)) (hzo (by omega)) (by have := hzl (by omega); have := hrl (by omega); (try rw [inv_length]); omega) (by have := hzl (by omega); have := hrl (by omega); omega)) ?_)
  rintro v52 A53 ⟨leq54, wfq54, foq54_0⟩
  have hg56 := hide_get (bs := [blk s]) h46 (nmV no_s_b422 nm0)
  have h57 := leq54.get _ _ hg56
  have hg58 := hide_get (bs := [blk s]) sb45.get (nmV no39 nm0)
  have h59 := leq54.get _ _ hg58
  have fr60 := foq54_0.base le55
  have no61 := foq54_0.seph hg56
  have no62 := foq54_0.seph hg58
  have le63 := le55.trans leq54
  refine hk51 _ _ ?_
  refine Ops.q rfl (qassign rfl) ?_
  refine Ops.nil ?_
  refine h50 _ _ ?_
  refine Run.seq fun K64 h65 => ?_
  refine Run.region ?_
  refine Ops.q rfl (qmove rfl) ?_
  refine Ops.q rfl (qloadAggAt ag24 sz24 rfl rfl h57 rfl) ?_
  refine Ops.q rfl (qfieldAddr fl79_1 sz3 (by decide) rfl) ?_
  refine Ops.q rfl (qloadAt ag3 rfl rfl h59 rfl) ?_
  refine Ops.q rfl (qfieldAddr fl79_2 sz4 (by decide) rfl) ?_
  refine Ops.q rfl (qloadAt ag4 rfl rfl h59 rfl) ?_
  refine Ops.l rfl (fun _ _ hk66 _ => vcallF rfl (s_relator ((g)) u l (((d.getD k .zero).rel)) ((d.getD k .zero).inv) A53 (hz (by omega)).1 (hre (by omega)) (hu.le le63)) ?_)
  rintro v67 A68 ⟨rfl, leq69, wfq69⟩
  have h70 := leq69.get _ _ h57
  have h71 := leq69.get _ _ h59
  have fr72 := fr60.le leq69
  have le73 := le63.trans leq69
  refine hk66 _ _ ?_
  have le78 := le_hide (bs := [blk v52]) le73 (hoV fr72.lo ho0)
  refine Ops.l rfl (fun _ _ hk74 _ => vcallF rfl (s_reduced4 v52 (((d.getD k .zero).conj).foldl push o) (if (d.getD k .zero).inv then inv (l.getD (((d.getD k .zero).rel)).toNat []) else l.getD (((d.getD k .zero).rel)).toNat []) (A68.hide [blk v52]) A68 (hide_le A68 [blk v52]) (hide_wf wfq69) (fr72.hide (by simp)) (hro (by omega)) (by have := hzl (by omega); have := hrl (by omega); (try rw [inv_length]); omega) (by have := hzl (by omega); have := hrl (by omega); omega)) ?_)
  rintro v75 A76 ⟨leq77, wfq77, foq77_0⟩
  have hg79 := hide_get (bs := [blk v52]) h70 (nmV no61 nm0)
  have h80 := leq77.get _ _ hg79
  have hg81 := hide_get (bs := [blk v52]) h71 (nmV no62 nm0)
  have h82 := leq77.get _ _ hg81
  have fr83 := foq77_0.base le78
  have no84 := foq77_0.seph hg79
  have no85 := foq77_0.seph hg81
  have le86 := le78.trans leq77
  refine hk74 _ _ ?_
  refine Ops.q rfl (qassign rfl) ?_
  refine Ops.nil ?_
  refine h65 _ _ ?_
  refine Run.region ?_
  refine Ops.q rfl (qmove rfl) ?_
  refine Ops.q rfl (qfieldAddr fl79_0 sz9 (by decide) rfl) ?_
  refine Ops.q rfl (qloadAt ag9 rfl rfl h82 rfl) ?_
  refine Ops.l rfl (fun _ _ hk87 _ => vcallF rfl (s_Invert4 ((d.getD k .zero).conj) A76 (hzo (by omega)) (by have := hzl (by omega); omega)) ?_)
  rintro v88 A89 ⟨rfl, leq90, wfq90⟩
  have h91 := leq90.get _ _ h80
  have h92 := leq90.get _ _ h82
  have fr93 := fr83.le leq90
  have le94 := le86.trans leq90
  refine hk87 _ _ ?_
  have le99 := le_hide (bs := [blk v75]) le94 (hoV fr93.lo ho0)
  refine Ops.l rfl (fun _ _ hk95 _ => vcallF rfl (s_reduced4 v75 ((if (d.getD k .zero).inv then inv (l.getD (((d.getD k .zero).rel)).toNat []) else l.getD (((d.getD k .zero).rel)).toNat []).foldl push (((d.getD k .zero).conj).foldl push o)) (inv ((d.getD k .zero).conj)) (A89.hide [blk v75]) A89 (hide_le A89 [blk v75]) (hide_wf wfq90) (fr93.hide (by simp)) (okl_inv (hzo (by omega))) (by have := hzl (by omega); have := hrl (by omega); (try rw [inv_length]); omega) (by have := hzl (by omega); have := hrl (by omega); omega)) ?_)
  rintro v96 A97 ⟨leq98, wfq98, foq98_0⟩
  have hg100 := hide_get (bs := [blk v75]) h91 (nmV no84 nm0)
  have h101 := leq98.get _ _ hg100
  have hg102 := hide_get (bs := [blk v75]) h92 (nmV no85 nm0)
  have h103 := leq98.get _ _ hg102
  have fr104 := foq98_0.base le99
  have no105 := foq98_0.seph hg100
  have no106 := foq98_0.seph hg102
  have le107 := le99.trans leq98
  refine hk95 _ _ ?_
  refine Ops.q rfl (qassign rfl) ?_
  refine Ops.nil ?_
  refine h31 _ _ ?_
  refine Run.region ?_
  refine Ops.q rfl (qaddN (b := 1) rfl rfl (by omega)) ?_
  refine Ops.q rfl (qmove rfl) ?_
  refine Ops.nil ?_
  exact ⟨⟨k + 1, bndFold l o (d.getD k .zero), v96⟩, EnvLe.cons rfl <| EnvLe.cons rfl <| EnvLe.cons rfl <| EnvLe.cons rfl <| EnvLe.cons rfl <| EnvLe.nil _, rfl, ⟨⟨by omega, fold_step (d := .zero) (by omega) hf rfl, by have := bnd_len (l := l) (o := o) (hzl (by omega)) (hre (by omega)).2; omega⟩, le107, (fresh_eq fr104 (congrArg byteCells ((by first | rfl | exact bnd_step)))), h101, no105⟩, (by (try dsimp only); omega)⟩
 ·
  refine Run.exit ?_
  refine h17 _ _ ?_
  refine Run.seq fun K108 h109 => ?_
  refine Run.region ?_
  refine Ops.q rfl (qmove rfl) ?_
  refine Ops.l rfl (fun _ _ hk110 _ => wtoString (s := o) rfl u80 u9 u5 fr_s22.slc ?_)
  refine hk110 _ _ ?_
  refine Ops.q rfl (qassign rfl) ?_
  refine Ops.nil ?_
  refine h109 _ _ ?_
  refine Run.ret ?_
  repeat first | with_reducible refine thenQ_ret ?_ | with_reducible refine blockQ_ret ?_
  exact retQ rfl (⟨by rw [dropL_end (by omega)] at hf; rw [← hf]; rfl, le22, wf24⟩)

theorem s_IsPres (g : Int) (u : Value) (l : List (List UInt8)) (A : AH) (hn : l.length ≤ 100000000) (hll : ∀ x ∈ l, x.length ≤ 100000000) (hu : Slc A 1 u (strs l)) : RetA Tryz.prog 72 #[.agg #[num (g), u]] A (fun v A1 => v = .bool (decide (pcheck g l = 0)) ∧ A.le A1 ∧ A1.wf) := by
 refine enterA (e := [(0, .agg #[num (g), u])]) (args := [.agg #[num (g), u]]) Tryz.call72 Tryz.func72 rfl Tryz.results72 Tryz.ntmps72 rfl rfl rfl (fun wf => ?_)
 have le_ := AH.le.refl A
 refine Run.seq fun K1 h2 => ?_
 refine Run.region ?_
 refine Ops.l rfl (fun _ _ hk3 _ => wbox wf rfl rfl fun A5 b4 nb6 => ?_)
 have ge_b4 := none_of wf (Nat.le_trans le_.n nb6.lo)
 have le7 := le_.trans nb6.le
 refine hk3 _ _ ?_
 refine Ops.q rfl (qassign rfl) ?_
 refine Ops.nil ?_
 refine h2 _ _ ?_
 refine Run.seq fun K8 h9 => ?_
 refine Run.seq fun K10 h11 => ?_
 refine Run.region ?_
 refine Ops.q rfl (qfieldAddr fl24_0 sz3 (by decide) rfl) ?_
 refine Ops.q rfl (qloadAt ag3 rfl rfl nb6.get rfl) ?_
 refine Ops.q rfl (qlss rfl rfl) ?_
 refine Ops.q rfl (qmove rfl) ?_
 refine Ops.part (t := 8) rfl (fun p12 => ?_) (fun p12 => ?_)
 ·
  refine Ops.off rfl rfl rfl rfl ?_
  refine Ops.off rfl rfl rfl rfl ?_
  refine Ops.off rfl rfl rfl rfl ?_
  refine Ops.q rfl (qpickT rfl rfl) ?_
  refine Ops.q rfl (qmove rfl) ?_
  refine Ops.off rfl rfl rfl rfl ?_
  refine Ops.off rfl rfl rfl rfl ?_
  refine Ops.off rfl rfl rfl rfl ?_
  refine Ops.off rfl rfl rfl rfl ?_
  refine Ops.q rfl (qpickT rfl rfl) ?_
  refine Ops.nil ?_
  refine h11 _ _ ?_
  refine Run.cond_true rfl ?_
  refine Run.seq fun K13 h14 => ?_
  refine Run.region ?_
  refine Ops.q rfl (qassign rfl) ?_
  refine Ops.nil ?_
  refine h14 _ _ ?_
  refine Run.ret ?_
  repeat first | with_reducible refine thenQ_ret ?_ | with_reducible refine blockQ_ret ?_
  exact retQ rfl (⟨by rw [decide_eq_false (by first | (exact fun q => by have := (pcheck_zero q).1; omega) | (exact fun q => by have := (pcheck_zero q).2.1; omega) | exact pcheck_ne (i := k) (by omega) (.inl (by omega)) | exact pcheck_ne (i := k) (by omega) (.inr (by first | exact badRel_len (by omega) | exact badRel_2 ‹_› | exact badRel_4 ‹_›)))]; rfl, le7, nb6.wf⟩)
 ·
  refine Ops.on rfl rfl ?_
  refine Ops.q rfl (qfieldAddr fl24_0 sz3 (by decide) rfl) ?_
  refine Ops.on rfl rfl ?_
  refine Ops.q rfl (qloadAt ag3 rfl rfl nb6.get rfl) ?_
  refine Ops.on rfl rfl ?_
  refine Ops.q rfl (qgtr rfl rfl) ?_
  refine Ops.q rfl (qpickF rfl rfl) ?_
  refine Ops.q rfl (qmove rfl) ?_
  refine Ops.part (t := 13) rfl (fun p15 => ?_) (fun p15 => ?_)
  ·
   refine Ops.off rfl rfl rfl rfl ?_
   refine Ops.off rfl rfl rfl rfl ?_
   refine Ops.off rfl rfl rfl rfl ?_
   refine Ops.off rfl rfl rfl rfl ?_
   refine Ops.q rfl (qpickT rfl rfl) ?_
   refine Ops.nil ?_
   refine h11 _ _ ?_
   refine Run.cond_true rfl ?_
   refine Run.seq fun K16 h17 => ?_
   refine Run.region ?_
   refine Ops.q rfl (qassign rfl) ?_
   refine Ops.nil ?_
   refine h17 _ _ ?_
   refine Run.ret ?_
   repeat first | with_reducible refine thenQ_ret ?_ | with_reducible refine blockQ_ret ?_
   exact retQ rfl (⟨by rw [decide_eq_false (by first | (exact fun q => by have := (pcheck_zero q).1; omega) | (exact fun q => by have := (pcheck_zero q).2.1; omega) | exact pcheck_ne (i := k) (by omega) (.inl (by omega)) | exact pcheck_ne (i := k) (by omega) (.inr (by first | exact badRel_len (by omega) | exact badRel_2 ‹_› | exact badRel_4 ‹_›)))]; rfl, le7, nb6.wf⟩)
  ·
   refine Ops.on rfl rfl ?_
   refine Ops.q rfl (qfieldAddr fl24_1 sz22 (by decide) rfl) ?_
   refine Ops.on rfl rfl ?_
   refine Ops.q rfl (qloadAt ag22 rfl rfl nb6.get rfl) ?_
   refine Ops.on rfl rfl ?_
   refine Ops.q rfl (qlenS (n := l.length) u22 rfl (hu.le le7) (by omega) (strs_len _)) ?_
   refine Ops.on rfl rfl ?_
   refine Ops.q rfl (qgtrN (b := 60) rfl rfl) ?_
   refine Ops.q rfl (qpickF rfl rfl) ?_
   refine Ops.nil ?_
   refine h11 _ _ ?_
   refine Run.if rfl (fun p18 => ?_) (fun p18 => ?_)
   ·
    refine Run.seq fun K19 h20 => ?_
    refine Run.region ?_
    refine Ops.q rfl (qassign rfl) ?_
    refine Ops.nil ?_
    refine h20 _ _ ?_
    refine Run.ret ?_
    repeat first | with_reducible refine thenQ_ret ?_ | with_reducible refine blockQ_ret ?_
    exact retQ rfl (⟨by rw [decide_eq_false (by first | (exact fun q => by have := (pcheck_zero q).1; omega) | (exact fun q => by have := (pcheck_zero q).2.1; omega) | exact pcheck_ne (i := k) (by omega) (.inl (by omega)) | exact pcheck_ne (i := k) (by omega) (.inr (by first | exact badRel_len (by omega) | exact badRel_2 ‹_› | exact badRel_4 ‹_›)))]; rfl, le7, nb6.wf⟩)
   ·
    refine Run.skip ?_
    refine h9 _ _ ?_
    refine Run.seq fun K21 h22 => ?_
    refine Run.seq fun K23 h24 => ?_
    refine Run.region ?_
    refine Ops.q rfl (qfieldAddr fl24_1 sz22 (by decide) rfl) ?_
    refine Ops.q rfl (qloadAt ag22 rfl rfl nb6.get rfl) ?_
    refine Ops.q rfl (qlenS (n := l.length) u22 rfl (hu.le le7) (by omega) (strs_len _)) ?_
    refine Ops.q rfl (qmove rfl) ?_
    refine Ops.nil ?_
    refine h24 _ _ ?_
    refine Run.block ?_
    refine Run.loop (X := Nat) (fun k => [(1, .pointer (some ⟨b4, 0, none⟩)), (20, u), (21, num ((l.length : Nat) : Int)), (22, num ((k : Nat) : Int))]) (fun k B => (k ≤ l.length ∧ ∀ j, j < k → (l.getD j []).length ≤ 200 ∧ badRel g (l.getD j []) = false) ∧ A.le B ∧ B.get b4 = some (.row true [num (g), u] 2)) (fun k => l.length - k) 0 (EnvLe.cons rfl <| EnvLe.cons rfl <| EnvLe.cons rfl <| EnvLe.cons rfl <| EnvLe.nil _) (⟨⟨Nat.zero_le _, fun j h => by omega⟩, le7, nb6.get⟩) ?_
    rintro k B26 ⟨⟨hk, hb⟩, le25, hr_b425⟩
    refine Run.wf fun wf27 => ?_
    have hlk : k < l.length → (l.getD k []).length ≤ 100000000 := fun q => hll _ (getD_mem q)
    refine Run.seq fun K28 h29 => ?_
    refine Run.region ?_
    refine Ops.q rfl (qlssN rfl rfl) ?_
    refine Ops.nil ?_
    refine h29 _ _ ?_
    refine Run.seq fun K30 h31 => ?_
    refine Run.if rfl (fun p32 => ?_) (fun p32 => ?_)
    ·
     refine Run.skip ?_
     refine h31 _ _ ?_
     refine Run.seq fun K33 h34 => ?_
     refine Run.block ?_
     refine Run.seq fun K35 h36 => ?_
     refine Run.region ?_
     obtain ⟨b37, f37, rw37, r37, rc37, n37, k37, e37, l37, g37, cl37, cs37⟩ := Slc.at (i := k) (hu.le le25) (by simp only [strs_length]; omega) (by omega)
     refine Ops.q rfl (qindexS u22 sz9 rfl e37 rfl l37) ?_
     refine Ops.q rfl (qloadAt ag9 rfl rfl g37 ((elt0 cs37).trans (strs_get (by omega)))) ?_
     refine Ops.q rfl (qassign rfl) ?_
     refine Ops.nil ?_
     refine h36 _ _ ?_
     refine Run.seq fun K38 h39 => ?_
     refine Run.region ?_
     refine Ops.q rfl (qmove rfl) ?_
     refine Ops.q rfl (qslen u9 rfl) ?_
     refine Ops.q rfl (qlssN (b := 1) rfl rfl) ?_
     refine Ops.q rfl (qmove rfl) ?_
     refine Ops.part (t := 29) rfl (fun p40 => ?_) (fun p40 => ?_)
     ·
      refine Ops.off rfl rfl rfl rfl ?_
      refine Ops.off rfl rfl rfl rfl ?_
      refine Ops.off rfl rfl rfl rfl ?_
      refine Ops.q rfl (qpickT rfl rfl) ?_
      refine Ops.q rfl (qmove rfl) ?_
      refine Ops.off rfl rfl rfl rfl ?_
      refine Ops.off rfl rfl rfl rfl ?_
      refine Ops.off rfl rfl rfl rfl ?_
      refine Ops.off rfl rfl rfl rfl ?_
      refine Ops.off rfl rfl rfl rfl ?_
      refine Ops.q rfl (qpickT rfl rfl) ?_
      refine Ops.q rfl (qmove rfl) ?_
      refine Ops.off rfl rfl rfl rfl ?_
      refine Ops.off rfl rfl rfl rfl ?_
      refine Ops.off rfl rfl rfl rfl ?_
      refine Ops.off rfl rfl rfl rfl ?_
      refine Ops.q rfl (qpickT rfl rfl) ?_
      refine Ops.nil ?_
      refine h39 _ _ ?_
      refine Run.cond_true rfl ?_
      refine Run.seq fun K41 h42 => ?_
      refine Run.region ?_
      refine Ops.q rfl (qassign rfl) ?_
      refine Ops.nil ?_
      refine h42 _ _ ?_
      refine Run.ret ?_
      repeat first | with_reducible refine thenQ_ret ?_ | with_reducible refine blockQ_ret ?_
      exact retQ rfl (⟨by rw [decide_eq_false (by first | (exact fun q => by have := (pcheck_zero q).1; omega) | (exact fun q => by have := (pcheck_zero q).2.1; omega) | exact pcheck_ne (i := k) (by omega) (.inl (by omega)) | exact pcheck_ne (i := k) (by omega) (.inr (by first | exact badRel_len (by omega) | exact badRel_2 ‹_› | exact badRel_4 ‹_›)))]; rfl, le25, wf27⟩)
     ·
      refine Ops.on rfl rfl ?_
      refine Ops.q rfl (qmove rfl) ?_
      refine Ops.on rfl rfl ?_
      refine Ops.q rfl (qslen u9 rfl) ?_
      refine Ops.on rfl rfl ?_
      refine Ops.q rfl (qgtrN (b := 200) rfl rfl) ?_
      refine Ops.q rfl (qpickF rfl rfl) ?_
      refine Ops.q rfl (qmove rfl) ?_
      refine Ops.part (t := 34) rfl (fun p43 => ?_) (fun p43 => ?_)
      ·
       refine Ops.off rfl rfl rfl rfl ?_
       refine Ops.off rfl rfl rfl rfl ?_
       refine Ops.off rfl rfl rfl rfl ?_
       refine Ops.off rfl rfl rfl rfl ?_
       refine Ops.off rfl rfl rfl rfl ?_
       refine Ops.q rfl (qpickT rfl rfl) ?_
       refine Ops.q rfl (qmove rfl) ?_
       refine Ops.off rfl rfl rfl rfl ?_
       refine Ops.off rfl rfl rfl rfl ?_
       refine Ops.off rfl rfl rfl rfl ?_
       refine Ops.off rfl rfl rfl rfl ?_
       refine Ops.q rfl (qpickT rfl rfl) ?_
       refine Ops.nil ?_
       refine h39 _ _ ?_
       refine Run.cond_true rfl ?_
       refine Run.seq fun K44 h45 => ?_
       refine Run.region ?_
       refine Ops.q rfl (qassign rfl) ?_
       refine Ops.nil ?_
       refine h45 _ _ ?_
       refine Run.ret ?_
       repeat first | with_reducible refine thenQ_ret ?_ | with_reducible refine blockQ_ret ?_
       exact retQ rfl (⟨by rw [decide_eq_false (by first | (exact fun q => by have := (pcheck_zero q).1; omega) | (exact fun q => by have := (pcheck_zero q).2.1; omega) | exact pcheck_ne (i := k) (by omega) (.inl (by omega)) | exact pcheck_ne (i := k) (by omega) (.inr (by first | exact badRel_len (by omega) | exact badRel_2 ‹_› | exact badRel_4 ‹_›)))]; rfl, le25, wf27⟩)
      ·
       refine Ops.on rfl rfl ?_
       refine Ops.q rfl (qmove rfl) ?_
       refine Ops.on rfl rfl ?_
       refine Ops.q rfl (qfieldAddr fl24_0 sz3 (by decide) rfl) ?_
       refine Ops.on rfl rfl ?_
       refine Ops.q rfl (qloadAt ag3 rfl rfl hr_b425 rfl) ?_
       refine Ops.on rfl rfl ?_
       refine Ops.l rfl (fun _ _ hk46 _ => vcallF rfl (s_R4IsWord (l.getD k []) ((g)) B26 (hlk (by omega)) (by omega)) ?_)
       rintro v47 A48 ⟨rfl, rfl⟩
       refine hk46 _ _ ?_
       refine Ops.on rfl rfl ?_
       refine Ops.q rfl (qnotP rfl) ?_
       refine Ops.q rfl (qpickF rfl rfl) ?_
       refine Ops.q rfl (qmove rfl) ?_
       refine Ops.part (t := 41) rfl (fun p50 => ?_) (fun p50 => ?_)
       ·
        refine Ops.off rfl rfl rfl rfl ?_
        refine Ops.off rfl rfl rfl rfl ?_
        refine Ops.off rfl rfl rfl rfl ?_
        refine Ops.off rfl rfl rfl rfl ?_
        refine Ops.q rfl (qpickT rfl rfl) ?_
        refine Ops.nil ?_
        refine h39 _ _ ?_
        refine Run.cond_true rfl ?_
        refine Run.seq fun K51 h52 => ?_
        refine Run.region ?_
        refine Ops.q rfl (qassign rfl) ?_
        refine Ops.nil ?_
        refine h52 _ _ ?_
        refine Run.ret ?_
        repeat first | with_reducible refine thenQ_ret ?_ | with_reducible refine blockQ_ret ?_
        exact retQ rfl (⟨by rw [decide_eq_false (by first | (exact fun q => by have := (pcheck_zero q).1; omega) | (exact fun q => by have := (pcheck_zero q).2.1; omega) | exact pcheck_ne (i := k) (by omega) (.inl (by omega)) | exact pcheck_ne (i := k) (by omega) (.inr (by first | exact badRel_len (by omega) | exact badRel_2 ‹_› | exact badRel_4 ‹_›)))]; rfl, le25, wf27⟩)
       ·
        refine Ops.on rfl rfl ?_
        refine Ops.q rfl (qmove rfl) ?_
        refine Ops.on rfl rfl ?_
        refine Ops.l rfl (fun _ _ hk53 _ => vcallF rfl (s_Reduce4 (l.getD k []) B26 (okl_wcheck ‹_›) (by omega)) ?_)
        rintro v54 A55 ⟨rfl, leq56, wfq56⟩
        have h57 := leq56.get _ _ hr_b425
        have le58 := le25.trans leq56
        refine hk53 _ _ ?_
        refine Ops.on rfl rfl ?_
        refine Ops.q rfl (qmove rfl) ?_
        refine Ops.on rfl rfl ?_
        refine Ops.q rfl (qsneq rfl rfl) ?_
        refine Ops.q rfl (qpickF rfl rfl) ?_
        refine Ops.nil ?_
        refine h39 _ _ ?_
        refine Run.if rfl (fun p59 => ?_) (fun p59 => ?_)
        ·
         refine Run.seq fun K60 h61 => ?_
         refine Run.region ?_
         refine Ops.q rfl (qassign rfl) ?_
         refine Ops.nil ?_
         refine h61 _ _ ?_
         refine Run.ret ?_
         repeat first | with_reducible refine thenQ_ret ?_ | with_reducible refine blockQ_ret ?_
         exact retQ rfl (⟨by rw [decide_eq_false (by first | (exact fun q => by have := (pcheck_zero q).1; omega) | (exact fun q => by have := (pcheck_zero q).2.1; omega) | exact pcheck_ne (i := k) (by omega) (.inl (by omega)) | exact pcheck_ne (i := k) (by omega) (.inr (by first | exact badRel_len (by omega) | exact badRel_2 ‹_› | exact badRel_4 ‹_›)))]; rfl, le58, wfq56⟩)
        ·
         refine Run.skip ?_
         refine h34 _ _ ?_
         refine Run.region ?_
         refine Ops.q rfl (qaddN (b := 1) rfl rfl (by omega)) ?_
         refine Ops.q rfl (qmove rfl) ?_
         refine Ops.nil ?_
         exact ⟨k + 1, EnvLe.cons rfl <| EnvLe.cons rfl <| EnvLe.cons rfl <| EnvLe.cons rfl <| EnvLe.nil _, rfl, ⟨⟨by omega, fun j h => (Nat.lt_succ_iff_lt_or_eq.1 h).elim (hb j) (fun z => by subst z; exact ⟨by omega, badRel_is (by omega) ‹_› ‹_›⟩)⟩, le58, h57⟩, (by (try dsimp only); omega)⟩
    ·
     refine Run.exit ?_
     refine h22 _ _ ?_
     refine Run.seq fun K62 h63 => ?_
     refine Run.region ?_
     refine Ops.q rfl (qassign rfl) ?_
     refine Ops.nil ?_
     refine h63 _ _ ?_
     refine Run.ret ?_
     repeat first | with_reducible refine thenQ_ret ?_ | with_reducible refine blockQ_ret ?_
     exact retQ rfl (⟨by rw [decide_eq_true (pcheck_is0 (i := k) (by omega) (by omega) (by omega) hb)]; rfl, le25, wf27⟩)

theorem s_IsDisk (g : Int) (u : Value) (l : List (List UInt8)) (dv : Value) (d : List DCell) (A : AH) (hg : 1 ≤ g ∧ g ≤ 8) (hn : l.length ≤ 100000000) (hdn : d.length ≤ 100000000) (hcn : conjs d ≤ 100000000) (hu : Slc A 1 u (strs l)) (hv : Slc A 3 dv (dcells d)) : RetA Tryz.prog 73 #[.agg #[num (g), u], dv] A (fun v A1 => v = .bool (isDisk g l d) ∧ A.le A1 ∧ A1.wf) := by
 refine enterA (e := [(0, .agg #[num (g), u]), (1, dv)]) (args := [.agg #[num (g), u], dv]) Tryz.call73 Tryz.func73 rfl Tryz.results73 Tryz.ntmps73 rfl rfl rfl (fun wf => ?_)
 have le_ := AH.le.refl A
 refine Run.seq fun K1 h2 => ?_
 refine Run.region ?_
 refine Ops.l rfl (fun _ _ hk3 _ => wbox wf rfl rfl fun A5 b4 nb6 => ?_)
 have ge_b4 := none_of wf (Nat.le_trans le_.n nb6.lo)
 have le7 := le_.trans nb6.le
 refine hk3 _ _ ?_
 refine Ops.q rfl (qassign rfl) ?_
 refine Ops.nil ?_
 refine h2 _ _ ?_
 refine Run.seq fun K8 h9 => ?_
 refine Run.region ?_
 refine Ops.q rfl (qassign rfl) ?_
 refine Ops.nil ?_
 refine h9 _ _ ?_
 refine Run.seq fun K10 h11 => ?_
 refine Run.seq fun K12 h13 => ?_
 refine Run.region ?_
 refine Ops.q rfl (qmove rfl) ?_
 refine Ops.q rfl (qlenS (n := d.length) u34 rfl (hv.le le7) (by omega) (dcells_len _)) ?_
 refine Ops.q rfl (qmove rfl) ?_
 refine Ops.nil ?_
 refine h13 _ _ ?_
 refine Run.block ?_
 refine Run.loop (X := Nat × Nat) (fun ⟨k, n⟩ => [(1, dv), (2, .pointer (some ⟨b4, 0, none⟩)), (5, num ((n : Nat) : Int)), (8, dv), (9, num ((d.length : Nat) : Int)), (10, num ((k : Nat) : Int))]) (fun ⟨k, n⟩ B => (k ≤ d.length ∧ n + conjs (d.drop k) = conjs d ∧ ∀ j, j < k → okCell g l (d.getD j .zero) = true) ∧ A.le B ∧ B.get b4 = some (.row true [num (g), u] 2)) (fun ⟨k, n⟩ => d.length - k) (⟨0, 0⟩) (EnvLe.cons rfl <| EnvLe.cons rfl <| EnvLe.cons rfl <| EnvLe.cons rfl <| EnvLe.cons rfl <| EnvLe.cons rfl <| EnvLe.nil _) (⟨⟨Nat.zero_le _, Nat.zero_add _, fun j h => by omega⟩, le7, nb6.get⟩) ?_
 rintro ⟨k, n⟩ B15 ⟨⟨hk, hc, hb⟩, le14, hr_b414⟩
 refine Run.wf fun wf16 => ?_
 have hcd := fun q : k < d.length => conjs_drop q
 refine Run.seq fun K17 h18 => ?_
 refine Run.region ?_
 refine Ops.q rfl (qlssN rfl rfl) ?_
 refine Ops.nil ?_
 refine h18 _ _ ?_
 refine Run.seq fun K19 h20 => ?_
 refine Run.if rfl (fun p21 => ?_) (fun p21 => ?_)
 ·
  refine Run.skip ?_
  refine h20 _ _ ?_
  refine Run.seq fun K22 h23 => ?_
  refine Run.block ?_
  refine Run.seq fun K24 h25 => ?_
  refine Run.region ?_
  obtain ⟨b26, f26, rw26, r26, rc26, n26, k26, e26, l26, g26, cl26, cs26⟩ := Slc.at (i := k) (hv.le le14) (by simp only [dcells_length]; omega) (by omega)
  refine Ops.q rfl (qindexS u34 sz79 rfl e26 rfl l26) ?_
  refine Ops.q rfl (qloadAggAt ag79 sz79 rfl rfl g26 (cl26.trans (congrArg some (dcells_at (by omega))))) ?_
  refine Ops.l rfl (fun _ _ hk27 _ => walloc wf16 z79 rfl fun A29 b28 nb30 => ?_)
  have ne_b4_b28 := ne_new wf16 hr_b414 nb30.lo
  have ge_b28 := none_of wf (Nat.le_trans le14.n nb30.lo)
  have h31 := nb30.le.get _ _ hr_b414
  have le32 := le14.trans nb30.le
  refine hk27 _ _ ?_
  refine Ops.l rfl (fun _ _ hk33 _ => wstore (cs := [str ((d.getD k .zero).conj), num ((d.getD k .zero).rel), .bool ((d.getD k .zero).inv)]) (c' := [str ((d.getD k .zero).conj), num ((d.getD k .zero).rel), .bool ((d.getD k .zero).inv)]) nb30.wf rfl rfl rfl rfl sz79 nb30.get (Nat.le_of_ble_eq_true rfl) rfl rfl fun A34 sb35 => ?_)
  have h36 := sb35.keep _ _ ne_b4_b28 h31
  have le37 := le_store le32 wf ge_b28 sb35.n sb35.keep
  refine hk33 _ _ ?_
  refine Ops.nil ?_
  refine h25 _ _ ?_
  refine Run.seq fun K38 h39 => ?_
  refine Run.region ?_
  refine Ops.q rfl (qmove rfl) ?_
  refine Ops.q rfl (qfieldAddr fl79_0 sz9 (by decide) rfl) ?_
  refine Ops.q rfl (qloadAt ag9 rfl rfl sb35.get rfl) ?_
  refine Ops.q rfl (qslen u9 rfl) ?_
  refine Ops.q rfl (qaddN rfl rfl (by have := hcd (by omega); omega)) ?_
  refine Ops.q rfl (qassign rfl) ?_
  refine Ops.nil ?_
  refine h39 _ _ ?_
  refine Run.seq fun K40 h41 => ?_
  refine Run.region ?_
  refine Ops.q rfl (qfieldAddr fl79_1 sz3 (by decide) rfl) ?_
  refine Ops.q rfl (qloadAt ag3 rfl rfl sb35.get rfl) ?_
  refine Ops.q rfl (qlss rfl rfl) ?_
  refine Ops.q rfl (qmove rfl) ?_
  refine Ops.part (t := 22) rfl (fun p42 => ?_) (fun p42 => ?_)
  ·
   refine Ops.off rfl rfl rfl rfl ?_
   refine Ops.off rfl rfl rfl rfl ?_
   refine Ops.off rfl rfl rfl rfl ?_
   refine Ops.off rfl rfl rfl rfl ?_
   refine Ops.off rfl rfl rfl rfl ?_
   refine Ops.off rfl rfl rfl rfl ?_
   refine Ops.q rfl (qpickT rfl rfl) ?_
   refine Ops.q rfl (qmove rfl) ?_
   refine Ops.off rfl rfl rfl rfl ?_
   refine Ops.off rfl rfl rfl rfl ?_
   refine Ops.off rfl rfl rfl rfl ?_
   refine Ops.off rfl rfl rfl rfl ?_
   refine Ops.off rfl rfl rfl rfl ?_
   refine Ops.off rfl rfl rfl rfl ?_
   refine Ops.q rfl (qpickT rfl rfl) ?_
   refine Ops.nil ?_
   refine h41 _ _ ?_
   refine Run.cond_true rfl ?_
   refine Run.seq fun K43 h44 => ?_
   refine Run.region ?_
   refine Ops.q rfl (qassign rfl) ?_
   refine Ops.nil ?_
   refine h44 _ _ ?_
   refine Run.ret ?_
   repeat first | with_reducible refine thenQ_ret ?_ | with_reducible refine blockQ_ret ?_
   exact retQ rfl (⟨by first | (rw [isDisk_bad (i := k) (by omega) (by first | exact okCell_1 ‹_› | exact okCell_2 ‹_› | exact okCell_3 ‹_›)]; rfl) | (rw [isDisk_of (i := k) (n := n) (by omega) hb hc]; simp_all [oneV] <;> omega), le37, sb35.wf⟩)
  ·
   refine Ops.on rfl rfl ?_
   refine Ops.q rfl (qfieldAddr fl79_1 sz3 (by decide) rfl) ?_
   refine Ops.on rfl rfl ?_
   refine Ops.q rfl (qloadAt ag3 rfl rfl sb35.get rfl) ?_
   refine Ops.on rfl rfl ?_
   refine Ops.q rfl (qfieldAddr fl24_1 sz22 (by decide) rfl) ?_
   refine Ops.on rfl rfl ?_
   refine Ops.q rfl (qloadAt ag22 rfl rfl h36 rfl) ?_
   refine Ops.on rfl rfl ?_
   refine Ops.q rfl (qlenS (n := l.length) u22 rfl (hu.le le37) (by omega) (strs_len _)) ?_
   refine Ops.on rfl rfl ?_
   refine Ops.q rfl (qgeq rfl rfl) ?_
   refine Ops.q rfl (qpickF rfl rfl) ?_
   refine Ops.q rfl (qmove rfl) ?_
   refine Ops.part (t := 30) rfl (fun p45 => ?_) (fun p45 => ?_)
   ·
    refine Ops.off rfl rfl rfl rfl ?_
    refine Ops.off rfl rfl rfl rfl ?_
    refine Ops.off rfl rfl rfl rfl ?_
    refine Ops.off rfl rfl rfl rfl ?_
    refine Ops.off rfl rfl rfl rfl ?_
    refine Ops.off rfl rfl rfl rfl ?_
    refine Ops.q rfl (qpickT rfl rfl) ?_
    refine Ops.nil ?_
    refine h41 _ _ ?_
    refine Run.cond_true rfl ?_
    refine Run.seq fun K46 h47 => ?_
    refine Run.region ?_
    refine Ops.q rfl (qassign rfl) ?_
    refine Ops.nil ?_
    refine h47 _ _ ?_
    refine Run.ret ?_
    repeat first | with_reducible refine thenQ_ret ?_ | with_reducible refine blockQ_ret ?_
    exact retQ rfl (⟨by first | (rw [isDisk_bad (i := k) (by omega) (by first | exact okCell_1 ‹_› | exact okCell_2 ‹_› | exact okCell_3 ‹_›)]; rfl) | (rw [isDisk_of (i := k) (n := n) (by omega) hb hc]; simp_all [oneV] <;> omega), le37, sb35.wf⟩)
   ·
    refine Ops.on rfl rfl ?_
    refine Ops.q rfl (qfieldAddr fl79_0 sz9 (by decide) rfl) ?_
    refine Ops.on rfl rfl ?_
    refine Ops.q rfl (qloadAt ag9 rfl rfl sb35.get rfl) ?_
    refine Ops.on rfl rfl ?_
    refine Ops.q rfl (qfieldAddr fl24_0 sz3 (by decide) rfl) ?_
    refine Ops.on rfl rfl ?_
    refine Ops.q rfl (qloadAt ag3 rfl rfl h36 rfl) ?_
    refine Ops.on rfl rfl ?_
    refine Ops.l rfl (fun _ _ hk48 _ => vcallF rfl (s_R4IsWord ((d.getD k .zero).conj) ((g)) A34 (by have := hcd (by omega); omega) hg) ?_)
    rintro v49 A50 ⟨rfl, rfl⟩
    refine hk48 _ _ ?_
    refine Ops.on rfl rfl ?_
    refine Ops.q rfl (qnotP rfl) ?_
    refine Ops.q rfl (qpickF rfl rfl) ?_
    refine Ops.nil ?_
    refine h41 _ _ ?_
    refine Run.if rfl (fun p52 => ?_) (fun p52 => ?_)
    ·
     refine Run.seq fun K53 h54 => ?_
     refine Run.region ?_
     refine Ops.q rfl (qassign rfl) ?_
     refine Ops.nil ?_
     refine h54 _ _ ?_
     refine Run.ret ?_
     repeat first | with_reducible refine thenQ_ret ?_ | with_reducible refine blockQ_ret ?_
     exact retQ rfl (⟨by first | (rw [isDisk_bad (i := k) (by omega) (by first | exact okCell_1 ‹_› | exact okCell_2 ‹_› | exact okCell_3 ‹_›)]; rfl) | (rw [isDisk_of (i := k) (n := n) (by omega) hb hc]; simp_all [oneV] <;> omega), le37, sb35.wf⟩)
    ·
     refine Run.skip ?_
     refine h23 _ _ ?_
     refine Run.region ?_
     refine Ops.q rfl (qaddN (b := 1) rfl rfl (by omega)) ?_
     refine Ops.q rfl (qmove rfl) ?_
     refine Ops.nil ?_
     exact ⟨⟨k + 1, n + (d.getD k .zero).conj.length⟩, EnvLe.cons rfl <| EnvLe.cons rfl <| EnvLe.cons rfl <| EnvLe.cons rfl <| EnvLe.cons rfl <| EnvLe.cons rfl <| EnvLe.nil _, rfl, ⟨⟨by omega, by have := hcd (by omega); omega, fun j h => (Nat.lt_succ_iff_lt_or_eq.1 h).elim (hb j) (fun z => by subst z; exact okCell_is ‹_› ‹_› ‹_›)⟩, le37, h36⟩, (by (try dsimp only); omega)⟩
 ·
  refine Run.exit ?_
  refine h11 _ _ ?_
  refine Run.seq fun K55 h56 => ?_
  refine Run.region ?_
  refine Ops.q rfl (qmove rfl) ?_
  refine Ops.q rfl (qlenS (n := d.length) u34 rfl (hv.le le14) (by omega) (dcells_len _)) ?_
  refine Ops.q rfl (qleqN (b := 100000) rfl rfl) ?_
  refine Ops.q rfl (qmove rfl) ?_
  refine Ops.part (t := 42) rfl (fun p57 => ?_) (fun p57 => ?_)
  ·
   refine Ops.on rfl rfl ?_
   refine Ops.q rfl (qmove rfl) ?_
   refine Ops.on rfl rfl ?_
   refine Ops.q rfl (qleqN (b := 1000000) rfl rfl) ?_
   refine Ops.q rfl (qpickT rfl rfl) ?_
   refine Ops.q rfl (qassign rfl) ?_
   refine Ops.nil ?_
   refine h56 _ _ ?_
   refine Run.ret ?_
   repeat first | with_reducible refine thenQ_ret ?_ | with_reducible refine blockQ_ret ?_
   exact retQ rfl (⟨by first | (rw [isDisk_bad (i := k) (by omega) (by first | exact okCell_1 ‹_› | exact okCell_2 ‹_› | exact okCell_3 ‹_›)]; rfl) | (rw [isDisk_of (i := k) (n := n) (by omega) hb hc]; simp_all [oneV] <;> omega), le14, wf16⟩)
  ·
   refine Ops.off rfl rfl rfl rfl ?_
   refine Ops.off rfl rfl rfl rfl ?_
   refine Ops.q rfl (qpickF rfl rfl) ?_
   refine Ops.q rfl (qassign rfl) ?_
   refine Ops.nil ?_
   refine h56 _ _ ?_
   refine Run.ret ?_
   repeat first | with_reducible refine thenQ_ret ?_ | with_reducible refine blockQ_ret ?_
   exact retQ rfl (⟨by first | (rw [isDisk_bad (i := k) (by omega) (by first | exact okCell_1 ‹_› | exact okCell_2 ‹_› | exact okCell_3 ‹_›)]; rfl) | (rw [isDisk_of (i := k) (n := n) (by omega) hb hc]; simp_all [oneV] <;> omega), le14, wf16⟩)

theorem s_checked4 (g : Int) (u : Value) (l : List (List UInt8)) (wsv : Value) (ws : List (List UInt8)) (dsv dv : Value) (d : List DCell) (A : AH) (hn : l.length ≤ 100000000) (hll : ∀ x ∈ l, x.length ≤ 100000000) (hwn : ws.length ≤ 100000000) (hwl : ∀ x ∈ ws, x.length ≤ 100000000) (hdn : d.length ≤ 100000000) (hcn : conjs d ≤ 100000000) (hu : Slc A 1 u (strs l)) (hws : Slc A 1 wsv (strs ws)) (hds : Slc A 1 dsv (vals [dv])) (hv : Slc A 3 dv (dcells d)) : RetA Tryz.prog 41 #[.agg #[num (g), u], wsv, dsv] A (fun v A1 => v = num ((chk g l ws [d] : Nat) : Int) ∧ A.le A1 ∧ A1.wf) := by
 refine enterA (e := [(0, .agg #[num (g), u]), (1, wsv), (2, dsv)]) (args := [.agg #[num (g), u], wsv, dsv]) Tryz.call41 Tryz.func41 rfl Tryz.results41 Tryz.ntmps41 rfl rfl rfl (fun wf => ?_)
 have le_ := AH.le.refl A
 have hdl1 : ([dv] : List Value).length = 1 := rfl
 refine Run.seq fun K1 h2 => ?_
 refine Run.region ?_
 refine Ops.l rfl (fun _ _ hk3 _ => wbox wf rfl rfl fun A5 b4 nb6 => ?_)
 have ge_b4 := none_of wf (Nat.le_trans le_.n nb6.lo)
 have le7 := le_.trans nb6.le
 refine hk3 _ _ ?_
 refine Ops.q rfl (qassign rfl) ?_
 refine Ops.nil ?_
 refine h2 _ _ ?_
 refine Run.seq fun K8 h9 => ?_
 refine Run.seq fun K10 h11 => ?_
 refine Run.region ?_
 refine Ops.q rfl (qloadAggAt ag24 sz24 rfl rfl nb6.get rfl) ?_
 refine Ops.l rfl (fun _ _ hk12 _ => vcallF rfl (s_IsPres ((g)) u l A5 hn hll (hu.le le7)) ?_)
 rintro v13 A14 ⟨rfl, leq15, wfq15⟩
 have h16 := leq15.get _ _ nb6.get
 have le17 := le7.trans leq15
 refine hk12 _ _ ?_
 refine Ops.q rfl (qnotP rfl) ?_
 refine Ops.nil ?_
 refine h11 _ _ ?_
 refine Run.if rfl (fun p18 => ?_) (fun p18 => ?_)
 ·
  refine Run.seq fun K19 h20 => ?_
  refine Run.region ?_
  refine Ops.q rfl (qassign rfl) ?_
  refine Ops.nil ?_
  refine h20 _ _ ?_
  refine Run.ret ?_
  repeat first | with_reducible refine thenQ_ret ?_ | with_reducible refine blockQ_ret ?_
  exact retQ rfl (⟨by first | (rw [chk_40 ‹_›]; rfl) | (rw [chk_41 (i := i) ‹¬ ¬ pcheck g l = 0› (by omega) ‹_›]; rfl) | (rw [chk_42 (i := i) ‹¬ ¬ pcheck g l = 0› (by omega) hw (by simpa using ‹(!isDisk g l d) = true›)]; rfl) | (rw [chk_0 (i := i) ‹¬ ¬ pcheck g l = 0› (by omega) hw (hd (by omega))]; rfl), le17, wfq15⟩)
 ·
  refine Run.skip ?_
  refine h9 _ _ ?_
  refine Run.seq fun K21 h22 => ?_
  refine Run.seq fun K23 h24 => ?_
  refine Run.region ?_
  refine Ops.q rfl (qmove rfl) ?_
  refine Ops.q rfl (qlenS (n := ws.length) u22 rfl (hws.le le17) (by omega) (strs_len _)) ?_
  refine Ops.q rfl (qmove rfl) ?_
  refine Ops.nil ?_
  refine h24 _ _ ?_
  refine Run.block ?_
  refine Run.loop (X := Nat) (fun i => [(2, dsv), (3, .pointer (some ⟨b4, 0, none⟩)), (14, wsv), (15, num ((ws.length : Nat) : Int)), (16, num ((i : Nat) : Int))]) (fun i B => (i ≤ ws.length ∧ ∀ j, j < i → wcheck g (ws.getD j []) = 0) ∧ A14 = B) (fun i => ws.length - i) 0 (EnvLe.cons rfl <| EnvLe.cons rfl <| EnvLe.cons rfl <| EnvLe.cons rfl <| EnvLe.cons rfl <| EnvLe.nil _) (⟨⟨Nat.zero_le _, fun j h => by omega⟩, rfl⟩) ?_
  rintro i B26 ⟨⟨hi, hw⟩, rfl⟩
  have hg := (pcheck_zero (Decidable.not_not.1 ‹¬ ¬ pcheck g l = 0›)).1
  have hwk : i < ws.length → (ws.getD i []).length ≤ 100000000 := fun q => hwl _ (getD_mem q)
  refine Run.seq fun K27 h28 => ?_
  refine Run.region ?_
  refine Ops.q rfl (qlssN rfl rfl) ?_
  refine Ops.nil ?_
  refine h28 _ _ ?_
  refine Run.seq fun K29 h30 => ?_
  refine Run.if rfl (fun p31 => ?_) (fun p31 => ?_)
  ·
   refine Run.skip ?_
   refine h30 _ _ ?_
   refine Run.seq fun K32 h33 => ?_
   refine Run.block ?_
   refine Run.seq fun K34 h35 => ?_
   refine Run.region ?_
   obtain ⟨b36, f36, rw36, r36, rc36, n36, k36, e36, l36, g36, cl36, cs36⟩ := Slc.at (i := i) (hws.le le17) (by simp only [strs_length]; omega) (by omega)
   refine Ops.q rfl (qindexS u22 sz9 rfl e36 rfl l36) ?_
   refine Ops.q rfl (qloadAt ag9 rfl rfl g36 ((elt0 cs36).trans (strs_get (by omega)))) ?_
   refine Ops.q rfl (qassign rfl) ?_
   refine Ops.nil ?_
   refine h35 _ _ ?_
   refine Run.seq fun K37 h38 => ?_
   refine Run.region ?_
   refine Ops.q rfl (qmove rfl) ?_
   refine Ops.q rfl (qfieldAddr fl24_0 sz3 (by decide) rfl) ?_
   refine Ops.q rfl (qloadAt ag3 rfl rfl h16 rfl) ?_
   refine Ops.l rfl (fun _ _ hk39 _ => vcallF rfl (s_R4IsWord (ws.getD i []) ((g)) A14 (hwk (by omega)) hg) ?_)
   rintro v40 A41 ⟨rfl, rfl⟩
   refine hk39 _ _ ?_
   refine Ops.q rfl (qnotP rfl) ?_
   refine Ops.nil ?_
   refine h38 _ _ ?_
   refine Run.if rfl (fun p43 => ?_) (fun p43 => ?_)
   ·
    refine Run.seq fun K44 h45 => ?_
    refine Run.region ?_
    refine Ops.q rfl (qassign rfl) ?_
    refine Ops.nil ?_
    refine h45 _ _ ?_
    refine Run.ret ?_
    repeat first | with_reducible refine thenQ_ret ?_ | with_reducible refine blockQ_ret ?_
    exact retQ rfl (⟨by first | (rw [chk_40 ‹_›]; rfl) | (rw [chk_41 (i := i) ‹¬ ¬ pcheck g l = 0› (by omega) ‹_›]; rfl) | (rw [chk_42 (i := i) ‹¬ ¬ pcheck g l = 0› (by omega) hw (by simpa using ‹(!isDisk g l d) = true›)]; rfl) | (rw [chk_0 (i := i) ‹¬ ¬ pcheck g l = 0› (by omega) hw (hd (by omega))]; rfl), le17, wfq15⟩)
   ·
    refine Run.skip ?_
    refine h33 _ _ ?_
    refine Run.region ?_
    refine Ops.q rfl (qaddN (b := 1) rfl rfl (by omega)) ?_
    refine Ops.q rfl (qmove rfl) ?_
    refine Ops.nil ?_
    exact ⟨i + 1, EnvLe.cons rfl <| EnvLe.cons rfl <| EnvLe.cons rfl <| EnvLe.cons rfl <| EnvLe.cons rfl <| EnvLe.nil _, rfl, ⟨⟨by omega, fun j h => (Nat.lt_succ_iff_lt_or_eq.1 h).elim (hw j) (fun z => by subst z; exact Decidable.not_not.1 ‹_›)⟩, rfl⟩, (by (try dsimp only); omega)⟩
  ·
   refine Run.exit ?_
   refine h22 _ _ ?_
   refine Run.seq fun K46 h47 => ?_
   refine Run.seq fun K48 h49 => ?_
   refine Run.region ?_
   refine Ops.q rfl (qmove rfl) ?_
   refine Ops.q rfl (qlenS (n := ([dv]).length) u71 rfl (hds.le le17) (by omega) (vals_len _)) ?_
   refine Ops.q rfl (qmove rfl) ?_
   refine Ops.nil ?_
   refine h49 _ _ ?_
   refine Run.block ?_
   refine Run.loop (X := Nat) (fun k => [(3, .pointer (some ⟨b4, 0, none⟩)), (26, dsv), (27, num ((([dv]).length : Nat) : Int)), (28, num ((k : Nat) : Int))]) (fun k B => (k ≤ 1 ∧ (0 < k → isDisk g l d = true)) ∧ A.le B ∧ B.get b4 = some (.row true [num (g), u] 2)) (fun k => 1 - k) 0 (EnvLe.cons rfl <| EnvLe.cons rfl <| EnvLe.cons rfl <| EnvLe.cons rfl <| EnvLe.nil _) (⟨⟨Nat.zero_le _, fun h => by omega⟩, le17, h16⟩) ?_
   rintro k B51 ⟨⟨hk, hd⟩, le50, hr_b450⟩
   refine Run.wf fun wf52 => ?_
   refine Run.seq fun K53 h54 => ?_
   refine Run.region ?_
   refine Ops.q rfl (qlssN rfl rfl) ?_
   refine Ops.nil ?_
   refine h54 _ _ ?_
   refine Run.seq fun K55 h56 => ?_
   refine Run.if rfl (fun p57 => ?_) (fun p57 => ?_)
   ·
    refine Run.skip ?_
    refine h56 _ _ ?_
    refine Run.seq fun K58 h59 => ?_
    refine Run.block ?_
    refine Run.seq fun K60 h61 => ?_
    refine Run.region ?_
    obtain ⟨b62, f62, rw62, r62, rc62, n62, k62, e62, l62, g62, cl62, cs62⟩ := Slc.at (i := k) (hds.le le50) (by simp only [vals_length]; omega) (by omega)
    refine Ops.q rfl (qindexS u71 sz34 rfl e62 rfl l62) ?_
    refine Ops.q rfl (qloadAt ag34 rfl rfl g62 (((elt0 cs62).trans (vals_get (by omega))).trans (congrArg some (one_get (by have : ([dv] : List Value).length = 1 := rfl; omega))))) ?_
    refine Ops.q rfl (qassign rfl) ?_
    refine Ops.nil ?_
    refine h61 _ _ ?_
    refine Run.seq fun K63 h64 => ?_
    refine Run.region ?_
    refine Ops.q rfl (qloadAggAt ag24 sz24 rfl rfl hr_b450 rfl) ?_
    refine Ops.q rfl (qmove rfl) ?_
    refine Ops.l rfl (fun _ _ hk65 _ => vcallF rfl (s_IsDisk ((g)) u l dv d B51 hg hn hdn hcn (hu.le le50) (hv.le le50)) ?_)
    rintro v66 A67 ⟨rfl, leq68, wfq68⟩
    have h69 := leq68.get _ _ hr_b450
    have le70 := le50.trans leq68
    refine hk65 _ _ ?_
    refine Ops.q rfl (qnot rfl) ?_
    refine Ops.nil ?_
    refine h64 _ _ ?_
    refine Run.ifB rfl (fun p71 => ?_) (fun p71 => ?_)
    ·
     refine Run.seq fun K72 h73 => ?_
     refine Run.region ?_
     refine Ops.q rfl (qassign rfl) ?_
     refine Ops.nil ?_
     refine h73 _ _ ?_
     refine Run.ret ?_
     repeat first | with_reducible refine thenQ_ret ?_ | with_reducible refine blockQ_ret ?_
     exact retQ rfl (⟨by first | (rw [chk_40 ‹_›]; rfl) | (rw [chk_41 (i := i) ‹¬ ¬ pcheck g l = 0› (by omega) ‹_›]; rfl) | (rw [chk_42 (i := i) ‹¬ ¬ pcheck g l = 0› (by omega) hw (by simpa using ‹(!isDisk g l d) = true›)]; rfl) | (rw [chk_0 (i := i) ‹¬ ¬ pcheck g l = 0› (by omega) hw (hd (by omega))]; rfl), le70, wfq68⟩)
    ·
     refine Run.skip ?_
     refine h59 _ _ ?_
     refine Run.region ?_
     refine Ops.q rfl (qaddN (b := 1) rfl rfl (by omega)) ?_
     refine Ops.q rfl (qmove rfl) ?_
     refine Ops.nil ?_
     exact ⟨k + 1, EnvLe.cons rfl <| EnvLe.cons rfl <| EnvLe.cons rfl <| EnvLe.cons rfl <| EnvLe.nil _, rfl, ⟨⟨by omega, fun _ => by simpa using ‹(!isDisk g l d) = false›⟩, le70, h69⟩, (by (try dsimp only); omega)⟩
   ·
    refine Run.exit ?_
    refine h47 _ _ ?_
    refine Run.seq fun K74 h75 => ?_
    refine Run.region ?_
    refine Ops.q rfl (qassign rfl) ?_
    refine Ops.nil ?_
    refine h75 _ _ ?_
    refine Run.ret ?_
    repeat first | with_reducible refine thenQ_ret ?_ | with_reducible refine blockQ_ret ?_
    exact retQ rfl (⟨by first | (rw [chk_40 ‹_›]; rfl) | (rw [chk_41 (i := i) ‹¬ ¬ pcheck g l = 0› (by omega) ‹_›]; rfl) | (rw [chk_42 (i := i) ‹¬ ¬ pcheck g l = 0› (by omega) hw (by simpa using ‹(!isDisk g l d) = true›)]; rfl) | (rw [chk_0 (i := i) ‹¬ ¬ pcheck g l = 0› (by omega) hw (hd (by omega))]; rfl), le50, wf52⟩)

theorem s_Proves (g : Int) (u : Value) (l : List (List UInt8)) (dv : Value) (d : List DCell) (w : List UInt8) (A : AH) (hn : l.length ≤ 100000000) (hll : ∀ x ∈ l, x.length ≤ 100000000) (hw : w.length ≤ 100000000) (hdn : d.length ≤ 100000000) (hcn : conjs d ≤ 100000000) (hu : Slc A 1 u (strs l)) (hv : Slc A 3 dv (dcells d)) : RetA Tryz.prog 17 #[.agg #[num (g), u], dv, str (w)] A (fun v A1 => v = num ((proves g l d w : Nat) : Int) ∧ A.le A1 ∧ A1.wf) := by
 refine enterA (e := [(0, .agg #[num (g), u]), (1, dv), (2, str (w))]) (args := [.agg #[num (g), u], dv, str (w)]) Tryz.call17 Tryz.func17 rfl Tryz.results17 Tryz.ntmps17 rfl rfl rfl (fun wf => ?_)
 have le_ := AH.le.refl A
 refine Run.seq fun K1 h2 => ?_
 refine Run.region ?_
 refine Ops.l rfl (fun _ _ hk3 _ => wbox wf rfl rfl fun A5 b4 nb6 => ?_)
 have ge_b4 := none_of wf (Nat.le_trans le_.n nb6.lo)
 have le7 := le_.trans nb6.le
 refine hk3 _ _ ?_
 refine Ops.q rfl (qassign rfl) ?_
 refine Ops.nil ?_
 refine h2 _ _ ?_
 refine Run.seq fun K8 h9 => ?_
 refine Run.seq fun K10 h11 => ?_
 refine Run.region ?_
 refine Ops.q rfl (qloadAggAt ag24 sz24 rfl rfl nb6.get rfl) ?_
 refine Ops.q rfl (qmove rfl) ?_
 refine Ops.l rfl (fun _ _ hk12 _ => wbuildSlice (c := [str (w)]) nb6.wf rfl (buildSliceV_of u22 sz9 z9 rfl (by decide) (by decide) rfl) fun A14 b13 nb15 => ?_)
 have ne_b4_b13 := ne_new nb6.wf nb6.get nb15.lo
 have ge_b13 := none_of wf (Nat.le_trans le7.n nb15.lo)
 have h16 := nb15.le.get _ _ nb6.get
 have le17 := le7.trans nb15.le
 refine hk12 _ _ ?_
 refine Ops.q rfl (qmove rfl) ?_
 obtain ⟨p22, l22, c22, q22, _⟩ := (hv.le le17)
 subst q22
 refine Ops.l rfl (fun _ _ hk18 _ => wbuildSlice (c := [.slice p22 l22 c22]) nb15.wf rfl (buildSliceV_of u71 sz34 z34 rfl (by decide) (by decide) rfl) fun A20 b19 nb21 => ?_)
 have ne_b4_b19 := ne_new nb15.wf h16 nb21.lo
 have ne_b13_b19 := ne_new nb15.wf nb15.get nb21.lo
 have ge_b19 := none_of wf (Nat.le_trans le17.n nb21.lo)
 have h23 := nb21.le.get _ _ h16
 have h24 := nb21.le.get _ _ nb15.get
 have le25 := le17.trans nb21.le
 refine hk18 _ _ ?_
 refine Ops.l rfl (fun _ _ hk26 _ => vcallF rfl (s_checked4 ((g)) u l (.slice (some ⟨b13, 0, none⟩) 1 1) ([w]) (.slice (some ⟨b19, 0, none⟩) 1 1) (.slice p22 l22 c22) d A20 hn hll (by simp) (by simpa using hw) hdn hcn (hu.le le25) (slc_row (n := 1) h24 rfl (Nat.le_refl _)) (slc_row (n := 1) nb21.get rfl (Nat.le_refl _)) (hv.le le25)) ?_)
 rintro v27 A28 ⟨rfl, leq29, wfq29⟩
 have h30 := leq29.get _ _ h23
 have h31 := leq29.get _ _ h24
 have h32 := leq29.get _ _ nb21.get
 have le33 := le25.trans leq29
 refine hk26 _ _ ?_
 refine Ops.q rfl (qassign rfl) ?_
 refine Ops.nil ?_
 refine h11 _ _ ?_
 refine Run.seq fun K34 h35 => ?_
 refine Run.region ?_
 refine Ops.q rfl (qmove rfl) ?_
 refine Ops.q rfl (qneqN (b := 0) rfl rfl) ?_
 refine Ops.nil ?_
 refine h35 _ _ ?_
 refine Run.if rfl (fun p36 => ?_) (fun p36 => ?_)
 ·
  refine Run.seq fun K37 h38 => ?_
  refine Run.region ?_
  refine Ops.q rfl (qmove rfl) ?_
  refine Ops.q rfl (qassign rfl) ?_
  refine Ops.nil ?_
  refine h38 _ _ ?_
  refine Run.ret ?_
  repeat first | with_reducible refine thenQ_ret ?_ | with_reducible refine blockQ_ret ?_
  exact retQ rfl (⟨by first | (rw [proves, if_pos ‹_›]; rfl) | (rw [proves, if_neg ‹_›, if_pos ‹_›]; rfl) | (rw [proves, if_neg ‹_›, if_neg ‹_›]; rfl), le33, wfq29⟩)
 ·
  refine Run.skip ?_
  refine h9 _ _ ?_
  refine Run.seq fun K39 h40 => ?_
  refine Run.seq fun K41 h42 => ?_
  refine Run.region ?_
  refine Ops.q rfl (qloadAggAt ag24 sz24 rfl rfl h30 rfl) ?_
  refine Ops.q rfl (qmove rfl) ?_
  refine Ops.l rfl (fun _ _ hk43 _ => vcallF rfl (s_Bounds ((g)) u l (.slice p22 l22 c22) d A28 (chk_spec ‹¬ ¬ chk g l [w] [d] = 0›).1 (chk_spec ‹¬ ¬ chk g l [w] [d] = 0›).2.2 (hu.le le33) (hv.le le33)) ?_)
  rintro v44 A45 ⟨rfl, leq46, wfq46⟩
  have h47 := leq46.get _ _ h30
  have h48 := leq46.get _ _ h31
  have h49 := leq46.get _ _ h32
  have le50 := le33.trans leq46
  refine hk43 _ _ ?_
  refine Ops.q rfl (qmove rfl) ?_
  refine Ops.l rfl (fun _ _ hk51 _ => vcallF rfl (s_Reduce4 w A45 (okl_wcheck (fun q => q ((chk_spec ‹¬ ¬ chk g l [w] [d] = 0›).2.1 w (by simp)))) (by have := wcheck_len ((chk_spec ‹¬ ¬ chk g l [w] [d] = 0›).2.1 w (by simp)); omega)) ?_)
  rintro v52 A53 ⟨rfl, leq54, wfq54⟩
  have h55 := leq54.get _ _ h47
  have h56 := leq54.get _ _ h48
  have h57 := leq54.get _ _ h49
  have le58 := le50.trans leq54
  refine hk51 _ _ ?_
  refine Ops.q rfl (qsneq rfl rfl) ?_
  refine Ops.nil ?_
  refine h42 _ _ ?_
  refine Run.if rfl (fun p59 => ?_) (fun p59 => ?_)
  ·
   refine Run.seq fun K60 h61 => ?_
   refine Run.region ?_
   refine Ops.q rfl (qassign rfl) ?_
   refine Ops.nil ?_
   refine h61 _ _ ?_
   refine Run.ret ?_
   repeat first | with_reducible refine thenQ_ret ?_ | with_reducible refine blockQ_ret ?_
   exact retQ rfl (⟨by first | (rw [proves, if_pos ‹_›]; rfl) | (rw [proves, if_neg ‹_›, if_pos ‹_›]; rfl) | (rw [proves, if_neg ‹_›, if_neg ‹_›]; rfl), le58, wfq54⟩)
  ·
   refine Run.skip ?_
   refine h40 _ _ ?_
   refine Run.seq fun K62 h63 => ?_
   refine Run.region ?_
   refine Ops.q rfl (qassign rfl) ?_
   refine Ops.nil ?_
   refine h63 _ _ ?_
   refine Run.ret ?_
   repeat first | with_reducible refine thenQ_ret ?_ | with_reducible refine blockQ_ret ?_
   exact retQ rfl (⟨by first | (rw [proves, if_pos ‹_›]; rfl) | (rw [proves, if_neg ‹_›, if_pos ‹_›]; rfl) | (rw [proves, if_neg ‹_›, if_neg ‹_›]; rfl), le58, wfq54⟩)

theorem s_Boundary (g : Int) (u : Value) (l : List (List UInt8)) (dv : Value) (d : List DCell) (A : AH) (hn : l.length ≤ 100000000) (hll : ∀ x ∈ l, x.length ≤ 100000000) (hdn : d.length ≤ 100000000) (hcn : conjs d ≤ 100000000) (hu : Slc A 1 u (strs l)) (hv : Slc A 3 dv (dcells d)) : RetA Tryz.prog 23 #[.agg #[num (g), u], dv] A (fun v A1 => v = .tuple #[str (bndary g l d).1, num (((bndary g l d).2 : Nat) : Int)] ∧ A.le A1 ∧ A1.wf) := by
 refine enterA (e := [(0, .agg #[num (g), u]), (1, dv)]) (args := [.agg #[num (g), u], dv]) Tryz.call23 Tryz.func23 rfl Tryz.results23 Tryz.ntmps23 rfl rfl rfl (fun wf => ?_)
 have le_ := AH.le.refl A
 refine Run.seq fun K1 h2 => ?_
 refine Run.region ?_
 refine Ops.l rfl (fun _ _ hk3 _ => wbox wf rfl rfl fun A5 b4 nb6 => ?_)
 have ge_b4 := none_of wf (Nat.le_trans le_.n nb6.lo)
 have le7 := le_.trans nb6.le
 refine hk3 _ _ ?_
 refine Ops.q rfl (qassign rfl) ?_
 refine Ops.q rfl (qassign rfl) ?_
 refine Ops.nil ?_
 refine h2 _ _ ?_
 refine Run.seq fun K8 h9 => ?_
 refine Run.seq fun K10 h11 => ?_
 refine Run.region ?_
 refine Ops.q rfl (qloadAggAt ag24 sz24 rfl rfl nb6.get rfl) ?_
 refine Ops.q rfl (qmove rfl) ?_
 obtain ⟨p16, l16, c16, q16, _⟩ := (hv.le le7)
 subst q16
 refine Ops.l rfl (fun _ _ hk12 _ => wbuildSlice (c := [.slice p16 l16 c16]) nb6.wf rfl (buildSliceV_of u71 sz34 z34 rfl (by decide) (by decide) rfl) fun A14 b13 nb15 => ?_)
 have ne_b4_b13 := ne_new nb6.wf nb6.get nb15.lo
 have ge_b13 := none_of wf (Nat.le_trans le7.n nb15.lo)
 have h17 := nb15.le.get _ _ nb6.get
 have le18 := le7.trans nb15.le
 refine hk12 _ _ ?_
 refine Ops.l rfl (fun _ _ hk19 _ => vcallF rfl (s_checked4 ((g)) u l (.slice none 0 0) ([]) (.slice (some ⟨b13, 0, none⟩) 1 1) (.slice p16 l16 c16) d A14 hn hll (by simp) (by simp) hdn hcn (hu.le le18) (Fresh.nil A14 A14 1).slc (slc_row (n := 1) nb15.get rfl (Nat.le_refl _)) (hv.le le18)) ?_)
 rintro v20 A21 ⟨rfl, leq22, wfq22⟩
 have h23 := leq22.get _ _ h17
 have h24 := leq22.get _ _ nb15.get
 have le25 := le18.trans leq22
 refine hk19 _ _ ?_
 refine Ops.q rfl (qassign rfl) ?_
 refine Ops.nil ?_
 refine h11 _ _ ?_
 refine Run.seq fun K26 h27 => ?_
 refine Run.region ?_
 refine Ops.q rfl (qmove rfl) ?_
 refine Ops.q rfl (qneqN (b := 0) rfl rfl) ?_
 refine Ops.nil ?_
 refine h27 _ _ ?_
 refine Run.if rfl (fun p28 => ?_) (fun p28 => ?_)
 ·
  refine Run.seq fun K29 h30 => ?_
  refine Run.region ?_
  refine Ops.q rfl (qmove rfl) ?_
  refine Ops.q rfl (qassign rfl) ?_
  refine Ops.q rfl (qassign rfl) ?_
  refine Ops.nil ?_
  refine h30 _ _ ?_
  refine Run.ret ?_
  repeat first | with_reducible refine thenQ_ret ?_ | with_reducible refine blockQ_ret ?_
  exact retQ rfl (⟨by first | (rw [bndary, if_pos ‹_›]; rfl) | (rw [bndary, if_neg ‹_›]; rfl), le25, wfq22⟩)
 ·
  refine Run.skip ?_
  refine h9 _ _ ?_
  refine Run.seq fun K31 h32 => ?_
  refine Run.region ?_
  refine Ops.q rfl (qloadAggAt ag24 sz24 rfl rfl h23 rfl) ?_
  refine Ops.q rfl (qmove rfl) ?_
  refine Ops.l rfl (fun _ _ hk33 _ => vcallF rfl (s_Bounds ((g)) u l (.slice p16 l16 c16) d A21 (chk_spec ‹¬ ¬ chk g l [] [d] = 0›).1 (chk_spec ‹¬ ¬ chk g l [] [d] = 0›).2.2 (hu.le le25) (hv.le le25)) ?_)
  rintro v34 A35 ⟨rfl, leq36, wfq36⟩
  have h37 := leq36.get _ _ h23
  have h38 := leq36.get _ _ h24
  have le39 := le25.trans leq36
  refine hk33 _ _ ?_
  refine Ops.q rfl (qassign rfl) ?_
  refine Ops.q rfl (qassign rfl) ?_
  refine Ops.nil ?_
  refine h32 _ _ ?_
  refine Run.ret ?_
  repeat first | with_reducible refine thenQ_ret ?_ | with_reducible refine blockQ_ret ?_
  exact retQ rfl (⟨by first | (rw [bndary, if_pos ‹_›]; rfl) | (rw [bndary, if_neg ‹_›]; rfl), le39, wfq36⟩)
end Go.Proofs.YtaccklloepfemaaGreatDoor
