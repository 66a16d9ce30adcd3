/- A part of the proof: what the last text needs of the library, the laws and the walks. -/
import Derived.Test.YtaccklloepfemaaDoorSta2
import Derived.Shelf.SlSortCmp.WholeK
import Derived.Shelf.SlSortCmp.NoneTotal
import Derived.Shelf.Sort.Plain
import Derived.Shelf.Slices.In.SortNone
import Derived.Shelf.SlGeneric
import Derived.Shelf.SlLaysF0
import Derived.Shelf.Lays
import Derived.Ground.SlsfProg
import Derived.Ground.NamesProg
import Derived.Test.YtaccklloepfemaaDoorProg
namespace Go.Proofs.YtaccklloepfemaaDoor
open Go Go.RowKit V
set_option maxRecDepth 100000
set_option linter.unusedVariables false
set_option linter.unusedSimpArgs false
theorem ag24 : aggOf Tryd.prog 24 = some true := by kernel_rfl
theorem ag30 : aggOf Tryd.prog 30 = some false := by kernel_rfl
theorem ag4 : aggOf Tryd.prog 4 = some false := by kernel_rfl
theorem ag46 : aggOf Tryd.prog 46 = some true := by kernel_rfl
theorem ag56 : aggOf Tryd.prog 56 = some false := by kernel_rfl
theorem ag71 : aggOf Tryd.prog 71 = some true := by kernel_rfl
theorem ag80 : aggOf Tryd.prog 80 = some true := by kernel_rfl
theorem ag86 : aggOf Tryd.prog 86 = some false := by kernel_rfl
theorem fl71_0 : fldOf Tryd.prog 71 0 = some (9, 0) := by kernel_rfl
theorem fl80_0 : fldOf Tryd.prog 80 0 = some (9, 0) := by kernel_rfl
theorem fl80_1 : fldOf Tryd.prog 80 1 = some (9, 1) := by kernel_rfl
theorem fl80_2 : fldOf Tryd.prog 80 2 = some (3, 2) := by kernel_rfl
theorem fl80_3 : fldOf Tryd.prog 80 3 = some (4, 3) := by kernel_rfl
theorem fl88_0 : fldOf Tryd.prog 88 0 = some (86, 0) := by kernel_rfl
theorem fl88_2 : fldOf Tryd.prog 88 2 = some (3, 2) := by kernel_rfl
theorem fl99_1 : fldOf Tryd.prog 99 1 = some (56, 1) := by kernel_rfl
theorem fl99_2 : fldOf Tryd.prog 99 2 = some (30, 2) := by kernel_rfl
theorem inf71 : Tryd.prog.info? 71 = some Tryd.t71 := by kernel_rfl
theorem pl46 : structPlaces Tryd.prog 46 = some [(0, 1), (1, 1), (2, 1)] := by kernel_rfl
theorem pl71 : structPlaces Tryd.prog 71 = some [(0, 1), (1, 1), (2, 1)] := by kernel_rfl
theorem pl99 : structPlaces Tryd.prog 99 = some [(0, 1), (1, 1), (2, 1)] := by kernel_rfl
theorem sz24 : szOf Tryd.prog 24 = some 2 := by kernel_rfl
theorem sz30 : szOf Tryd.prog 30 = some 1 := by kernel_rfl
theorem sz4 : szOf Tryd.prog 4 = some 1 := by kernel_rfl
theorem sz46 : szOf Tryd.prog 46 = some 3 := by kernel_rfl
theorem sz56 : szOf Tryd.prog 56 = some 1 := by kernel_rfl
theorem sz71 : szOf Tryd.prog 71 = some 3 := by kernel_rfl
theorem sz80 : szOf Tryd.prog 80 = some 4 := by kernel_rfl
theorem sz86 : szOf Tryd.prog 86 = some 1 := by kernel_rfl
theorem u30 : type_of% @Tryd.underlying30 := @Tryd.underlying30
theorem u46 : type_of% @Tryd.underlying46 := @Tryd.underlying46
theorem u71 : type_of% @Tryd.underlying71 := @Tryd.underlying71
theorem u86 : type_of% @Tryd.underlying86 := @Tryd.underlying86
theorem u99 : type_of% @Tryd.underlying99 := @Tryd.underlying99
theorem z46 : zeroOf Tryd.prog 46 = some (.agg #[.string ⟨⟨[]⟩⟩, .int .i64 0, .slice none 0 0]) := by kernel_rfl
theorem z71 : zeroOf Tryd.prog 71 = some (.agg #[.string ⟨⟨[]⟩⟩, .int .i64 0, .bool false]) := by kernel_rfl
theorem z99 : zeroOf Tryd.prog 99 = some (.agg #[.slice none 0 0, .pointer none, .slice none 0 0]) := by kernel_rfl

theorem s_put (w l : List UInt8) (low : Nat) (lv rv dv : Value) (b0 b1 b2 cap1 : Nat) (rw1 : Bool) (A0 A : AH) (le_ : A0.le A) (wf0 : A0.wf) (hb : A.get b0 = some (.row true [lv, rv, dv] 3)) (no0 : A0.get b0 = none) (hc : A.get b2 = some (.row true [num ((low : Nat) : Int)] 1)) (no2 : A0.get b2 = none) (fr : Fresh A0 A lv 1 (byteCells l)) (ne0 : blk lv ≠ some b0) (ne2 : blk lv ≠ some b2) (ne_b0_b2 : b0 ≠ b2) (gb1 : A0.get b1 = some (.row rw1 [.pointer (some ⟨b0, 0, none⟩)] cap1)) (hw : w.length ≤ 500000) (hl : l.length ≤ 500000000) : RetA Tryd.prog 97 #[str (w), .pointer (some ⟨b1, 0, none⟩), .pointer (some ⟨b2, 0, none⟩)] A (fun v A1 => ∃ lv2, v = .tuple #[] ∧ A0.le A1 ∧ A1.wf ∧ A1.get b0 = some (.row true [lv2, rv, dv] 3) ∧ A1.get b2 = some (.row true [num (((putF (l, low) w).2 : Nat) : Int)] 1) ∧ Fresh A0 A1 lv2 1 (byteCells (putF (l, low) w).1) ∧ blk lv2 ≠ some b0 ∧ blk lv2 ≠ some b2) := by
 refine enterA (e := [(0, str (w)), (1, .pointer (some ⟨b1, 0, none⟩)), (2, .pointer (some ⟨b2, 0, none⟩))]) (args := [str (w), .pointer (some ⟨b1, 0, none⟩), .pointer (some ⟨b2, 0, none⟩)]) Tryd.call97 Tryd.func97 rfl Tryd.results97 Tryd.ntmps97 rfl rfl rfl (fun wf => ?_)
 refine Run.seq fun K1 h2 => .region <| .q rfl (qmove rfl) <| .q rfl (qslen u9 rfl) <| .q rfl (qmove rfl) <| .nil <| h2 _ _ <| .block <| .loop (X := Nat × List UInt8 × Nat × Value) (fun ⟨k, x, lo, s⟩ => [(0, str (w)), (1, .pointer (some ⟨b1, 0, none⟩)), (2, .pointer (some ⟨b2, 0, none⟩)), (6, num ((w.length : Nat) : Int)), (7, num ((k : Nat) : Int))]) (fun ⟨k, x, lo, s⟩ B => (k ≤ w.length ∧ putF (x, lo) (w.drop k) = putF (l, low) w ∧ x.length ≤ l.length + k) ∧ A0.le B ∧ Fresh A0 B s 1 (byteCells x) ∧ B.get b2 = some (.row true [num ((lo : Nat) : Int)] 1) ∧ B.get b0 = some (.row true [s, rv, dv] 3) ∧ V.blk s ≠ some b2 ∧ V.blk s ≠ some b0) (fun ⟨k, x, lo, s⟩ => w.length - k) (⟨0, l, low, lv⟩) (EnvLe.cons rfl <| EnvLe.cons rfl <| EnvLe.cons rfl <| EnvLe.cons rfl <| EnvLe.cons rfl <| EnvLe.nil _) (⟨⟨Nat.zero_le _, rfl, Nat.le_refl _⟩, le_, (fresh_eq fr (congrArg byteCells ((by first | rfl | (rw [letter_of (by omega)]; rfl))))), hc, hb, ne2, ne0⟩) ?_
 rintro ⟨k, x, lo, s⟩ B4 ⟨⟨hk, hput, hxl⟩, le3, fr_s3, hr_b23, hr_b03, no_s_b23, no_s_b03⟩
 refine Run.wf fun wf5 => .seq fun K6 h7 => .region <| .q rfl (qlssN rfl rfl) <| .nil <| h7 _ _ <| .seq fun K8 h9 => .if rfl (fun p10 => ?_) (fun p10 => ?_)
 ·
  refine Run.skip <| h9 _ _ <| .seq fun K11 h12 => .block <| .seq fun K13 h14 => .region <| .q rfl (qmove rfl) <| .q rfl (qassign rfl) <| .nil <| h14 _ _ ?_
  refine Run.seq fun K15 h16 => .drawn [0, 1, 2, 3, 4, 5, 6, 7, 8] mixed (by kernel_rfl) (by kernel_rfl) rfl <| .q rfl rfl rfl (qloadAt ag95 rfl rfl (le3.get _ _ gb1) rfl) <| .q rfl rfl rfl (qnil rfl) <| .q rfl rfl rfl (qfieldAddr fl99_0 sz97 (by decide) rfl) <| .q rfl rfl rfl (qmove rfl) <| .q rfl rfl rfl (qmove rfl) <| .q rfl rfl rfl (qmove rfl) <| .q rfl rfl rfl (qaddN (b := 1) rfl rfl (by omega)) <| .q rfl rfl rfl (qsl u9 rfl rfl rfl (by omega)) ?_
  have le22 := le_hide (bs := [some b0, blk s]) le3 (hoB no0 (hoV fr_s3.lo ho0))
  refine DOps.l rfl rfl rfl (fun _ _ hk18 _ => vcallF rfl (s_push ((w.take (k + 1)).drop k) x s rv dv b0 (B4.hide [some b0, blk s]) B4 (hide_le B4 [some b0, blk s]) (hide_wf wf5) hr_b03 (hide_none (by simp)) (fr_s3.hide (by simp)) no_s_b03 (by rw [List.length_drop, List.length_take]; omega) (by omega)) ?_)
  rintro v19 A20 ⟨lvq21, rfl, leq21, wfq21, hrq21_b0, foq21_0, neq21_0_b0⟩
  have hg23 := hide_get (bs := [some b0, blk s]) hr_b23 (nmB ne_b0_b2.symm (nmV no_s_b23 nm0))
  have h24 := leq21.get _ _ hg23
  have fr25 := foq21_0.base le22
  have no26 := foq21_0.seph hg23
  have le27 := le22.trans leq21
  refine hk18 _ _ (HeldNow.none (by kernel_rfl)) <| .done <| h16 _ _ <| .drawn [0, 1, 2, 3, 4, 5, 6, 7, 8] mixed (by kernel_rfl) (by kernel_rfl) rfl <| .q rfl rfl rfl (qloadAt ag3 rfl rfl h24 rfl) <| .q rfl rfl rfl (qloadAt ag95 rfl rfl (le27.get _ _ gb1) rfl) <| .q rfl rfl rfl (qnil rfl) <| .q rfl rfl rfl (qfieldAddr fl99_0 sz97 (by decide) rfl) <| .q rfl rfl rfl (qfieldAddr fl97_0 sz38 (by decide) rfl) <| .q rfl rfl rfl (qloadAt ag38 rfl rfl hrq21_b0 rfl) ?_
  refine DOps.q rfl rfl rfl (qlenS (n := (((w.take (k + 1)).drop k).foldl push x).length) u38 rfl fr25.slc (by omega) (bytes_len _)) <| .q rfl rfl rfl (qminN rfl rfl) <| .l rfl rfl rfl (fun _ _ hk31 _ => wstore (cs := [num ((min lo ((((w.take (k + 1)).drop k).foldl push x).length) : Nat) : Int)]) (c' := [num ((min lo ((((w.take (k + 1)).drop k).foldl push x).length) : Nat) : Int)]) wfq21 rfl rfl rfl rfl sz3 h24 (Nat.le_of_ble_eq_true rfl) rfl rfl fun A32 sb33 => ?_)
  have h34 := sb33.keep _ _ ne_b0_b2 hrq21_b0
  have fr35 := fr25.keep sb33.keep no26
  have le36 := le_store le27 wf0 no2 sb33.n sb33.keep
  refine hk31 _ _ (HeldNow.none (by kernel_rfl)) <| .done <| h12 _ _ <| .region <| .q rfl (qaddN (b := 1) rfl rfl (by omega)) <| .q rfl (qmove rfl) <| .nil ?_
  exact ⟨⟨k + 1, push x (w.getD k 0), min lo ((((w.take (k + 1)).drop k).foldl push x).length), lvq21⟩, EnvLe.cons rfl <| EnvLe.cons rfl <| EnvLe.cons rfl <| EnvLe.cons rfl <| EnvLe.cons rfl <| EnvLe.nil _, rfl, ⟨⟨by omega, by rw [letter_of (by omega)]; exact putF_step (by omega) hput, by have := push_length x (w.getD k 0); omega⟩, le36, (fresh_eq fr35 (congrArg byteCells ((by first | rfl | (rw [letter_of (by omega)]; rfl))))), sb33.get, h34, no26, neq21_0_b0⟩, (by (try dsimp only); omega)⟩
 ·
  refine Run.exit ?_
  repeat first | with_reducible refine thenQ_ret ?_ | with_reducible refine blockQ_ret ?_
  repeat first | with_reducible refine thenQ_exit ?_ | with_reducible refine blockQ_same ?_ | with_reducible refine blockQ_other (by decide) ?_ | with_reducible refine noGotoQ_exit ?_ | with_reducible refine noGotoQ_normal ?_
  exact retQn (vs := []) rfl (⟨_, rfl, le3, wf5, hr_b03, row_eq hr_b23 (congrArg (fun z : Nat => [num (z : Int)]) (by rw [putF_end (by omega) hput])), fresh_eq fr_s3 (congrArg byteCells (by rw [putF_end (by omega) hput])), no_s_b03, no_s_b23⟩)

theorem s_replace (p : Nat) (x : Rot) (l : List UInt8) (d : List DCell) (lv rv dv : Value) (b0 : Nat) (A0 A : AH) (le_ : A0.le A) (wf0 : A0.wf) (hb : A.get b0 = some (.row true [lv, rv, dv] 3)) (no0 : A0.get b0 = none) (fr : Fresh A0 A lv 1 (byteCells l)) (frd : Fresh A0 A dv 3 (dcells d)) (ne0 : blk lv ≠ some b0) (ned : blk dv ≠ some b0) (sp : Sep lv dv) (hL : Lets A0) (hp : p < l.length) (hl : l.length ≤ 100000) (hxw : x.w.length ≤ 200) (hxc : x.c.length ≤ 1000) (hd : d.length ≤ 1000000) : RetA Tryd.prog 74 #[.pointer (some ⟨b0, 0, none⟩), num ((p : Nat) : Int), .agg #[str (x.w), str (x.c), num ((x.r : Nat) : Int), .bool (x.i)]] A (fun v A1 => ∃ lv2 dv2, v = num (((repl l p x).2 : Nat) : Int) ∧ A0.le A1 ∧ A1.wf ∧ A1.get b0 = some (.row true [lv2, rv, dv2] 3) ∧ Fresh A0 A1 lv2 1 (byteCells (repl l p x).1) ∧ Fresh A0 A1 dv2 3 (dcells (d ++ [repC l p x])) ∧ blk lv2 ≠ some b0 ∧ blk dv2 ≠ some b0 ∧ Sep lv2 dv2) := by
 refine enterA (e := [(0, .pointer (some ⟨b0, 0, none⟩)), (1, num ((p : Nat) : Int)), (2, .agg #[str (x.w), str (x.c), num ((x.r : Nat) : Int), .bool (x.i)])]) (args := [.pointer (some ⟨b0, 0, none⟩), num ((p : Nat) : Int), .agg #[str (x.w), str (x.c), num ((x.r : Nat) : Int), .bool (x.i)]]) Tryd.call74 Tryd.func74 rfl Tryd.results74 Tryd.ntmps74 rfl rfl rfl (fun wf => ?_)
 refine Run.seq fun K1 h2 => .region <| .l rfl (fun _ _ hk3 _ => wbox wf rfl rfl fun A5 b4 nb6 => ?_)
 have ne_b0_b4 := ne_new wf hb nb6.lo
 have no7 := fr.own.ne_new wf nb6.lo
 have no8 := frd.own.ne_new wf nb6.lo
 have h9 := nb6.le.get _ _ hb
 have fr10 := fr.le nb6.le
 have fr11 := frd.le nb6.le
 have le12 := le_.trans nb6.le
 refine hk3 _ _ <| .l rfl (fun _ _ hk13 _ => wbox nb6.wf rfl rfl fun A15 b14 nb16 => ?_)
 have ne_b0_b14 := ne_new nb6.wf h9 nb16.lo
 have no18 := fr11.own.ne_new nb6.wf nb16.lo
 have h19 := nb16.le.get _ _ h9
 have h20 := nb16.le.get _ _ nb6.get
 have fr21 := fr10.le nb16.le
 have fr22 := fr11.le nb16.le
 have le23 := le12.trans nb16.le
 refine hk13 _ _ <| .q rfl (qassign rfl) <| .nil <| h2 _ _ <| .seq fun K24 h25 => .region <| .q rfl (qassign rfl) <| .nil <| h25 _ _ <| .seq fun K26 h27 => ?_
 refine Run.block <| .loop (X := Nat) (fun n => [(1, num ((p : Nat) : Int)), (3, .pointer (some ⟨b4, 0, none⟩)), (5, .pointer (some ⟨b14, 0, none⟩)), (7, num ((n : Nat) : Int))]) (fun n B => (n ≤ repN l p x) ∧ A15 = B) (fun n => x.w.length - n) 0 (EnvLe.cons rfl <| EnvLe.cons rfl <| EnvLe.cons rfl <| EnvLe.cons rfl <| EnvLe.nil _) (⟨Nat.zero_le _, rfl⟩) ?_
 rintro n B29 ⟨hn, rfl⟩
 have hrn := repN_le l p x
 refine Run.seq fun K30 h31 => .join (fun f A1 => EnvLe [(45, .bool (decide (n < x.w.length ∧ p + n < l.length ∧ l.getD (p + n) 0 = x.w.getD n 0))), (1, num ((p : Nat) : Int)), (3, .pointer (some ⟨b4, 0, none⟩)), (5, .pointer (some ⟨b14, 0, none⟩)), (7, num ((n : Nat) : Int))] f.e ∧ f.ds = [] ∧ A15 = A1) ?_ ?_
 ·
  refine Run.drawn [0, 1, 2, 3, 4, 5, 6, 7, 8, 9, 10, 11, 12, 13, 14, 15, 16, 17, 18, 19, 20, 21, 22, 23, 24, 25, 26, 27, 28, 29, 30, 31, 32, 33] mixed (by kernel_rfl) (by kernel_rfl) rfl <| .q rfl rfl rfl (qmove rfl) <| .q rfl rfl rfl (qfieldAddr fl80_0 sz9 (by decide) rfl) <| .q rfl rfl rfl (qloadAt ag9 rfl rfl nb16.get rfl) <| .q rfl rfl rfl (qslen u9 rfl) <| .q rfl rfl rfl (qlssN rfl rfl) <| .q rfl rfl rfl (qmove rfl) <| .part (t := 17) rfl (fun p35 => ?_) (fun p35 => ?_)
  ·
   refine DOps.qOn rfl rfl rfl rfl rfl (qmove rfl) <| .qOn rfl rfl rfl rfl rfl (qmove rfl) <| .qOn rfl rfl rfl rfl rfl (qaddN rfl rfl (by omega)) <| .qOn rfl rfl rfl rfl rfl (qloadAt ag95 rfl rfl h20 rfl) <| .qOn rfl rfl rfl rfl rfl (qnil rfl) <| .qOn rfl rfl rfl rfl rfl (qfieldAddr fl99_0 sz97 (by decide) rfl) <| .qOn rfl rfl rfl rfl rfl (qfieldAddr fl97_0 sz38 (by decide) rfl) <| .qOn rfl rfl rfl rfl rfl (qloadAt ag38 rfl rfl h19 rfl) <| .qOn rfl rfl rfl rfl rfl (qlenS (n := l.length) u38 rfl fr21.slc (by omega) (bytes_len _)) <| .qOn rfl rfl rfl rfl rfl (qlssN rfl rfl) ?_
   refine DOps.q rfl rfl rfl (qpickT rfl rfl) <| .q rfl rfl rfl (qmove rfl) <| .part (t := 29) rfl (fun p38 => ?_) (fun p38 => ?_)
   ·
    refine DOps.qOn rfl rfl rfl rfl rfl (qloadAt ag95 rfl rfl h20 rfl) <| .qOn rfl rfl rfl rfl rfl (qnil rfl) <| .qOn rfl rfl rfl rfl rfl (qfieldAddr fl99_0 sz97 (by decide) rfl) <| .qOn rfl rfl rfl rfl rfl (qfieldAddr fl97_0 sz38 (by decide) rfl) <| .qOn rfl rfl rfl rfl rfl (qloadAt ag38 rfl rfl h19 rfl) <| .qOn rfl rfl rfl rfl rfl (qmove rfl) <| .qOn rfl rfl rfl rfl rfl (qmove rfl) <| .qOn rfl rfl rfl rfl rfl (qaddN rfl rfl (by omega)) ?_
    obtain ⟨b41, f41, rw41, r41, rc41, n41, k41, e41, l41, g41, cl41, cs41⟩ := Slc.at (i := p + n) fr21.slc (by simp only [bytes_length]; omega) (by omega)
    refine DOps.qOn rfl rfl rfl rfl rfl (qindexS u38 sz5 rfl e41 rfl l41) <| .qOn rfl rfl rfl rfl rfl (qloadAt ag5 rfl rfl g41 ((elt0 cs41).trans (bytes_get (by omega)))) <| .qOn rfl rfl rfl rfl rfl (qfieldAddr fl80_0 sz9 (by decide) rfl) <| .qOn rfl rfl rfl rfl rfl (qloadAt ag9 rfl rfl nb16.get rfl) <| .qOn rfl rfl rfl rfl rfl (qmove rfl) <| .qOn rfl rfl rfl rfl rfl (qsix u9 rfl rfl (by omega)) <| .qOn rfl rfl rfl rfl rfl (qeqlB rfl rfl) <| .q rfl rfl rfl (qpickT rfl rfl) <| .done ?_
    exact ⟨EnvLe.cons (show some _ = some _ from congrArg (fun b => some (Value.bool b)) (show (decide ((l.getD (p + n) 0) = (x.w.getD n 0))) = decide (n < x.w.length ∧ p + n < l.length ∧ l.getD (p + n) 0 = x.w.getD n 0) from (by simp [*]))) <| EnvLe.cons rfl <| EnvLe.cons rfl <| EnvLe.cons rfl <| EnvLe.cons rfl <| EnvLe.nil _, rfl, rfl⟩
   ·
    refine DOps.qOff rfl rfl rfl rfl rfl rfl <| .qOff rfl rfl rfl rfl rfl rfl <| .qOff rfl rfl rfl rfl rfl rfl <| .qOff rfl rfl rfl rfl rfl rfl <| .qOff rfl rfl rfl rfl rfl rfl <| .qOff rfl rfl rfl rfl rfl rfl <| .qOff rfl rfl rfl rfl rfl rfl <| .qOff rfl rfl rfl rfl rfl rfl <| .qOff rfl rfl rfl rfl rfl rfl <| .qOff rfl rfl rfl rfl rfl rfl ?_
    refine DOps.qOff rfl rfl rfl rfl rfl rfl <| .qOff rfl rfl rfl rfl rfl rfl <| .qOff rfl rfl rfl rfl rfl rfl <| .qOff rfl rfl rfl rfl rfl rfl <| .qOff rfl rfl rfl rfl rfl rfl <| .q rfl rfl rfl (qpickF rfl rfl) <| .done ?_
    exact ⟨EnvLe.cons (show some _ = some _ from congrArg (fun b => some (Value.bool b)) (show (false) = decide (n < x.w.length ∧ p + n < l.length ∧ l.getD (p + n) 0 = x.w.getD n 0) from (by simp [*]))) <| EnvLe.cons rfl <| EnvLe.cons rfl <| EnvLe.cons rfl <| EnvLe.cons rfl <| EnvLe.nil _, rfl, rfl⟩
  ·
   refine DOps.qOff rfl rfl rfl rfl rfl rfl <| .qOff rfl rfl rfl rfl rfl rfl <| .qOff rfl rfl rfl rfl rfl rfl <| .qOff rfl rfl rfl rfl rfl rfl <| .qOff rfl rfl rfl rfl rfl rfl <| .qOff rfl rfl rfl rfl rfl rfl <| .qOff rfl rfl rfl rfl rfl rfl <| .qOff rfl rfl rfl rfl rfl rfl <| .qOff rfl rfl rfl rfl rfl rfl <| .qOff rfl rfl rfl rfl rfl rfl ?_
   refine DOps.q rfl rfl rfl (qpickF rfl rfl) <| .q rfl rfl rfl (qmove rfl) <| .qOff rfl rfl rfl rfl rfl rfl <| .qOff rfl rfl rfl rfl rfl rfl <| .qOff rfl rfl rfl rfl rfl rfl <| .qOff rfl rfl rfl rfl rfl rfl <| .qOff rfl rfl rfl rfl rfl rfl <| .qOff rfl rfl rfl rfl rfl rfl <| .qOff rfl rfl rfl rfl rfl rfl <| .qOff rfl rfl rfl rfl rfl rfl ?_
   refine DOps.qOff rfl rfl rfl rfl rfl rfl <| .qOff rfl rfl rfl rfl rfl rfl <| .qOff rfl rfl rfl rfl rfl rfl <| .qOff rfl rfl rfl rfl rfl rfl <| .qOff rfl rfl rfl rfl rfl rfl <| .qOff rfl rfl rfl rfl rfl rfl <| .qOff rfl rfl rfl rfl rfl rfl <| .q rfl rfl rfl (qpickF rfl rfl) <| .done ?_
   exact ⟨EnvLe.cons (show some _ = some _ from congrArg (fun b => some (Value.bool b)) (show (false) = decide (n < x.w.length ∧ p + n < l.length ∧ l.getD (p + n) 0 = x.w.getD n 0) from (by simp [*]))) <| EnvLe.cons rfl <| EnvLe.cons rfl <| EnvLe.cons rfl <| EnvLe.cons rfl <| EnvLe.nil _, rfl, rfl⟩
 ·
  rintro ⟨fe, fd⟩ _ ⟨hE, rfl, rfl⟩
  refine Run.forget hE <| .if rfl (fun p44 => ?_) (fun p44 => ?_)
  ·
   refine Run.skip <| h31 _ _ <| .block <| .region <| .q rfl (qmove rfl) <| .q rfl (qaddN (b := 1) rfl rfl (by omega)) <| .q rfl (qassign rfl) <| .nil ?_
   exact ⟨n + 1, EnvLe.cons rfl <| EnvLe.cons rfl <| EnvLe.cons rfl <| EnvLe.cons rfl <| EnvLe.nil _, rfl, ⟨repN_go hn ‹_›, rfl⟩, (by (try dsimp only); omega)⟩
  ·
   refine Run.exit <| h27 _ _ <| .seq fun K45 h46 => .drawn [0, 1, 2, 3, 4, 5, 6, 7, 8, 9, 10, 11, 12, 13, 14, 15, 16, 17, 18, 19] mixed (by kernel_rfl) (by kernel_rfl) rfl <| .q rfl rfl rfl (qloadAt ag95 rfl rfl h20 rfl) <| .q rfl rfl rfl (qnil rfl) <| .q rfl rfl rfl (qfieldAddr fl99_0 sz97 (by decide) rfl) <| .q rfl rfl rfl (qfieldAddr fl97_0 sz38 (by decide) rfl) <| .q rfl rfl rfl (qloadAt ag38 rfl rfl h19 rfl) <| .q rfl rfl rfl (qmove rfl) ?_
   obtain ⟨b49, n49, c49, q49, m49, d49⟩ := fr21.nonnil (by intro q; have := congrArg List.length q; simp only [bytes_length, List.length_nil] at this; omega)
   subst q49
   rw [bytes_length, Nat.mul_one] at m49
   have fr50 := fr21.take (k := p) (by omega)
   rw [Nat.mul_one, bytes_take] at fr50
   refine DOps.q rfl rfl rfl (qsliceHi u38 sz5 rfl rfl (by omega)) <| .qstr (l := l.take p) rfl rfl rfl u38 u9 u5 fr50.slc fun T51 => .q rfl rfl rfl (qloadAt ag95 rfl rfl h20 rfl) <| .q rfl rfl rfl (qnil rfl) <| .q rfl rfl rfl (qfieldAddr fl99_0 sz97 (by decide) rfl) <| .q rfl rfl rfl (qfieldAddr fl97_0 sz38 (by decide) rfl) <| .q rfl rfl rfl (qloadAt ag38 rfl rfl h19 rfl) <| .q rfl rfl rfl (qmove rfl) <| .q rfl rfl rfl (qmove rfl) <| .q rfl rfl rfl (qaddN rfl rfl (by omega)) ?_
   have sl54 := Slc.lo (j := p + n) fr21.slc (by decide) (by simp only [bytes_length]; omega)
   rw [Nat.mul_one, bytes_drop] at sl54
   refine DOps.q rfl rfl rfl (qsliceLo u38 sz5 rfl fr21.slc rfl (by decide) (by simp only [bytes_length]; omega)) <| .qstr (l := l.drop (p + n)) rfl rfl rfl u38 u9 u5 sl54 fun T55 => .q rfl rfl rfl (qassign rfl) <| .q rfl rfl rfl (qassign rfl) <| .done <| h46 _ _ <| .seq fun K56 h57 => .drawn [0, 1, 2, 3, 4, 5, 6, 7, 8, 10, 11, 12, 13, 9, 14, 15, 16, 17, 18, 19] mixed (by kernel_rfl) (by kernel_rfl) rfl ?_
   have hc58 := cellOf (off := 0) h20 (show _ = some (.pointer (some ⟨b0, 0, none⟩)) from rfl)
   refine DOps.q rfl rfl rfl (qloadAt ag95 rfl rfl h20 rfl) ?_
   have hc59 := cellOf (off := 0) h20 (show _ = some (.pointer (some ⟨b0, 0, none⟩)) from rfl)
   refine DOps.q rfl rfl rfl (qloadAt ag95 rfl rfl h20 rfl) <| .q rfl rfl rfl (qnil rfl) <| .q rfl rfl rfl (qfieldAddr fl99_2 sz30 (by decide) rfl) ?_
   have hc60 := cellOf (off := 2) h19 (show _ = some (dv) from rfl)
   refine DOps.q rfl rfl rfl (qloadAt ag30 rfl rfl h19 rfl) <| .q rfl rfl rfl (qmove rfl) <| .q rfl rfl rfl (qfieldAddr fl80_1 sz9 (by decide) rfl) <| .q rfl rfl rfl (qloadAt ag9 rfl rfl nb16.get rfl) <| .q rfl rfl rfl (qsadd rfl rfl (by (try simp only [List.length_append, List.length_drop, List.length_take]); omega)) <| .q rfl rfl rfl (qfieldAddr fl80_2 sz3 (by decide) rfl) ?_
   have hc62 := cellOf (off := 2) nb16.get (show _ = some (num ((x.r : Nat) : Int)) from rfl)
   refine DOps.q rfl rfl rfl (qloadAt ag3 rfl rfl nb16.get rfl) <| .q rfl rfl rfl (qfieldAddr fl80_3 sz4 (by decide) rfl) ?_
   have hc63 := cellOf (off := 3) nb16.get (show _ = some (.bool (x.i)) from rfl)
   refine DOps.q rfl rfl rfl (qloadAt ag4 rfl rfl nb16.get rfl) <| .l rfl rfl rfl (fun _ _ hk64 _ => vcallF rfl (s_Reduce ((l.take p) ++ x.c) A15 (by first | omega | (simp only [List.length_append, List.length_drop, List.length_take]; omega)) (hL.le le23)) ?_)
   rintro v65 A66 ⟨rfl, leq67, wfq67⟩
   have h68 := leq67.get _ _ h19
   have h69 := leq67.get _ _ h20
   have h70 := leq67.get _ _ nb16.get
   have fr71 := fr21.le leq67
   have fr72 := fr22.le leq67
   have hc75 := cell_le leq67 hc58
   have hc76 := cell_le leq67 hc59
   have hc77 := cell_le leq67 hc60
   have hc79 := cell_le leq67 hc62
   have hc80 := cell_le leq67 hc63
   have le81 := le23.trans leq67
   refine hk64 _ _ (HeldNow.list (L := [(⟨b14, 3, none⟩, .bool (x.i)), (⟨b14, 2, none⟩, num ((x.r : Nat) : Int)), (⟨b0, 2, none⟩, dv), (⟨b4, 0, none⟩, .pointer (some ⟨b0, 0, none⟩)), (⟨b4, 0, none⟩, .pointer (some ⟨b0, 0, none⟩))]) (by kernel_rfl) (heldCons hc80 (heldCons hc79 (heldCons hc77 (heldCons hc76 (heldCons hc75 heldNil)))))) <| .q rfl rfl rfl (qbuild rfl (buildV_struct u71 z71 pl71 rfl)) <| .l rfl rfl rfl (fun _ _ hk82 _ => wbuildSlice (c := [str (wReduce ((l.take p) ++ x.c)), num ((x.r : Nat) : Int), .bool (x.i)]) wfq67 rfl (buildSliceV_of u30 sz71 z71 rfl (by decide) (by decide) rfl) fun A84 b83 nb85 => ?_)
   have h89 := nb85.le.get _ _ h68
   have h90 := nb85.le.get _ _ h69
   have h91 := nb85.le.get _ _ h70
   have fr92 := fr71.le nb85.le
   have fr93 := fr72.le nb85.le
   have hc96 := cell_le nb85.le hc75
   have hc97 := cell_le nb85.le hc76
   have hc98 := cell_le nb85.le hc77
   have le101 := le81.trans nb85.le
   refine hk82 _ _ (HeldNow.list (L := [(⟨b0, 2, none⟩, dv), (⟨b4, 0, none⟩, .pointer (some ⟨b0, 0, none⟩)), (⟨b4, 0, none⟩, .pointer (some ⟨b0, 0, none⟩))]) (by kernel_rfl) (heldCons hc98 (heldCons hc97 (heldCons hc96 heldNil)))) <| .l rfl rfl rfl (fun _ _ hk102 _ => wappend (ys := [str (wReduce ((l.take p) ++ x.c)), num ((x.r : Nat) : Int), .bool (x.i)]) rfl rfl u30 sz71 inf71 z71 rfl (by decide) u30 (fun _ h => by cases h) fr93.own (listOf_row (n := 1) nb85.get rfl) rfl rfl (by show (_ + _) * 32 ≤ _; simp only [dcells_length, List.length_cons, List.length_nil]; (try simp only [List.length_append, List.length_cons, List.length_nil]); omega) (by simp only [dcells_length, List.length_cons, List.length_nil]; (try simp only [List.length_append, List.length_cons, List.length_nil]); omega) fun A103 v104 ap105 => ?_)
   rw [show ([str (wReduce ((l.take p) ++ x.c)), num ((x.r : Nat) : Int), .bool (x.i)] : List Value) = dcells [⟨wReduce ((l.take p) ++ x.c), ((x.r : Nat) : Int), x.i⟩] from rfl, dcells_append] at ap105
   obtain ⟨fr108, le109⟩ := Fresh.grow fr93 le101 wf0 ap105
   have h110 := ap105.keep ned h89
   have ne111 := ap105.ne ned nb85.wf h89
   have h112 := ap105.keep no8 h90
   have h114 := ap105.keep no18 h91
   have sp117 := Sep.appd (show Sep dv (.slice (some ⟨b49, 0, none⟩) n49 c49) from (Sep.symm sp)) fr92.own nb85.wf ap105
   have fr116 := fr92.appd ap105 (Sep.symm sp)
   have hc120 := ap105.cell no8 hc96
   refine hk102 _ _ (HeldNow.list (L := [(⟨b4, 0, none⟩, .pointer (some ⟨b0, 0, none⟩))]) (by kernel_rfl) (heldCons hc120 heldNil)) <| .q rfl rfl rfl (qnil rfl) <| .q rfl rfl rfl (qfieldAddr fl99_2 sz30 (by decide) rfl) ?_
   obtain ⟨p124, l124, c124, q124, _⟩ := fr108.own.slice
   subst q124
   refine DOps.l rfl rfl rfl (fun _ _ hk123 _ => wstore (cs := [.slice p124 l124 c124]) (c' := [.slice (some ⟨b49, 0, none⟩) n49 c49, rv, .slice p124 l124 c124]) ap105.wf rfl rfl rfl rfl sz30 h110 (Nat.le_of_ble_eq_true rfl) rfl rfl fun A125 sb126 => ?_)
   have h127 := sb126.keep _ _ ne_b0_b4.symm h112
   have h128 := sb126.keep _ _ ne_b0_b14.symm h114
   have fr129 := fr116.keep sb126.keep ne0
   have fr131 := fr108.keep sb126.keep ne111
   have le132 := le_store le109 wf0 no0 sb126.n sb126.keep
   refine hk123 _ _ (HeldNow.none (by kernel_rfl)) <| .done <| h57 _ _ <| .seq fun K133 h134 => .drawn [0, 1, 2, 3, 4, 5, 6, 7, 8, 9, 10, 11] mixed (by kernel_rfl) (by kernel_rfl) rfl <| .q rfl rfl rfl (qloadAt ag95 rfl rfl h127 rfl) <| .q rfl rfl rfl (qloadAt ag95 rfl rfl h127 rfl) <| .q rfl rfl rfl (qnil rfl) <| .q rfl rfl rfl (qfieldAddr fl99_0 sz97 (by decide) rfl) <| .q rfl rfl rfl (qfieldAddr fl97_0 sz38 (by decide) rfl) ?_
   refine DOps.q rfl rfl rfl (qloadAt ag38 rfl rfl sb126.get rfl) <| .q rfl rfl rfl (qmove rfl) ?_
   have fr139 := fr129.take (k := p) (by omega)
   rw [Nat.mul_one, bytes_take] at fr139
   refine DOps.q rfl rfl rfl (qsliceHi u38 sz5 rfl rfl (by omega)) <| .q rfl rfl rfl (qnil rfl) <| .q rfl rfl rfl (qfieldAddr fl99_0 sz97 (by decide) rfl) <| .q rfl rfl rfl (qfieldAddr fl97_0 sz38 (by decide) rfl) <| .l rfl rfl rfl (fun _ _ hk140 _ => wstore (cs := [.slice (some ⟨b49, 0, none⟩) p c49]) (c' := [.slice (some ⟨b49, 0, none⟩) p c49, rv, .slice p124 l124 c124]) sb126.wf rfl rfl rfl rfl sz38 sb126.get (Nat.le_of_ble_eq_true rfl) rfl rfl fun A141 sb142 => ?_)
   have h143 := sb142.keep _ _ ne_b0_b4.symm h127
   have h144 := sb142.keep _ _ ne_b0_b14.symm h128
   have fr147 := fr131.keep sb142.keep ne111
   have fr148 := fr139.keep sb142.keep ne0
   have le149 := le_store le132 wf0 no0 sb142.n sb142.keep
   refine hk140 _ _ (HeldNow.none (by kernel_rfl)) <| .done <| h134 _ _ <| .seq fun K150 h151 => .region <| .q rfl (qmove rfl) <| .l rfl (fun _ _ hk152 _ => walloc sb142.wf z3 rfl fun A154 b153 nb155 => ?_)
   have ne_b0_b153 := ne_new sb142.wf sb142.get nb155.lo
   have ne_b4_b153 := ne_new sb142.wf h143 nb155.lo
   have ne_b14_b153 := ne_new sb142.wf h144 nb155.lo
   have no158 := fr147.own.ne_new sb142.wf nb155.lo
   have no159 := fr148.own.ne_new sb142.wf nb155.lo
   have ge_b153 := none_of wf0 (Nat.le_trans le149.n nb155.lo)
   have h160 := nb155.le.get _ _ sb142.get
   have h161 := nb155.le.get _ _ h143
   have h162 := nb155.le.get _ _ h144
   have fr165 := fr147.le nb155.le
   have fr166 := fr148.le nb155.le
   have le167 := le149.trans nb155.le
   refine hk152 _ _ <| .l rfl (fun _ _ hk168 _ => wstore (cs := [num ((p : Nat) : Int)]) (c' := [num ((p : Nat) : Int)]) nb155.wf rfl rfl rfl rfl sz3 nb155.get (Nat.le_of_ble_eq_true rfl) rfl rfl fun A169 sb170 => ?_)
   have h171 := sb170.keep _ _ ne_b0_b153 h160
   have h172 := sb170.keep _ _ ne_b4_b153 h161
   have h173 := sb170.keep _ _ ne_b14_b153 h162
   have fr176 := fr165.keep sb170.keep no158
   have fr177 := fr166.keep sb170.keep no159
   have le178 := le_store le167 wf0 ge_b153 sb170.n sb170.keep
   refine hk168 _ _ <| .nil <| h151 _ _ <| .seq fun K179 h180 => .region <| .q rfl (qfunc rfl rfl) <| .q rfl (qassign rfl) <| .nil <| h180 _ _ <| .seq fun K181 h182 => ?_
   refine Run.region <| .q rfl (qmove rfl) <| .q rfl (qfieldAddr fl80_0 sz9 (by decide) rfl) <| .q rfl (qloadAt ag9 rfl rfl h173 rfl) <| .q rfl (qmove rfl) <| .q rfl (qslLo u9 rfl rfl (by omega)) <| .l rfl (fun _ _ hk183 _ => vcallF rfl (s_Inverse (x.w.drop n) A169 (by first | omega | (simp only [List.length_append, List.length_drop, List.length_take]; omega)) (hL.le le178)) ?_)
   rintro v184 A185 ⟨rfl, leq186, wfq186⟩
   have h187 := leq186.get _ _ h171
   have h188 := leq186.get _ _ h172
   have h190 := leq186.get _ _ sb170.get
   have fr193 := fr176.le leq186
   have fr194 := fr177.le leq186
   have le195 := le178.trans leq186
   refine hk183 _ _ ?_
   have le200 := le_hide (bs := [some b0, some b153, blk (.slice (some ⟨b49, 0, none⟩) p c49)]) le195 (hoB no0 (hoB ge_b153 (hoV fr194.lo ho0)))
   refine Ops.l rfl (fun _ _ hk196 _ => vcall rfl rfl (s_put (wInverse (x.w.drop n)) (l.take p) p (.slice (some ⟨b49, 0, none⟩) p c49) rv (.slice p124 l124 c124) b0 b4 b153 _ _ (A185.hide [some b0, some b153, blk (.slice (some ⟨b49, 0, none⟩) p c49)]) A185 (hide_le A185 [some b0, some b153, blk (.slice (some ⟨b49, 0, none⟩) p c49)]) (hide_wf wfq186) h187 (hide_none (by simp)) h190 (hide_none (by simp)) (fr194.hide (by simp)) ne0 no159 ne_b0_b153 (hide_get (bs := [some b0, some b153, blk (.slice (some ⟨b49, 0, none⟩) p c49)]) h188 (nmB ne_b0_b4.symm (nmB ne_b4_b153 (nmV no7 nm0)))) (by first | (have := wInverse_length (x.w.drop n); rw [List.length_drop] at this; omega) | (rw [List.length_drop]; omega)) (by first | (rw [List.length_take]; omega) | (have h1 := putF_len (l.take p, p) (wInverse (x.w.drop n)); have h2 := wInverse_length (x.w.drop n); simp only [List.length_drop, List.length_take] at h1 h2; omega))) ?_)
   rintro v197 A198 ⟨lvq199, rfl, leq199, wfq199, hrq199_b0, hrq199_b153, foq199_0, neq199_0_b0, neq199_0_b153⟩
   have hg201 := hide_get (bs := [some b0, some b153, blk (.slice (some ⟨b49, 0, none⟩) p c49)]) h188 (nmB ne_b0_b4.symm (nmB ne_b4_b153 (nmV no7 nm0)))
   have h202 := leq199.get _ _ hg201
   have sp205 := foq199_0.sep fr193.own (offB ne111 (offB no158 (offV (Sep.symm sp117) off0)))
   have fr206 := fr193.off (offB ne111 (offB no158 (offV (Sep.symm sp117) off0))) leq199
   have fr207 := foq199_0.base le200
   have no208 := foq199_0.seph hg201
   have le210 := le200.trans leq199
   refine hk196 _ _ <| .nil <| h182 _ _ <| .seq fun K211 h212 => .region <| .q rfl (qmove rfl) <| .q rfl (qmove rfl) ?_
   have le217 := le_hide (bs := [some b0, some b153, blk lvq199]) le210 (hoB no0 (hoB ge_b153 (hoV fr207.lo ho0)))
   refine Ops.l rfl (fun _ _ hk213 _ => vcall rfl rfl (s_put (l.drop (p + n)) ((putF (l.take p, p) (wInverse (x.w.drop n))).1) ((putF (l.take p, p) (wInverse (x.w.drop n))).2) lvq199 rv (.slice p124 l124 c124) b0 b4 b153 _ _ (A198.hide [some b0, some b153, blk lvq199]) A198 (hide_le A198 [some b0, some b153, blk lvq199]) (hide_wf wfq199) hrq199_b0 (hide_none (by simp)) hrq199_b153 (hide_none (by simp)) (fr207.hide (by simp)) neq199_0_b0 neq199_0_b153 ne_b0_b153 (hide_get (bs := [some b0, some b153, blk lvq199]) h202 (nmB ne_b0_b4.symm (nmB ne_b4_b153 (nmV no208 nm0)))) (by first | (have := wInverse_length (x.w.drop n); rw [List.length_drop] at this; omega) | (rw [List.length_drop]; omega)) (by first | (rw [List.length_take]; omega) | (have h1 := putF_len (l.take p, p) (wInverse (x.w.drop n)); have h2 := wInverse_length (x.w.drop n); simp only [List.length_drop, List.length_take] at h1 h2; omega))) ?_)
   rintro v214 A215 ⟨lvq216, rfl, leq216, wfq216, hrq216_b0, hrq216_b153, foq216_0, neq216_0_b0, neq216_0_b153⟩
   have sp222 := foq216_0.sep fr206.own (offB ne111 (offB no158 (offV sp205 off0)))
   have fr223 := fr206.off (offB ne111 (offB no158 (offV sp205 off0))) leq216
   have fr224 := foq216_0.base le217
   have le227 := le217.trans leq216
   refine hk213 _ _ <| .nil <| h212 _ _ <| .seq fun K228 h229 => .region <| .q rfl (qloadAt ag3 rfl rfl hrq216_b153 rfl) <| .q rfl (qassign rfl) <| .nil <| h229 _ _ <| .ret ?_
   repeat first | with_reducible refine thenQ_ret ?_ | with_reducible refine blockQ_ret ?_
   exact retQ rfl (⟨_, _, by rw [repl, ← repN_stop hn ‹_›]; rfl, le227, wfq216, hrq216_b0, fresh_eq fr224 (congrArg byteCells (by rw [repl, ← repN_stop hn ‹_›])), fresh_eq fr223 (congrArg dcells rfl), neq216_0_b0, ne111, sp222⟩)

theorem s_run (br : Nat) (S : RS) (l : List UInt8) (d : List DCell) (lv dv : Value) (b0 : Nat) (A0 A : AH) (le_ : A0.le A) (wf0 : A0.wf) (hb : A.get b0 = some (.row true [lv, .pointer (some ⟨br, 0, none⟩), dv] 3)) (no0 : A0.get b0 = none) (fr : Fresh A0 A lv 1 (byteCells l)) (frd : Fresh A0 A dv 3 (dcells d)) (ne0 : blk lv ≠ some b0) (ned : blk dv ≠ some b0) (sp : Sep lv dv) (hR : Rules A0 br S) (hS : RSok S) (hL : Lets A0) (hl : l.length ≤ 6000) (hd : d.length ≤ 6000) : RetA Tryd.prog 56 #[.pointer (some ⟨b0, 0, none⟩)] A (fun v A1 => ∃ lv2 dv2, v = .tuple #[] ∧ A0.le A1 ∧ A1.wf ∧ A1.get b0 = some (.row true [lv2, .pointer (some ⟨br, 0, none⟩), dv2] 3) ∧ Fresh A0 A1 lv2 1 (byteCells (drun S.list S.most (fuel l.length) l d 0).1) ∧ Fresh A0 A1 dv2 3 (dcells (drun S.list S.most (fuel l.length) l d 0).2) ∧ blk lv2 ≠ some b0 ∧ blk dv2 ≠ some b0 ∧ Sep lv2 dv2) := by
 refine enterA (e := [(0, .pointer (some ⟨b0, 0, none⟩))]) (args := [.pointer (some ⟨b0, 0, none⟩)]) Tryd.call56 Tryd.func56 rfl Tryd.results56 Tryd.ntmps56 rfl rfl rfl (fun wf => ?_)
 have hR0 := hR
 obtain ⟨rwr, capr, lsv, nv, bl, hbr, hls, hnv, hN⟩ := hR
 have hsm := hS.small
 refine Run.scope <| .seq fun K1 h2 => .label <| h2 _ _ <| .seq fun K3 h4 => .region <| .q rfl (qassign rfl) <| .nil <| h4 _ _ <| .block ?_
 refine Run.loop (X := Nat × List UInt8 × List DCell × Nat × Value × Value) (fun ⟨p, y, e, f, s, t⟩ => [(0, .pointer (some ⟨b0, 0, none⟩)), (2, num ((p : Nat) : Int))]) (fun ⟨p, y, e, f, s, t⟩ B => (drun S.list S.most f y e p = (drun S.list S.most (fuel l.length) l d 0) ∧ 100001 * y.length + (y.length - p) < f ∧ y.length ≤ 6000 ∧ e.length + y.length ≤ 12000) ∧ A0.le B ∧ Fresh A0 B s 1 (byteCells y) ∧ Fresh A0 B t 3 (dcells e) ∧ B.get b0 = some (.row true [s, .pointer (some ⟨br, 0, none⟩), t] 3) ∧ V.blk s ≠ some b0 ∧ V.blk t ≠ some b0 ∧ Sep s t) (fun ⟨p, y, e, f, s, t⟩ => 100001 * y.length + (y.length - p)) (⟨0, l, d, fuel l.length, lv, dv⟩) (EnvLe.cons rfl <| EnvLe.cons (congrArg (fun z : Int => some (num z)) (by (try split) <;> omega)) <| EnvLe.nil _) (⟨⟨rfl, by unfold fuel; omega, hl, by omega⟩, le_, fr, frd, hb, ne0, ned, sp⟩) ?_
 rintro ⟨p, y, e, f, s, t⟩ B6 ⟨⟨hu, hf, hy, he⟩, le5, fr_s5, fr_t5, hr_b05, no_s_b05, no_t_b05, sq5_0_1⟩
 refine Run.wf fun wf7 => ?_
 have hlb := longF_bound S.list (y.drop p)
 have hlt := fun (q : p < y.length) (z : 0 ≤ (longF S.list (y.drop p)).1) => repl_lt q z
 have hxm := fun z : 0 ≤ (longF S.list (y.drop p)).1 => getD_mem (d := Rot.zero) (longF_pos z).1
 have hlow := repl_low y p (S.list.getD (longF S.list (y.drop p)).1.toNat .zero)
 refine Run.seq fun K8 h9 => .seq fun K10 h11 => .region <| .q rfl (qmove rfl) <| .q rfl (qmove rfl) <| .q rfl (qnil rfl) <| .q rfl (qfieldAddr fl99_0 sz97 (by decide) rfl) <| .q rfl (qfieldAddr fl97_0 sz38 (by decide) rfl) <| .q rfl (qloadAt ag38 rfl rfl hr_b05 rfl) <| .q rfl (qlenS (n := y.length) u38 rfl fr_s5.slc (by omega) (bytes_len _)) ?_
 refine Ops.q rfl (qlssN rfl rfl) <| .nil <| h11 _ _ <| .if rfl (fun p12 => ?_) (fun p12 => ?_)
 ·
  refine Run.skip <| h9 _ _ <| .seq fun K13 h14 => .block <| .seq fun K15 h16 => .drawn [0, 1, 2, 3, 4, 5, 6, 7, 8, 9, 10, 11, 12] mixed (by kernel_rfl) (by kernel_rfl) rfl <| .q rfl rfl rfl (qmove rfl) <| .q rfl rfl rfl (qnil rfl) <| .q rfl rfl rfl (qfieldAddr fl99_1 sz56 (by decide) rfl) ?_
  have hc17 := cellOf (off := 1) hr_b05 (show _ = some (.pointer (some ⟨br, 0, none⟩)) from rfl)
  refine DOps.q rfl rfl rfl (qloadAt ag56 rfl rfl hr_b05 rfl) <| .q rfl rfl rfl (qmove rfl) <| .q rfl rfl rfl (qmove rfl) <| .l rfl rfl rfl (fun _ _ hk18 _ => vcallF rfl (s_at b0 p B6) ?_)
  rintro v19 A20 ⟨b2q21, b1q21, rfl, leq21, wfq21, hAq21, hBq21⟩
  have h22 := leq21.get _ _ hr_b05
  have fr23 := fr_s5.le leq21
  have fr24 := fr_t5.le leq21
  have hc25 := cell_le leq21 hc17
  have le26 := le5.trans leq21
  have hA := hAq21
  have hB := hBq21
  refine hk18 _ _ (HeldNow.list (L := [(⟨b0, 1, none⟩, .pointer (some ⟨br, 0, none⟩))]) (by kernel_rfl) (heldCons hc25 heldNil)) <| .l rfl rfl rfl (fun _ _ hk27 _ => vcallF rfl (s_long br S 96 #[.pointer (some ⟨b1q21, 0, none⟩), .pointer (some ⟨b2q21, 0, none⟩)] (y.drop p) A20 (hR0.le le26) hS (by rw [List.length_drop]; omega) (fun i B hi le wf => s_at1 i p y s (.pointer (some ⟨br, 0, none⟩)) t b0 b1q21 b2q21 _ _ _ _ _ _ B (by rw [List.length_drop] at hi; omega) (le.get _ _ hAq21) (le.get _ _ hBq21) (le.get _ _ h22) (fr23.slc.le le))) ?_)
  rintro v28 A29 ⟨rfl, rfl⟩
  refine hk27 _ _ (HeldNow.none (by kernel_rfl)) <| .q rfl rfl rfl (qmove rfl) <| .q rfl rfl rfl (qextract rfl rfl) <| .q rfl rfl rfl (qextract rfl rfl) <| .q rfl rfl rfl (qassign rfl) <| .q rfl rfl rfl (qassign rfl) <| .done <| h16 _ _ <| .seq fun K31 h32 => .region ?_
  refine Ops.q rfl (qmove rfl) <| .q rfl (qgeq rfl rfl) <| .nil <| h32 _ _ <| .if rfl (fun p33 => ?_) (fun p33 => ?_)
  ·
   refine Run.seq fun K34 h35 => .region <| .q rfl (qmove rfl) <| .q rfl (qmove rfl) <| .q rfl (qmove rfl) <| .q rfl (qnil rfl) <| .q rfl (qfieldAddr fl99_1 sz56 (by decide) rfl) <| .q rfl (qloadAt ag56 rfl rfl h22 rfl) <| .q rfl (qnil rfl) <| .q rfl (qfieldAddr fl88_0 sz86 (by decide) rfl) ?_
   refine Ops.q rfl (qloadAt ag86 rfl rfl (le26.get _ _ hbr) rfl) <| .q rfl (qmove rfl) ?_
   obtain ⟨b36, f36, rw36, r36, rc36, n36, k36, e36, l36, g36, cl36, cs36⟩ := Slc.at (i := ((longF S.list (y.drop p)).1).toNat) (hls.le le26) (by simp only [rcells_length]; have := (longF_pos ‹0 ≤ (longF S.list (y.drop p)).1›).1; omega) (by omega)
   refine Ops.q rfl (qindexS u86 sz80 rfl e36 (natI (by omega)) l36) <| .q rfl (qloadAggAt ag80 sz80 rfl rfl g36 (cl36.trans (congrArg some (rcells_at (by omega))))) ?_
   have le41 := le_hide (bs := [some b0, blk s, blk t]) le26 (hoB no0 (hoV fr23.lo (hoV fr24.lo ho0)))
   refine Ops.l rfl (fun _ _ hk37 _ => vcallF rfl (s_replace p (S.list.getD (((longF S.list (y.drop p)).1).toNat) .zero) y e s (.pointer (some ⟨br, 0, none⟩)) t b0 (A20.hide [some b0, blk s, blk t]) A20 (hide_le A20 [some b0, blk s, blk t]) (hide_wf wfq21) h22 (hide_none (by simp)) (fr23.hide (by simp)) (fr24.hide (by simp)) no_s_b05 no_t_b05 sq5_0_1 (hL.le le41) (by omega) (by omega) (by have := hS.most _ (hxm ‹_›); omega) (hS.isw _ (hxm ‹_›)).2.2 (by omega)) ?_)
   rintro v38 A39 ⟨lvq40, dvq40, rfl, leq40, wfq40, hrq40_b0, foq40_0, foq40_1, neq40_0_b0, neq40_1_b0, spq40_0_1⟩
   have fr42 := foq40_0.base le41
   have fr43 := foq40_1.base le41
   have le44 := le41.trans leq40
   refine hk37 _ _ <| .q rfl (qassign rfl) <| .nil <| h35 _ _ <| .seq fun K45 h46 => .region <| .q rfl (qmove rfl) <| .q rfl (qmove rfl) <| .q rfl (qnil rfl) <| .q rfl (qfieldAddr fl99_1 sz56 (by decide) rfl) ?_
   refine Ops.q rfl (qloadAt ag56 rfl rfl hrq40_b0 rfl) <| .q rfl (qnil rfl) <| .q rfl (qfieldAddr fl88_2 sz3 (by decide) rfl) <| .q rfl (qloadAt ag3 rfl rfl (le44.get _ _ hbr) rfl) <| .q rfl (qsub rfl rfl (by first | omega | (have := hlt (by omega) ‹_›; omega) | (split <;> omega))) <| .q rfl (qmax rfl rfl) <| .q rfl (qsub rfl rfl (by first | omega | (have := hlt (by omega) ‹_›; omega) | (split <;> omega))) <| .q rfl (qassign rfl) <| .nil <| h46 _ _ ?_
   refine Run.exit <| h14 _ _ <| .region <| .q rfl (qmove rfl) <| .q rfl (qadd rfl rfl (by first | omega | (have := hlt (by omega) ‹_›; omega) | (split <;> omega))) <| .q rfl (qassign rfl) <| .nil ?_
   exact ⟨⟨(repl y p (S.list.getD (longF S.list (y.drop p)).1.toNat .zero)).2 - S.most, (repl y p (S.list.getD (((longF S.list (y.drop p)).1).toNat) .zero)).1, e ++ [repC y p (S.list.getD (((longF S.list (y.drop p)).1).toNat) .zero)], f - 1, lvq40, dvq40⟩, EnvLe.cons rfl <| EnvLe.cons (congrArg (fun z : Int => some (num z)) (by (try split) <;> omega)) <| EnvLe.nil _, rfl, ⟨⟨drun_go (by omega) (by omega) ‹_› hu, by have := hlt (by omega) ‹_›; omega, by have := hlt (by omega) ‹_›; omega, by have := hlt (by omega) ‹_›; simp only [List.length_append, List.length_cons, List.length_nil]; omega⟩, le44, fr42, fr43, hrq40_b0, neq40_0_b0, neq40_1_b0, spq40_0_1⟩, (by (try dsimp only); first | omega | (have := hlt (by omega) ‹_›; omega))⟩
  ·
   refine Run.skip <| h14 _ _ <| .region <| .q rfl (qmove rfl) <| .q rfl (qaddN (b := 1) rfl rfl (by first | omega | (have := hlt (by omega) ‹_›; omega) | (split <;> omega))) <| .q rfl (qassign rfl) <| .nil ?_
   exact ⟨⟨p + 1, y, e, f - 1, s, t⟩, EnvLe.cons rfl <| EnvLe.cons (congrArg (fun z : Int => some (num z)) (by (try split) <;> omega)) <| EnvLe.nil _, rfl, ⟨⟨drun_no (by omega) (by omega) ‹_› hu, by omega, hy, he⟩, le26, fr23, fr24, h22, no_s_b05, no_t_b05, sq5_0_1⟩, (by (try dsimp only); first | omega | (have := hlt (by omega) ‹_›; omega))⟩
 ·
  refine Run.exit ?_
  repeat first | with_reducible refine thenQ_ret ?_ | with_reducible refine blockQ_ret ?_ | with_reducible refine noGotoQ_ret ?_
  repeat first | with_reducible refine thenQ_exit ?_ | with_reducible refine blockQ_same ?_ | with_reducible refine blockQ_other (by decide) ?_ | with_reducible refine noGotoQ_exit ?_ | with_reducible refine noGotoQ_normal ?_
  exact retQn (vs := []) rfl (⟨_, _, rfl, le5, wf7, hr_b05, fresh_eq fr_s5 (congrArg byteCells (by rw [drun_end ‹_› hu])), fresh_eq fr_t5 (congrArg dcells (by rw [drun_end ‹_› hu])), no_s_b05, no_t_b05, sq5_0_1⟩)

theorem s_dshort (br : Nat) (S : RS) (w : List UInt8) (A : AH) (hR : Rules A br S) (hS : RSok S) (hL : Lets A) (hw : w.length ≤ 6000) : RetA Tryd.prog 31 #[.pointer (some ⟨br, 0, none⟩), str (w)] A (fun v A1 => ∃ dv, v = .agg #[str (dsh S w).1, num (((dsh S w).2.length : Nat) : Int), dv] ∧ A.le A1 ∧ A1.wf ∧ Fresh A A1 dv 3 (dcells (dsh S w).2)) := by
 refine enterA (e := [(0, .pointer (some ⟨br, 0, none⟩)), (1, str (w))]) (args := [.pointer (some ⟨br, 0, none⟩), str (w)]) Tryd.call31 Tryd.func31 rfl Tryd.results31 Tryd.ntmps31 rfl rfl rfl (fun wf => ?_)
 have le_ := AH.le.refl A
 have hR0 := hR
 obtain ⟨rwr, capr, lsv, nv, bl, hbr, hls, hnv, hN⟩ := hR
 have hrw := red_length w
 refine Run.seq fun K1 h2 => .region <| .l rfl (fun _ _ hk3 _ => walloc wf z46 rfl fun A5 b4 nb6 => ?_)
 have ge_b4 := none_of wf (Nat.le_trans le_.n nb6.lo)
 have le7 := le_.trans nb6.le
 refine hk3 _ _ <| .nil <| h2 _ _ <| .seq fun K8 h9 => .region <| .q rfl (qmove rfl) <| .q rfl (qbuild rfl (buildV_struct u99 z99 pl99 rfl)) <| .l rfl (fun _ _ hk10 _ => wbox nb6.wf rfl rfl fun A12 b11 nb13 => ?_)
 have ne_b4_b11 := ne_new nb6.wf nb6.get nb13.lo
 have ge_b11 := none_of wf (Nat.le_trans le7.n nb13.lo)
 have h14 := nb13.le.get _ _ nb6.get
 have le15 := le7.trans nb13.le
 refine hk10 _ _ <| .q rfl (qassign rfl) <| .nil <| h9 _ _ <| .seq fun K16 h17 => .region <| .q rfl (qmove rfl) <| .q rfl (qnil rfl) <| .q rfl (qfieldAddr fl99_0 sz97 (by decide) rfl) <| .q rfl (qmove rfl) ?_
 have fr20 := Fresh.nil A A12 1
 have le24 := le_hide (bs := [some b11, blk (.slice none 0 0)]) le15 (hoB ge_b11 (hoV fr20.lo ho0))
 refine Ops.l rfl (fun _ _ hk18 _ => vcallF rfl (s_push w ([]) (.slice none 0 0) (.pointer (some ⟨br, 0, none⟩)) (.slice none 0 0) b11 (A12.hide [some b11, blk (.slice none 0 0)]) A12 (hide_le A12 [some b11, blk (.slice none 0 0)]) (hide_wf nb13.wf) nb13.get (hide_none (by simp)) (fr20.hide (by simp)) (fun q => by cases q) (by omega) (by simp)) ?_)
 rintro v21 A22 ⟨lvq23, rfl, leq23, wfq23, hrq23_b11, foq23_0, neq23_0_b11⟩
 have hg25 := hide_get (bs := [some b11, blk (.slice none 0 0)]) h14 (nmB ne_b4_b11 (nmV (fun q => by cases q) nm0))
 have h26 := leq23.get _ _ hg25
 have fr27 := foq23_0.base le24
 have no28 := foq23_0.seph hg25
 have le29 := le24.trans leq23
 refine hk18 _ _ <| .nil <| h17 _ _ <| .seq fun K30 h31 => .region <| .q rfl (qmove rfl) ?_
 have fr34 := Fresh.nil A A22 3
 have le38 := le_hide (bs := [some b11, blk lvq23, blk (.slice none 0 0)]) le29 (hoB ge_b11 (hoV fr27.lo (hoV fr34.lo ho0)))
 refine Ops.l rfl (fun _ _ hk32 _ => vcallF rfl (s_run br S (w.foldl push ([])) ([]) lvq23 (.slice none 0 0) b11 (A22.hide [some b11, blk lvq23, blk (.slice none 0 0)]) A22 (hide_le A22 [some b11, blk lvq23, blk (.slice none 0 0)]) (hide_wf wfq23) hrq23_b11 (hide_none (by simp)) (fr27.hide (by simp)) (fr34.hide (by simp)) neq23_0_b11 (fun q => by cases q) (Sep.symm Sep.nil) (hR0.le le38) hS (hL.le le38) (by show (red w).length ≤ 6000; omega) (by simp)) ?_)
 rintro v35 A36 ⟨lvq37, dvq37, rfl, leq37, wfq37, hrq37_b11, foq37_0, foq37_1, neq37_0_b11, neq37_1_b11, spq37_0_1⟩
 have hg39 := hide_get (bs := [some b11, blk lvq23, blk (.slice none 0 0)]) h26 (nmB ne_b4_b11 (nmV no28 (nmV (fun q => by cases q) nm0)))
 have h40 := leq37.get _ _ hg39
 have fr41 := foq37_0.base le38
 have fr43 := foq37_1.base le38
 have no44 := foq37_1.seph hg39
 have le45 := le38.trans leq37
 refine hk32 _ _ <| .nil <| h31 _ _ <| .seq fun K46 h47 => .drawn [0, 1, 2, 3, 4, 5, 6, 7, 8, 9, 10, 11, 12, 13, 14, 15, 16] mixed (by kernel_rfl) (by kernel_rfl) rfl <| .q rfl rfl rfl (qmove rfl) <| .q rfl rfl rfl (qnil rfl) <| .q rfl rfl rfl (qfieldAddr fl99_0 sz97 (by decide) rfl) <| .q rfl rfl rfl (qfieldAddr fl97_0 sz38 (by decide) rfl) <| .q rfl rfl rfl (qloadAt ag38 rfl rfl hrq37_b11 rfl) ?_
 refine DOps.qstr (l := (drun S.list S.most (fuel (w.foldl push ([])).length) (w.foldl push ([])) ([]) 0).1) rfl rfl rfl u38 u9 u5 fr41.slc fun T49 => .q rfl rfl rfl (qmove rfl) <| .q rfl rfl rfl (qnil rfl) <| .q rfl rfl rfl (qfieldAddr fl99_2 sz30 (by decide) rfl) <| .q rfl rfl rfl (qloadAt ag30 rfl rfl hrq37_b11 rfl) <| .q rfl rfl rfl (qlenS (n := ((drun S.list S.most (fuel (w.foldl push ([])).length) (w.foldl push ([])) ([]) 0).2).length) u30 rfl fr43.slc (by omega) (dcells_len _)) <| .q rfl rfl rfl (qmove rfl) <| .q rfl rfl rfl (qnil rfl) <| .q rfl rfl rfl (qfieldAddr fl99_2 sz30 (by decide) rfl) <| .q rfl rfl rfl (qloadAt ag30 rfl rfl hrq37_b11 rfl) ?_
 obtain ⟨p52, l52, c52, q52, _⟩ := fr43.own.slice
 subst q52
 refine DOps.q rfl rfl rfl (qbuild rfl (buildV_struct u46 z46 pl46 rfl)) <| .l rfl rfl rfl (fun _ _ hk53 _ => wstore (cs := [str ((drun S.list S.most (fuel (w.foldl push ([])).length) (w.foldl push ([])) ([]) 0).1), num ((((drun S.list S.most (fuel (w.foldl push ([])).length) (w.foldl push ([])) ([]) 0).2).length : Nat) : Int), .slice p52 l52 c52]) (c' := [str ((drun S.list S.most (fuel (w.foldl push ([])).length) (w.foldl push ([])) ([]) 0).1), num ((((drun S.list S.most (fuel (w.foldl push ([])).length) (w.foldl push ([])) ([]) 0).2).length : Nat) : Int), .slice p52 l52 c52]) wfq37 rfl rfl rfl rfl sz46 h40 (Nat.le_of_ble_eq_true rfl) rfl rfl fun A54 sb55 => ?_)
 have fr58 := fr43.keep sb55.keep no44
 have le59 := le_store le45 wf ge_b4 sb55.n sb55.keep
 refine hk53 _ _ (HeldNow.list (L := []) (by kernel_rfl) heldNil) <| .done <| h47 _ _ <| .ret ?_
 repeat first | with_reducible refine thenQ_ret ?_ | with_reducible refine blockQ_ret ?_
 exact retQ (resCell ag46 sz46 rfl sb55.get rfl resNil) (⟨_, rfl, le59, sb55.wf, fr58⟩)

theorem s_refused (g : Int) (u : Value) (l : List (List UInt8)) (w : List UInt8) (A : AH) (hn : l.length ≤ 1000000) (hL : Lets A) (hw : w.length ≤ 100000) (hu : Slc A 1 u (strs l)) : RetA Tryd.prog 30 #[.agg #[num (g), u], str (w)] A (fun v A1 => v = num ((rasked g l w : Nat) : Int) ∧ A.le A1 ∧ A1.wf) := by
 refine enterA (e := [(0, .agg #[num (g), u]), (1, str (w))]) (args := [.agg #[num (g), u], str (w)]) Tryd.call30 Tryd.func30 rfl Tryd.results30 Tryd.ntmps30 rfl rfl rfl (fun wf => ?_)
 have le_ := AH.le.refl A
 refine Run.seq fun K1 h2 => .region <| .l rfl (fun _ _ hk3 _ => wbox wf rfl rfl fun A5 b4 nb6 => ?_)
 have le7 := le_.trans nb6.le
 refine hk3 _ _ <| .q rfl (qassign rfl) <| .nil <| h2 _ _ <| .seq fun K8 h9 => .seq fun K10 h11 => .region <| .q rfl (qloadAggAt ag24 sz24 rfl rfl nb6.get rfl) <| .l rfl (fun _ _ hk12 _ => vcallF rfl (s_pCheck ((g)) u l A5 (by omega) (hL.le le7) (hu.le le7)) ?_)
 rintro v13 A14 ⟨rfl, leq15, wfq15⟩
 have h16 := leq15.get _ _ nb6.get
 have le17 := le7.trans leq15
 refine hk12 _ _ <| .q rfl (qassign rfl) <| .nil <| h11 _ _ <| .seq fun K18 h19 => .region <| .q rfl (qmove rfl) <| .q rfl (qneqN (b := 0) rfl rfl) <| .nil <| h19 _ _ ?_
 refine Run.if rfl (fun p20 => ?_) (fun p20 => ?_)
 ·
  refine Run.seq fun K21 h22 => .region <| .q rfl (qmove rfl) <| .q rfl (qassign rfl) <| .nil <| h22 _ _ <| .ret ?_
  repeat first | with_reducible refine thenQ_ret ?_ | with_reducible refine blockQ_ret ?_
  exact retQ rfl (⟨by first | (rw [rasked, if_pos ‹_›]; rfl) | (rw [rasked, if_neg ‹_›, if_pos ‹_›]; rfl) | (rw [rasked, if_neg ‹_›, if_neg ‹_›, if_pos ‹_›]; rfl) | (rw [rasked, if_neg ‹_›, if_neg ‹_›, if_neg ‹_›]; rfl), le17, wfq15⟩)
 ·
  refine Run.skip <| h9 _ _ <| .seq fun K23 h24 => .seq fun K25 h26 => .region <| .q rfl (qfieldAddr fl24_0 sz3 (by decide) rfl) <| .q rfl (qloadAt ag3 rfl rfl h16 rfl) <| .q rfl (qmove rfl) <| .l rfl (fun _ _ hk27 _ => vcallF rfl (s_wCheck (g) w A14 (hL.le le17)) ?_)
  rintro v28 A29 ⟨rfl, leq30, wfq30⟩
  have le32 := le17.trans leq30
  refine hk27 _ _ <| .q rfl (qneqN (b := 0) rfl rfl) <| .nil <| h26 _ _ <| .if rfl (fun p33 => ?_) (fun p33 => ?_)
  ·
   refine Run.seq fun K34 h35 => .region <| .q rfl (qassign rfl) <| .nil <| h35 _ _ <| .ret ?_
   repeat first | with_reducible refine thenQ_ret ?_ | with_reducible refine blockQ_ret ?_
   exact retQ rfl (⟨by first | (rw [rasked, if_pos ‹_›]; rfl) | (rw [rasked, if_neg ‹_›, if_pos ‹_›]; rfl) | (rw [rasked, if_neg ‹_›, if_neg ‹_›, if_pos ‹_›]; rfl) | (rw [rasked, if_neg ‹_›, if_neg ‹_›, if_neg ‹_›]; rfl), le32, wfq30⟩)
  ·
   refine Run.skip <| h24 _ _ <| .seq fun K36 h37 => .seq fun K38 h39 => .region <| .q rfl (qmove rfl) <| .q rfl (qslen u9 rfl) <| .q rfl (qgtrN (b := 5000) rfl rfl) <| .nil <| h39 _ _ ?_
   refine Run.if rfl (fun p40 => ?_) (fun p40 => ?_)
   ·
    refine Run.seq fun K41 h42 => .region <| .q rfl (qassign rfl) <| .nil <| h42 _ _ <| .ret ?_
    repeat first | with_reducible refine thenQ_ret ?_ | with_reducible refine blockQ_ret ?_
    exact retQ rfl (⟨by first | (rw [rasked, if_pos ‹_›]; rfl) | (rw [rasked, if_neg ‹_›, if_pos ‹_›]; rfl) | (rw [rasked, if_neg ‹_›, if_neg ‹_›, if_pos ‹_›]; rfl) | (rw [rasked, if_neg ‹_›, if_neg ‹_›, if_neg ‹_›]; rfl), le32, wfq30⟩)
   ·
    refine Run.skip <| h37 _ _ <| .seq fun K43 h44 => .region <| .q rfl (qassign rfl) <| .nil <| h44 _ _ <| .ret ?_
    repeat first | with_reducible refine thenQ_ret ?_ | with_reducible refine blockQ_ret ?_
    exact retQ rfl (⟨by first | (rw [rasked, if_pos ‹_›]; rfl) | (rw [rasked, if_neg ‹_›, if_pos ‹_›]; rfl) | (rw [rasked, if_neg ‹_›, if_neg ‹_›, if_pos ‹_›]; rfl) | (rw [rasked, if_neg ‹_›, if_neg ‹_›, if_neg ‹_›]; rfl), le32, wfq30⟩)

theorem s_heavy (dv : Value) (d : List DCell) (A : AH) (hdn : d.length ≤ 100000000) (hcn : conjs d ≤ 1000000000000) (hv : Slc A 3 dv (dcells d)) : RetA Tryd.prog 32 #[dv] A (fun v A1 => v = .bool (decide (1000000 < conjs d ∨ 100000 < d.length)) ∧ A.le A1 ∧ A1.wf) := by
 refine enterA (e := [(0, dv)]) (args := [dv]) Tryd.call32 Tryd.func32 rfl Tryd.results32 Tryd.ntmps32 rfl rfl rfl (fun wf => ?_)
 have le_ := AH.le.refl A
 refine Run.seq fun K1 h2 => .region <| .q rfl (qassign rfl) <| .nil <| h2 _ _ <| .seq fun K3 h4 => .region <| .q rfl (qassign rfl) <| .nil <| h4 _ _ ?_
 refine Run.seq fun K5 h6 => .seq fun K7 h8 => .region <| .q rfl (qmove rfl) <| .q rfl (qlenS (n := d.length) u30 rfl (hv.le le_) (by omega) (dcells_len _)) <| .q rfl (qmove rfl) <| .nil <| h8 _ _ <| .block <| .loop (X := Nat × Nat) (fun ⟨k, n⟩ => [(0, dv), (3, num ((n : Nat) : Int)), (6, dv), (7, num ((d.length : Nat) : Int)), (8, num ((k : Nat) : Int))]) (fun ⟨k, n⟩ B => (k ≤ d.length ∧ n + conjs (d.drop k) = conjs d) ∧ A.le B) (fun ⟨k, n⟩ => d.length - k) (⟨0, 0⟩) (EnvLe.cons rfl <| EnvLe.cons rfl <| EnvLe.cons rfl <| EnvLe.cons rfl <| EnvLe.cons rfl <| EnvLe.nil _) (⟨⟨Nat.zero_le _, Nat.zero_add _⟩, le_⟩) ?_
 rintro ⟨k, n⟩ B10 ⟨⟨hk, hc⟩, le9⟩
 refine Run.wf fun wf11 => ?_
 have hcd := fun q : k < d.length => conjs_drop q
 refine Run.seq fun K12 h13 => .region <| .q rfl (qlssN rfl rfl) <| .nil <| h13 _ _ <| .seq fun K14 h15 => .if rfl (fun p16 => ?_) (fun p16 => ?_)
 ·
  refine Run.skip <| h15 _ _ <| .seq fun K17 h18 => .block <| .seq fun K19 h20 => .region ?_
  obtain ⟨b21, f21, rw21, r21, rc21, n21, k21, e21, l21, g21, cl21, cs21⟩ := Slc.at (i := k) (hv.le le9) (by simp only [dcells_length]; omega) (by omega)
  refine Ops.q rfl (qindexS u30 sz71 rfl e21 rfl l21) <| .q rfl (qloadAggAt ag71 sz71 rfl rfl g21 (cl21.trans (congrArg some (dcells_at (by omega))))) <| .l rfl (fun _ _ hk22 _ => walloc wf11 z71 rfl fun A24 b23 nb25 => ?_)
  have ge_b23 := none_of wf (Nat.le_trans le9.n nb25.lo)
  have le26 := le9.trans nb25.le
  refine hk22 _ _ <| .l rfl (fun _ _ hk27 _ => wstore (cs := [str ((d.getD k .zero).conj), num ((d.getD k .zero).rel), .bool ((d.getD k .zero).inv)]) (c' := [str ((d.getD k .zero).conj), num ((d.getD k .zero).rel), .bool ((d.getD k .zero).inv)]) nb25.wf rfl rfl rfl rfl sz71 nb25.get (Nat.le_of_ble_eq_true rfl) rfl rfl fun A28 sb29 => ?_)
  have le30 := le_store le26 wf ge_b23 sb29.n sb29.keep
  refine hk27 _ _ <| .nil <| h20 _ _ <| .region <| .q rfl (qmove rfl) <| .q rfl (qfieldAddr fl71_0 sz9 (by decide) rfl) <| .q rfl (qloadAt ag9 rfl rfl sb29.get rfl) <| .q rfl (qslen u9 rfl) <| .q rfl (qaddN rfl rfl (by have := hcd (by omega); omega)) <| .q rfl (qassign rfl) ?_
  refine Ops.nil <| h18 _ _ <| .region <| .q rfl (qaddN (b := 1) rfl rfl (by omega)) <| .q rfl (qmove rfl) <| .nil ?_
  exact ⟨⟨k + 1, n + (d.getD k .zero).conj.length⟩, EnvLe.cons rfl <| EnvLe.cons rfl <| EnvLe.cons rfl <| EnvLe.cons rfl <| EnvLe.cons rfl <| EnvLe.nil _, rfl, ⟨⟨by omega, by have := hcd (by omega); omega⟩, le30⟩, (by (try dsimp only); omega)⟩
 ·
  refine Run.exit <| h6 _ _ <| .seq fun K31 h32 => .region <| .q rfl (qmove rfl) <| .q rfl (qgtrN (b := 1000000) rfl rfl) <| .q rfl (qmove rfl) <| .part (t := 20) rfl (fun p33 => ?_) (fun p33 => ?_)
  ·
   refine Ops.off rfl rfl rfl rfl <| .off rfl rfl rfl rfl <| .off rfl rfl rfl rfl <| .q rfl (qpickT rfl rfl) <| .q rfl (qassign rfl) <| .nil <| h32 _ _ <| .ret ?_
   repeat first | with_reducible refine thenQ_ret ?_ | with_reducible refine blockQ_ret ?_
   exact retQ rfl (⟨by have hz : conjs (d.drop k) = 0 := (by rw [dropL_end (by omega)]; rfl); have hn2 : n = conjs d := (by omega); subst hn2; simp_all [oneV] <;> omega, le9, wf11⟩)
  ·
   refine Ops.on rfl rfl <| .q rfl (qmove rfl) <| .on rfl rfl <| .q rfl (qlenS (n := d.length) u30 rfl (hv.le le9) (by omega) (dcells_len _)) <| .on rfl rfl <| .q rfl (qgtrN (b := 100000) rfl rfl) <| .q rfl (qpickF rfl rfl) <| .q rfl (qassign rfl) <| .nil <| h32 _ _ ?_
   refine Run.ret ?_
   repeat first | with_reducible refine thenQ_ret ?_ | with_reducible refine blockQ_ret ?_
   exact retQ rfl (⟨by have hz : conjs (d.drop k) = 0 := (by rw [dropL_end (by omega)]; rfl); have hn2 : n = conjs d := (by omega); subst hn2; simp_all [oneV] <;> omega, le9, wf11⟩)
end Go.Proofs.YtaccklloepfemaaDoor

namespace Go.Proofs.YtaccklloepfemaaDoor
set_option linter.unusedVariables false
set_option linter.unusedSimpArgs false
open Go Go.RowKit
namespace V

theorem getE_app : ∀ (l : Env) (e : Env) (t : Nat) (v : Value), getE (l ++ e) t = some v → (t, v) ∈ l ∨ getE e t = some v
  | [], _, _, _, h => .inr h
  | (k, u) :: l, e, t, v, h => by
    rw [List.cons_append, getE_cons] at h
    split at h
    · rename_i q; cases h; subst q; exact .inl List.mem_cons_self
    · rcases getE_app l e t v h with q | q
      · exact .inl (List.mem_cons_of_mem _ q)
      · exact .inr q
def depsE (q : Nat → Option (Nat × Value)) (o : Oper) (e : Env) : Env := o.after.toList.filterMap (fun x => q x.on) ++ e
/-- What the slots hold when some quiet operations have come up. -/
structure Know (nt : Nat) (e : Env) (ds : List Deferred) (q : Nat → Option (Nat × Value)) (listed : Array Bool) (a : Act) : Prop where
  ok : ActOk nt ⟨e, ds⟩ a
  got : ∀ j d v, listed.getD j false = true → q j = some (d, v) → a.tmps.getD d undef = v ∧ d < nt

theorem phaseIn {P : Program} {F : Fence} (hF : okF F) {n nt : Nat} {ops : Array Oper} {Q : Exit → Act → World → Prop} {e : Env} {ds : List Deferred} {A : AH} {w : World} (hw : View A w) (q : Nat → Option (Nat × Value))
    (hop : ∀ i d v, q i = some (d, v) → ∃ o T, ops[i]? = some o ∧ o.guard = none ∧ o.dst = some d ∧ noDefer o = true ∧ d < nt ∧ getE e d = none ∧ (∀ x ∈ o.after, Region.binds .any x = true ∧ x.on < i ∧ (q x.on).isSome = true) ∧ quietV P (depsE q o e) A o.op = some (v, T))
    (hdist : ∀ i j d v u, q i = some (d, v) → q j = some (d, u) → i = j)
    (hloud : ∀ listed : Array Bool, Closed ops listed → (∀ j, listed.getD j false = true → (q j).isSome = true) → ∀ i, i ∈ Region.ready .any ops listed → q i = none → ∀ j, (q j).isSome = true → listed.getD j false = true)
    (r : Nat) (hcont : ∀ (listed : Array Bool) a, listed.size = ops.size → (∀ j, listed.getD j false = (q j).isSome) → Know nt e ds q listed a → wpAnyIn F n P .any ops Q r listed a w) :
    ∀ (m : Nat) (listed : Array Bool) (a : Act), ((List.range ops.size).filter fun j => (q j).isSome && !listed.getD j false).length = m → listed.size = ops.size → Closed ops listed → (∀ j, listed.getD j false = true → (q j).isSome = true) → Know nt e ds q listed a →
      wpAnyIn F n P .any ops Q (m + r) listed a w := by
  have qlt : ∀ j, (q j).isSome = true → j < ops.size := fun j hj => by
    obtain ⟨⟨d, v⟩, hq⟩ := Option.isSome_iff_exists.1 hj
    obtain ⟨o, T, ho, _⟩ := hop j d v hq
    exact (Array.getElem?_eq_some_iff.1 ho).1
  intro m
  induction m with
  | zero =>
    intro listed a hm hs hc hsub hk
    rw [Nat.zero_add]
    refine hcont listed a hs (fun j => ?_) hk
    cases hl : listed.getD j false with
    | true => exact (hsub j hl).symm
    | false =>
      cases hj : (q j).isSome with
      | false => rfl
      | true =>
        exfalso
        have : j ∈ (List.range ops.size).filter fun j => (q j).isSome && !listed.getD j false := by
          rw [List.mem_filter]; exact ⟨by simpa using qlt j hj, by rw [hj, hl]; rfl⟩
        rw [List.length_eq_zero_iff.1 hm] at this; cases this
  | succ m ih =>
    intro listed a hm hs hc hsub hk
    rw [Nat.add_right_comm]
    obtain ⟨j0, hj0⟩ : ∃ j, j ∈ (List.range ops.size).filter fun j => (q j).isSome && !listed.getD j false := by
      cases hl : (List.range ops.size).filter fun j => (q j).isSome && !listed.getD j false with
      | nil => rw [hl] at hm; cases hm
      | cons x xs => exact ⟨x, List.mem_cons_self⟩
    rw [List.mem_filter] at hj0
    simp only [Bool.and_eq_true, Bool.not_eq_true'] at hj0
    have good : ∀ i d v, q i = some (d, v) → listed.getD i false = false → i ∈ Region.ready .any ops listed → wpOpIn F n P ops Q i (wpAnyIn F n P .any ops Q (m + r) (listed.setIfInBounds i true)) a w := by
      intro i d v hq hl hr
      obtain ⟨o, T, ho, hg, hd, hnd, hlt, hnone, haf, hv⟩ := hop i d v hq
      have hi : i < listed.size := by rw [hs]; exact (Array.getElem?_eq_some_iff.1 ho).1
      have hset : ∀ j, (listed.setIfInBounds i true).getD j false = (if j = i then true else listed.getD j false) := fun j => by
        by_cases hji : j = i
        · subst hji; simp [hi]
        · rw [if_neg hji, getD_set_ne false (Ne.symm hji)]
      have hdeps : ∀ x ∈ o.after, listed.getD x.on false = true := fun x hx => by
        obtain ⟨_, o', ho', hall⟩ := mem_ready.1 hr
        rw [ho] at ho'; cases ho'
        exact hall x hx (haf x hx).1
      have hact : ActOk nt ⟨depsE q o e, ds⟩ a := ⟨hk.ok.size, fun t u ht => by
        rcases getE_app _ _ _ _ ht with hm2 | hm2
        · obtain ⟨x, hx, hqx⟩ := List.mem_filterMap.1 hm2
          exact hk.got _ _ _ (hdeps x (by simpa using hx)) hqx
        · exact hk.ok.slot t u hm2, hk.ok.ds⟩
      obtain ⟨h1, h2⟩ := quietV_sound (o := o) (f := ⟨depsE q o e, ds⟩) hv hact hw
      unfold wpOpIn
      simp only [ho]
      rw [if_pos (by simp [Region.wanted, hg])]
      have hs2 : o.semAt F.round a.eval = execOp a.eval o := Oper.semAt_eq _ _ _ (fun c hc => by simp [noDefer, hc] at hnd)
      refine ⟨fun f _ => okF_fn hF f, ?_⟩
      rw [hs2, h2 w h1]
      show wpAnyIn F n P .any ops Q (m + r) (listed.setIfInBounds i true) (a.put o.dst v) w
      refine ih _ _ ?_ (by simpa using hs) (closed_set hc hr) (fun j hj => ?_) ⟨?_, fun j d' v' hj hqj => ?_⟩
      · have e1 : ((List.range ops.size).filter fun j => (q j).isSome && !(listed.setIfInBounds i true).getD j false) = ((List.range ops.size).filter fun j => (q j).isSome && !listed.getD j false).erase i := by
          rw [List.Nodup.erase_eq_filter (List.Pairwise.filter _ List.nodup_range), List.filter_filter]
          apply List.filter_congr
          intro j _
          rw [hset j]
          by_cases hji : j = i
          · subst hji; simp
          · simp [hji]
        rw [e1, List.length_erase_of_mem, hm]
        · rfl
        · rw [List.mem_filter]
          exact ⟨by rw [List.mem_range]; omega, by rw [hq, hl]; rfl⟩
      · rw [hset j] at hj
        split at hj
        · rename_i hji; subst hji; rw [hq]; rfl
        · exact hsub j hj
      · refine ⟨?_, fun t u ht => ?_, ?_⟩
        · rw [hd]; simp [Act.put, hk.ok.size]
        · have hne : t ≠ d := by rintro rfl; rw [hnone] at ht; cases ht
          obtain ⟨g1, g2⟩ := hk.ok.slot t u ht
          refine ⟨?_, g2⟩
          rw [hd]; simp only [Act.put]
          rw [← g1]; simp [Array.getElem?_setIfInBounds_ne (Ne.symm hne)]
        · rw [hd]; simp [Act.put, hk.ok.ds]
      · rw [hset j] at hj
        by_cases hji : j = i
        · subst hji
          rw [hq] at hqj; cases hqj
          refine ⟨?_, hlt⟩
          rw [hd]; simp [Act.put, hk.ok.size, hlt]
        · rw [if_neg hji] at hj
          have hne : d' ≠ d := by rintro rfl; exact hji (hdist j i d' v' v hqj hq)
          obtain ⟨g1, g2⟩ := hk.got j d' v' hj hqj
          refine ⟨?_, g2⟩
          rw [hd]; simp only [Act.put]
          rw [← g1]; simp [Array.getElem?_setIfInBounds_ne (Ne.symm hne)]
    refine ⟨fun hnil => ?_, fun i hi => ?_⟩
    · exfalso
      -- the least one that has not come up is ready
      have key : ∀ k j, j ≤ k → (q j).isSome = true → listed.getD j false = false → False := by
        intro k
        induction k using Nat.strongRecOn with
        | _ k ihk =>
          intro j hjk hqj hlj
          obtain ⟨⟨d, v⟩, hq⟩ := Option.isSome_iff_exists.1 hqj
          obtain ⟨o, T, ho, _, _, _, _, _, haf, _⟩ := hop j d v hq
          by_cases hall : ∀ x ∈ o.after, listed.getD x.on false = true
          · have hjs : j < listed.size := by rw [hs]; exact qlt j hqj
            have : j ∈ Region.ready .any ops listed := mem_ready.2 ⟨by simpa [hjs] using hlj, o, ho, fun x hx _ => by
              have h2 := hall x hx
              have h3 : x.on < listed.size := by rw [hs]; exact qlt _ (haf x hx).2.2
              simpa [h3] using h2⟩
            rw [hnil] at this; cases this
          · obtain ⟨x, hx⟩ := Classical.not_forall.1 hall
            obtain ⟨hx1, hx2⟩ := Classical.not_imp.1 hx
            exact ihk x.on (by have := (haf x hx1).2.1; omega) x.on (Nat.le_refl _) (haf x hx1).2.2 (by simpa using hx2)
      exact key j0 j0 (Nat.le_refl _) hj0.2.1 hj0.2.2
    · cases hqi : q i with
      | none =>
        have := hloud listed hc hsub i hi hqi j0 hj0.2.1
        rw [hj0.2.2] at this; cases this
      | some x =>
        obtain ⟨d, v⟩ := x
        refine good i d v hqi ?_ hi
        have h1 := (mem_ready.1 hi).1
        exact getD_false h1

theorem Run.drawnY {P : Program} {nt : Nat} {ops : Array Oper} {Q : Exit → Fr → AH → Prop} {e : Env} {ds : List Deferred} {A : AH} {id : Nat} (q : Nat → Option (Nat × Value)) (y z l m : Nat) (L : Array Bool) {dy dz : Nat} {fo : Operand} {aa : Array Operand} {tt : Array TypeId} {opz : Op} {ty tz : TypeId} {ps pz : String} {afy afz : Array Edge} {vs : List Value} {R : Value → AH → Prop} (ey : Env)
    (hm : P.follows .mixedOrders = true)
    (hop : ∀ i d v, q i = some (d, v) → ∃ o T, ops[i]? = some o ∧ o.guard = none ∧ o.dst = some d ∧ noDefer o = true ∧ d < nt ∧ getE e d = none ∧ (∀ x ∈ o.after, Region.binds .any x = true ∧ x.on < i ∧ (q x.on).isSome = true) ∧ quietV P (depsE q o e) A o.op = some (v, T))
    (hdist : ∀ i j d v u, q i = some (d, v) → q j = some (d, u) → i = j)
    (hloud : ∀ listed : Array Bool, Closed ops listed → (∀ j, listed.getD j false = true → (q j).isSome = true) → ∀ i, i ∈ Region.ready .any ops listed → q i = none → ∀ j, (q j).isSome = true → listed.getD j false = true)
    (hy : ops[y]? = some { dst := some dy, op := .call { callee := .value fo, args := aa, argTypes := tt }, type := ty, pos := ps, after := afy, guard := none })
    (hz : ops[z]? = some { dst := some dz, op := opz, type := tz, pos := pz, after := afz, guard := none }) (hzd : noDefer { dst := some dz, op := opz, type := tz, pos := pz, after := afz, guard := none } = true)
    (hdy : dy < nt) (hdz : dz < nt) (hL : ∀ j, L.getD j false = (q j).isSome) (hLs : L.size = ops.size) (r1 : Region.ready .any ops L = [y]) (r2 : Region.ready .any ops (L.setIfInBounds y true) = [z]) (r3 : Region.ready .any ops ((L.setIfInBounds y true).setIfInBounds z true) = [])
    (hcount : ((List.range ops.size).filter fun j => (q j).isSome && !(Array.replicate ops.size false).getD j false).length = m) (hsz : ops.size = m + 2)
    (hey : ∀ t v, getE ey t = some v → getE e t = some v ∨ ∃ j, q j = some (t, v))
    (hf : opd ey fo = some (.func (.yield l) #[] #[])) (ha : allV (opd ey) aa.toList = some vs) (hc : YieldA P l vs.toArray A R)
    (h : ∀ v A', R v A' → ∃ u T, quietV P ((dy, v) :: e) A' opz = some (u, T) ∧ Q .normal ⟨(dz, u) :: (dy, v) :: e, ds⟩ A') :
    Run P nt (.region id ops true) Q ⟨e, ds⟩ A := by
  intro a w hact hw
  obtain ⟨v1, s1⟩ := view_drawn hw
  refine wpIn_wide.1 (wpIn_region_any (F := Fence.wide) (n := 0) hm ?_)
  generalize ({ w with drawn := w.drawn + 1 } : World) = W at v1 s1 ⊢
  rw [hsz]
  have hrep : ∀ j, (Array.replicate ops.size false).getD j false = false := fun j => by
    rcases Nat.lt_or_ge j ops.size with g | g
    · simp [g]
    · simp [g]
  have start := phaseIn (P := P) (n := 0) okF_wide v1 q hop hdist hloud 2 (Q := PostQ nt Q A w) (ds := ds) ?_ m (Array.replicate ops.size false) a hcount (by simp) (fun j o _ hj => by rw [hrep j] at hj; cases hj) (fun j hj => by rw [hrep j] at hj; cases hj) ⟨hact, fun j d v hj => by rw [hrep j] at hj; cases hj⟩
  · rw [hsz] at start; exact start
  intro listed a1 hls hlq hk
  have hlL : listed = L := by
    apply Array.ext (by rw [hls, hLs])
    intro j h1 h2
    have g1 := hlq j
    have g2 := hL j
    simp only [Array.getD_eq_getD_getElem?, Array.getElem?_eq_getElem h1, Array.getElem?_eq_getElem h2, Option.getD_some] at g1 g2
    rw [g1, g2]
  subst hlL
  have hacty : ActOk nt ⟨ey, ds⟩ a1 := ⟨hk.ok.size, fun t v ht => by
    rcases hey t v ht with g | ⟨j, g⟩
    · exact hk.ok.slot t v g
    · exact hk.got j t v (by rw [hlq j, g]; rfl) g, hk.ok.ds⟩
  refine ⟨fun g => (by rw [r1] at g; cases g), fun i hi => ?_⟩
  rw [r1] at hi
  obtain rfl := List.mem_singleton.1 hi
  unfold wpOpIn
  simp only [hy]
  rw [if_pos (by simp [Region.wanted])]
  refine ⟨fun _ _ => trivial, ?_⟩
  have hev : ∀ x v, opd ey x = some v → a1.eval x = v := fun x v g => opd_eval hacty g
  have hargs : aa.map a1.eval = vs.toArray := by apply Array.ext'; simp [all_eval hev _ _ ha]
  obtain ⟨fn, tmps, assign, body, hyy, hr⟩ := hc _ v1
  have hx : (execOp a1.eval { dst := some dy, op := .call { callee := .value fo, args := aa, argTypes := tt }, type := ty, pos := ps, after := afy, guard := none }).run P W = .ok (.round l fn tmps assign body) W := by
    simp [execOp, resolve, hev _ _ hf, hargs, Deferred.ofValue, invoke, hyy]
  rw [show Fence.wide.round = none from rfl, Oper.semAt_none, hx]
  refine ⟨fun g => (by cases g), RoundIn.mono hr ?_⟩
  rintro en w' ⟨A', v, rfl, hv, hst, hR⟩
  obtain ⟨u, T, hu, hQ⟩ := h v A' hR
  show wpAnyIn Fence.wide 0 P .any ops (PostQ nt Q A w) 1 (listed.setIfInBounds i true) (a1.put (some dy) v) w'
  refine ⟨fun g => (by rw [r2] at g; cases g), fun k hk2 => ?_⟩
  rw [r2] at hk2
  obtain rfl := List.mem_singleton.1 hk2
  have hact2 : ActOk nt ⟨(dy, v) :: e, ds⟩ (a1.put (some dy) v) := hk.ok.put (some dy) v (fun t g => by cases g; exact hdy)
  obtain ⟨h1, h2⟩ := quietV_sound (o := { dst := some dz, op := opz, type := tz, pos := pz, after := afz, guard := none }) (f := ⟨(dy, v) :: e, ds⟩) hu hact2 hv
  unfold wpOpIn
  simp only [hz]
  rw [if_pos (by simp [Region.wanted])]
  refine ⟨fun _ _ => trivial, ?_⟩
  rw [show Fence.wide.round = none from rfl, Oper.semAt_none, h2 w' h1]
  show wpAnyIn Fence.wide 0 P .any ops (PostQ nt Q A w) 0 ((listed.setIfInBounds i true).setIfInBounds k true) ((a1.put (some dy) v).put (some dz) u) w'
  exact ⟨r3, _, A', hact2.put (some dz) u (fun t g => by cases g; exact hdz), hv, s1.trans hst, hQ, fun _ g => by cases g⟩
end V
end Go.Proofs.YtaccklloepfemaaDoor

namespace Go.Proofs.YtaccklloepfemaaDoor
open Go Go.RowKit V
set_option maxRecDepth 100000
set_option linter.unusedVariables false
set_option linter.unusedSimpArgs false


theorem s_rotations (w : List UInt8) (A : AH) : RetA Tryd.prog 48 #[str (w)] A (fun v A1 => ∃ b1, v = .func (.func 65) #[] #[.pointer (some ⟨b1, 0, none⟩)] ∧ A.le A1 ∧ A1.wf ∧ A1.get b1 = some (.row true [str w] 1)) := by
 refine enterA (e := [(0, str (w))]) (args := [str (w)]) Tryd.call48 Tryd.func48 rfl Tryd.results48 Tryd.ntmps48 rfl rfl rfl (fun wf => ?_)
 have le_ := AH.le.refl A
 refine Run.seq fun K1 h2 => .region <| .l rfl (fun _ _ hk3 _ => wbox wf rfl rfl fun A5 b4 nb6 => ?_)
 have le7 := le_.trans nb6.le
 refine hk3 _ _ <| .q rfl (qassign rfl) <| .nil <| h2 _ _ <| .seq fun K8 h9 => .region <| .q rfl (qfunc rfl rfl) <| .q rfl (qassign rfl) <| .nil <| h9 _ _ ?_
 refine Run.ret ?_
 repeat first | with_reducible refine thenQ_ret ?_ | with_reducible refine blockQ_ret ?_
 exact retQ rfl (⟨_, rfl, le7, nb6.wf, nb6.get⟩)

def rq (w : List UInt8) (l b1 i : Nat) : Nat → Option (Nat × Value)
  | 0 => some (9, .func (.yield l) #[] #[])
  | 1 => some (10, str w)
  | 2 => some (11, num ((i : Nat) : Int))
  | 3 => some (12, str (w.take i))
  | 4 => some (13, str w)
  | 5 => some (14, num ((i : Nat) : Int))
  | 6 => some (15, str (w.drop i))
  | 7 => some (16, str w)
  | 8 => some (17, num ((i : Nat) : Int))
  | 9 => some (18, str (w.take i))
  | 10 => some (19, str (w.drop i ++ w.take i))
  | _ => none
theorem rq_dst {w : List UInt8} {l b1 i j d : Nat} {v : Value} (h : rq w l b1 i j = some (d, v)) : d = j + 9 ∧ j ≤ 10 := by
  rcases j with _ | _ | _ | _ | _ | _ | _ | _ | _ | _ | _ | j <;> first | (cases h; exact ⟨rfl, by decide⟩) | cases h
theorem s_rot1 (w : List UInt8) (b1 l : Nat) (J : Nat → AH → Prop) (B : AH) (hw : w.length ≤ 1000000) (hJb : ∀ i C, J i C → ∃ rw cap, C.get b1 = some (.row rw [str w] cap)) (wfB : B.wf) (h0 : J 0 B)
    (hy : ∀ i C, i < w.length → C.wf → J i C → YieldA Tryd.prog l #[str (w.take i), str (w.drop i ++ w.take i)] C (fun v C' => v = .bool true ∧ J (i + 1) C' ∧ C'.wf)) : RetA Tryd.prog 65 #[.func (.yield l) #[] #[], .pointer (some ⟨b1, 0, none⟩)] B (fun _ C => J w.length C ∧ C.wf) := by
  refine enterA (e := [(0, .func (.yield l) #[] #[]), (1, .pointer (some ⟨b1, 0, none⟩))]) (args := [.func (.yield l) #[] #[], .pointer (some ⟨b1, 0, none⟩)]) Tryd.call65 Tryd.func65 rfl Tryd.results65 Tryd.ntmps65 rfl rfl rfl (fun wf => ?_)
  obtain ⟨rw0, cap0, hb0⟩ := hJb 0 B h0
  refine Run.seq fun K1 k2 => ?_
  refine Run.region ?_
  refine Ops.q rfl (qloadAt ag9 rfl rfl hb0 rfl) ?_
  refine Ops.q rfl (qslen u9 rfl) ?_
  refine Ops.q rfl (qmove rfl) ?_
  refine Ops.nil ?_
  refine k2 _ _ ?_
  refine Run.block ?_
  refine Run.loop (X := Nat) (fun k => [(0, .func (.yield l) #[] #[]), (1, .pointer (some ⟨b1, 0, none⟩)), (5, num ((w.length : Nat) : Int)), (6, num ((k : Nat) : Int))]) (fun k C => k ≤ w.length ∧ C.wf ∧ J k C) (fun k => w.length - k) 0 (EnvLe.cons rfl <| EnvLe.cons rfl <| EnvLe.cons rfl <| EnvLe.cons rfl <| EnvLe.nil _) ⟨Nat.zero_le _, wfB, h0⟩ ?_
  rintro k C ⟨hk, wfC, hJ⟩
  refine Run.seq fun K3 k4 => ?_
  refine Run.region ?_
  refine Ops.q rfl (qlssN rfl rfl) ?_
  refine Ops.nil ?_
  refine k4 _ _ ?_
  refine Run.seq fun K5 k6 => ?_
  refine Run.if rfl (fun p1 => ?_) (fun p1 => ?_)
  · refine Run.skip ?_
    refine k6 _ _ ?_
    refine Run.seq fun K7 k8 => ?_
    refine Run.block ?_
    refine Run.seq fun K9 k10 => ?_
    refine Run.region ?_
    refine Ops.q rfl (qmove rfl) ?_
    refine Ops.q rfl (qassign rfl) ?_
    refine Ops.nil ?_
    refine k10 _ _ ?_
    refine Run.seq fun K11 k12 => ?_
    obtain ⟨rw1, cap1, hb1⟩ := hJb k C hJ
    refine Run.forget (e := [(0, .func (.yield l) #[] #[]), (1, .pointer (some ⟨b1, 0, none⟩)), (5, num ((w.length : Nat) : Int)), (6, num ((k : Nat) : Int)), (3, num ((k : Nat) : Int))]) (EnvLe.cons rfl <| EnvLe.cons rfl <| EnvLe.cons rfl <| EnvLe.cons rfl <| EnvLe.cons rfl <| EnvLe.nil _) ?_
    refine Run.drawnY (rq w l b1 k) 11 12 l 11 #[true, true, true, true, true, true, true, true, true, true, true, false, false] [(9, .func (.yield l) #[] #[]), (12, str (w.take k)), (19, str (w.drop k ++ w.take k))] mixed ?_ ?_ ?_ rfl rfl rfl (by decide) (by decide) ?_ rfl (by kernel_rfl) (by kernel_rfl) (by kernel_rfl) rfl rfl ?_ rfl rfl (hy k C p1 wfC hJ) ?_
    · intro i d v h
      have dep : ∀ (o : Oper), (∀ x ∈ o.after.toList, Region.binds .any x = true ∧ x.on < i ∧ (rq w l b1 k x.on).isSome = true) → (∀ x ∈ o.after, Region.binds .any x = true ∧ x.on < i ∧ (rq w l b1 k x.on).isSome = true) := fun o h x hx => h x (by simpa using hx)
      rcases i with _ | _ | _ | _ | _ | _ | _ | _ | _ | _ | _ | i
      · cases h; exact ⟨_, _, rfl, rfl, rfl, rfl, by decide, rfl, dep _ (fun x hx => by cases hx), qmove rfl⟩
      · cases h; exact ⟨_, _, rfl, rfl, rfl, rfl, by decide, rfl, dep _ (fun x hx => by cases hx), qloadAt ag9 rfl rfl hb1 rfl⟩
      · cases h; exact ⟨_, _, rfl, rfl, rfl, rfl, by decide, rfl, dep _ (fun x hx => by cases hx), qmove rfl⟩
      · cases h; exact ⟨_, _, rfl, rfl, rfl, rfl, by decide, rfl, dep _ (List.forall_mem_cons.2 ⟨⟨rfl, by decide, rfl⟩, List.forall_mem_cons.2 ⟨⟨rfl, by decide, rfl⟩, fun x hx => by cases hx⟩⟩), qslHi u9 rfl rfl (by omega)⟩
      · cases h; exact ⟨_, _, rfl, rfl, rfl, rfl, by decide, rfl, dep _ (fun x hx => by cases hx), qloadAt ag9 rfl rfl hb1 rfl⟩
      · cases h; exact ⟨_, _, rfl, rfl, rfl, rfl, by decide, rfl, dep _ (fun x hx => by cases hx), qmove rfl⟩
      · cases h; exact ⟨_, _, rfl, rfl, rfl, rfl, by decide, rfl, dep _ (List.forall_mem_cons.2 ⟨⟨rfl, by decide, rfl⟩, List.forall_mem_cons.2 ⟨⟨rfl, by decide, rfl⟩, fun x hx => by cases hx⟩⟩), qslLo u9 rfl rfl (by omega)⟩
      · cases h; exact ⟨_, _, rfl, rfl, rfl, rfl, by decide, rfl, dep _ (fun x hx => by cases hx), qloadAt ag9 rfl rfl hb1 rfl⟩
      · cases h; exact ⟨_, _, rfl, rfl, rfl, rfl, by decide, rfl, dep _ (fun x hx => by cases hx), qmove rfl⟩
      · cases h; exact ⟨_, _, rfl, rfl, rfl, rfl, by decide, rfl, dep _ (List.forall_mem_cons.2 ⟨⟨rfl, by decide, rfl⟩, List.forall_mem_cons.2 ⟨⟨rfl, by decide, rfl⟩, fun x hx => by cases hx⟩⟩), qslHi u9 rfl rfl (by omega)⟩
      · cases h; exact ⟨_, _, rfl, rfl, rfl, rfl, by decide, rfl, dep _ (List.forall_mem_cons.2 ⟨⟨rfl, by decide, rfl⟩, List.forall_mem_cons.2 ⟨⟨rfl, by decide, rfl⟩, fun x hx => by cases hx⟩⟩), qsadd rfl rfl (by simp only [List.length_drop, List.length_take]; omega)⟩
      · cases h
    · intro i j d v u hi hj
      have h1 := rq_dst hi; have h2 := rq_dst hj; omega
    · intro listed hc hsub i hr hq j hj
      obtain ⟨_, o, ho, hall⟩ := mem_ready.1 hr
      rcases i with _ | _ | _ | _ | _ | _ | _ | _ | _ | _ | _ | i
      iterate 11 cases hq
      have hi : i = 0 ∨ i = 1 := by
        have := (Array.getElem?_eq_some_iff.1 ho).1
        simp at this; omega
      rcases hi with rfl | rfl
      · cases ho
        have d0 := hall ⟨0, .data⟩ (by simp) rfl
        have d3 := hall ⟨3, .data⟩ (by simp) rfl
        have d10 := hall ⟨10, .data⟩ (by simp) rfl
        have d1 := hc 3 _ rfl d3 ⟨1, .data⟩ (by simp) rfl
        have d2 := hc 3 _ rfl d3 ⟨2, .data⟩ (by simp) rfl
        have d6 := hc 10 _ rfl d10 ⟨6, .data⟩ (by simp) rfl
        have d9 := hc 10 _ rfl d10 ⟨9, .data⟩ (by simp) rfl
        have d4 := hc 6 _ rfl d6 ⟨4, .data⟩ (by simp) rfl
        have d5 := hc 6 _ rfl d6 ⟨5, .data⟩ (by simp) rfl
        have d7 := hc 9 _ rfl d9 ⟨7, .data⟩ (by simp) rfl
        have d8 := hc 9 _ rfl d9 ⟨8, .data⟩ (by simp) rfl
        rcases j with _ | _ | _ | _ | _ | _ | _ | _ | _ | _ | _ | j <;> first | assumption | cases hj
      · cases ho
        have d11 := hall ⟨11, .data⟩ (by simp) rfl
        have := hsub 11 d11
        cases this
    · intro j
      rcases j with _ | _ | _ | _ | _ | _ | _ | _ | _ | _ | _ | _ | _ | j <;> rfl
    · intro t v h
      rw [getE_cons] at h
      split at h
      · rename_i q; subst q; cases h; exact .inr ⟨0, rfl⟩
      · rw [getE_cons] at h
        split at h
        · rename_i q; subst q; cases h; exact .inr ⟨3, rfl⟩
        · rw [getE_cons] at h
          split at h
          · rename_i q; subst q; cases h; exact .inr ⟨10, rfl⟩
          · cases h
    · rintro v C2 ⟨rfl, hJ2, wf2⟩
      refine ⟨_, _, qnot rfl, ?_⟩
      refine k12 _ _ ?_
      refine Run.cond_false rfl ?_
      refine Run.skip ?_
      refine k8 _ _ ?_
      refine Run.region ?_
      refine Ops.q rfl (qaddN (b := 1) rfl rfl (by omega)) ?_
      refine Ops.q rfl (qmove rfl) ?_
      refine Ops.nil ?_
      exact ⟨k + 1, EnvLe.cons rfl <| EnvLe.cons rfl <| EnvLe.cons rfl <| EnvLe.cons rfl <| EnvLe.nil _, rfl, ⟨by omega, wf2, hJ2⟩, by omega⟩
  · refine Run.exit ?_
    repeat first | with_reducible refine thenQ_exit ?_ | with_reducible refine blockQ_same ?_ | with_reducible refine blockQ_other (by decide) ?_
    have hk2 : k = w.length := by omega
    subst hk2
    exact retQn (vs := []) rfl ⟨hJ, wfC⟩

end Go.Proofs.YtaccklloepfemaaDoor

namespace Go.Proofs.YtaccklloepfemaaDoor
set_option linter.unusedVariables false
set_option linter.unusedSimpArgs false
open Go Go.RowKit
namespace V
/-- All objects that are no rows are as they were. -/
structure Objs (A B : AH) : Prop where
  n : A.n ≤ B.n
  get : ∀ b o, A.get b = some (.obj true o) → B.get b = some (.obj true o)
section
variable {A B C : AH} {b : Nat} {v v' : Value} {size : Nat} {xs ys : List Value}
theorem Objs.refl (A : AH) : Objs A A := ⟨Nat.le_refl _, fun _ _ h => h⟩
theorem Objs.le (h : Objs A B) (le : B.le C) : Objs A C := ⟨Nat.le_trans h.n le.n, fun b o g => le.get _ _ (h.get b o g)⟩
theorem Objs.set {c : List Value} {cap : Nat} {rw : Bool} (h : Objs A B) (g : B.get b = some (.row rw c cap)) (hn : C.n = B.n) (k : ∀ b' o, b' ≠ b → B.get b' = some o → C.get b' = some o) : Objs A C :=
  ⟨by rw [hn]; exact h.n, fun b' o g' => k b' _ (by rintro rfl; rw [h.get _ _ g'] at g; cases g) (h.get _ _ g')⟩
theorem Objs.appd (h : Objs A B) (own : Own B v size xs) (ap : Appd B v size ys v' C) : Objs A C :=
  ⟨Nat.le_trans h.n ap.n, fun b o g => ap.get b _ (h.get _ _ g) fun q => by
    rcases own with ⟨rfl, _⟩ | ⟨b', n, k, r, rcap, rfl, h2, _⟩
    · cases q
    · cases q; rw [h.get _ _ g] at h2; cases h2⟩
/-- The blocks of the marks that a function has pushed. -/
def Defs (A0 A : AH) (Ds : List Nat) : Prop := Ds.Nodup ∧ ∀ D ∈ Ds, A.get D = some (.obj true (.deferred (some []))) ∧ A0.get D = none
theorem Defs.objs {A0 : AH} {Ds : List Nat} (h : Defs A0 A Ds) (ob : Objs A B) : Defs A0 B Ds := ⟨h.1, fun D hD => ⟨ob.get _ _ (h.2 D hD).1, (h.2 D hD).2⟩⟩
theorem Defs.keep {A0 : AH} {Ds : List Nat} {o : AObj} (h : Defs A0 A Ds) (k : ∀ b' o, b' ≠ b → A.get b' = some o → B.get b' = some o) (g : A.get b = some o) (hne : o ≠ .obj true (.deferred (some []))) : Defs A0 B Ds :=
  ⟨h.1, fun D hD => ⟨k D _ (by rintro rfl; rw [(h.2 _ hD).1] at g; cases g; exact hne rfl) (h.2 D hD).1, (h.2 D hD).2⟩⟩
theorem Defs.push {A0 : AH} {Ds : List Nat} {D : Nat} (h : Defs A0 A Ds) (le : A0.le A) (hD : B.get D = some (.obj true (.deferred (some [])))) (hle : ∀ b o, A.get b = some (.obj true (.deferred o)) → B.get b = some (.obj true (.deferred o))) (hn : A.get D = none) : Defs A0 B (D :: Ds) :=
  ⟨List.nodup_cons.2 ⟨fun q => (by rw [(h.2 D q).1] at hn; cases hn), h.1⟩, fun E hE => by
    rcases List.mem_cons.1 hE with rfl | hE
    · exact ⟨hD, by
        cases q : A0.get E with
        | none => rfl
        | some o => rw [le.get _ _ q] at hn; cases hn⟩
    · exact ⟨hle _ _ (h.2 E hE).1, (h.2 E hE).2⟩⟩
theorem Defs.out {A0 : AH} {Ds : List Nat} {o : AObj} (h : Defs A0 A Ds) (g : A.get b = some o) (hne : o ≠ .obj true (.deferred (some []))) : b ∉ Ds := fun q => by
  rw [(h.2 b q).1] at g; cases g; exact hne rfl
theorem Defs.leave {A0 : AH} {Ds : List Nat} (h : Defs A0 A Ds) (le : A0.le A) (hn : B.n = A.n) (hk : ∀ b o, b ∉ Ds → A.get b = some o → B.get b = some o) : A0.le B :=
  ⟨by rw [hn]; exact le.n, fun b o g => hk b o (fun q => by rw [(h.2 b q).2] at g; cases g) (le.get _ _ g)⟩
end
end V
end Go.Proofs.YtaccklloepfemaaDoor

namespace Go.Proofs.YtaccklloepfemaaDoor
set_option linter.unusedVariables false
set_option linter.unusedSimpArgs false
open Go Go.RowKit V

def mkR (i : Nat) (iv : Bool) (core cj : List UInt8) (j : Nat) : Rot := ⟨core.drop j ++ core.take j, wReduce (wInverse (core.take j) ++ wInverse cj), i, iv⟩
def addE (E : List Rot) (x : Rot) : List Rot := if E.any (fun y => decide (y.w = x.w)) then E else E ++ [x]
def addJ (i : Nat) (iv : Bool) (core cj : List UInt8) (E : List Rot) (n : Nat) : List Rot := (List.range n).foldl (fun E j => addE E (mkR i iv core cj j)) E
def wOf (r : List UInt8) (iv : Bool) : List UInt8 := if iv then wInverse r else r
theorem wOf_length (r : List UInt8) (iv : Bool) : (wOf r iv).length ≤ r.length := by
  unfold wOf; split
  · exact wInverse_length r
  · exact Nat.le_refl _
theorem wConj_length (w : List UInt8) : (wConj w).length ≤ w.length := by
  unfold wConj; split
  · have := red_length w
    simp only [conj, List.length_take]; omega
  · simp
def addV (i : Nat) (r : List UInt8) (E : List Rot) (iv : Bool) : List Rot := addJ i iv (wCore (wOf r iv)) (wConj (wOf r iv)) E (wCore (wOf r iv)).length
def addR (l : List (List UInt8)) (E : List Rot) (k : Nat) : List Rot := addV k (l.getD k []) (addV k (l.getD k []) E false) true
def allR (l : List (List UInt8)) : List Rot := (List.range l.length).foldl (addR l) []
theorem addJ_succ (i : Nat) (iv : Bool) (core cj : List UInt8) (E : List Rot) (n : Nat) : addJ i iv core cj E (n + 1) = addE (addJ i iv core cj E n) (mkR i iv core cj n) := by
  simp [addJ, List.range_succ]
theorem addE_met {E : List Rot} {x : Rot} {y : Rot} (h : y ∈ E) (e : y.w = x.w) : addE E x = E := by
  rw [addE, if_pos]; exact List.any_eq_true.2 ⟨y, h, by simp [e]⟩
theorem addE_new {E : List Rot} {x : Rot} (h : ∀ y ∈ E, y.w ≠ x.w) : addE E x = E ++ [x] := by
  rw [addE, if_neg]
  intro q
  obtain ⟨y, h1, h2⟩ := List.any_eq_true.1 q
  exact h y h1 (by simpa using h2)
theorem addE_len (E : List Rot) (x : Rot) : (addE E x).length ≤ E.length + 1 := by unfold addE; split <;> simp
theorem addJ_len (i : Nat) (iv : Bool) (core cj : List UInt8) (E : List Rot) (n : Nat) : (addJ i iv core cj E n).length ≤ E.length + n := by
  induction n with
  | zero => simp [addJ]
  | succ n ih => rw [addJ_succ]; have := addE_len (addJ i iv core cj E n) (mkR i iv core cj n); omega
def mEnt (x : Rot) (k : Nat) : MapEntry := { key := str x.w, val := .agg (rcell x).toArray, born := k }
def mes (E : List Rot) : Array MapEntry := (E.mapIdx fun k x => mEnt x k).toArray
theorem mes_push (E : List Rot) (x : Rot) : mes (E ++ [x]) = (mes E).push (mEnt x E.length) := by
  simp [mes, List.mapIdx_concat]
theorem same_str (a c : List UInt8) : Instr.sameNow .string (str a) (str c) = some (decide (a = c)) := by
  simp only [Instr.sameNow]
  congr 1
  have e : (bs a == bs c) = ((bs a).data == (bs c).data) := rfl
  rw [e, Bool.eq_iff_iff, beq_iff_eq, decide_eq_true_iff]
  constructor
  · intro h
    have : (bs a).data.toList = (bs c).data.toList := by rw [h]
    exact this
  · intro h; rw [h]
theorem find_str (t : List UInt8) : ∀ (E : List Rot) (g : Nat → Nat) (n : Nat), (∃ i y, Instr.findNow .string (str t) (E.mapIdx fun k x => mEnt x (g k)) n = some (some (i, .agg (rcell y).toArray)) ∧ y ∈ E ∧ y.w = t) ∨ (Instr.findNow .string (str t) (E.mapIdx fun k x => mEnt x (g k)) n = some none ∧ ∀ y ∈ E, y.w ≠ t) := by
  intro E
  induction E with
  | nil => intro g n; right; exact ⟨rfl, fun _ h => by cases h⟩
  | cons x E ih =>
    intro g n
    rw [List.mapIdx_cons]
    by_cases q : t = x.w
    · left
      exact ⟨n, x, by simp only [Instr.findNow, mEnt, same_str, decide_eq_true q], List.mem_cons_self, q.symm⟩
    · rcases ih (fun k => g (k + 1)) (n + 1) with ⟨i, y, h1, h2, h3⟩ | ⟨h1, h2⟩
      · left; exact ⟨i, y, by simp only [Instr.findNow, mEnt, same_str, decide_eq_false q]; exact h1, List.mem_cons_of_mem _ h2, h3⟩
      · right
        refine ⟨by simp only [Instr.findNow, mEnt, same_str, decide_eq_false q]; exact h1, fun y hy => ?_⟩
        rcases List.mem_cons.1 hy with rfl | hy
        · exact fun h => q h.symm
        · exact h2 y hy
def mobj (E : List Rot) : Obj := .map (mes E) E.length
section
variable {P : Program} {e : Env} {A : AH} {x y z : Operand} {t kt et : TypeId} {ty : TypeId} {ps : String} {af : Array Edge} {dst : Option Nat} {K : Value → AH → Prop} {Kp : List PanicEntry → AH → Prop} {g : Option (Nat × Bool)} {m : Nat} {E : List Rot} {w : List UInt8}
theorem wlookupS {zv : Value} (hx : opd e x = some (.map (some m))) (hy : opd e y = some (str w)) (hu : P.underlying t = some (.map kt et)) (hk : P.underlying kt = some .string) (hz : zeroOf P et = some zv) (hg : A.get m = some (.obj true (mobj E)))
    (h1 : ∀ r ∈ E, r.w = w → K (.tuple #[.agg (rcell r).toArray, .bool true]) A) (h2 : (∀ r ∈ E, r.w ≠ w) → K (.tuple #[zv, .bool false]) A) : opV P e A { dst := dst, op := .lookup t x y true, type := ty, pos := ps, after := af, guard := g } K Kp := by
  rcases find_str w E id 0 with ⟨i, r, g1, g2, g3⟩ | ⟨g1, g2⟩
  · exact ⟨_, _, hx, hy, kt, et, .string, zv, mes E, some (i, .agg (rcell r).toArray), hu, hk, rfl, hz, .inr ⟨m, true, E.length, rfl, hg⟩, by simpa [mes] using g1, h1 r g2 g3⟩
  · exact ⟨_, _, hx, hy, kt, et, .string, zv, mes E, none, hu, hk, rfl, hz, .inr ⟨m, true, E.length, rfl, hg⟩, by simpa [mes] using g1, h2 g2⟩
theorem wupdateS {r : Rot} {v : Value} (wf : A.wf) (hx : opd e x = some (.map (some m))) (hy : opd e y = some (str r.w)) (hz : opd e z = some v) (hv : v = .agg (rcell r).toArray) (hu : P.underlying t = some (.map kt et)) (hk : P.underlying kt = some .string) (hg : A.get m = some (.obj true (mobj E))) (hn : ∀ q ∈ E, q.w ≠ r.w)
    (h : ∀ A1, SetB A A1 m (.obj true (mobj (E ++ [r]))) → K undef A1) : opV P e A { dst := dst, op := .mapUpdate t x y z, type := ty, pos := ps, after := af, guard := g } K Kp := by
  subst hv
  rcases find_str r.w E id 0 with ⟨i, q, g1, g2, g3⟩ | ⟨g1, g2⟩
  · exact absurd g3 (hn q g2)
  · refine ⟨_, _, _, hx, hy, hz, kt, et, .string, m, mes E, E.length, none, hu, hk, rfl, rfl, hg, by simpa [mes] using g1, ?_⟩
    have := h _ (setB wf hg (.obj true (mobj (E ++ [r]))))
    simp only [mobj, mes_push, List.length_append, List.length_cons, List.length_nil] at this
    exact this
theorem wrangeM (wf : A.wf) (hx : opd e x = some (.map (some m))) (hu : P.underlying t = some (.map kt et)) (hg : A.get m = some (.obj true (mobj E)))
    (h : ∀ A1 b, NewB A A1 b (.obj true (.mapIter (some m) E.length #[] E.length)) → K (.pointer (some ⟨b, 0, none⟩)) A1) : opV P e A { dst := dst, op := .range t x, type := ty, pos := ps, after := af, guard := g } K Kp :=
  ⟨_, hx, by simp only [rangeV, hu]; exact ⟨true, mes E, E.length, hg, h _ _ (newB wf _)⟩⟩
theorem mes_mem {E : List Rot} {en : MapEntry} (h : en ∈ mes E) : ∃ k, k < E.length ∧ en = mEnt (E.getD k .zero) k := by
  simp only [mes, List.mem_toArray, List.mem_mapIdx] at h
  obtain ⟨k, hk, rfl⟩ := h
  exact ⟨k, hk, by simp [hk]⟩
theorem mes_at {E : List Rot} {k : Nat} (h : k < E.length) : mEnt (E.getD k .zero) k ∈ mes E := by
  simp only [mes, List.mem_toArray, List.mem_mapIdx]
  exact ⟨k, h, by simp [h]⟩
theorem wnextM {b : Nat} {idx : List Nat} (wf : A.wf) (hx : opd e x = some (.pointer (some ⟨b, 0, none⟩))) (hb : A.get b = some (.obj true (.mapIter (some m) E.length idx.toArray E.length))) (hg : A.get m = some (.obj true (mobj E))) (hm : m ≠ b)
    (h1 : ∀ k, k < E.length → k ∉ idx → ∀ A1, SetB A A1 b (.obj true (.mapIter (some m) E.length (idx ++ [k]).toArray E.length)) → K (.tuple #[.bool true, str (E.getD k .zero).w, .agg (rcell (E.getD k .zero)).toArray]) A1)
    (h2 : (∀ k, k < E.length → k ∈ idx) → K (.tuple #[.bool false]) A) : opV P e A { dst := dst, op := .next x false, type := ty, pos := ps, after := af, guard := g } K Kp := by
  refine ⟨_, hx, b, rfl, .inr (.inr ⟨rfl, m, E.length, idx.toArray, E.length, true, mes E, E.length, hb, hg, hm, fun x hx => ?_, ?_, fun x hx => ?_, fun hnil => ?_⟩)⟩
  · obtain ⟨k, hk, rfl⟩ := mes_mem hx; exact hk
  · right
    cases E with
    | nil => left; rfl
    | cons a E =>
      right
      intro hall
      have := Array.all_eq_true'.1 hall (mEnt a 0) (by simpa using mes_at (E := a :: E) (k := 0) (by simp))
      simp [mEnt] at this
  · simp only [V.leftOf, Array.mem_filter, Bool.not_eq_true'] at hx
    obtain ⟨hm1, hm2⟩ := hx
    obtain ⟨k, hk, rfl⟩ := mes_mem hm1
    have hki : k ∉ idx := fun q => by
      have : idx.toArray.contains k = true := by simpa using q
      rw [show (mEnt (E.getD k .zero) k).born = k from rfl, this] at hm2; cases hm2
    have := h1 k hk hki _ (setB wf hb _)
    have e1 : (idx ++ [k]).toArray = idx.toArray.push k := by simp
    rw [e1] at this
    exact this
  · refine h2 fun k hk => ?_
    apply Classical.byContradiction
    intro hki
    have : mEnt (E.getD k .zero) k ∈ V.leftOf (mes E) idx.toArray := by
      simp only [V.leftOf, Array.mem_filter, Bool.not_eq_true']
      refine ⟨mes_at hk, ?_⟩
      rw [show (mEnt (E.getD k .zero) k).born = k from rfl]
      simpa using hki
    rw [hnil] at this; simp at this
theorem wentryM {b k : Nat} {idx : List Nat} (hx : opd e x = some (.pointer (some ⟨b, 0, none⟩))) (hb : A.get b = some (.obj true (.mapIter (some m) E.length (idx ++ [k]).toArray E.length))) (hg : A.get m = some (.obj true (mobj E))) (hm : m ≠ b) (hk : k < E.length)
    (h : K (.tuple #[str (E.getD k .zero).w, .agg (rcell (E.getD k .zero)).toArray]) A) : opV P e A { dst := dst, op := .entry x, type := ty, pos := ps, after := af, guard := g } K Kp := by
  refine ⟨_, hx, b, m, E.length, (idx ++ [k]).toArray, E.length, true, mes E, mEnt (E.getD k .zero) k, rfl, hb, hg, hm, by simp [mEnt], ?_, h⟩
  rw [Array.find?_eq_some_iff_getElem]
  refine ⟨by simp [mEnt], k, by simpa [mes] using hk, by simp [mes, hk], fun j hj => ?_⟩
  simp [mes, mEnt]; omega
end

/-! ### The trie -/
/-- The nodes' maps, in blocks of the call's own. -/
def Trie (A0 A : AH) (pf : List (List UInt8)) (bl : List Nat) : Prop :=
  bl.length = pf.length ∧ bl.Nodup ∧ pf.Nodup ∧ (∀ b ∈ bl, A0.get b = none) ∧ ∀ j, j < pf.length → ∃ es clock, A.get (bl.getD j 0) = some (.obj true (.map es clock)) ∧ Ents pf (pf.getD j []) es
theorem Trie.objs {A0 A B : AH} {pf : List (List UInt8)} {bl : List Nat} (h : Trie A0 A pf bl) (ob : Objs A B) : Trie A0 B pf bl :=
  ⟨h.1, h.2.1, h.2.2.1, h.2.2.2.1, fun j hj => by obtain ⟨es, k, g1, g2⟩ := h.2.2.2.2 j hj; exact ⟨es, k, ob.get _ _ g1, g2⟩⟩
theorem getD_lt_mem {bl : List Nat} {j : Nat} (h : j < bl.length) : bl.getD j 0 ∈ bl := getD_mem h
theorem nodup_getD {α : Type} {bl : List α} {d : α} (h : bl.Nodup) {i j : Nat} (hi : i < bl.length) (hj : j < bl.length) (e : bl.getD i d = bl.getD j d) : i = j := by
  simp only [List.getD_eq_getElem?_getD, List.getElem?_eq_getElem hi, List.getElem?_eq_getElem hj, Option.getD_some] at e
  rcases Nat.lt_trichotomy i j with q | q | q
  · exact absurd e (List.pairwise_iff_getElem.1 h i j hi hj q)
  · exact q
  · exact absurd e.symm (List.pairwise_iff_getElem.1 h j i hj hi q)
theorem Ents.weak {pf : List (List UInt8)} {p q : List UInt8} {es : Array MapEntry} (h : Ents pf p es) (hq : q ∉ pf) (hp : ∀ c, p ++ [c] ≠ q) : Ents (pf ++ [q]) p es := by
  obtain ⟨l, h1, h2⟩ := h
  refine ⟨l, h1, fun c => ?_⟩
  rw [h2 c]
  by_cases hm : p ++ [c] ∈ pf
  · rw [if_pos hm, if_pos (List.mem_append_left _ hm), List.idxOf_append, if_pos hm]
  · rw [if_neg hm, if_neg]
    simp only [List.mem_append, List.mem_singleton, not_or]
    exact ⟨hm, hp c⟩
theorem Ents.push {pf : List (List UInt8)} {p : List UInt8} {c : UInt8} {es : Array MapEntry} {clock : Nat} (h : Ents pf p es) (hq : p ++ [c] ∉ pf) : Ents (pf ++ [p ++ [c]]) p (es.push { key := byt c, val := num ((pf.length : Nat) : Int), born := clock }) := by
  obtain ⟨l, h1, h2⟩ := h
  refine ⟨l ++ [(c, pf.length, clock)], by simp [h1], fun d => ?_⟩
  have hn : l.find? (fun x => x.1 == c) = none := by
    have := h2 c
    rw [if_neg hq] at this
    cases hf : l.find? (fun x => x.1 == c) with
    | none => rfl
    | some z => rw [hf] at this; cases this
  rw [List.find?_append]
  by_cases hd : d = c
  · subst hd
    have : pf.idxOf (p ++ [d]) = pf.length := List.idxOf_eq_length hq
    rw [hn, if_pos (by simp)]
    rw [List.idxOf_append, if_neg hq]; simp
  · have e := h2 d
    have hx : List.find? (fun x : UInt8 × Nat × Nat => x.1 == d) [(c, pf.length, clock)] = none := by simp; exact fun h => hd h.symm
    rw [hx, Option.or_none, e]
    have hne : p ++ [d] ≠ p ++ [c] := fun h => hd (by simpa using h)
    by_cases hm : p ++ [d] ∈ pf
    · rw [if_pos hm, if_pos (List.mem_append_left _ hm), List.idxOf_append, if_pos hm]
    · rw [if_neg hm, if_neg]
      simp only [List.mem_append, List.mem_singleton, not_or]
      exact ⟨hm, hne⟩
theorem Ents.fresh (pf : List (List UInt8)) {q : List UInt8} (h : ∀ c, q ++ [c] ∉ pf) : Ents (pf ++ [q]) q #[] := by
  refine ⟨[], rfl, fun c => ?_⟩
  rw [if_neg]
  · rfl
  · simp only [List.mem_append, List.mem_singleton, not_or]
    refine ⟨h c, fun e => ?_⟩
    have := congrArg List.length e
    simp at this
/-- A node more, and the letter that leads to it. -/
theorem Trie.grow {A0 A B : AH} {pf : List (List UInt8)} {bl : List Nat} {nd b : Nat} {c : UInt8} {es : Array MapEntry} {clock : Nat} (h : Trie A0 A pf bl) (hnd : nd < pf.length) (hq : pf.getD nd [] ++ [c] ∉ pf) (hcl : ∀ d, (pf.getD nd [] ++ [c]) ++ [d] ∉ pf)
    (hb : A.get b = some (.obj true (.map #[] 0))) (hbl : b ∉ bl) (h0 : A0.get b = none) (hes : Ents pf (pf.getD nd []) es)
    (sb : SetB A B (bl.getD nd 0) (.obj true (.map (es.push { key := byt c, val := num ((pf.length : Nat) : Int), born := clock }) (clock + 1)))) :
    Trie A0 B (pf ++ [pf.getD nd [] ++ [c]]) (bl ++ [b]) := by
  obtain ⟨h1, h2, h3, h4, h5⟩ := h
  refine ⟨by simp [h1], List.nodup_append.2 ⟨h2, by simp, fun x hx y hy => by simp at hy; rw [hy]; exact fun e => hbl (e ▸ hx)⟩, List.nodup_append.2 ⟨h3, by simp, fun x hx y hy => by simp at hy; rw [hy]; exact fun e => hq (e ▸ hx)⟩, fun x hx => ?_, fun j hj => ?_⟩
  · rcases List.mem_append.1 hx with hx | hx
    · exact h4 x hx
    · simp at hx; rw [hx]; exact h0
  · have hbn : b ≠ bl.getD nd 0 := fun e => hbl (e ▸ getD_lt_mem (by omega))
    simp only [List.length_append, List.length_cons, List.length_nil] at hj
    by_cases hlast : j = pf.length
    · subst hlast
      have e1 : (bl ++ [b]).getD pf.length 0 = b := by rw [← h1]; simp
      have e2 : (pf ++ [pf.getD nd [] ++ [c]]).getD pf.length [] = pf.getD nd [] ++ [c] := by simp
      rw [e1, e2]
      exact ⟨#[], 0, sb.keep b _ hbn hb, Ents.fresh pf hcl⟩
    · have hj2 : j < pf.length := by omega
      have e1 : (bl ++ [b]).getD j 0 = bl.getD j 0 := by
        have : j < bl.length := by omega
        simp [List.getElem?_append_left this]
      have e2 : (pf ++ [pf.getD nd [] ++ [c]]).getD j [] = pf.getD j [] := by simp [List.getElem?_append_left hj2]
      rw [e1, e2]
      by_cases hjn : j = nd
      · subst hjn
        exact ⟨_, _, sb.get, Ents.push hes hq⟩
      · obtain ⟨es', k', g1, g2⟩ := h5 j hj2
        refine ⟨es', k', sb.keep _ _ (fun e => hjn (nodup_getD h2 (by omega) (by omega) e)) g1, Ents.weak g2 hq fun d e => ?_⟩
        have e3 : pf.getD j [] = pf.getD nd [] := (List.append_inj' e rfl).1
        exact hjn (nodup_getD h3 hj2 hnd e3)
theorem wupdateB {P : Program} {e : Env} {A : AH} {x y z : Operand} {t kt et : TypeId} {ty : TypeId} {ps : String} {af : Array Edge} {dst : Option Nat} {K : Value → AH → Prop} {Kp : List PanicEntry → AH → Prop} {g : Option (Nat × Bool)} {m clock n : Nat} {es : Array MapEntry} {pf : List (List UInt8)} {p : List UInt8} {c : UInt8}
    (wf : A.wf) (hx : opd e x = some (.map (some m))) (hy : opd e y = some (byt c)) (hz : opd e z = some (num ((n : Nat) : Int))) (hu : P.underlying t = some (.map kt et)) (hk : P.underlying kt = some (.int .u8)) (hg : A.get m = some (.obj true (.map es clock))) (hE : Ents pf p es) (hq : p ++ [c] ∉ pf)
    (h : ∀ A1, SetB A A1 m (.obj true (.map (es.push { key := byt c, val := num ((n : Nat) : Int), born := clock }) (clock + 1))) → K undef A1) : opV P e A { dst := dst, op := .mapUpdate t x y z, type := ty, pos := ps, after := af, guard := g } K Kp := by
  obtain ⟨l, hl, hf⟩ := hE
  obtain ⟨r, g1, g2⟩ := find_key c l 0
  have hf := hf c
  rw [if_neg hq] at hf
  cases hfind : l.find? fun x => x.1 == c with
  | some w => rw [hfind] at hf; cases hf
  | none =>
    rw [hfind] at g2
    cases r with
    | some w => cases g2
    | none => exact ⟨_, _, _, hx, hy, hz, kt, et, .int .u8, m, es, clock, none, hu, hk, rfl, rfl, hg, by rw [hl]; exact g1, h _ (setB wf hg _)⟩

theorem two_get {m : Nat} (h : m < 2) : ([.bool false, .bool true] : List Value)[0 + m * 1]? = some (.bool (decide (m = 1))) := by
  rcases m with _ | _ | m
  · rfl
  · rfl
  · omega
theorem Lets.hide {A : AH} {m : Nat} {o : Obj} {rw : Bool} (h : Lets A) (g : A.get m = some (.obj rw o)) : Lets (A.hide [some m]) := by
  obtain ⟨r, c, h⟩ := h
  exact ⟨r, c, hide_get h (nmB (by rintro rfl; rw [h] at g; cases g) nm0)⟩
theorem Lets.hideLe {A B : AH} {m : Nat} {o : Obj} {rw : Bool} (h : Lets A) (le : A.le B) (g : B.get m = some (.obj rw o)) : Lets (B.hide [some m]) := Lets.hide (h.le le) g
theorem nodup_bound : ∀ (n : Nat) (l : List Nat), l.Nodup → (∀ x ∈ l, x < n) → l.length ≤ n
  | 0, l, _, h => by
    cases l with
    | nil => exact Nat.le_refl _
    | cons a l => exact absurd (h a List.mem_cons_self) (by omega)
  | n + 1, l, hn, h => by
    have h1 := nodup_bound n (l.erase n) (hn.erase n) (fun x hx => by
      have h2 := h x (List.mem_of_mem_erase hx)
      have h3 : x ≠ n := by rintro rfl; exact hn.not_mem_erase hx
      omega)
    by_cases hm : n ∈ l
    · rw [List.length_erase_of_mem hm] at h1; omega
    · rw [List.erase_of_not_mem hm] at h1; omega
theorem picks_perm {E : List Rot} {idx : List Nat} (hn : idx.Nodup) (hb : ∀ j ∈ idx, j < E.length) (hall : ∀ k, k < E.length → k ∈ idx) : (idx.map fun j => E.getD j .zero).Perm E := by
  have h1 : idx.Perm (List.range E.length) := by
    refine (List.perm_ext_iff_of_nodup hn List.nodup_range).2 fun a => ?_
    rw [List.mem_range]
    exact ⟨hb a, hall a⟩
  have h2 := h1.map fun j => E.getD j .zero
  have h3 : ((List.range E.length).map fun j => E.getD j .zero) = E := by
    apply List.ext_getElem (by simp)
    intro i h1 h2
    simp [h2]
  rw [h3] at h2; exact h2
theorem nodup_snoc {l : List Nat} {k : Nat} (h : l.Nodup) (hk : k ∉ l) : (l ++ [k]).Nodup := List.nodup_append.2 ⟨h, by simp, fun x hx y hy => by simp at hy; rw [hy]; exact fun e => hk (e ▸ hx)⟩
/-- What is so of the words that are met. -/
def okR (x : Rot) : Prop := x.w.length ≤ 200 ∧ isw x.w = true ∧ isw x.c = true ∧ x.c.length ≤ 1000
/-- The paths and the bests of a trie, word by word, letter by letter. -/
def tstep (x : List UInt8) (i : Nat) (t : List (List UInt8) × List Int) (k : Nat) : List (List UInt8) × List Int :=
  let q := x.take (k + 1)
  let t1 := if q ∈ t.1 then t else (t.1 ++ [q], t.2 ++ [-1])
  if x.length < 2 * (k + 1) ∧ t1.2.getD (t1.1.idxOf q) 0 < 0 then (t1.1, t1.2.set (t1.1.idxOf q) ((i : Nat) : Int)) else t1
def tword (L : List Rot) (t : List (List UInt8) × List Int) (i : Nat) : List (List UInt8) × List Int := (List.range (L.getD i .zero).w.length).foldl (tstep (L.getD i .zero).w i) t
def tall (L : List Rot) : List (List UInt8) × List Int := (List.range L.length).foldl (tword L) ([[]], [-1])
end Go.Proofs.YtaccklloepfemaaDoor

namespace Go.Proofs.YtaccklloepfemaaDoor
set_option linter.unusedVariables false
set_option linter.unusedSimpArgs false
open Go Go.RowKit Go.Sort
namespace V
section
variable {A : AH} {w : World} {α : Type} [Inhabited α]

theorem putCells_get (enc : α → Value) (d : Array α) (c : Array Value) (i : Nat) (hd : d.size ≤ c.size) : (putCells enc 0 d c)[i]? = if i < d.size then some (enc d[i]!) else c[i]? := by
  simp only [putCells, Array.getElem?_mapIdx]
  by_cases h : i < d.size
  · have : i < c.size := by omega
    simp [h, this]
  · rw [if_neg h]
    cases c[i]? with
    | none => rfl
    | some x => simp [h]

theorem view_sorted (enc : α → Value) {b cap : Nat} {r : List Value} (d : Array α) (n : Nat) (os : Array Obj) (h : View A w) (g : A.get b = some (.row true r cap)) (hd : d.size ≤ r.length) :
    View ((A.set b (.row true (d.toList.map enc ++ r.drop d.size) cap)).grow (A.n + os.size)) (Sort.grow (putRow enc (Sort.ahead w n) b 0 d) os) ∧
    Step A w ((A.set b (.row true (d.toList.map enc ++ r.drop d.size) cap)).grow (A.n + os.size)) (Sort.grow (putRow enc (Sort.ahead w n) b 0 d) os) := by
  obtain ⟨cs, e, fr, h1, h0, h2, h3, h4⟩ := h.fits b _ g
  have hb : b < w.heap.size := (Array.getElem?_eq_some_iff.1 h1).1
  have hsz : (Sort.grow (putRow enc (Sort.ahead w n) b 0 d) os).heap.size = w.heap.size + os.size := by simp [Sort.grow, putRow, mapBlock, Sort.ahead]
  have old : ∀ k, k < w.heap.size → k ≠ b → (Sort.grow (putRow enc (Sort.ahead w n) b 0 d) os).heap[k]? = w.heap[k]? := fun k hk hne => by
    simp only [Sort.grow, putRow, mapBlock, Sort.ahead]
    rw [Array.getElem?_append_left (by simpa using hk), Array.getElem?_modify, if_neg (Ne.symm hne)]
  have new : (Sort.grow (putRow enc (Sort.ahead w n) b 0 d) os).heap[b]? = some (.cells (putCells enc 0 d cs) e fr) := by
    simp only [Sort.grow, putRow, mapBlock, Sort.ahead]
    rw [Array.getElem?_append_left (by simpa using hb), Array.getElem?_modify, if_pos rfl, h1]
    rfl
  refine ⟨⟨by rw [hsz, h.size]; rfl, fun k o hk => ?_⟩, ⟨rfl, rfl, ⟨rfl, Nat.le_add_right _ _⟩, by rw [hsz]; omega, fun k hk hr => ?_, fun k hk => ?_⟩⟩
  · simp only [AH.grow_get, AH.set_get] at hk
    split at hk
    · rename_i q; subst q; cases hk
      have hps : (putCells enc 0 d cs).size = cs.size := by simp [putCells]
      refine ⟨_, _, _, new, by simp; omega, by rw [hps]; exact h2, fun i hi => ?_, h4⟩
      rw [putCells_get enc d cs i (by omega)]
      simp only [List.length_append, List.length_map, Array.length_toList, List.length_drop] at hi
      by_cases q : i < d.size
      · rw [if_pos q, List.getElem?_append_left (by simpa using q)]
        simp [q]
      · rw [if_neg q, List.getElem?_append_right (by simp; omega), h3 i (by omega), List.getElem?_drop]
        congr 1; simp; omega
    · rename_i q
      have := h.wf k o hk
      rw [old k (by rw [h.size]; exact this) q]
      exact h.fits k o hk
  · have : k ≠ b := by rintro rfl; simp [AH.rw, g, AObj.rw] at hr
    exact old k hk this
  · left
    simp only [AH.rw, AH.grow_get, AH.set_get] at hk ⊢
    split at hk
    · rename_i o ho
      split at ho
      · rename_i e; subst e; simp [g, AObj.rw]
      · simp [ho, hk]
    · cases hk

def AObj.freeze : AObj → AObj
  | .row _ c cap => .row false c cap
  | .obj _ o => .obj false o
/-- The view of a world in which a sort stands: all but its row, and nothing may be written. -/
def AH.frozen (A : AH) (b n : Nat) : AH := ⟨n, fun k => if k = b then none else (A.get k).map AObj.freeze⟩
theorem frozen_view {b n : Nat} {W : World} (h : View A w) (hn : W.heap.size = n) (hle : w.heap.size ≤ n) (hk : ∀ k, k < w.heap.size → k ≠ b → W.heap[k]? = w.heap[k]?) : View (A.frozen b n) W := by
  refine ⟨hn, fun k o ho => ?_⟩
  simp only [AH.frozen] at ho
  split at ho
  · cases ho
  · rename_i q
    cases hg : A.get k with
    | none => rw [hg] at ho; cases ho
    | some x =>
      rw [hg] at ho; cases ho
      have hlt := h.wf k x hg
      rw [hk k (by rw [h.size]; exact hlt) q]
      have := h.fits k x hg
      cases x with
      | row rw c cap =>
        obtain ⟨cs, e, fr, h1, h0, h2, h3, h4⟩ := this
        exact ⟨cs, e, fr, h1, h0, h2, h3, fun q => by cases q⟩
      | obj rw o => exact this
theorem frozen_rw {b n k : Nat} : (A.frozen b n).rw k = false := by
  unfold AH.rw AH.frozen
  simp only
  split
  · rename_i o ho
    split at ho
    · cases ho
    · cases hg : A.get k with
      | none => rw [hg] at ho; cases ho
      | some x => rw [hg] at ho; cases ho; cases x <;> rfl
  · rfl
theorem step_grow {A1 : AH} {W w' : World} {b n : Nat} (h : Step (A.frozen b n) W A1 w') : ∃ q os', w' = Sort.grow (W.drewN q) os' := by
  refine ⟨w'.drawn - W.drawn, w'.heap.extract W.heap.size w'.heap.size, ?_⟩
  have hh : w'.heap = W.heap ++ w'.heap.extract W.heap.size w'.heap.size := by
    apply Array.ext_getElem?
    intro k
    by_cases hk : k < W.heap.size
    · rw [Array.getElem?_append_left hk]; exact h.kept k hk frozen_rw
    · rw [Array.getElem?_append_right (by omega), Array.getElem?_extract]
      have := h.size
      by_cases q : k < w'.heap.size
      · rw [if_pos (by omega)]; congr 1; omega
      · rw [if_neg (by omega)]; exact Array.getElem?_eq_none (by omega)
  have ho := h.output.1; have hd := h.output.2; have hos := h.os; have ht := h.tape
  cases w' with | mk heap tape drawn os output =>
  cases W with | mk heap0 tape0 drawn0 os0 output0 =>
  simp only at ho hd hos ht hh
  subst ho; subst hos; subst ht
  simp only [Sort.grow, World.drewN]
  rw [show drawn0 + (drawn - drawn0) = drawn by omega]
  congr 1

theorem flat_eq (enc : α → List Value) (k : Nat) (hk : ∀ x, (enc x).length = k) (d : List α) : (flatK enc k d.toArray).toList = d.flatMap enc := by
  apply List.ext_getElem?
  intro t
  by_cases h : t < d.length * k
  · have k0 : 0 < k := by rcases Nat.eq_zero_or_pos k with q | q; · subst q; simp at h
                          · exact q
    have hq : t / k < d.length := Nat.div_lt_of_lt_mul (by rw [Nat.mul_comm]; exact h)
    have e1 : (flatK enc k d.toArray).toList[t]? = some ((enc d.toArray[t / k]!)[t % k]!) := by
      have := get_flatK enc k d.toArray t (by simpa using h)
      rw [Array.getElem?_toList, ← this]
      simp [h]
    rw [e1]
    have key : ∀ (d : List α) (t : Nat), t / k < d.length → (d.flatMap enc)[t]? = some ((enc d[t / k]!)[t % k]!) := by
      intro d
      induction d with
      | nil => intro t h; simp at h
      | cons a d ih =>
        intro t ht
        rw [List.flatMap_cons]
        by_cases q : t < k
        · rw [List.getElem?_append_left (by rw [hk]; exact q), Nat.div_eq_of_lt q, Nat.mod_eq_of_lt q]
          have : t < (enc a).length := by rw [hk]; exact q
          simp [this]
        · rw [List.getElem?_append_right (by rw [hk]; omega), hk]
          have h1 : t / k = (t - k) / k + 1 := by rw [Nat.div_eq_sub_div k0 (by omega)]
          have h2 : t % k = (t - k) % k := Nat.mod_eq_sub_mod (by omega)
          rw [ih (t - k) (by simp only [List.length_cons] at ht; omega), h1, h2]
          simp
    rw [key d t hq]
    simp
  · rw [List.getElem?_eq_none (by simp; omega), List.getElem?_eq_none]
    rw [List.length_flatMap]
    have : (d.map fun x => (enc x).length).sum = d.length * k := by
      clear h
      induction d with
      | nil => simp
      | cons a d ih => simp only [List.map_cons, List.sum_cons, List.length_cons, hk a, ih, Nat.add_mul]; omega
    omega

/-- slices.SortFunc of structs. -/
theorem sortFunc_ret {P : Program} {ρ : Go.Shelf.Ren} (L : SlLaysF0.n6 P ρ) (k : Nat) (k0 : 0 < k) (aE : ∀ w, (isAgg (ρ.t 24)).run P w = .ok true w) (zE : ∀ w, (Go.sizeOf (ρ.t 24)).run P w = .ok k w) (enc : α → List Value) (hk : ∀ x, (enc x).length = k) (h1 : ∀ x, ∀ v ∈ enc x, v.oneCell' = true)
    (cf : α → α → Int) (hO : SWO (ltOf cf)) (g : Nat) (cb : Array Value) (e6 : Enters P (ρ.f 6)) (eg : Enters P g) {v : Value} {d : List α} {A0 : AH} (hsz : d.length < 4611686018427387904) (wf0 : A0.wf) (le : A0.le A) (own : Fresh A0 A v k (d.flatMap enc))
    (hcmp : ∀ n, A.n ≤ n → ∀ b, blk v = some b → ∀ x y : α, RetA P g (#[.agg (enc x).toArray, .agg (enc y).toArray] ++ cb) (A.frozen b n) fun u _ => u = .int .i64 (cf x y)) :
    RetA P (ρ.f 6) #[v, .func (.func g) #[] cb] A fun u A1 => u = .tuple #[] ∧ A0.le A1 ∧ A1.wf ∧ (∀ b o, A.get b = some o → blk v ≠ some b → A1.get b = some o) ∧ ∃ d' : List α, d'.Perm d ∧ d'.Pairwise (fun x y => ¬ cf y x < 0) ∧ Fresh A0 A1 v k (d'.flatMap enc) := by
  have hfl : ∀ d : List α, (d.flatMap enc).length = d.length * k := fun d => by
    rw [← flat_eq enc k hk]; simp
  have nilcase : ∀ (p : Option Addr) (c : Nat), v = .slice p 0 c → d = [] → RetA P (ρ.f 6) #[v, .func (.func g) #[] cb] A fun u A1 => u = .tuple #[] ∧ A0.le A1 ∧ A1.wf ∧ (∀ b o, A.get b = some o → blk v ≠ some b → A1.get b = some o) ∧ ∃ d' : List α, d'.Perm d ∧ d'.Pairwise (fun x y => ¬ cf y x < 0) ∧ Fresh A0 A1 v k (d'.flatMap enc) := by
    rintro p c rfl rfl
    refine ⟨e6, fun w hw => (AnyF.slices_SortFunc_none L p c _ w).mono ?_⟩
    rintro e w' ⟨rfl, rfl⟩
    exact ⟨A, hw, .refl _ _, _, rfl, rfl, le, hw.wf, fun _ _ h _ => h, [], .refl _, List.Pairwise.nil, own⟩
  rcases own.own with ⟨rfl, hx⟩ | ⟨b, n, c, r, rcap, rfl, g2, g3, g4, g5, g6⟩
  · have : d = [] := List.length_eq_zero_iff.1 (by
      have := hfl d; rw [hx] at this
      rcases Nat.mul_eq_zero.1 this.symm with q | q
      · exact q
      · omega)
    exact nilcase none 0 rfl this
  · have hn : n = d.length := Nat.eq_of_mul_eq_mul_right k0 (g3.symm.trans (hfl d))
    subst hn
    have hrl : d.length * k ≤ r.length := by rw [← g4, List.length_take] at g3; omega
    refine ⟨e6, fun w hw => ?_⟩
    obtain ⟨cs, el, fr, q1, q0, q2, q3, q4⟩ := hw.fits b _ g2
    have hb : b < w.heap.size := (Array.getElem?_eq_some_iff.1 q1).1
    have hfe : (flatK enc k d.toArray).toList = r.take (d.length * k) := by rw [flat_eq enc k hk, g4]
    have hH : HoldsK enc k w b 0 d.toArray := fun j hj => by
      simp only [size_flatK, List.size_toArray] at hj
      have hjr : j < r.length := by omega
      have hjc : j < cs.size := by omega
      have e1 : (flatK enc k d.toArray)[j]! = r[j] := by
        have : (flatK enc k d.toArray).toList[j]? = (r.take (d.length * k))[j]? := by rw [hfe]
        have hlt : j < (flatK enc k d.toArray).size := by rw [size_flatK]; simpa using hj
        rw [List.getElem?_take_of_lt hj, List.getElem?_eq_getElem hjr, Array.getElem?_toList, Array.getElem?_eq_getElem hlt] at this
        rw [getElem!_pos (flatK enc k d.toArray) j hlt]; exact Option.some.inj this
      have e2 := q3 j hjr
      rw [List.getElem?_eq_getElem hjr] at e2
      refine ⟨?_, ?_⟩
      · simp only [World.cell?, q1, Nat.zero_add, id]; rw [e1]; exact e2
      · have := q4 rfl j (by omega)
        simp only [World.frozen?, q1, Nat.zero_add]
        obtain ⟨f1, f2⟩ := fr
        simp only at this ⊢
        simp only [Bool.and_eq_false_iff, decide_eq_false_iff_not]; omega
    have hc : CmpLays P g cb enc k cf b 0 d.toArray.size w := fun m os dk hdk x y => by
      have hs : (sortWorldK enc k w b 0 m dk os).heap.size = w.heap.size + os.size := by simp [sortWorldK, Sort.grow, putRowK, putRow, mapBlock, Sort.ahead]
      have hv : View (A.frozen b (w.heap.size + os.size)) (sortWorldK enc k w b 0 m dk os) := frozen_view hw hs (by omega) fun j hj hne => by
        simp only [sortWorldK, Sort.grow, putRowK, putRow, mapBlock, Sort.ahead]
        rw [Array.getElem?_append_left (by simpa using hj), Array.getElem?_modify, if_neg (Ne.symm hne)]
      refine ((hcmp (w.heap.size + os.size) (by rw [hw.size]; omega) b rfl x y).2 _ hv).mono ?_
      rintro e w' ⟨A1, _, hst, u, rfl, rfl⟩
      exact ⟨rfl, step_grow hst⟩
    have key := AnyQ.slices_SortFunc L k aE zE enc hk h1 cf hO g cb b 0 c d.toArray w eg hc hH hb (by simpa using hsz)
    simp only [List.size_toArray] at key
    refine key.mono ?_
    rintro e w' ⟨rfl, d', m, os, hp, hs, rfl⟩
    have hds : d'.size = d.length := by simpa using hp.1
    obtain ⟨v1, s1⟩ := view_sorted (α := Value) id (flatK enc k d') m os hw g2 (by rw [size_flatK, hds]; exact hrl)
    refine ⟨_, v1, s1, _, rfl, rfl, ?_, v1.wf, fun j o hj hne => ?_, d'.toList, ?_, ?_, ?_⟩
    · exact ⟨Nat.le_trans le.n (Nat.le_add_right _ _), fun j o hj => by
        rw [AH.grow_get, AH.set_get_ne _ _ (by rintro rfl; rw [own.lo j rfl] at hj; cases hj)]; exact le.get j o hj⟩
    · rw [AH.grow_get, AH.set_get_ne _ _ (by rintro rfl; exact hne rfl)]; exact hj
    · have := hp.2.2
      have e1 : d'.extract 0 d.length = d' := by rw [← hds]; simp
      have e2 : d.toArray.extract 0 d.length = d.toArray := by
        simp
      rw [e1, e2] at this
      exact this
    · rw [List.pairwise_iff_getElem]
      intro i j hi hj hij
      have := hs i j (Nat.zero_le _) hij (by simpa [hds] using hj)
      simp only [ltOf, decide_eq_false_iff_not] at this
      simp only [Array.length_toList] at hi hj
      simpa [hi, hj] using this
    · have e3 : (flatK enc k d').toList = d'.toList.flatMap enc := by
        have := flat_eq enc k hk d'.toList; simpa using this
      refine ⟨.inr ⟨b, d.length, c, _, rcap, rfl, by rw [AH.grow_get]; exact AH.set_get_same _ _ _, ?_, ?_, g5, g6⟩, own.lo⟩
      · rw [hfl, Array.length_toList, hds]
      · rw [List.map_id_fun, id, List.take_left' (by rw [Array.length_toList, size_flatK, hds])]
        exact e3

/-- slices.Sort of strings. -/
theorem sort_ret {P : Program} {ρ : Go.Shelf.Ren} (L : Lays.n190 P ρ) (e190 : Enters P (ρ.f 190)) {v : Value} {d : List (List UInt8)} {A0 : AH} (hsz : d.length < 4611686018427387904) (le : A0.le A) (own : Fresh A0 A v 1 (strs d)) :
    RetA P (ρ.f 190) #[v] A fun u A1 => u = .tuple #[] ∧ A0.le A1 ∧ A1.wf ∧ Fresh A0 A1 v 1 (strs (d.mergeSort fun x y => decide (x ≤ y))) ∧ (∀ b o, A.get b = some o → blk v ≠ some b → A1.get b = some o) := by
  rcases own.own with ⟨rfl, hx⟩ | ⟨b, n, c, r, rcap, rfl, g2, g3, g4, g5, g6⟩
  · have : d = [] := List.length_eq_zero_iff.1 (by have := strs_length d; rw [hx] at this; simpa using this.symm)
    subst this
    refine ⟨e190, fun w hw => (Any.slices_Sort_string_none L none 0 w).mono ?_⟩
    rintro e w' ⟨rfl, rfl⟩
    exact ⟨A, hw, .refl _ _, _, rfl, rfl, le, hw.wf, by simpa using own, fun _ _ h _ => h⟩
  · have hn : n = d.length := by rw [strs_length, Nat.mul_one] at g3; exact g3.symm
    subst hn
    rw [Nat.mul_one] at g3 g4 g6
    have hrl : d.length ≤ r.length := by rw [← g4, List.length_take] at g3; omega
    refine ⟨e190, fun w hw => ?_⟩
    obtain ⟨cs, el, fr, q1, q0, q2, q3, q4⟩ := hw.fits b _ g2
    have hb : b < w.heap.size := (Array.getElem?_eq_some_iff.1 q1).1
    have hH : Holds encStr w b 0 d.toArray := fun j hj => by
      simp only [List.size_toArray] at hj
      have hjr : j < r.length := by omega
      have e2 := q3 j hjr
      have e1 : r[j]? = some (str d[j]) := by
        rw [← List.getElem?_take_of_lt hj, g4]; simp [strs, hj]
      rw [e1] at e2
      refine ⟨?_, ?_⟩
      · simp only [World.cell?, q1, Nat.zero_add]
        have : d.toArray[j]! = d[j] := by simp [hj]
        rw [this]; exact e2
      · have := q4 rfl j (by omega)
        simp only [World.frozen?, q1, Nat.zero_add]
        obtain ⟨f1, f2⟩ := fr
        simp only at this ⊢
        simp only [Bool.and_eq_false_iff, decide_eq_false_iff_not]; omega
    refine (Any.slices_Sort_string L b 0 c d w hH hb hsz).mono ?_
    rintro e w' ⟨rfl, m, os, rfl⟩
    have hlen : (d.mergeSort fun x y => decide (x ≤ y)).length = d.length := List.length_mergeSort _
    obtain ⟨v1, s1⟩ := view_sorted (α := List UInt8) encStr (d.mergeSort fun x y => decide (x ≤ y)).toArray m os hw g2 (by simpa [hlen] using hrl)
    refine ⟨_, v1, s1, _, rfl, rfl, ?_, v1.wf, ?_, fun j o hj hne => ?_⟩
    · exact ⟨Nat.le_trans le.n (Nat.le_add_right _ _), fun j o hj => by
        rw [AH.grow_get, AH.set_get_ne _ _ (by rintro rfl; rw [own.lo j rfl] at hj; cases hj)]; exact le.get j o hj⟩
    · refine ⟨.inr ⟨b, d.length, c, _, rcap, rfl, by rw [AH.grow_get]; exact AH.set_get_same _ _ _, ?_, ?_, g5, by omega⟩, own.lo⟩
      · rw [strs_length, hlen, Nat.mul_one]
      · rw [Nat.mul_one, List.take_left' (by simp [hlen])]
        simp only [strs]; rfl
    · rw [AH.grow_get, AH.set_get_ne _ _ (by rintro rfl; exact hne rfl)]; exact hj
end
end V
end Go.Proofs.YtaccklloepfemaaDoor

namespace Go.Proofs.YtaccklloepfemaaDoor
set_option linter.unusedVariables false
set_option linter.unusedSimpArgs false
open Go Go.RowKit V

theorem isw_sub {a b : List UInt8} (h : isw b = true) (hs : ∀ c ∈ a, c ∈ b) (hl : a.length ≤ b.length) : isw a = true := by
  simp only [isw, Bool.and_eq_true, decide_eq_true_eq, List.all_eq_true] at h ⊢
  exact ⟨by omega, fun c hc => h.2 c (hs c hc)⟩
theorem isw_app {a b : List UInt8} (ha : isw a = true) (hb : isw b = true) (hl : a.length + b.length ≤ 100000) : isw (a ++ b) = true := by
  simp only [isw, Bool.and_eq_true, decide_eq_true_eq, List.all_eq_true] at ha hb ⊢
  exact ⟨by simp; exact hl, fun c hc => (List.mem_append.1 hc).elim (ha.2 c) (hb.2 c)⟩
theorem okc_flip : ∀ c : UInt8, okc 8 c = true → okc 8 (c ^^^ 32) = true := all_u8 (by decide +kernel)
theorem isw_inv {a : List UInt8} (h : isw a = true) : isw (inv a) = true := by
  simp only [isw, Bool.and_eq_true, decide_eq_true_eq, List.all_eq_true] at h ⊢
  refine ⟨by rw [inv_length]; exact h.1, fun c hc => ?_⟩
  simp only [inv, List.mem_reverse, List.mem_map] at hc
  obtain ⟨d, hd, rfl⟩ := hc
  exact okc_flip d (h.2 d hd)
theorem wInverse_is (w : List UInt8) : isw (wInverse w) = true := by
  unfold wInverse; split
  · rename_i h; exact isw_inv h
  · rfl
theorem wReduce_is (w : List UInt8) : isw (wReduce w) = true := by
  unfold wReduce; split
  · rename_i h; exact isw_sub h red_sub (red_length w)
  · rfl
theorem mkR_ok {i : Nat} {iv : Bool} {core cj : List UInt8} {j : Nat} (h : isw core = true) (hl : core.length ≤ 200) (hc : cj.length ≤ 200) : okR (mkR i iv core cj j) := by
  have h1 : (core.drop j ++ core.take j).length = core.length := by simp; omega
  refine ⟨by show (core.drop j ++ core.take j).length ≤ 200; omega, isw_sub h (fun c hc => ?_) (Nat.le_of_eq h1), wReduce_is _, ?_⟩
  · rcases List.mem_append.1 hc with q | q
    · exact List.mem_of_mem_drop q
    · exact List.mem_of_mem_take q
  · have h2 := wReduce_length (wInverse (core.take j) ++ wInverse cj)
    have h3 := wInverse_length (core.take j)
    have h4 := wInverse_length cj
    rw [List.length_append] at h2
    rw [List.length_take] at h3
    show (wReduce (wInverse (core.take j) ++ wInverse cj)).length ≤ 1000
    omega
theorem addE_all {p : Rot → Prop} {E : List Rot} {x : Rot} (h : ∀ y ∈ E, p y) (hx : p x) : ∀ y ∈ addE E x, p y := by
  unfold addE; split
  · exact h
  · intro y hy
    rcases List.mem_append.1 hy with q | q
    · exact h y q
    · simp at q; rw [q]; exact hx
theorem addJ_all {p : Rot → Prop} {i : Nat} {iv : Bool} {core cj : List UInt8} {E : List Rot} (h : ∀ y ∈ E, p y) : ∀ n, (∀ j, j < n → p (mkR i iv core cj j)) → ∀ y ∈ addJ i iv core cj E n, p y
  | 0, _ => h
  | n + 1, hj => by rw [addJ_succ]; exact addE_all (addJ_all h n fun j q => hj j (by omega)) (hj n (by omega))
theorem addV_ok {i : Nat} {r : List UInt8} {E : List Rot} {iv : Bool} (h : ∀ y ∈ E, okR y) (hr : r.length ≤ 200) : ∀ y ∈ addV i r E iv, okR y := by
  have h1 := wOf_length r iv
  have h2 := wCore_length (wOf r iv)
  have h3 := wConj_length (wOf r iv)
  exact addJ_all h _ fun j _ => mkR_ok (wCore_is _) (by omega) (by omega)
theorem foldl_all {α : Type} {p : Rot → Prop} {f : List Rot → α → List Rot} (h : ∀ E a, (∀ y ∈ E, p y) → ∀ y ∈ f E a, p y) : ∀ (l : List α) (E : List Rot), (∀ y ∈ E, p y) → ∀ y ∈ l.foldl f E, p y
  | [], _, hE => hE
  | a :: l, E, hE => foldl_all h l (f E a) (h E a hE)
theorem getD_le {l : List (List UInt8)} {n : Nat} (h : ∀ r ∈ l, r.length ≤ n) (k : Nat) : (l.getD k []).length ≤ n := by
  by_cases q : k < l.length
  · exact h _ (getD_mem q)
  · rw [List.getD_eq_getElem?_getD, List.getElem?_eq_none (by omega)]; simp
theorem allR_ok {g : Int} {l : List (List UInt8)} (h : pcheck g l = 0) : ∀ x ∈ allR l, okR x := by
  have hz := pcheck_zero h
  refine foldl_all (fun E k hE => ?_) _ _ (fun _ q => by cases q)
  have hk := getD_le (fun r hr => (hz.2.2 r hr).1) k
  exact addV_ok (addV_ok hE hk) hk
end Go.Proofs.YtaccklloepfemaaDoor

namespace Go.Proofs.YtaccklloepfemaaDoor
set_option linter.unusedVariables false
set_option linter.unusedSimpArgs false
open Go Go.RowKit Go.Sort V

theorem cmpl_self : ∀ a : List UInt8, cmpl a a = 0
  | [] => rfl
  | a :: x => by rw [cmpl, if_neg (by omega), if_neg (by omega)]; exact cmpl_self x
theorem cmpl_trans : ∀ a b c : List UInt8, a.length = b.length → b.length = c.length → cmpl a b < 0 → cmpl b c < 0 → cmpl a c < 0
  | [], _, _, _, _, h, _ => by simp [cmpl] at h
  | _ :: _, [], _, h, _, _, _ => by simp at h
  | _ :: _, _ :: _, [], _, h, _, _ => by simp at h
  | a :: x, b :: y, c :: z, h1, h2, h3, h4 => by
    simp only [List.length_cons, Nat.add_right_cancel_iff] at h1 h2
    have ih := cmpl_trans x y z h1 h2
    simp only [cmpl] at h3 h4 ⊢
    split at h3
    · split at h4
      · rw [if_pos (by omega)]; omega
      · split at h4
        · omega
        · rw [if_pos (by omega)]; omega
    · split at h3
      · omega
      · split at h4
        · rw [if_pos (by omega)]; omega
        · split at h4
          · omega
          · rw [if_neg (by omega), if_neg (by omega)]; exact ih h3 h4
theorem cmpl_ntrans : ∀ a b c : List UInt8, a.length = b.length → b.length = c.length → ¬ cmpl a b < 0 → ¬ cmpl b c < 0 → ¬ cmpl a c < 0
  | [], _, _, _, _, _, _ => by simp [cmpl]
  | _ :: _, [], _, h, _, _, _ => by simp at h
  | _ :: _, _ :: _, [], _, h, _, _ => by simp at h
  | a :: x, b :: y, c :: z, h1, h2, h3, h4 => by
    simp only [List.length_cons, Nat.add_right_cancel_iff] at h1 h2
    have ih := cmpl_ntrans x y z h1 h2
    simp only [cmpl] at h3 h4 ⊢
    split at h3
    · omega
    · split at h4
      · omega
      · by_cases q : ix c < ix a
        · rw [if_neg (by omega), if_pos q]; omega
        · rw [if_neg (by omega)] at h3 h4
          rw [if_neg (by omega), if_neg q]; exact ih h3 h4
theorem cmpw_self (a : List UInt8) : cmpw a a = 0 := by rw [cmpw, if_neg (by simp)]; exact cmpl_self a
theorem cmpw_trans {a b c : List UInt8} (h1 : cmpw a b < 0) (h2 : cmpw b c < 0) : cmpw a c < 0 := by
  unfold cmpw at h1 h2 ⊢
  split at h1
  · split at h1
    · split at h2
      · split at h2
        · rw [if_pos (by omega), if_pos (by omega)]; omega
        · omega
      · rw [if_pos (by omega), if_pos (by omega)]; omega
    · omega
  · split at h2
    · split at h2
      · rw [if_pos (by omega), if_pos (by omega)]; omega
      · omega
    · rw [if_neg (by omega)]; exact cmpl_trans a b c (by omega) (by omega) h1 h2
theorem cmpw_ntrans {a b c : List UInt8} (h1 : ¬ cmpw a b < 0) (h2 : ¬ cmpw b c < 0) : ¬ cmpw a c < 0 := by
  unfold cmpw at h1 h2 ⊢
  by_cases q1 : a.length = b.length
  · rw [if_neg (by omega)] at h1
    by_cases q2 : b.length = c.length
    · rw [if_neg (by omega)] at h2
      rw [if_neg (by omega)]; exact cmpl_ntrans a b c q1 q2 h1 h2
    · rw [if_pos q2] at h2
      split at h2
      · omega
      · rw [if_pos (by omega), if_neg (by omega)]; omega
  · rw [if_pos q1] at h1
    split at h1
    · omega
    · by_cases q2 : b.length = c.length
      · rw [if_pos (by omega), if_neg (by omega)]; omega
      · rw [if_pos q2] at h2
        split at h2
        · omega
        · rw [if_pos (by omega), if_neg (by omega)]; omega
abbrev OkRot := {x : Rot // okR x}
instance : Inhabited OkRot := ⟨⟨.zero, by decide, by decide, by decide, by decide⟩⟩
def cmpR (x y : OkRot) : Int := cmpw x.1.w y.1.w
theorem cmpR_swo : SWO (ltOf cmpR) :=
  ⟨fun x => decide_eq_false (by rw [cmpR, cmpw_self]; omega), fun x y z h1 h2 => decide_eq_true (cmpw_trans (of_decide_eq_true h1) (of_decide_eq_true h2)), fun x y z h1 h2 => decide_eq_false (cmpw_ntrans (of_decide_eq_false h1) (of_decide_eq_false h2))⟩
theorem lets_frozen {A0 A : AH} {b n : Nat} (hL : Lets A0) (le : A0.le A) (hb : A0.get b = none) : Lets (A.frozen b n) := by
  obtain ⟨r, c, h⟩ := hL
  have h2 := le.get _ _ h
  have : (A.frozen b n).get 0 = some (.row false (byteCells letters) c) := by
    simp only [AH.frozen]
    rw [if_neg (by rintro rfl; rw [h] at hb; cases hb), h2]; rfl
  exact ⟨_, _, this⟩
theorem cellsOf (d : List OkRot) : (d.flatMap fun x => rcell x.1) = rcells (d.map (·.1)) := by
  simp [rcells, List.flatMap_map]
theorem attach_ok {L : List Rot} (h : ∀ x ∈ L, okR x) : ∃ d : List OkRot, d.map (·.1) = L :=
  ⟨L.pmap (fun x hx => (⟨x, hx⟩ : OkRot)) h, by simp [List.map_pmap]⟩
theorem V.Objs.hideOwn {A B C : AH} {v : Value} {size : Nat} {xs : List Value} (h : Objs A B) (own : Own B v size xs) (le : (B.hide [blk v]).le C) : Objs A C :=
  ⟨Nat.le_trans h.n le.n, fun b o g => le.get _ _ (hide_get (h.get b o g) (nmV (fun q => by
    rcases own with ⟨rfl, _⟩ | ⟨b', n, k, r, rcap, rfl, h2, _⟩
    · cases q
    · cases q; rw [h.get _ _ g] at h2; cases h2) nm0))⟩
end Go.Proofs.YtaccklloepfemaaDoor

namespace Go.Proofs.YtaccklloepfemaaDoor
set_option linter.unusedVariables false
set_option linter.unusedSimpArgs false
open Go Go.RowKit V

theorem ifl_snoc {α : Type} (q : α → Bool) (l : List α) (x : α) : ifl q (l ++ [x]) = if ifl q l < 0 then (if q x = true then ((l.length : Nat) : Int) else -1) else ifl q l := by
  unfold ifl
  rw [List.findIdx?_append]
  cases h : l.findIdx? q with
  | some i => simp; intro h; omega
  | none =>
    by_cases hx : q x = true
    · simp [List.findIdx?_cons, hx]
    · simp [List.findIdx?_cons, hx]
theorem bestOf_snoc (l : List Rot) (x : Rot) (p : List UInt8) : bestOf (l ++ [x]) p = if bestOf l p < 0 then (if p <+: x.w ∧ x.w.length < 2 * p.length then ((l.length : Nat) : Int) else -1) else bestOf l p := by
  unfold bestOf
  rw [ifl_snoc]
  have e : (((p.isPrefixOf x.w && decide (x.w.length < 2 * p.length)) = true) = (p <+: x.w ∧ x.w.length < 2 * p.length)) := by
    rw [Bool.and_eq_true, List.isPrefixOf_iff_prefix, decide_eq_true_eq]
  simp only [e]
theorem bestOf_ge (l : List Rot) (p : List UInt8) : -1 ≤ bestOf l p := (ifl_le _ _).1
theorem bestOf_nil (l : List Rot) : bestOf l [] = -1 := by
  unfold bestOf
  refine ifl_none (d := .zero) fun j hj => ?_
  simp
theorem idxOf_snoc {l : List (List UInt8)} {q : List UInt8} (h : q ∉ l) : (l ++ [q]).idxOf q = l.length := by
  rw [List.idxOf_append, if_neg h]; simp
theorem idxOf_app {l m : List (List UInt8)} {q : List UInt8} (h : q ∈ l) : (l ++ m).idxOf q = l.idxOf q := by
  rw [List.idxOf_append, if_pos h]
theorem idxOf_getD {l : List (List UInt8)} (hn : l.Nodup) {j : Nat} (hj : j < l.length) : l.idxOf (l.getD j []) = j := by
  have hm : l.getD j [] ∈ l := getD_mem hj
  exact nodup_getD (d := []) hn (idxOf_lt hm) hj (getD_idxOf hm)
theorem prefix_succ {x p : List UInt8} {k : Nat} (hk : k < x.length) : p <+: x.take (k + 1) ↔ p <+: x.take k ∨ p = x.take (k + 1) := by
  rw [← take_next hk, List.prefix_concat_iff]
  exact Or.comm

/-- The state of the trie after the words l and k letters of the word x. -/
structure TI (l : List Rot) (x : Rot) (k : Nat) (pf : List (List UInt8)) (bs : List Int) : Prop where
  len : bs.length = pf.length
  nodup : pf.Nodup
  mem : ∀ p, p ∈ pf ↔ p = [] ∨ (∃ y ∈ l, p <+: y.w) ∨ p <+: x.w.take k
  best : ∀ p ∈ pf, bs.getD (pf.idxOf p) 0 = if p <+: x.w.take k then bestOf (l ++ [x]) p else bestOf l p
theorem TI.first (x : Rot) : TI [] x 0 [[]] [-1] := by
  refine ⟨rfl, by simp, fun p => by simp, fun p hp => ?_⟩
  simp at hp; subst hp
  rw [if_pos (by simp), bestOf_nil]; rfl
theorem TI.next {l : List Rot} {x y : Rot} {pf : List (List UInt8)} {bs : List Int} (h : TI l x x.w.length pf bs) : TI (l ++ [x]) y 0 pf bs := by
  have ht := List.take_length (l := x.w)
  refine ⟨h.len, h.nodup, fun p => ?_, fun p hp => ?_⟩
  · rw [h.mem p, ht]
    simp only [List.mem_append, List.mem_singleton, List.take_zero, List.prefix_nil]
    constructor
    · rintro (q | ⟨z, hz, q⟩ | q)
      · exact .inl q
      · exact .inr (.inl ⟨z, .inl hz, q⟩)
      · exact .inr (.inl ⟨x, .inr rfl, q⟩)
    · rintro (q | ⟨z, hz | rfl, q⟩ | q)
      · exact .inl q
      · exact .inr (.inl ⟨z, hz, q⟩)
      · exact .inr (.inr q)
      · exact .inl q
  · rw [h.best p hp, ht]
    by_cases q0 : p = []
    · subst q0
      simp [bestOf_nil]
    · rw [if_neg (c := p <+: y.w.take 0) (by simpa using q0)]
      split
      · rfl
      · rename_i hq
        rw [bestOf_snoc, if_neg (c := p <+: x.w ∧ x.w.length < 2 * p.length) (fun q => hq q.1)]
        have := bestOf_ge l p
        split
        · omega
        · rfl
theorem TI.step {l : List Rot} {x : Rot} {k i : Nat} {pf : List (List UInt8)} {bs : List Int} (h : TI l x k pf bs) (hk : k < x.w.length) (hi : l.length = i) : TI l x (k + 1) (tstep x.w i (pf, bs) k).1 (tstep x.w i (pf, bs) k).2 := by
  subst hi
  -- the node
  have hq1 : ∀ p, p <+: x.w.take (k + 1) ↔ p <+: x.w.take k ∨ p = x.w.take (k + 1) := fun p => prefix_succ hk
  have hlen : (x.w.take (k + 1)).length = k + 1 := by rw [List.length_take]; omega
  have hnp : ¬ x.w.take (k + 1) <+: x.w.take k := fun q => by
    have := q.length_le
    rw [hlen, List.length_take] at this; omega
  generalize hqd : x.w.take (k + 1) = q at hq1 hlen hnp
  obtain ⟨pf1, bs1, e1, l1, n1, m1, b1⟩ : ∃ pf1 bs1, (if q ∈ pf then (pf, bs) else (pf ++ [q], bs ++ [-1])) = (pf1, bs1) ∧ bs1.length = pf1.length ∧ pf1.Nodup ∧ (∀ p, p ∈ pf1 ↔ p ∈ pf ∨ p = q) ∧ ∀ p ∈ pf1, bs1.getD (pf1.idxOf p) 0 = if p <+: x.w.take k then bestOf (l ++ [x]) p else bestOf l p := by
    by_cases hm : q ∈ pf
    · refine ⟨pf, bs, by rw [if_pos hm], h.len, h.nodup, fun p => ⟨.inl, fun r => r.elim id fun r => r ▸ hm⟩, h.best⟩
    · refine ⟨pf ++ [q], bs ++ [-1], by rw [if_neg hm], by simp [h.len], List.nodup_append.2 ⟨h.nodup, by simp, fun a ha b hb => by simp at hb; rw [hb]; exact fun r => hm (r ▸ ha)⟩, fun p => by simp, fun p hp => ?_⟩
      rcases List.mem_append.1 hp with hp | hp
      · have := idxOf_lt hp
        rw [idxOf_app hp, ← h.best p hp, List.getD_eq_getElem?_getD, List.getD_eq_getElem?_getD, List.getElem?_append_left (by rw [h.len]; exact this)]
      · simp at hp; subst hp
        rw [idxOf_snoc hm, ← h.len, if_neg hnp, bestOf_none fun y hy hp => hm ((h.mem _).2 (.inr (.inl ⟨y, hy, hp⟩)))]
        simp
  have hqm : q ∈ pf1 := (m1 q).2 (.inr rfl)
  have hbq := b1 q hqm
  rw [if_neg hnp] at hbq
  have hpx : q <+: x.w := hqd ▸ List.take_prefix _ _
  have mem2 : ∀ p, p ∈ pf1 ↔ p = [] ∨ (∃ y ∈ l, p <+: y.w) ∨ p <+: q := fun p => by
    rw [m1, h.mem, hq1]
    simp only [or_assoc]
  have et : tstep x.w l.length (pf, bs) k = if x.w.length < 2 * (k + 1) ∧ bs1.getD (pf1.idxOf q) 0 < 0 then (pf1, bs1.set (pf1.idxOf q) ((l.length : Nat) : Int)) else (pf1, bs1) := by
    simp only [tstep, hqd, e1]
  have hge := bestOf_ge l q
  rw [et]
  by_cases hc : x.w.length < 2 * (k + 1) ∧ bs1.getD (pf1.idxOf q) 0 < 0
  · rw [if_pos hc]
    have hlt := idxOf_lt hqm
    refine ⟨by simpa using l1, n1, fun p => by rw [hqd]; exact mem2 p, fun p hp => ?_⟩
    rw [hqd]
    by_cases hpq : p = q
    · subst hpq
      rw [if_pos (List.prefix_refl _), bestOf_snoc, if_pos (by omega), if_pos ⟨hpx, by omega⟩, List.getD_eq_getElem?_getD, List.getElem?_set_self (by omega)]; rfl
    · have hne : pf1.idxOf q ≠ pf1.idxOf p := fun r => hpq (by rw [← getD_idxOf hp, ← getD_idxOf hqm, r])
      rw [List.getD_eq_getElem?_getD, List.getElem?_set_ne hne, ← List.getD_eq_getElem?_getD, b1 p hp]
      have : p <+: q ↔ p <+: x.w.take k := by rw [hq1]; exact ⟨fun r => r.elim id fun r => absurd r hpq, .inl⟩
      simp only [this]
  · rw [if_neg hc]
    refine ⟨l1, n1, fun p => by rw [hqd]; exact mem2 p, fun p hp => ?_⟩
    rw [hqd]
    by_cases hpq : p = q
    · subst hpq
      rw [if_pos (List.prefix_refl _), bestOf_snoc, hbq]
      split
      · rw [if_neg fun r => hc ⟨by omega, by omega⟩]; omega
      · rfl
    · rw [b1 p hp]
      have : p <+: q ↔ p <+: x.w.take k := by rw [hq1]; exact ⟨fun r => r.elim id fun r => absurd r hpq, .inl⟩
      simp only [this]
theorem TI.word {l : List Rot} {x : Rot} {i : Nat} {t : List (List UInt8) × List Int} (h : TI l x 0 t.1 t.2) (hi : l.length = i) : ∀ k, k ≤ x.w.length → TI l x k ((List.range k).foldl (tstep x.w i) t).1 ((List.range k).foldl (tstep x.w i) t).2
  | 0, _ => h
  | k + 1, hk => by
    rw [List.range_succ, List.foldl_append]
    exact (TI.word h hi k (by omega)).step (by omega) hi
theorem TI.all {L : List Rot} (y : Rot) : ∀ i, i ≤ L.length → TI (L.take i) y 0 ((List.range i).foldl (tword L) ([[]], [-1])).1 ((List.range i).foldl (tword L) ([[]], [-1])).2
  | 0, _ => TI.first y
  | i + 1, hi => by
    rw [List.range_succ, List.foldl_append]
    have h := TI.word (x := L.getD i .zero) (i := i) (t := (List.range i).foldl (tword L) ([[]], [-1])) (TI.all _ i (by omega)) (by rw [List.length_take]; omega) _ (Nat.le_refl _)
    have e : L.take (i + 1) = L.take i ++ [L.getD i .zero] := by
      rw [List.take_add_one, List.getElem?_eq_getElem (by omega)]; simp [show i < L.length by omega]
    rw [e]
    exact h.next
theorem rs_ok {L : List Rot} {mo : Nat} (hok : ∀ x ∈ L, okR x) (hm : ∀ x ∈ L, x.w.length ≤ mo) (hs : mo ≤ 200) (hl : L.length ≤ 30000) {pf : List (List UInt8)} {bs : List Int} (e : (pf, bs) = tall L) (hr : pf.getD 0 [] = [] ∧ 0 < pf.length) : RSok ⟨L, mo, pf, bs⟩ := by
  have h := TI.all (L := L) .zero L.length (Nat.le_refl _)
  rw [show (List.range L.length).foldl (tword L) ([[]], [-1]) = (pf, bs) from e.symm, List.take_length] at h
  refine ⟨hr, h.nodup, fun p => ?_, fun j hj => ?_, hm, ⟨hs, hl⟩, fun x hx => (hok x hx).2⟩
  · rw [h.mem p]
    simp only [List.take_zero, List.prefix_nil]
    constructor
    · rintro (q | q | q)
      · exact .inl q
      · exact .inr q
      · exact .inl q
    · rintro (q | q)
      · exact .inl q
      · exact .inr (.inl q)
  · have hp : pf.getD j [] ∈ pf := getD_mem hj
    have := h.best _ hp
    rw [idxOf_getD h.nodup hj] at this
    show bs.getD j 0 = bestOf L (pf.getD j [])
    rw [this]
    split
    · rename_i hq
      have : pf.getD j [] = [] := by simpa using hq
      rw [this, bestOf_nil, bestOf_nil]
    · rfl

/-! ### What the walk needs -/
structure PC (pf : List (List UInt8)) : Prop where
  root : pf.getD 0 [] = [] ∧ 0 < pf.length
  cl : ∀ q c, q ++ [c] ∈ pf → q ∈ pf
theorem PC.first : PC [[]] := ⟨by simp, fun q c h => by simp at h⟩
theorem PC.idx0 {pf : List (List UInt8)} (h : PC pf) : pf.idxOf [] = 0 := by
  obtain ⟨h1, h2⟩ := h.root
  cases pf with
  | nil => simp at h2
  | cons a t => have : a = [] := h1; subst this; simp
theorem PC.mem0 {pf : List (List UInt8)} (h : PC pf) : [] ∈ pf := by
  obtain ⟨h1, h2⟩ := h.root
  rw [← h1]; exact getD_mem h2
theorem PC.snoc {pf : List (List UInt8)} {q : List UInt8} {c : UInt8} (h : PC pf) (hq : q ∈ pf) : PC (pf ++ [q ++ [c]]) := by
  refine ⟨⟨?_, by simp⟩, fun p d hp => ?_⟩
  · have := h.root.2
    rw [List.getD_eq_getElem?_getD, List.getElem?_append_left this, ← List.getD_eq_getElem?_getD]; exact h.root.1
  · rcases List.mem_append.1 hp with hp | hp
    · exact List.mem_append_left _ (h.cl p d hp)
    · simp only [List.mem_singleton] at hp
      have := (List.append_inj' hp rfl).1
      rw [this]; exact List.mem_append_left _ hq
theorem zip_fst {bl : List Nat} {bs : List Int} {j : Nat} (h : bl.length = bs.length) (hj : j < bl.length) : ((bl.zip bs).getD j (0, 0)).1 = bl.getD j 0 := by
  have hz : j < (bl.zip bs).length := by simp; omega
  rw [List.getD_eq_getElem?_getD, List.getElem?_eq_getElem hz, Option.getD_some, List.getElem_zip, List.getD_eq_getElem?_getD, List.getElem?_eq_getElem hj, Option.getD_some]
theorem zip_snd {bl : List Nat} {bs : List Int} {j : Nat} (h : bl.length = bs.length) (hj : j < bl.length) : ((bl.zip bs).getD j (0, 0)).2 = bs.getD j 0 := by
  have hz : j < (bl.zip bs).length := by simp; omega
  have h2 : j < bs.length := by omega
  rw [List.getD_eq_getElem?_getD, List.getElem?_eq_getElem hz, Option.getD_some, List.getElem_zip, List.getD_eq_getElem?_getD, List.getElem?_eq_getElem h2, Option.getD_some]
theorem zip_snoc {bl : List Nat} {bs : List Int} {b : Nat} {z : Int} (h : bl.length = bs.length) : bl.zip bs ++ [(b, z)] = (bl ++ [b]).zip (bs ++ [z]) := by
  rw [List.zip_append h]; rfl
theorem ncells_set {bl : List Nat} {bs : List Int} {j : Nat} {z : Int} (h : bl.length = bs.length) (hj : j < bl.length) : (ncells (bl.zip bs)).set (j * 2 + 1) (num z) = ncells (bl.zip (bs.set j z)) := by
  induction bl generalizing bs j with
  | nil => simp at hj
  | cons a bl ih =>
    cases bs with
    | nil => simp at h
    | cons y bs =>
      cases j with
      | zero => rfl
      | succ j =>
        have := ih (bs := bs) (j := j) (by simpa using h) (by simpa using hj)
        simp only [List.zip_cons_cons, List.set_cons_succ, ncells, List.flatMap_cons, ncell] at this ⊢
        rw [show (j + 1) * 2 + 1 = (j * 2 + 1) + 1 + 1 by omega]
        simp only [List.cons_append, List.nil_append, List.set_cons_succ]
        rw [this]
theorem tstep_set {x : List UInt8} {i k j : Nat} {pf pfX : List (List UInt8)} {bs bsX : List Int} (h1 : (if x.take (k + 1) ∈ pf then (pf, bs) else (pf ++ [x.take (k + 1)], bs ++ [-1])) = (pfX, bsX)) (hj : j = pfX.idxOf (x.take (k + 1))) (hc : x.length < 2 * (k + 1) ∧ bsX.getD j 0 < 0) : (pfX, bsX.set j ((i : Nat) : Int)) = tstep x i (pf, bs) k := by
  subst hj; simp only [tstep, h1]; rw [if_pos hc]
theorem tstep_not {x : List UInt8} {i k j : Nat} {pf pfX : List (List UInt8)} {bs bsX : List Int} (h1 : (if x.take (k + 1) ∈ pf then (pf, bs) else (pf ++ [x.take (k + 1)], bs ++ [-1])) = (pfX, bsX)) (hj : j = pfX.idxOf (x.take (k + 1))) (hc : ¬ (x.length < 2 * (k + 1) ∧ bsX.getD j 0 < 0)) : (pfX, bsX) = tstep x i (pf, bs) k := by
  subst hj; simp only [tstep, h1]; rw [if_neg hc]
theorem fold_snoc {t t0 : List (List UInt8) × List Int} {x : List UInt8} {i k : Nat} {u : List (List UInt8) × List Int} (h : t = (List.range k).foldl (tstep x i) t0) (e : u = tstep x i t k) : u = (List.range (k + 1)).foldl (tstep x i) t0 := by
  rw [List.range_succ, List.foldl_append, ← h]; exact e
section
variable {A0 A B : AH} {pf : List (List UInt8)} {bl : List Nat}
theorem Trie.notin (h : Trie A0 A pf bl) (wf : A.wf) {b : Nat} (hb : A.n ≤ b) : b ∉ bl := fun q => by
  obtain ⟨j, hj, rfl⟩ := List.getElem_of_mem q
  obtain ⟨es, k, g, _⟩ := h.2.2.2.2 j (by rw [← h.1]; exact hj)
  have e : bl.getD j 0 = bl[j] := by simp [hj]
  rw [e] at g
  have : bl[j] < A.n := wf _ _ g
  omega
theorem Trie.first {b : Nat} (g : A.get b = some (.obj true (.map #[] 0))) (h0 : A0.get b = none) : Trie A0 A [[]] [b] :=
  ⟨rfl, by simp, by simp, fun x hx => by simp at hx; rw [hx]; exact h0, fun j hj => by
    have : j = 0 := by simpa using hj
    subst this
    exact ⟨#[], 0, g, [], rfl, fun c => by simp⟩⟩
theorem V.Own.ne_obj {v : Value} {size : Nat} {xs : List Value} {b : Nat} {o : Obj} (own : Own A v size xs) (g : A.get b = some (.obj true o)) : blk v ≠ some b := fun q => by
  rcases own with ⟨rfl, _⟩ | ⟨b', n, k, r, rcap, rfl, h2, _⟩
  · cases q
  · cases q; rw [g] at h2; cases h2
theorem ne_rowobj {b k cap : Nat} {rw : Bool} {c : List Value} {o : Obj} (h : A.get k = some (.row rw c cap)) (g : A.get b = some (.obj true o)) : k ≠ b := by
  rintro rfl; rw [h] at g; cases g
end
section
variable {P : Program} {e : Env} {A0 A : AH} {x y : Operand} {ty tt : TypeId} {ps : String} {af : Array Edge} {dst : Option Nat} {K : Value → AH → Prop} {Kp : List PanicEntry → AH → Prop} {g : Option (Nat × Bool)}
/-- A cell of an element of a slice of the call's own is written. -/
theorem wstoreOwn {v w : Value} {size b f n k i j : Nat} {xs : List Value} (own : Fresh A0 A v size xs) (ev : v = .slice (some ⟨b, f, none⟩) n k) (hi : i < n) (hj : j < size) (wf : A.wf) (hx : opd e x = some (.pointer (some ⟨b, f + i * size + j, none⟩))) (hy : opd e y = some w) (hw : w.cells = #[w]) (hs : szOf P tt = some 1) (h1 : oneL [w] = true)
    (h : ∀ A1 (r : List Value) rc, A.get b = some (.row true r rc) → SetB A A1 b (.row true (r.set (i * size + j) w) rc) → Fresh A0 A1 v size (xs.set (i * size + j) w) → K undef A1) : opV P e A { dst := dst, op := .store tt x y, type := ty, pos := ps, after := af, guard := g } K Kp := by
  subst ev
  obtain ⟨r, rc, hg, hr, hl⟩ : ∃ r rc, A.get b = some (.row true r rc) ∧ f = 0 ∧ n * size ≤ r.length := by
    rcases own.own with ⟨q, _⟩ | ⟨b', n', k', r, rcap, q, h2, h3, h4, h5, h6⟩
    · cases q
    · cases q; exact ⟨r, rcap, h2, rfl, by rw [← h4, List.length_take] at h3; omega⟩
  subst hr
  have hlt : i * size + j + 1 ≤ r.length := by
    have : (i + 1) * size ≤ n * size := Nat.mul_le_mul_right _ hi
    rw [Nat.add_mul] at this; omega
  refine wstore (cs := [w]) (c := r) (off := i * size + j) wf hx (by simp) hy hw hs hg hlt h1 rfl fun A1 sb => ?_
  exact h A1 r rc hg sb (own.setc hg sb)
end
theorem getD_app {α : Type} {l m : List α} {j : Nat} {d : α} (h : j < l.length) : (l ++ m).getD j d = l.getD j d := by
  rw [List.getD_eq_getElem?_getD, List.getElem?_append_left h, ← List.getD_eq_getElem?_getD]
theorem Rules.make {A B W : AH} {b cap mo : Nat} {lv nv : Value} {L : List Rot} {pf : List (List UInt8)} {bs : List Int} {bl : List Nat} (hW : ∀ b o, A.get b = none → o ≠ .obj true (.deferred (some [])) → B.get b = some o → W.get b = some o)
    (g : B.get b = some (.row true [lv, nv, num ((mo : Nat) : Int)] cap)) (no : A.get b = none) (f1 : Fresh A B lv 4 (rcells L)) (f2 : Fresh A B nv 2 (ncells (bl.zip bs))) (ht : Trie A B pf bl) (hl : bs.length = pf.length) : Rules W b ⟨L, mo, pf, bs⟩ := by
  have own : ∀ {v : Value} {size : Nat} {xs : List Value}, Fresh A B v size xs → Slc W size v xs := fun {v size xs} f => by
    refine Own.slc ?_
    rcases f.own with h | ⟨b', n, k, r, rcap, rfl, h2, h3⟩
    · exact .inl h
    · exact .inr ⟨b', n, k, r, rcap, rfl, hW _ _ (f.lo b' rfl) (fun q => by cases q) h2, h3⟩
  refine ⟨true, cap, lv, nv, bl, hW _ _ no (fun q => by cases q) g, own f1, own f2, ht.1, hl, fun j hj => ?_⟩
  obtain ⟨es, k, g1, g2⟩ := ht.2.2.2.2 j hj
  exact ⟨true, es, k, hW _ _ (ht.2.2.2.1 _ (getD_lt_mem (by rw [ht.1]; exact hj))) (fun q => by cases q) g1, g2⟩
/-- The rules stand in every view that lets go only what was there before. -/
theorem Rules.leave {A B A' : AH} {b cap mo : Nat} {lv nv : Value} {L : List Rot} {pf : List (List UInt8)} {bs : List Int} {bl Ds : List Nat} (hd : Defs A B Ds) (hk : ∀ b o, b ∉ Ds → B.get b = some o → A'.get b = some o)
    (g : B.get b = some (.row true [lv, nv, num ((mo : Nat) : Int)] cap)) (no : A.get b = none) (f1 : Fresh A B lv 4 (rcells L)) (f2 : Fresh A B nv 2 (ncells (bl.zip bs))) (ht : Trie A B pf bl) (hl : bs.length = pf.length) :
    ∀ hs, (∀ b, some b ∈ hs → ∃ o, A.get b = some o) → Rules (A'.hide hs) b ⟨L, mo, pf, bs⟩ := fun hs hhs =>
  Rules.make (fun b o h0 hne h => hide_get (hk b o (hd.out h hne) h) fun q => by
    obtain ⟨o', ho⟩ := hhs b q
    rw [h0] at ho; cases ho) g no f1 f2 ht hl
theorem Rules.all {A A' : AH} {br : Nat} {S : RS} (h : ∀ hs, (∀ b, some b ∈ hs → ∃ o, A.get b = some o) → Rules (A'.hide hs) br S) : Rules A' br S :=
  (h [] fun _ q => by cases q).le (hide_le _ _)
end Go.Proofs.YtaccklloepfemaaDoor

namespace Go.Proofs
open Go.Shelf
def Tryd.sortR_ren : Go.Shelf.Ren := ⟨fun | 6 => 49 | 15 => 67 | 14 => 66 | 28 => 84 | 29 => 85 | 20 => 76 | 21 => 77 | 22 => 78 | 23 => 79 | 24 => 80 | 25 => 81 | 26 => 82 | 27 => 83 | 46 => 98 | 47 => 99 | 48 => 100 | 49 => 101 | 50 => 102 | 57 => 108 | n => n, fun | 22 => 86 | 24 => 80 | 25 => 91 | 3 => 3 | 39 => 107 | 0 => 0 | 53 => 123 | 55 => 125 | 4 => 4 | 46 => 117 | 45 => 116 | 50 => 92 | 5 => 5 | 9 => 9 | 66 => 133 | 70 => 137 | 76 => 142 | 77 => 102 | n => n, fun | n => n⟩
theorem Tryd.sortR : Go.Proofs.SlLaysF0.n6 Tryd.prog Tryd.sortR_ren := {
  mixed := by kernel_rfl
  f6 := ⟨Tryd.f49.name, by decide, Tryd.func49.trans (congrArg some (by kernel_rfl))⟩
  f14 := ⟨Tryd.f66.name, by decide, Tryd.func66.trans (congrArg some (by kernel_rfl))⟩
  f15 := Tryd.func67.trans (congrArg some (by kernel_rfl))
  f20 := ⟨Tryd.f76.name, by decide, Tryd.func76.trans (congrArg some (by kernel_rfl))⟩
  f21 := ⟨Tryd.f77.name, by decide, Tryd.func77.trans (congrArg some (by kernel_rfl))⟩
  f22 := ⟨Tryd.f78.name, by decide, Tryd.func78.trans (congrArg some (by kernel_rfl))⟩
  f23 := ⟨Tryd.f79.name, by decide, Tryd.func79.trans (congrArg some (by kernel_rfl))⟩
  f24 := ⟨Tryd.f80.name, by decide, Tryd.func80.trans (congrArg some (by kernel_rfl))⟩
  f25 := ⟨Tryd.f81.name, by decide, Tryd.func81.trans (congrArg some (by kernel_rfl))⟩
  f26 := ⟨Tryd.f82.name, by decide, Tryd.func82.trans (congrArg some (by kernel_rfl))⟩
  f27 := ⟨Tryd.f83.name, by decide, Tryd.func83.trans (congrArg some (by kernel_rfl))⟩
  f28 := Tryd.func84.trans (congrArg some (by kernel_rfl))
  f29 := Tryd.func85.trans (congrArg some (by kernel_rfl))
  f46 := ⟨Tryd.f98.name, by decide, Tryd.func98.trans (congrArg some (by kernel_rfl))⟩
  f47 := Tryd.func99.trans (congrArg some (by kernel_rfl))
  f48 := Tryd.func100.trans (congrArg some (by kernel_rfl))
  f49 := ⟨Tryd.f101.name, by decide, Tryd.func101.trans (congrArg some (by kernel_rfl))⟩
  f50 := ⟨Tryd.f102.name, by decide, Tryd.func102.trans (congrArg some (by kernel_rfl))⟩
  f57 := ⟨Tryd.f108.name, by decide, Tryd.func108.trans (congrArg some (by kernel_rfl))⟩
  t0 := Tryd.underlying0
  a0 := Tryd.isAgg0
  z0 := Tryd.sizeOf0
  v0 := Tryd.zeroValue0
  t3 := Tryd.underlying3
  a3 := Tryd.isAgg3
  z3 := Tryd.sizeOf3
  v3 := Tryd.zeroValue3
  t4 := Tryd.underlying4
  a4 := Tryd.isAgg4
  z4 := Tryd.sizeOf4
  v4 := Tryd.zeroValue4
  t5 := Tryd.underlying5
  a5 := Tryd.isAgg5
  z5 := Tryd.sizeOf5
  v5 := Tryd.zeroValue5
  t9 := Tryd.underlying9
  a9 := Tryd.isAgg9
  z9 := Tryd.sizeOf9
  v9 := Tryd.zeroValue9
  t22 := Tryd.underlying86
  a22 := Tryd.isAgg86
  z22 := Tryd.sizeOf86
  v22 := Tryd.zeroValue86
  t25 := Tryd.underlying91
  a25 := Tryd.isAgg91
  z25 := Tryd.sizeOf91
  v25 := Tryd.zeroValue91
  t39 := Tryd.underlying107
  a39 := Tryd.isAgg107
  z39 := Tryd.sizeOf107
  v39 := Tryd.zeroValue107
  t45 := Tryd.underlying116
  a45 := Tryd.isAgg116
  z45 := Tryd.sizeOf116
  v45 := Tryd.zeroValue116
  t46 := Tryd.underlying117
  a46 := Tryd.isAgg117
  z46 := Tryd.sizeOf117
  v46 := Tryd.zeroValue117
  t50 := Tryd.underlying92
  a50 := Tryd.isAgg92
  z50 := Tryd.sizeOf92
  v50 := Tryd.zeroValue92
  t53 := Tryd.underlying123
  a53 := Tryd.isAgg123
  z53 := Tryd.sizeOf123
  v53 := Tryd.zeroValue123
  t55 := Tryd.underlying125
  a55 := Tryd.isAgg125
  z55 := Tryd.sizeOf125
  v55 := Tryd.zeroValue125
  t66 := Tryd.underlying133
  a66 := Tryd.isAgg133
  z66 := Tryd.sizeOf133
  v66 := Tryd.zeroValue133
  t70 := Tryd.underlying137
  a70 := Tryd.isAgg137
  z70 := Tryd.sizeOf137
  v70 := Tryd.zeroValue137
  t76 := Tryd.underlying142
  a76 := Tryd.isAgg142
  z76 := Tryd.sizeOf142
  v76 := Tryd.zeroValue142
  t77 := Tryd.underlying102
  a77 := Tryd.isAgg102
  z77 := Tryd.sizeOf102
  v77 := Tryd.zeroValue102 }
def Tryd.sortS_ren : Go.Shelf.Ren := ⟨fun | 190 => 52 | 125 => 67 | 258 => 69 | 128 => 84 | 129 => 85 | 302 => 86 | 303 => 87 | 304 => 88 | 305 => 89 | 306 => 90 | 307 => 91 | 308 => 92 | 309 => 93 | 310 => 94 | 333 => 103 | 329 => 99 | 330 => 100 | 334 => 104 | 335 => 105 | 336 => 106 | 344 => 109 | n => n, fun | 31 => 22 | 9 => 9 | 3 => 3 | 46 => 107 | 0 => 0 | 51 => 123 | 53 => 125 | 4 => 4 | 183 => 117 | 182 => 116 | 131 => 92 | 5 => 5 | 218 => 133 | 222 => 137 | 228 => 142 | 229 => 102 | n => n, fun | n => n⟩
theorem Tryd.sortS : Go.Proofs.Lays.n190 Tryd.prog Tryd.sortS_ren := {
  mixed := by kernel_rfl
  f125 := Tryd.func67.trans (congrArg some (by kernel_rfl))
  f128 := Tryd.func84.trans (congrArg some (by kernel_rfl))
  f129 := Tryd.func85.trans (congrArg some (by kernel_rfl))
  f190 := Tryd.func52.trans (congrArg some (by kernel_rfl))
  f258 := Tryd.func69.trans (congrArg some (by kernel_rfl))
  f302 := Tryd.func86.trans (congrArg some (by kernel_rfl))
  f303 := Tryd.func87.trans (congrArg some (by kernel_rfl))
  f304 := Tryd.func88.trans (congrArg some (by kernel_rfl))
  f305 := Tryd.func89.trans (congrArg some (by kernel_rfl))
  f306 := Tryd.func90.trans (congrArg some (by kernel_rfl))
  f307 := Tryd.func91.trans (congrArg some (by kernel_rfl))
  f308 := Tryd.func92.trans (congrArg some (by kernel_rfl))
  f309 := Tryd.func93.trans (congrArg some (by kernel_rfl))
  f310 := Tryd.func94.trans (congrArg some (by kernel_rfl))
  f329 := Tryd.func99.trans (congrArg some (by kernel_rfl))
  f330 := Tryd.func100.trans (congrArg some (by kernel_rfl))
  f333 := Tryd.func103.trans (congrArg some (by kernel_rfl))
  f334 := Tryd.func104.trans (congrArg some (by kernel_rfl))
  f335 := Tryd.func105.trans (congrArg some (by kernel_rfl))
  f336 := Tryd.func106.trans (congrArg some (by kernel_rfl))
  f344 := Tryd.func109.trans (congrArg some (by kernel_rfl))
  t0 := Tryd.underlying0
  a0 := Tryd.isAgg0
  z0 := Tryd.sizeOf0
  v0 := Tryd.zeroValue0
  t3 := Tryd.underlying3
  a3 := Tryd.isAgg3
  z3 := Tryd.sizeOf3
  v3 := Tryd.zeroValue3
  t4 := Tryd.underlying4
  a4 := Tryd.isAgg4
  z4 := Tryd.sizeOf4
  v4 := Tryd.zeroValue4
  t5 := Tryd.underlying5
  a5 := Tryd.isAgg5
  z5 := Tryd.sizeOf5
  v5 := Tryd.zeroValue5
  t9 := Tryd.underlying9
  a9 := Tryd.isAgg9
  z9 := Tryd.sizeOf9
  v9 := Tryd.zeroValue9
  t31 := Tryd.underlying22
  a31 := Tryd.isAgg22
  z31 := Tryd.sizeOf22
  v31 := Tryd.zeroValue22
  t46 := Tryd.underlying107
  a46 := Tryd.isAgg107
  z46 := Tryd.sizeOf107
  v46 := Tryd.zeroValue107
  t51 := Tryd.underlying123
  a51 := Tryd.isAgg123
  z51 := Tryd.sizeOf123
  v51 := Tryd.zeroValue123
  t53 := Tryd.underlying125
  a53 := Tryd.isAgg125
  z53 := Tryd.sizeOf125
  v53 := Tryd.zeroValue125
  t131 := Tryd.underlying92
  a131 := Tryd.isAgg92
  z131 := Tryd.sizeOf92
  v131 := Tryd.zeroValue92
  t182 := Tryd.underlying116
  a182 := Tryd.isAgg116
  z182 := Tryd.sizeOf116
  v182 := Tryd.zeroValue116
  t183 := Tryd.underlying117
  a183 := Tryd.isAgg117
  z183 := Tryd.sizeOf117
  v183 := Tryd.zeroValue117
  t218 := Tryd.underlying133
  a218 := Tryd.isAgg133
  z218 := Tryd.sizeOf133
  v218 := Tryd.zeroValue133
  t222 := Tryd.underlying137
  a222 := Tryd.isAgg137
  z222 := Tryd.sizeOf137
  v222 := Tryd.zeroValue137
  t228 := Tryd.underlying142
  a228 := Tryd.isAgg142
  z228 := Tryd.sizeOf142
  v228 := Tryd.zeroValue142
  t229 := Tryd.underlying102
  a229 := Tryd.isAgg102
  z229 := Tryd.sizeOf102
  v229 := Tryd.zeroValue102 }
end Go.Proofs

namespace Go.Proofs.YtaccklloepfemaaDoor
open Go Go.RowKit V
set_option maxRecDepth 100000
set_option linter.unusedVariables false
set_option linter.unusedSimpArgs false
set_option maxHeartbeats 4000000
theorem ag75 : aggOf Tryd.prog 75 = some false := by kernel_rfl
theorem inf80 : Tryd.prog.info? 80 = some Tryd.t80 := by kernel_rfl
theorem inf84 : Tryd.prog.info? 84 = some Tryd.t84 := by kernel_rfl
theorem pl80 : structPlaces Tryd.prog 80 = some [(0, 1), (1, 1), (2, 1), (3, 1)] := by kernel_rfl
theorem pl84 : structPlaces Tryd.prog 84 = some [(0, 1), (1, 1)] := by kernel_rfl
theorem pl88 : structPlaces Tryd.prog 88 = some [(0, 1), (1, 1), (2, 1)] := by kernel_rfl
theorem sz75 : szOf Tryd.prog 75 = some 1 := by kernel_rfl
theorem u75 : type_of% @Tryd.underlying75 := @Tryd.underlying75
theorem u76 : type_of% @Tryd.underlying76 := @Tryd.underlying76
theorem u80 : type_of% @Tryd.underlying80 := @Tryd.underlying80
theorem u84 : type_of% @Tryd.underlying84 := @Tryd.underlying84
theorem u88 : type_of% @Tryd.underlying88 := @Tryd.underlying88
theorem z4 : zeroOf Tryd.prog 4 = some (.bool false) := by kernel_rfl
theorem z75 : zeroOf Tryd.prog 75 = some (.map none) := by kernel_rfl
theorem z80 : zeroOf Tryd.prog 80 = some (.agg #[.string ⟨⟨[]⟩⟩, .string ⟨⟨[]⟩⟩, .int .i64 0, .bool false]) := by kernel_rfl
theorem z84 : zeroOf Tryd.prog 84 = some (.agg #[.map none, .int .i64 0]) := by kernel_rfl
theorem z88 : zeroOf Tryd.prog 88 = some (.agg #[.slice none 0 0, .slice none 0 0, .int .i64 0]) := by kernel_rfl

theorem s_cmp1 (x y : Rot) (A : AH) (hL : Lets A) (hx : x.w.length ≤ 1000000) (hy : y.w.length ≤ 1000000) : RetA Tryd.prog 50 #[.agg #[str (x.w), str (x.c), num ((x.r : Nat) : Int), .bool (x.i)], .agg #[str (y.w), str (y.c), num ((y.r : Nat) : Int), .bool (y.i)]] A (fun v A1 => v = num (wCompare x.w y.w)) := by
 refine enterA (e := [(0, .agg #[str (x.w), str (x.c), num ((x.r : Nat) : Int), .bool (x.i)]), (1, .agg #[str (y.w), str (y.c), num ((y.r : Nat) : Int), .bool (y.i)])]) (args := [.agg #[str (x.w), str (x.c), num ((x.r : Nat) : Int), .bool (x.i)], .agg #[str (y.w), str (y.c), num ((y.r : Nat) : Int), .bool (y.i)]]) Tryd.call50 Tryd.func50 rfl Tryd.results50 Tryd.ntmps50 rfl rfl rfl (fun wf => ?_)
 have le_ := AH.le.refl A
 refine Run.seq fun K1 h2 => .region <| .l rfl (fun _ _ hk3 _ => wbox wf rfl rfl fun A5 b4 nb6 => ?_)
 have le7 := le_.trans nb6.le
 refine hk3 _ _ <| .l rfl (fun _ _ hk8 _ => wbox nb6.wf rfl rfl fun A10 b9 nb11 => ?_)
 have h12 := nb11.le.get _ _ nb6.get
 have le13 := le7.trans nb11.le
 refine hk8 _ _ <| .q rfl (qassign rfl) <| .nil <| h2 _ _ <| .seq fun K14 h15 => .region <| .q rfl (qfieldAddr fl80_0 sz9 (by decide) rfl) <| .q rfl (qloadAt ag9 rfl rfl h12 rfl) <| .q rfl (qfieldAddr fl80_0 sz9 (by decide) rfl) <| .q rfl (qloadAt ag9 rfl rfl nb11.get rfl) ?_
 refine Ops.l rfl (fun _ _ hk16 _ => vcallF rfl (s_Compare x.w y.w A10 (by first | omega | (simp only [List.length_append, List.length_drop, List.length_take, inv_length]; omega)) (by first | omega | (simp only [List.length_append, List.length_drop, List.length_take, inv_length]; omega)) (hL.le le13)) ?_)
 rintro v17 A18 ⟨rfl, leq19, wfq19⟩
 refine hk16 _ _ <| .q rfl (qassign rfl) <| .nil <| h15 _ _ <| .ret ?_
 repeat first | with_reducible refine thenQ_ret ?_ | with_reducible refine blockQ_ret ?_
 exact retQ rfl (rfl)

theorem s_sortW (L : List Rot) (lv : Value) (A0 A : AH) (le : A0.le A) (wf0 : A0.wf) (own : Fresh A0 A lv 4 (rcells L)) (hL : Lets A0) (hok : ∀ x ∈ L, okR x) (hl : L.length ≤ 30000) :
    RetA Tryd.prog 49 #[lv, .func (.func 50) #[] #[]] A (fun v A1 => ∃ L2, L2.Perm L ∧ L2.Pairwise (fun x y => ¬ cmpw y.w x.w < 0) ∧ v = .tuple #[] ∧ A0.le A1 ∧ A1.wf ∧ Fresh A0 A1 lv 4 (rcells L2)) := by
  obtain ⟨d, rfl⟩ := attach_ok hok
  rw [← cellsOf] at own
  refine (sortFunc_ret Tryd.sortR 4 (by decide) (fun w => Tryd.isAgg80 w) (fun w => Tryd.sizeOf80 w) (fun x : OkRot => rcell x.1) (fun _ => rfl) ?_ cmpR cmpR_swo 50 #[] Tryd.call49 Tryd.call50 (by rw [List.length_map] at hl; omega) wf0 le own ?_).mono ?_
  · intro x v hv
    simp only [rcell, List.mem_cons, List.not_mem_nil, or_false] at hv
    rcases hv with rfl | rfl | rfl | rfl <;> rfl
  · intro n hn b hb x y
    have hx := x.2; have hy := y.2
    refine (s_cmp1 x.1 y.1 (A.frozen b n) (lets_frozen hL le (own.lo b hb)) (by have := hx.1; omega) (by have := hy.1; omega)).mono ?_
    rintro v A1 rfl
    show _ = num _
    rw [wCompare, if_pos ⟨hx.2.1, hy.2.1⟩]; rfl
  · rintro v A1 ⟨rfl, h2, h3, _, d', h4, h5, h6⟩
    rw [cellsOf] at h6
    exact ⟨d'.map (·.1), h4.map _, (by rw [List.pairwise_map]; exact h5), rfl, h2, h3, h6⟩


theorem s_newRules (g : Int) (u : Value) (l : List (List UInt8)) (A : AH) (hL : Lets A) (hp : pcheck g l = 0) (hu : Slc A 1 u (strs l)) : RetA Tryd.prog 27 #[.agg #[num (g), u]] A (fun v A1 => ∃ br S, v = .pointer (some ⟨br, 0, none⟩) ∧ A.le A1 ∧ A1.wf ∧ (∀ hs, (∀ b, some b ∈ hs → ∃ o, A.get b = some o) → Rules (A1.hide hs) br S) ∧ RSok S ∧ S.list.Perm (allR l) ∧ S.list.Pairwise (fun x y => ¬ cmpw y.w x.w < 0)) := by
  refine enterM (e := [(0, .agg #[num (g), u])]) (args := [.agg #[num (g), u]]) Tryd.call27 Tryd.func27 rfl Tryd.results27 Tryd.ntmps27 rfl rfl rfl (fun wf => ?_)
  have le_ := AH.le.refl A
  have ob_ := Objs.refl A
  have df_ : Defs A A [] := ⟨List.Pairwise.nil, fun _ h => by cases h⟩
  have hz := pcheck_zero hp
  have hll : ∀ k, k < l.length → (l.getD k []).length ≤ 200 := fun k q => (hz.2.2 _ (getD_mem q)).1
  refine Run.seq fun K1 h2 => .region <| .l rfl (fun _ _ hk3 _ => wbox wf rfl rfl fun A5 b4 nb6 => ?_)
  have le7 := le_.trans nb6.le
  have ob8 := ob_.le nb6.le
  refine hk3 _ _ <| .q rfl (qassign rfl) <| .nil <| h2 _ _ <| .seq fun K9 h10 => .region <| .l rfl (fun _ _ hk11 _ => wmakeMap nb6.wf fun A13 b12 nb14 => ?_)
  have ge_b12 := none_of wf (Nat.le_trans le7.n nb14.lo)
  have h15 := nb14.le.get _ _ nb6.get
  have le16 := le7.trans nb14.le
  have ob17 := ob8.le nb14.le
  refine hk11 _ _ <| .l rfl (fun _ _ hk18 _ => walloc nb14.wf z75 rfl fun A20 b19 nb21 => ?_)
  have ne_b4_b19 := ne_new nb14.wf h15 nb21.lo
  have ne_b12_b19 := ne_new nb14.wf nb14.get nb21.lo
  have ge_b19 := none_of wf (Nat.le_trans le16.n nb21.lo)
  have h22 := nb21.le.get _ _ h15
  have h23 := nb21.le.get _ _ nb14.get
  have le24 := le16.trans nb21.le
  have ob25 := ob17.le nb21.le
  refine hk18 _ _ <| .l rfl (fun _ _ hk26 _ => wstore (cs := [.map (some b12)]) (c' := [.map (some b12)]) nb21.wf rfl rfl rfl rfl sz75 nb21.get (Nat.le_of_ble_eq_true rfl) rfl rfl fun A27 sb28 => ?_)
  have h29 := sb28.keep _ _ ne_b4_b19 h22
  have h30 := sb28.keep _ _ ne_b12_b19 h23
  have ob31 := ob25.set nb21.get sb28.n sb28.keep
  have le32 := le_store le24 wf ge_b19 sb28.n sb28.keep
  refine hk26 _ _ <| .nil <| h10 _ _ <| .seq fun K33 h34 => .seq fun K35 h36 => .region <| .q rfl (qfieldAddr fl24_1 sz22 (by decide) rfl) <| .q rfl (qloadAt ag22 rfl rfl h29 rfl) <| .q rfl (qlenS (n := l.length) u22 rfl (hu.le le32) (by omega) (strs_len _)) <| .q rfl (qmove rfl) ?_
  refine Ops.nil <| h36 _ _ <| .block <| .loopD (X := Nat × List Rot × List Nat) (fun ⟨k, E, Ds⟩ => [(3, .pointer (some ⟨b19, 0, none⟩)), (26, u), (27, num ((l.length : Nat) : Int)), (28, num ((k : Nat) : Int))]) (fun ⟨k, E, Ds⟩ => Ds.map V.mark) (fun ⟨k, E, Ds⟩ B => (k ≤ l.length ∧ E = (List.range k).foldl (addR l) [] ∧ E.length ≤ 400 * k) ∧ A.le B ∧ B.get b12 = some (.obj true (mobj E)) ∧ B.get b19 = some (.row true [.map (some b12)] 1) ∧ Defs A B Ds) (fun ⟨k, E, Ds⟩ => l.length - k) (⟨0, [], []⟩) (EnvLe.cons rfl <| EnvLe.cons rfl <| EnvLe.cons rfl <| EnvLe.cons rfl <| EnvLe.nil _) rfl (⟨⟨Nat.zero_le _, rfl, Nat.zero_le _⟩, le32, h30, sb28.get, (df_.objs ob31)⟩) ?_
  rintro ⟨k, E, Ds⟩ B38 ⟨⟨hk, hE, hEl⟩, le37, hr_b1237, hr_b1937, hdf37⟩
  refine Run.wf fun wf39 => ?_
  have ob40 := Objs.refl B38
  have hlk := hll k
  refine Run.seq fun K41 h42 => .region <| .q rfl (qlssN rfl rfl) <| .nil <| h42 _ _ <| .seq fun K43 h44 => .if rfl (fun p45 => ?_) (fun p45 => ?_)
  ·
    refine Run.skip <| h44 _ _ <| .seq fun K46 h47 => .block <| .seq fun K48 h49 => .region <| .q rfl (qmove rfl) ?_
    obtain ⟨b50, f50, rw50, r50, rc50, n50, k50, e50, l50, g50, cl50, cs50⟩ := Slc.at (i := k) (hu.le le37) (by simp only [strs_length]; omega) (by omega)
    refine Ops.q rfl (qindexS u22 sz9 rfl e50 rfl l50) <| .q rfl (qloadAt ag9 rfl rfl g50 ((elt0 cs50).trans (strs_get (by omega)))) <| .l rfl (fun _ _ hk51 _ => walloc wf39 z3 rfl fun A53 b52 nb54 => ?_)
    have ne_b12_b52 := ne_new wf39 hr_b1237 nb54.lo
    have ne_b19_b52 := ne_new wf39 hr_b1937 nb54.lo
    have ge_b52 := none_of wf (Nat.le_trans le37.n nb54.lo)
    have h55 := nb54.le.get _ _ hr_b1237
    have h56 := nb54.le.get _ _ hr_b1937
    have le57 := le37.trans nb54.le
    have ob58 := ob40.le nb54.le
    refine hk51 _ _ <| .l rfl (fun _ _ hk59 _ => wstore (cs := [num ((k : Nat) : Int)]) (c' := [num ((k : Nat) : Int)]) nb54.wf rfl rfl rfl rfl sz3 nb54.get (Nat.le_of_ble_eq_true rfl) rfl rfl fun A60 sb61 => ?_)
    have h62 := sb61.keep _ _ ne_b12_b52 h55
    have h63 := sb61.keep _ _ ne_b19_b52 h56
    have ob64 := ob58.set nb54.get sb61.n sb61.keep
    have le65 := le_store le57 wf ge_b52 sb61.n sb61.keep
    refine hk59 _ _ <| .q rfl (qassign rfl) <| .nil <| h49 _ _ <| .seq fun K66 h67 => .region <| .l rfl (fun _ _ hk68 _ => wbuildSlice (c := [.bool (false), .bool (true)]) sb61.wf rfl (buildSliceV_of u76 sz4 z4 rfl (by decide) (by decide) rfl) fun A70 b69 nb71 => ?_)
    have h72 := nb71.le.get _ _ h62
    have h73 := nb71.le.get _ _ h63
    have h74 := nb71.le.get _ _ sb61.get
    have le75 := le65.trans nb71.le
    have ob76 := ob64.le nb71.le
    refine hk68 _ _ <| .q rfl (qlen u76 rfl) <| .q rfl (qmove rfl) <| .nil <| h67 _ _ <| .block <| .loopD (X := Nat × List Rot × List Nat) (fun ⟨m, E2, Ds⟩ => [(3, .pointer (some ⟨b19, 0, none⟩)), (4, .pointer (some ⟨b52, 0, none⟩)), (5, str (l.getD k [])), (26, u), (27, num ((l.length : Nat) : Int)), (28, num ((k : Nat) : Int)), (33, .slice (some ⟨b69, 0, none⟩) 2 2), (34, num ((2 : Nat) : Int)), (35, num ((m : Nat) : Int))]) (fun ⟨m, E2, Ds⟩ => Ds.map V.mark) (fun ⟨m, E2, Ds⟩ B => (m ≤ 2 ∧ E2 = (List.range m).foldl (fun E j => addV k (l.getD k []) E (decide (j = 1))) E ∧ E2.length ≤ E.length + 200 * m) ∧ A.le B ∧ B.get b12 = some (.obj true (mobj E2)) ∧ B.get b19 = some (.row true [.map (some b12)] 1) ∧ B.get b52 = some (.row true [num ((k : Nat) : Int)] 1) ∧ B.get b69 = some (.row true [.bool (false), .bool (true)] 2) ∧ Defs A B Ds) (fun ⟨m, E2, Ds⟩ => 2 - m) (⟨0, E, Ds⟩) (EnvLe.cons rfl <| EnvLe.cons rfl <| EnvLe.cons rfl <| EnvLe.cons rfl <| EnvLe.cons rfl <| EnvLe.cons rfl <| EnvLe.cons rfl <| EnvLe.cons rfl <| EnvLe.cons rfl <| EnvLe.nil _) rfl (⟨⟨Nat.zero_le _, rfl, Nat.le_refl _⟩, le75, h72, h73, h74, nb71.get, (hdf37.objs ob76)⟩) ?_
    rintro ⟨m, E2, Ds⟩ B78 ⟨⟨hm, hE2, hE2l⟩, le77, hr_b1277, hr_b1977, hr_b5277, hr_b6977, hdf77⟩
    refine Run.wf fun wf79 => ?_
    have ob80 := Objs.refl B78
    have hwl := wOf_length (l.getD k []) (decide (m = 1))
    refine Run.seq fun K81 h82 => .region <| .q rfl (qlssN (b := 2) rfl rfl) <| .nil <| h82 _ _ <| .seq fun K83 h84 => .if rfl (fun p85 => ?_) (fun p85 => ?_)
    ·
      refine Run.skip <| h84 _ _ <| .seq fun K86 h87 => .block <| .seq fun K88 h89 => .region <| .q rfl (qindexS u76 sz4 rfl rfl rfl (by omega)) <| .q rfl (qloadAt ag4 rfl rfl hr_b6977 (two_get (by omega))) <| .l rfl (fun _ _ hk90 _ => walloc wf79 z4 rfl fun A92 b91 nb93 => ?_)
      have ne_b12_b91 := ne_new wf79 hr_b1277 nb93.lo
      have ne_b19_b91 := ne_new wf79 hr_b1977 nb93.lo
      have ne_b52_b91 := ne_new wf79 hr_b5277 nb93.lo
      have ne_b69_b91 := ne_new wf79 hr_b6977 nb93.lo
      have ge_b91 := none_of wf (Nat.le_trans le77.n nb93.lo)
      have h94 := nb93.le.get _ _ hr_b1277
      have h95 := nb93.le.get _ _ hr_b1977
      have h96 := nb93.le.get _ _ hr_b5277
      have h97 := nb93.le.get _ _ hr_b6977
      have le98 := le77.trans nb93.le
      have ob99 := ob80.le nb93.le
      refine hk90 _ _ <| .l rfl (fun _ _ hk100 _ => wstore (cs := [.bool (decide (m = 1))]) (c' := [.bool (decide (m = 1))]) nb93.wf rfl rfl rfl rfl sz4 nb93.get (Nat.le_of_ble_eq_true rfl) rfl rfl fun A101 sb102 => ?_)
      have h103 := sb102.keep _ _ ne_b12_b91 h94
      have h104 := sb102.keep _ _ ne_b19_b91 h95
      have h105 := sb102.keep _ _ ne_b52_b91 h96
      have h106 := sb102.keep _ _ ne_b69_b91 h97
      have ob107 := ob99.set nb93.get sb102.n sb102.keep
      have le108 := le_store le98 wf ge_b91 sb102.n sb102.keep
      refine hk100 _ _ <| .nil <| h89 _ _ <| .seq fun K109 h110 => .region <| .q rfl (qmove rfl) <| .q rfl (qassign rfl) <| .nil <| h110 _ _ <| .join (fun f A1 => EnvLe [(8, str ((wOf (l.getD k []) (decide (m = 1))))), (3, .pointer (some ⟨b19, 0, none⟩)), (4, .pointer (some ⟨b52, 0, none⟩)), (5, str (l.getD k [])), (26, u), (27, num ((l.length : Nat) : Int)), (28, num ((k : Nat) : Int)), (33, .slice (some ⟨b69, 0, none⟩) 2 2), (34, num ((2 : Nat) : Int)), (35, num ((m : Nat) : Int)), (36, .bool (decide (m < 2))), (37, .pointer (some ⟨b69, 0 + m * 1, none⟩)), (38, .bool (decide (m = 1))), (7, .pointer (some ⟨b91, 0, none⟩)), (39, str (l.getD k []))] f.e ∧ f.ds = Ds.map V.mark ∧ A101.le A1 ∧ A1.wf) ?_ ?_
      ·
        have jl113 := AH.le.refl A101
        refine Run.seq fun K114 h115 => .region <| .q rfl (qloadAt ag4 rfl rfl sb102.get rfl) <| .nil <| h115 _ _ <| .if rfl (fun p116 => ?_) (fun p116 => ?_)
        ·
          refine Run.region <| .q rfl (qmove rfl) <| .l rfl (fun _ _ hk117 _ => vcallF rfl (s_Inverse (l.getD k []) A101 (by first | omega | (have := hlk (by omega); omega) | (rw [List.length_take]; omega) | (rw [List.length_append]; omega)) (hL.le le108)) ?_)
          rintro v118 A119 ⟨rfl, leq120, wfq120⟩
          have jl128 := jl113.trans leq120
          refine hk117 _ _ <| .q rfl (qassign rfl) <| .nil ?_
          exact ⟨EnvLe.cons (congrArg some (congrArg str (show _ = wOf (l.getD k []) (decide (m = 1)) from by first | (rw [wOf, if_pos (decide_eq_true ‹m = 1›)]) | (rw [wOf, decide_eq_false ‹¬ m = 1›]; rfl)))) <| EnvLe.cons rfl <| EnvLe.cons rfl <| EnvLe.cons rfl <| EnvLe.cons rfl <| EnvLe.cons rfl <| EnvLe.cons rfl <| EnvLe.cons rfl <| EnvLe.cons rfl <| EnvLe.cons rfl <| EnvLe.cons rfl <| EnvLe.cons rfl <| EnvLe.cons rfl <| EnvLe.cons rfl <| EnvLe.cons rfl <| EnvLe.nil _, rfl, jl128, wfq120⟩
        ·
          refine Run.skip ?_
          exact ⟨EnvLe.cons (congrArg some (congrArg str (show _ = wOf (l.getD k []) (decide (m = 1)) from by first | (rw [wOf, if_pos (decide_eq_true ‹m = 1›)]) | (rw [wOf, decide_eq_false ‹¬ m = 1›]; rfl)))) <| EnvLe.cons rfl <| EnvLe.cons rfl <| EnvLe.cons rfl <| EnvLe.cons rfl <| EnvLe.cons rfl <| EnvLe.cons rfl <| EnvLe.cons rfl <| EnvLe.cons rfl <| EnvLe.cons rfl <| EnvLe.cons rfl <| EnvLe.cons rfl <| EnvLe.cons rfl <| EnvLe.cons rfl <| EnvLe.cons rfl <| EnvLe.nil _, rfl, jl113, sb102.wf⟩
      ·
        rintro ⟨fe, fd⟩ A129 ⟨hE, rfl, leq130, wfq130⟩
        refine Run.forget hE ?_
        have h131 := leq130.get _ _ h103
        have h132 := leq130.get _ _ h104
        have h133 := leq130.get _ _ h105
        have h134 := leq130.get _ _ h106
        have h135 := leq130.get _ _ sb102.get
        have le136 := le108.trans leq130
        have ob137 := ob107.le leq130
        refine Run.seq fun K138 h139 => .region <| .q rfl (qmove rfl) <| .l rfl (fun _ _ hk140 _ => vcallF rfl (s_Cyclic ((wOf (l.getD k []) (decide (m = 1)))) A129 (by first | omega | (have := hlk (by omega); omega) | (rw [List.length_take]; omega) | (rw [List.length_append]; omega)) (hL.le le136)) ?_)
        rintro v141 A142 ⟨rfl, leq143, wfq143⟩
        have h144 := leq143.get _ _ h131
        have h145 := leq143.get _ _ h132
        have h146 := leq143.get _ _ h133
        have h147 := leq143.get _ _ h134
        have h148 := leq143.get _ _ h135
        have le149 := le136.trans leq143
        have ob150 := ob137.le leq143
        refine hk140 _ _ <| .q rfl (qmove rfl) <| .q rfl (qextract rfl rfl) <| .q rfl (qextract rfl rfl) <| .l rfl (fun _ _ hk151 _ => walloc wfq143 z9 rfl fun A153 b152 nb154 => ?_)
        have ne_b12_b152 := ne_new wfq143 h144 nb154.lo
        have ne_b19_b152 := ne_new wfq143 h145 nb154.lo
        have ne_b52_b152 := ne_new wfq143 h146 nb154.lo
        have ne_b69_b152 := ne_new wfq143 h147 nb154.lo
        have ne_b91_b152 := ne_new wfq143 h148 nb154.lo
        have ge_b152 := none_of wf (Nat.le_trans le149.n nb154.lo)
        have h155 := nb154.le.get _ _ h144
        have h156 := nb154.le.get _ _ h145
        have h157 := nb154.le.get _ _ h146
        have h158 := nb154.le.get _ _ h147
        have h159 := nb154.le.get _ _ h148
        have le160 := le149.trans nb154.le
        have ob161 := ob150.le nb154.le
        refine hk151 _ _ <| .q rfl (qassign rfl) <| .l rfl (fun _ _ hk162 _ => wstore (cs := [str (wConj ((wOf (l.getD k []) (decide (m = 1)))))]) (c' := [str (wConj ((wOf (l.getD k []) (decide (m = 1)))))]) nb154.wf rfl rfl rfl rfl sz9 nb154.get (Nat.le_of_ble_eq_true rfl) rfl rfl fun A163 sb164 => ?_)
        have h165 := sb164.keep _ _ ne_b12_b152 h155
        have h166 := sb164.keep _ _ ne_b19_b152 h156
        have h167 := sb164.keep _ _ ne_b52_b152 h157
        have h168 := sb164.keep _ _ ne_b69_b152 h158
        have h169 := sb164.keep _ _ ne_b91_b152 h159
        have ob170 := ob161.set nb154.get sb164.n sb164.keep
        have le171 := le_store le160 wf ge_b152 sb164.n sb164.keep
        refine hk162 _ _ <| .nil <| h139 _ _ <| .seq fun K172 h173 => .region <| .q rfl (qmove rfl) <| .l rfl (fun _ _ hk174 _ => vcallF rfl (s_rotations (wCore ((wOf (l.getD k []) (decide (m = 1))))) A163) ?_)
        rintro v175 A176 ⟨b1q177, rfl, leq177, wfq177, hAq177⟩
        have h178 := leq177.get _ _ h165
        have h179 := leq177.get _ _ h166
        have h180 := leq177.get _ _ h167
        have h181 := leq177.get _ _ h168
        have h182 := leq177.get _ _ h169
        have h183 := leq177.get _ _ sb164.get
        have le184 := le171.trans leq177
        have ob185 := ob170.le leq177
        have hA := hAq177
        refine hk174 _ _ <| .nil <| h173 _ _ <| .block ?_
        have hx186_b19 := hide_get (bs := [some b12]) h179 (nmB (by rintro rfl; have q1 := h178; rw [h179] at q1; cases q1) nm0)
        have hx186_b52 := hide_get (bs := [some b12]) h180 (nmB (by rintro rfl; have q1 := h178; rw [h180] at q1; cases q1) nm0)
        have hx186_b69 := hide_get (bs := [some b12]) h181 (nmB (by rintro rfl; have q1 := h178; rw [h181] at q1; cases q1) nm0)
        have hx186_b91 := hide_get (bs := [some b12]) h182 (nmB (by rintro rfl; have q1 := h178; rw [h182] at q1; cases q1) nm0)
        have hx186_b152 := hide_get (bs := [some b12]) h183 (nmB (by rintro rfl; have q1 := h178; rw [h183] at q1; cases q1) nm0)
        have hx186_b1q177 := hide_get (bs := [some b12]) hAq177 (nmB (by rintro rfl; have q1 := h178; rw [hAq177] at q1; cases q1) nm0)
        have lM186 := Lets.hideLe hL le184 h178
        have lb186 := le_hide (bs := [some b12]) le184 (hoB ge_b12 ho0)
        have lt186 := wfq177 _ _ h178
        have df186 := hdf77.objs ob185
        refine Run.rangeFunc (wCore (wOf (l.getD k []) (decide (m = 1)))).length (fun j => [str ((wCore (wOf (l.getD k []) (decide (m = 1)))).take j), str ((wCore (wOf (l.getD k []) (decide (m = 1)))).drop j ++ (wCore (wOf (l.getD k []) (decide (m = 1)))).take j)]) (fun j B => (A176.hide [some b12]).le B ∧ B.get b12 = some (.obj true (mobj (addJ k (decide (m = 1)) (wCore (wOf (l.getD k []) (decide (m = 1)))) (wConj (wOf (l.getD k []) (decide (m = 1)))) E2 j)))) (fun j => [(11, str ((wCore (wOf (l.getD k []) (decide (m = 1)))).take j)), (12, str ((wCore (wOf (l.getD k []) (decide (m = 1)))).drop j ++ (wCore (wOf (l.getD k []) (decide (m = 1)))).take j)), (3, .pointer (some ⟨b19, 0, none⟩)), (4, .pointer (some ⟨b52, 0, none⟩)), (37, .pointer (some ⟨b69, 0 + m * 1, none⟩)), (7, .pointer (some ⟨b91, 0, none⟩)), (10, .pointer (some ⟨b152, 0, none⟩))]) rfl Tryd.call65 (fun _ => rfl) (by decide) ?_ ?_ ?_ ?_ ?_ ?_
        · rintro j B B2 ⟨i1, i2⟩ wf2 hn hk
          exact ⟨⟨Nat.le_trans i1.n hn, fun b o g => hk b o (hide_wf wfq177 b o g) (i1.get b o g)⟩, hk _ _ lt186 i2⟩
        · exact ⟨hide_le _ _, h178⟩
        · intro lp J B hJI _ wfB hJ0 hyd
          exact s_rot1 (wCore (wOf (l.getD k []) (decide (m = 1)))) b1q177 lp J B (by have := wCore_length (wOf (l.getD k []) (decide (m = 1))); have := wOf_length (l.getD k []) (decide (m = 1)); omega) (fun i C hj => ⟨_, _, (hJI i C hj).1.get _ _ hx186_b1q177⟩) wfB hJ0 hyd
        · intro F j B hF hj
          refine RunI.seq fun K187 h188 => .region hF (by repeat' first | with_reducible exact no_roundQ | with_reducible apply no_thenQ | with_reducible apply no_blockQ) (by kernel_rfl) <| .q rfl (qassign rfl) <| .nil <| h188 _ _ <| .region hF (by repeat' first | with_reducible exact no_roundQ | with_reducible apply no_thenQ | with_reducible apply no_blockQ) (by kernel_rfl) <| .q rfl (qassign rfl) <| .nil ?_
          exact ⟨EnvLe.cons rfl <| EnvLe.cons rfl <| EnvLe.cons rfl <| EnvLe.cons rfl <| EnvLe.cons rfl <| EnvLe.cons rfl <| EnvLe.cons rfl <| EnvLe.nil _, rfl, rfl⟩
        · rintro F j B lr dr rl rd hF hj ⟨i1, i2⟩ wfB glr gdr hlr hdr
          generalize hM : (A176.hide [some b12]) = M at i1 lb186 lM186 hx186_b19 hx186_b52 hx186_b69 hx186_b91 hx186_b152 hx186_b1q177
          have wfM : M.wf := by rw [← hM]; exact hide_wf wfq177
          have noM : M.get b12 = none := by rw [← hM]; exact hide_none (by simp)
          have ne_l0_b12 : lr ≠ b12 := by omega
          have ne_l00_b12 : dr ≠ b12 := by omega
          have hEj := addJ_len k (decide (m = 1)) (wCore (wOf (l.getD k []) (decide (m = 1)))) (wConj (wOf (l.getD k []) (decide (m = 1)))) E2 j
          have hcl := wCore_length (wOf (l.getD k []) (decide (m = 1)))
          have hwl := wOf_length (l.getD k []) (decide (m = 1))
          have hlk1 := hlk (by omega)
          have hq3 : (wConj (wOf (l.getD k []) (decide (m = 1)))).length ≤ 200 := by have := wConj_length (wOf (l.getD k []) (decide (m = 1))); omega
          have hq1 : (wInverse ((wCore (wOf (l.getD k []) (decide (m = 1)))).take j)).length ≤ 200 := by have := wInverse_length ((wCore (wOf (l.getD k []) (decide (m = 1)))).take j); rw [List.length_take] at this; omega
          have hq2 : (wInverse (wConj (wOf (l.getD k []) (decide (m = 1))))).length ≤ 200 := by have := wInverse_length (wConj (wOf (l.getD k []) (decide (m = 1)))); omega
          refine RunI.block <| .seq fun K189 h190 => .region hF (by repeat' first | with_reducible exact no_roundQ | with_reducible apply no_thenQ | with_reducible apply no_blockQ) (by kernel_rfl) <| .q rfl (qloadAt ag75 rfl rfl (i1.get _ _ hx186_b19) rfl) <| .q rfl (qmove rfl) <| .l rfl (fun _ _ hk191 _ => wlookupS rfl rfl u75 u9 z80 i2 (fun y hmem hmw => ?_) (fun hnew => ?_))
          ·
            refine hk191 _ _ <| .q rfl (qmove rfl) <| .q rfl (qextract rfl rfl) <| .q rfl (qextract rfl rfl) <| .l rfl (fun _ _ hk192 _ => walloc wfB z80 rfl fun A194 b193 nb195 => ?_)
            have ne_b12_b193 := ne_new wfB i2 nb195.lo
            have ne_l0_b193 := ne_new wfB hlr nb195.lo
            have ne_l00_b193 := ne_new wfB hdr nb195.lo
            have ge_b193 := none_of wfM (Nat.le_trans i1.n nb195.lo)
            have h196 := nb195.le.get _ _ i2
            have h197 := nb195.le.get _ _ hlr
            have h198 := nb195.le.get _ _ hdr
            have le199 := i1.trans nb195.le
            refine hk192 _ _ <| .l rfl (fun _ _ hk200 _ => wstore (cs := [str (y.w), str (y.c), num ((y.r : Nat) : Int), .bool (y.i)]) (c' := [str (y.w), str (y.c), num ((y.r : Nat) : Int), .bool (y.i)]) nb195.wf rfl rfl rfl rfl sz80 nb195.get (Nat.le_of_ble_eq_true rfl) rfl rfl fun A201 sb202 => ?_)
            have h203 := sb202.keep _ _ ne_b12_b193 h196
            have h204 := sb202.keep _ _ ne_l0_b193 h197
            have h205 := sb202.keep _ _ ne_l00_b193 h198
            have le206 := le_store le199 wfM ge_b193 sb202.n sb202.keep
            refine hk200 _ _ <| .q rfl (qassign rfl) <| .nil <| h190 _ _ <| .seq fun K207 h208 => .region hF (by repeat' first | with_reducible exact no_roundQ | with_reducible apply no_thenQ | with_reducible apply no_blockQ) (by kernel_rfl) <| .q rfl (qmove rfl) <| .q rfl (qnot rfl) <| .nil <| h208 _ _ ?_
            refine RunI.cond_false rfl <| .skip ?_
            exact ⟨⟨le206, by rw [addJ_succ]; exact (addE_met (x := mkR k (decide (m = 1)) (wCore (wOf (l.getD k []) (decide (m = 1)))) (wConj (wOf (l.getD k []) (decide (m = 1)))) j) hmem hmw).symm ▸ h203⟩, sb202.wf, h204, h205⟩
          ·
            refine hk191 _ _ <| .q rfl (qmove rfl) <| .q rfl (qextract rfl rfl) <| .q rfl (qextract rfl rfl) <| .l rfl (fun _ _ hk209 _ => walloc wfB z80 rfl fun A211 b210 nb212 => ?_)
            have ne_b12_b210 := ne_new wfB i2 nb212.lo
            have ne_l0_b210 := ne_new wfB hlr nb212.lo
            have ne_l00_b210 := ne_new wfB hdr nb212.lo
            have ge_b210 := none_of wfM (Nat.le_trans i1.n nb212.lo)
            have h213 := nb212.le.get _ _ i2
            have h214 := nb212.le.get _ _ hlr
            have h215 := nb212.le.get _ _ hdr
            have le216 := i1.trans nb212.le
            refine hk209 _ _ <| .l rfl (fun _ _ hk217 _ => wstore (cs := [str ([]), str ([]), num ((0 : Nat) : Int), .bool (false)]) (c' := [str ([]), str ([]), num ((0 : Nat) : Int), .bool (false)]) nb212.wf rfl rfl rfl rfl sz80 nb212.get (Nat.le_of_ble_eq_true rfl) rfl rfl fun A218 sb219 => ?_)
            have h220 := sb219.keep _ _ ne_b12_b210 h213
            have h221 := sb219.keep _ _ ne_l0_b210 h214
            have h222 := sb219.keep _ _ ne_l00_b210 h215
            have le223 := le_store le216 wfM ge_b210 sb219.n sb219.keep
            refine hk217 _ _ <| .q rfl (qassign rfl) <| .nil <| h190 _ _ <| .seq fun K224 h225 => .region hF (by repeat' first | with_reducible exact no_roundQ | with_reducible apply no_thenQ | with_reducible apply no_blockQ) (by kernel_rfl) <| .q rfl (qmove rfl) <| .q rfl (qnot rfl) <| .nil <| h225 _ _ ?_
            refine RunI.cond_true rfl <| .drawn [0, 1, 2, 3, 5, 9, 10, 4, 6, 7, 8, 11, 12] hF (by repeat' first | with_reducible exact no_roundQ | with_reducible apply no_thenQ | with_reducible apply no_blockQ) (by kernel_rfl) mixed (by kernel_rfl) (by kernel_rfl) rfl ?_
            have hc226 := cellOf (off := 0) (le223.get _ _ hx186_b19) (show _ = some (.map (some b12)) from rfl)
            refine DOps.q rfl rfl rfl (qloadAt ag75 rfl rfl (le223.get _ _ hx186_b19) rfl) <| .q rfl rfl rfl (qmove rfl) <| .q rfl rfl rfl (qmove rfl) <| .q rfl rfl rfl (qmove rfl) ?_
            have hc227 := cellOf (off := 0) (le223.get _ _ hx186_b152) (show _ = some (str (wConj ((wOf (l.getD k []) (decide (m = 1)))))) from rfl)
            refine DOps.q rfl rfl rfl (qloadAt ag9 rfl rfl (le223.get _ _ hx186_b152) rfl) ?_
            have hc228 := cellOf (off := 0) (le223.get _ _ hx186_b52) (show _ = some (num ((k : Nat) : Int)) from rfl)
            refine DOps.q rfl rfl rfl (qloadAt ag3 rfl rfl (le223.get _ _ hx186_b52) rfl) ?_
            have hc229 := cellOf (off := 0) (le223.get _ _ hx186_b91) (show _ = some (.bool (decide (m = 1))) from rfl)
            refine DOps.q rfl rfl rfl (qloadAt ag4 rfl rfl (le223.get _ _ hx186_b91) rfl) <| .l rfl rfl rfl (fun _ _ hk230 _ => vcallF rfl (s_Inverse ((wCore (wOf (l.getD k []) (decide (m = 1)))).take j) A218 (by first | omega | (have := hlk (by omega); omega) | (rw [List.length_take]; omega) | (rw [List.length_append]; omega)) (lM186.le le223)) ?_)
            rintro v231 A232 ⟨rfl, leq233, wfq233⟩
            have h234 := leq233.get _ _ h220
            have h235 := leq233.get _ _ h221
            have h236 := leq233.get _ _ h222
            have hc238 := cell_le leq233 hc226
            have hc239 := cell_le leq233 hc227
            have hc240 := cell_le leq233 hc228
            have hc241 := cell_le leq233 hc229
            have le242 := le223.trans leq233
            refine hk230 _ _ (HeldNow.list (L := [(⟨b91, 0, none⟩, .bool (decide (m = 1))), (⟨b52, 0, none⟩, num ((k : Nat) : Int)), (⟨b152, 0, none⟩, str (wConj ((wOf (l.getD k []) (decide (m = 1)))))), (⟨b19, 0, none⟩, .map (some b12))]) (by kernel_rfl) (heldCons hc241 (heldCons hc240 (heldCons hc239 (heldCons hc238 heldNil))))) <| .l rfl rfl rfl (fun _ _ hk243 _ => vcallF rfl (s_Inverse (wConj ((wOf (l.getD k []) (decide (m = 1))))) A232 (by first | omega | (have := hlk (by omega); omega) | (rw [List.length_take]; omega) | (rw [List.length_append]; omega)) (lM186.le le242)) ?_)
            rintro v244 A245 ⟨rfl, leq246, wfq246⟩
            have h247 := leq246.get _ _ h234
            have h248 := leq246.get _ _ h235
            have h249 := leq246.get _ _ h236
            have hc251 := cell_le leq246 hc238
            have hc253 := cell_le leq246 hc240
            have hc254 := cell_le leq246 hc241
            have le255 := le242.trans leq246
            refine hk243 _ _ (HeldNow.list (L := [(⟨b91, 0, none⟩, .bool (decide (m = 1))), (⟨b52, 0, none⟩, num ((k : Nat) : Int)), (⟨b19, 0, none⟩, .map (some b12))]) (by kernel_rfl) (heldCons hc254 (heldCons hc253 (heldCons hc251 heldNil)))) <| .q rfl rfl rfl (qsadd rfl rfl (by (try simp only [List.length_append, List.length_drop, List.length_take]); omega)) <| .l rfl rfl rfl (fun _ _ hk256 _ => vcallF rfl (s_Reduce ((wInverse ((wCore (wOf (l.getD k []) (decide (m = 1)))).take j)) ++ (wInverse (wConj ((wOf (l.getD k []) (decide (m = 1))))))) A245 (by first | omega | (have := hlk (by omega); omega) | (rw [List.length_take]; omega) | (rw [List.length_append]; omega)) (lM186.le le255)) ?_)
            rintro v257 A258 ⟨rfl, leq259, wfq259⟩
            have h260 := leq259.get _ _ h247
            have h261 := leq259.get _ _ h248
            have h262 := leq259.get _ _ h249
            have hc264 := cell_le leq259 hc251
            have hc265 := cell_le leq259 hc253
            have hc266 := cell_le leq259 hc254
            have le267 := le255.trans leq259
            refine hk256 _ _ (HeldNow.list (L := [(⟨b91, 0, none⟩, .bool (decide (m = 1))), (⟨b52, 0, none⟩, num ((k : Nat) : Int)), (⟨b19, 0, none⟩, .map (some b12))]) (by kernel_rfl) (heldCons hc266 (heldCons hc265 (heldCons hc264 heldNil)))) <| .q rfl rfl rfl (qbuild rfl (buildV_struct u80 z80 pl80 rfl)) <| .l rfl rfl rfl (fun _ _ hk268 _ => wupdateS (r := (mkR k (decide (m = 1)) (wCore (wOf (l.getD k []) (decide (m = 1)))) (wConj (wOf (l.getD k []) (decide (m = 1)))) j)) wfq259 rfl rfl rfl rfl u75 u9 h260 hnew fun A269 sb270 => ?_)
            have h271 := sb270.keep _ _ ne_l0_b12 h261
            have h272 := sb270.keep _ _ ne_l00_b12 h262
            have le274 := le_store le267 wfM noM sb270.n sb270.keep
            refine hk268 _ _ (HeldNow.none (by kernel_rfl)) <| .done ?_
            exact ⟨⟨le274, by rw [addJ_succ]; exact (addE_new (x := mkR k (decide (m = 1)) (wCore (wOf (l.getD k []) (decide (m = 1)))) (wConj (wOf (l.getD k []) (decide (m = 1)))) j) hnew).symm ▸ sb270.get⟩, sb270.wf, h271, h272⟩
        · rintro A275 Dq276 ⟨i1, i2⟩ wfq276 gD nD hD
          have leq276 := lb186.trans i1
          have h277 := i1.get _ _ hx186_b19
          have h278 := i1.get _ _ hx186_b52
          have h279 := i1.get _ _ hx186_b69
          have dfq276 : Defs A A275 (Dq276 :: Ds) := Defs.push df186 le184 hD (fun b o g => i1.get _ _ (hide_get g (nmB (by rintro rfl; have q1 := h178; rw [g] at q1; cases q1) nm0))) (by cases q1 : A176.get Dq276 with | none => rfl | some o => exact absurd (wfq177 _ _ q1) (by omega))
          have h283 := i2
          have ob284 := Objs.refl A275
          refine h87 _ _ <| .region <| .q rfl (qaddN (b := 1) rfl rfl (by omega)) <| .q rfl (qmove rfl) <| .nil ?_
          exact ⟨⟨m + 1, addV k (l.getD k []) E2 (decide (m = 1)), Dq276 :: Ds⟩, EnvLe.cons rfl <| EnvLe.cons rfl <| EnvLe.cons rfl <| EnvLe.cons rfl <| EnvLe.cons rfl <| EnvLe.cons rfl <| EnvLe.cons rfl <| EnvLe.cons rfl <| EnvLe.cons rfl <| EnvLe.nil _, rfl, ⟨⟨by omega, by rw [List.range_succ, List.foldl_append, ← hE2]; rfl, by have := addJ_len k (decide (m = 1)) (wCore (wOf (l.getD k []) (decide (m = 1)))) (wConj (wOf (l.getD k []) (decide (m = 1)))) E2 (wCore (wOf (l.getD k []) (decide (m = 1)))).length; have := wCore_length (wOf (l.getD k []) (decide (m = 1))); have h0 := hwl; have h1 := hlk (by omega); unfold addV; omega⟩, leq276, h283, h277, h278, h279, (dfq276.objs ob284)⟩, (by (try dsimp only); omega)⟩
    ·
      refine Run.exit <| h47 _ _ <| .region <| .q rfl (qaddN (b := 1) rfl rfl (by omega)) <| .q rfl (qmove rfl) <| .nil ?_
      exact ⟨⟨k + 1, E2, Ds⟩, EnvLe.cons rfl <| EnvLe.cons rfl <| EnvLe.cons rfl <| EnvLe.cons rfl <| EnvLe.nil _, rfl, ⟨⟨by omega, by rw [List.range_succ, List.foldl_append, ← hE, hE2, show m = 2 by omega]; rfl, by omega⟩, le77, hr_b1277, hr_b1977, (hdf77.objs ob80)⟩, (by (try dsimp only); omega)⟩
  ·
    refine Run.exit <| h34 _ _ <| .seq fun K285 h286 => .region <| .l rfl (fun _ _ hk287 _ => wmakeMap wf39 fun A289 b288 nb290 => ?_)
    have ge_b288 := none_of wf (Nat.le_trans le37.n nb290.lo)
    have h291 := nb290.le.get _ _ hr_b1237
    have h292 := nb290.le.get _ _ hr_b1937
    have le293 := le37.trans nb290.le
    have ob294 := ob40.le nb290.le
    refine hk287 _ _ <| .q rfl (qbuild rfl (buildV_struct u84 z84 pl84 rfl)) <| .l rfl (fun _ _ hk295 _ => wbuildSlice (c := [.map (some b288), num (-1)]) nb290.wf rfl (buildSliceV_of u85 sz84 z84 rfl (by decide) (by decide) rfl) fun A297 b296 nb298 => ?_)
    have ne_b12_b296 := ne_new nb290.wf h291 nb298.lo
    have ne_b288_b296 := ne_new nb290.wf nb290.get nb298.lo
    have ge_b296 := none_of wf (Nat.le_trans le293.n nb298.lo)
    have h299 := nb298.le.get _ _ h291
    have h300 := nb298.le.get _ _ h292
    have h301 := nb298.le.get _ _ nb290.get
    have le302 := le293.trans nb298.le
    have ob303 := ob294.le nb298.le
    refine hk295 _ _ <| .q rfl (qbuild rfl (buildV_struct u88 z88 pl88 rfl)) <| .l rfl (fun _ _ hk304 _ => wbox nb298.wf rfl rfl fun A306 b305 nb307 => ?_)
    have ne_b12_b305 := ne_new nb298.wf h299 nb307.lo
    have ne_b288_b305 := ne_new nb298.wf h301 nb307.lo
    have ne_b296_b305 := ne_new nb298.wf nb298.get nb307.lo
    have ge_b305 := none_of wf (Nat.le_trans le302.n nb307.lo)
    have h308 := nb307.le.get _ _ h299
    have h309 := nb307.le.get _ _ h300
    have h310 := nb307.le.get _ _ h301
    have h311 := nb307.le.get _ _ nb298.get
    have le312 := le302.trans nb307.le
    have ob313 := ob303.le nb307.le
    refine hk304 _ _ <| .q rfl (qassign rfl) <| .nil ?_
    have fr314 : Fresh A A306 (.slice (some ⟨b296, 0, none⟩) 1 1) 2 (ncells [(b288, -1)]) := Fresh.lit h311 ge_b296 rfl (Nat.le_refl _)
    have hEsh : ∀ x ∈ E, okR x := fun x hx => allR_ok hp x ((show E = allR l by rw [hE, show k = l.length by omega]; rfl) ▸ hx)
    have hE400 : E.length ≤ 24000 := by have := hz.2.1; omega
    refine h286 _ _ <| .seq fun K315 h316 => .seq fun K317 h318 => .region <| .q rfl (qloadAt ag75 rfl rfl h309 rfl) <| .l rfl (fun _ _ hk319 _ => wrangeM (E := E) nb307.wf rfl u75 h308 fun A320 b321 nb322 => ?_)
    have ne_b12_b321 := ne_new nb307.wf h308 nb322.lo
    have ne_b288_b321 := ne_new nb307.wf h310 nb322.lo
    have ne_b305_b321 := ne_new nb307.wf nb307.get nb322.lo
    have no323 := fr314.own.ne_new nb307.wf nb322.lo
    have ge_b321 := none_of wf (Nat.le_trans le312.n nb322.lo)
    have h324 := nb322.le.get _ _ h308
    have h326 := nb322.le.get _ _ h310
    have h327 := nb322.le.get _ _ nb307.get
    have fr328 := fr314.le nb322.le
    have le329 := le312.trans nb322.le
    have ob330 := ob313.le nb322.le
    refine hk319 _ _ <| .nil <| h318 _ _ <| .block <| .loopD (X := List Nat × List Rot × Nat × Value × List Nat) (fun ⟨idx, L, mo, lv, Ds⟩ => [(15, .pointer (some ⟨b305, 0, none⟩)), (80, .pointer (some ⟨b321, 0, none⟩))]) (fun ⟨idx, L, mo, lv, Ds⟩ => Ds.map V.mark) (fun ⟨idx, L, mo, lv, Ds⟩ B => (L = idx.map (fun j => E.getD j .zero) ∧ idx.Nodup ∧ (∀ j ∈ idx, j < E.length) ∧ (∀ x ∈ L, x.w.length ≤ mo) ∧ mo ≤ 200 ∧ L.length ≤ 30000) ∧ A.le B ∧ Fresh A B lv 4 (rcells L) ∧ Fresh A B (.slice (some ⟨b296, 0, none⟩) 1 1) 2 (ncells ([(b288, -1)])) ∧ B.get b12 = some (.obj true (mobj E)) ∧ B.get b288 = some (.obj true (.map #[] 0)) ∧ B.get b321 = some (.obj true (.mapIter (some b12) E.length idx.toArray E.length)) ∧ B.get b305 = some (.row true [lv, .slice (some ⟨b296, 0, none⟩) 1 1, num ((mo : Nat) : Int)] 3) ∧ V.blk lv ≠ some b12 ∧ V.blk (.slice (some ⟨b296, 0, none⟩) 1 1) ≠ some b12 ∧ V.blk lv ≠ some b288 ∧ V.blk (.slice (some ⟨b296, 0, none⟩) 1 1) ≠ some b288 ∧ V.blk lv ≠ some b321 ∧ V.blk (.slice (some ⟨b296, 0, none⟩) 1 1) ≠ some b321 ∧ V.blk lv ≠ some b305 ∧ V.blk (.slice (some ⟨b296, 0, none⟩) 1 1) ≠ some b305 ∧ Sep lv (.slice (some ⟨b296, 0, none⟩) 1 1) ∧ Defs A B Ds) (fun ⟨idx, L, mo, lv, Ds⟩ => E.length - idx.length) (⟨[], [], 0, .slice none 0 0, Ds⟩) (EnvLe.cons rfl <| EnvLe.cons rfl <| EnvLe.nil _) rfl (⟨⟨rfl, List.Pairwise.nil, (fun _ h => by cases h), (fun _ h => by cases h), by omega, by decide⟩, le329, (Fresh.nil A A320 4), fr328, h324, h326, nb322.get, h327, (fun q => by cases q), (fun q => by cases q; exact ne_b12_b296 rfl), (fun q => by cases q), (fun q => by cases q; exact ne_b288_b296 rfl), (fun q => by cases q), no323, (fun q => by cases q), (fun q => by cases q; exact ne_b296_b305.symm rfl), Sep.nil, (hdf37.objs ob330)⟩) ?_
    rintro ⟨idx, L, mo, lv, Ds⟩ B332 ⟨⟨hL1, hL2, hL3, hL4, hL5, hL6⟩, le331, fr_lv331, fk_nodes0331, hr_b12331, hr_b288331, hr_b321331, hr_b305331, no_lv_b12331, no_nodes0_b12331, no_lv_b288331, no_nodes0_b288331, no_lv_b321331, no_nodes0_b321331, no_lv_b305331, no_nodes0_b305331, sq331_0_1, hdf331⟩
    refine Run.wf fun wf333 => ?_
    have ob334 := Objs.refl B332
    have hEw := fun j (q : j < E.length) => hEsh _ (getD_mem (d := Rot.zero) q)
    have hil := nodup_bound _ _ hL2 hL3
    have hLl : L.length = idx.length := by rw [hL1]; simp
    refine Run.seq fun K335 h336 => .region <| .l rfl (fun _ _ hk337 _ => wnextM (E := E) (idx := idx) wf333 rfl hr_b321331 hr_b12331 ne_b12_b321 (fun kk hkk hki A338 sb339 => ?_) (fun hall => ?_))
    ·
      have df340 := Defs.keep (hdf331.objs ob334) sb339.keep hr_b321331 (fun q => by cases q)
      have h341 := sb339.keep _ _ ne_b12_b321 hr_b12331
      have h342 := sb339.keep _ _ ne_b288_b321 hr_b288331
      have h343 := sb339.keep _ _ ne_b305_b321 hr_b305331
      have fr344 := fr_lv331.keep sb339.keep no_lv_b321331
      have fr345 := fk_nodes0331.keep sb339.keep no_nodes0_b321331
      have le346 := le_store le331 wf ge_b321 sb339.n sb339.keep
      have ob347 := Objs.refl A338
      refine hk337 _ _ <| .q rfl (qextract rfl rfl) <| .nil <| h336 _ _ <| .seq fun K348 h349 => .cond_true rfl <| .skip <| h349 _ _ <| .block <| .seq fun K350 h351 => ?_
      refine Run.region <| .l rfl (fun _ _ hk352 _ => wentryM (E := E) (idx := idx) (k := kk) rfl sb339.get h341 ne_b12_b321 hkk ?_)
      refine hk352 _ _ <| .q rfl (qextract rfl rfl) <| .l rfl (fun _ _ hk353 _ => walloc sb339.wf z80 rfl fun A355 b354 nb356 => ?_)
      have ne_b12_b354 := ne_new sb339.wf h341 nb356.lo
      have ne_b288_b354 := ne_new sb339.wf h342 nb356.lo
      have ne_b321_b354 := ne_new sb339.wf sb339.get nb356.lo
      have ne_b305_b354 := ne_new sb339.wf h343 nb356.lo
      have no357 := fr344.own.ne_new sb339.wf nb356.lo
      have no358 := fr345.own.ne_new sb339.wf nb356.lo
      have ge_b354 := none_of wf (Nat.le_trans le346.n nb356.lo)
      have h359 := nb356.le.get _ _ h341
      have h360 := nb356.le.get _ _ h342
      have h361 := nb356.le.get _ _ sb339.get
      have h362 := nb356.le.get _ _ h343
      have fr363 := fr344.le nb356.le
      have fr364 := fr345.le nb356.le
      have le365 := le346.trans nb356.le
      have ob366 := ob347.le nb356.le
      refine hk353 _ _ <| .l rfl (fun _ _ hk367 _ => wstore (cs := [str ((E.getD kk .zero).w), str ((E.getD kk .zero).c), num (((E.getD kk .zero).r : Nat) : Int), .bool ((E.getD kk .zero).i)]) (c' := [str ((E.getD kk .zero).w), str ((E.getD kk .zero).c), num (((E.getD kk .zero).r : Nat) : Int), .bool ((E.getD kk .zero).i)]) nb356.wf rfl rfl rfl rfl sz80 nb356.get (Nat.le_of_ble_eq_true rfl) rfl rfl fun A368 sb369 => ?_)
      have h370 := sb369.keep _ _ ne_b12_b354 h359
      have h371 := sb369.keep _ _ ne_b288_b354 h360
      have h372 := sb369.keep _ _ ne_b321_b354 h361
      have h373 := sb369.keep _ _ ne_b305_b354 h362
      have fr374 := fr363.keep sb369.keep no357
      have fr375 := fr364.keep sb369.keep no358
      have ob376 := ob366.set nb356.get sb369.n sb369.keep
      have le377 := le_store le365 wf ge_b354 sb369.n sb369.keep
      refine hk367 _ _ <| .nil <| h351 _ _ <| .seq fun K378 h379 => .drawn [0, 1, 2, 3, 4, 5, 6, 7, 8, 9, 10] mixed (by kernel_rfl) (by kernel_rfl) rfl <| .q rfl rfl rfl (qmove rfl) <| .q rfl rfl rfl (qmove rfl) <| .q rfl rfl rfl (qnil rfl) <| .q rfl rfl rfl (qfieldAddr fl88_0 sz86 (by decide) rfl) ?_
      have hc380 := cellOf (off := 0) h373 (show _ = some (lv) from rfl)
      refine DOps.q rfl rfl rfl (qloadAt ag86 rfl rfl h373 rfl) <| .q rfl rfl rfl (qloadAggAt ag80 sz80 rfl rfl sb369.get rfl) <| .l rfl rfl rfl (fun _ _ hk385 _ => wbuildSlice (c := [str ((E.getD kk .zero).w), str ((E.getD kk .zero).c), num (((E.getD kk .zero).r : Nat) : Int), .bool ((E.getD kk .zero).i)]) sb369.wf rfl (buildSliceV_of u86 sz80 z80 rfl (by decide) (by decide) rfl) fun A387 b386 nb388 => ?_)
      have h391 := nb388.le.get _ _ h370
      have h392 := nb388.le.get _ _ h371
      have h393 := nb388.le.get _ _ h372
      have h394 := nb388.le.get _ _ h373
      have h395 := nb388.le.get _ _ sb369.get
      have fr396 := fr374.le nb388.le
      have fr397 := fr375.le nb388.le
      have hc398 := cell_le nb388.le hc380
      have le403 := le377.trans nb388.le
      have ob404 := ob376.le nb388.le
      refine hk385 _ _ (HeldNow.list (L := [(⟨b305, 0, none⟩, lv)]) (by kernel_rfl) (heldCons hc398 heldNil)) <| .l rfl rfl rfl (fun _ _ hk405 _ => wappend (ys := [str ((E.getD kk .zero).w), str ((E.getD kk .zero).c), num (((E.getD kk .zero).r : Nat) : Int), .bool ((E.getD kk .zero).i)]) rfl rfl u86 sz80 inf80 z80 rfl (by decide) u86 (fun _ h => by cases h) fr396.own (listOf_row (n := 1) nb388.get rfl) rfl rfl (by show (_ + _) * 48 ≤ _; simp only [rcells_length, List.length_cons, List.length_nil]; (try simp only [List.length_append, List.length_cons, List.length_nil]); omega) (by simp only [rcells_length, List.length_cons, List.length_nil]; (try simp only [List.length_append, List.length_cons, List.length_nil]); omega) fun A406 v407 ap408 => ?_)
      rw [show ([str ((E.getD kk .zero).w), str ((E.getD kk .zero).c), num (((E.getD kk .zero).r : Nat) : Int), .bool ((E.getD kk .zero).i)] : List Value) = rcells [⟨(E.getD kk .zero).w, (E.getD kk .zero).c, (E.getD kk .zero).r, (E.getD kk .zero).i⟩] from rfl, rcells_append] at ap408
      obtain ⟨fr411, le412⟩ := Fresh.grow fr396 le403 wf ap408
      have h413 := ap408.keep no_lv_b12331 h391
      have ne414 := ap408.ne no_lv_b12331 nb388.wf h391
      have h415 := ap408.keep no_lv_b288331 h392
      have ne416 := ap408.ne no_lv_b288331 nb388.wf h392
      have h417 := ap408.keep no_lv_b321331 h393
      have ne418 := ap408.ne no_lv_b321331 nb388.wf h393
      have h419 := ap408.keep no_lv_b305331 h394
      have ne420 := ap408.ne no_lv_b305331 nb388.wf h394
      have h421 := ap408.keep no357 h395
      have ob423 := ob404.appd fr396.own ap408
      have sp425 := Sep.appd (show Sep lv (.slice (some ⟨b296, 0, none⟩) 1 1) from sq331_0_1) fr397.own nb388.wf ap408
      have fr424 := fr397.appd ap408 sq331_0_1
      refine hk405 _ _ (HeldNow.none (by kernel_rfl)) <| .q rfl rfl rfl (qnil rfl) <| .q rfl rfl rfl (qfieldAddr fl88_0 sz86 (by decide) rfl) ?_
      obtain ⟨p428, l428, c428, q428, _⟩ := fr411.own.slice
      subst q428
      refine DOps.l rfl rfl rfl (fun _ _ hk427 _ => wstore (cs := [.slice p428 l428 c428]) (c' := [.slice p428 l428 c428, .slice (some ⟨b296, 0, none⟩) 1 1, num ((mo : Nat) : Int)]) ap408.wf rfl rfl rfl rfl sz86 h419 (Nat.le_of_ble_eq_true rfl) rfl rfl fun A429 sb430 => ?_)
      have h431 := sb430.keep _ _ ne_b12_b305 h413
      have h432 := sb430.keep _ _ ne_b288_b305 h415
      have h433 := sb430.keep _ _ ne_b305_b321.symm h417
      have h434 := sb430.keep _ _ ne_b305_b354.symm h421
      have fr435 := fr424.keep sb430.keep no_nodes0_b305331
      have fr436 := fr411.keep sb430.keep ne420
      have ob437 := ob423.set h419 sb430.n sb430.keep
      have le438 := le_store le412 wf ge_b305 sb430.n sb430.keep
      refine hk427 _ _ (HeldNow.none (by kernel_rfl)) <| .done <| h379 _ _ <| .drawn [0, 1, 2, 3, 4, 5, 6, 7, 8, 9, 10, 11] mixed (by kernel_rfl) (by kernel_rfl) rfl <| .q rfl rfl rfl (qmove rfl) <| .q rfl rfl rfl (qmove rfl) <| .q rfl rfl rfl (qnil rfl) <| .q rfl rfl rfl (qfieldAddr fl88_2 sz3 (by decide) rfl) <| .q rfl rfl rfl (qloadAt ag3 rfl rfl sb430.get rfl) <| .q rfl rfl rfl (qfieldAddr fl80_0 sz9 (by decide) rfl) ?_
      refine DOps.q rfl rfl rfl (qloadAt ag9 rfl rfl h434 rfl) <| .q rfl rfl rfl (qslen u9 rfl) <| .q rfl rfl rfl (qmaxN rfl rfl) <| .q rfl rfl rfl (qnil rfl) <| .q rfl rfl rfl (qfieldAddr fl88_2 sz3 (by decide) rfl) <| .l rfl rfl rfl (fun _ _ hk441 _ => wstore (cs := [num ((max mo (((E.getD kk .zero).w).length) : Nat) : Int)]) (c' := [.slice p428 l428 c428, .slice (some ⟨b296, 0, none⟩) 1 1, num ((max mo (((E.getD kk .zero).w).length) : Nat) : Int)]) sb430.wf rfl rfl rfl rfl sz3 sb430.get (Nat.le_of_ble_eq_true rfl) rfl rfl fun A442 sb443 => ?_)
      have h444 := sb443.keep _ _ ne_b12_b305 h431
      have h445 := sb443.keep _ _ ne_b288_b305 h432
      have h446 := sb443.keep _ _ ne_b305_b321.symm h433
      have fr448 := fr435.keep sb443.keep no_nodes0_b305331
      have fr449 := fr436.keep sb443.keep ne420
      have ob450 := ob437.set sb430.get sb443.n sb443.keep
      have le451 := le_store le438 wf ge_b305 sb443.n sb443.keep
      refine hk441 _ _ (HeldNow.none (by kernel_rfl)) <| .done ?_
      exact ⟨⟨idx ++ [kk], L ++ [⟨(E.getD kk .zero).w, (E.getD kk .zero).c, (E.getD kk .zero).r, (E.getD kk .zero).i⟩], max mo (((E.getD kk .zero).w).length), .slice p428 l428 c428, Ds⟩, EnvLe.cons rfl <| EnvLe.cons rfl <| EnvLe.nil _, rfl, ⟨⟨by rw [hL1]; simp, nodup_snoc hL2 hki, fun j hj => (List.mem_append.1 hj).elim (hL3 j) (fun q => by simp at q; omega), fun x hx => (List.mem_append.1 hx).elim (fun q => Nat.le_trans (hL4 x q) (Nat.le_max_left _ _)) (fun q => by simp at q; rw [q]; exact Nat.le_max_right _ _), by have := (hEw kk hkk).1; omega, by simp; omega⟩, le451, fr449, fr448, h444, h445, h446, sb443.get, ne414, no_nodes0_b12331, ne416, no_nodes0_b288331, ne418, no_nodes0_b321331, ne420, no_nodes0_b305331, sp425, (df340.objs ob450)⟩, (by have := nodup_bound _ _ (nodup_snoc hL2 hki) (fun j hj => (List.mem_append.1 hj).elim (hL3 j) (fun q => by simp at q; omega) : ∀ j ∈ idx ++ [kk], j < E.length); simp at this ⊢; omega)⟩
    ·
      refine hk337 _ _ <| .q rfl (qextract rfl rfl) <| .nil <| h336 _ _ <| .seq fun K452 h453 => .cond_false rfl <| .exit <| h316 _ _ <| .seq fun K454 h455 => .region ?_
      refine Ops.q rfl (qmove rfl) <| .q rfl (qnil rfl) <| .q rfl (qfieldAddr fl88_0 sz86 (by decide) rfl) <| .q rfl (qloadAt ag86 rfl rfl hr_b305331 rfl) ?_
      have hok1 : ∀ x ∈ L, okR x := by rw [hL1]; intro x hx; obtain ⟨j, hj, rfl⟩ := List.mem_map.1 hx; exact hEw j (hL3 j hj)
      have hperm : L.Perm E := by rw [hL1]; exact picks_perm hL2 hL3 hall
      have le460 := le_hide (bs := [blk lv]) le331 (hoV fr_lv331.lo ho0)
      refine Ops.l rfl (fun _ _ hk456 _ => vcallF rfl (s_sortW L lv (B332.hide [blk lv]) B332 (hide_le B332 [blk lv]) (hide_wf wf333) (fr_lv331.hide (by simp)) (hL.le le460) hok1 hL6) ?_)
      rintro v457 A458 ⟨L2q459, hpq459, hsq459, rfl, leq459, wfq459, foq459_0⟩
      have hg463 := hide_get (bs := [blk lv]) hr_b288331 (nmV no_lv_b288331 nm0)
      have h464 := leq459.get _ _ hg463
      have hg467 := hide_get (bs := [blk lv]) hr_b305331 (nmV no_lv_b305331 nm0)
      have h468 := leq459.get _ _ hg467
      have sp469 := foq459_0.sep fk_nodes0331.own (offV sq331_0_1 off0)
      have fr470 := fk_nodes0331.off (offV sq331_0_1 off0) leq459
      have fr471 := foq459_0.base le460
      have no475 := foq459_0.seph hg467
      have le476 := le460.trans leq459
      have ob477 := ob334.hideOwn fr_lv331.own leq459
      try (have hok2 : ∀ x ∈ L2q459, okR x := fun x hx => hok1 x (hpq459.mem_iff.1 hx))
      refine hk456 _ _ <| .nil <| h455 _ _ <| .seq fun K478 h479 => .seq fun K480 h481 => .region <| .q rfl (qmove rfl) <| .q rfl (qnil rfl) <| .q rfl (qfieldAddr fl88_0 sz86 (by decide) rfl) <| .q rfl (qloadAt ag86 rfl rfl h468 rfl) ?_
      refine Ops.q rfl (qlenS (n := L2q459.length) u86 rfl fr471.slc (by omega) (rcells_len _)) <| .q rfl (qmove rfl) <| .nil <| h481 _ _ <| .block <| .loopD (X := Nat × List (List UInt8) × List Int × List Nat × Value × List Nat) (fun ⟨i, pf, bs, bl, nv, Ds⟩ => [(15, .pointer (some ⟨b305, 0, none⟩)), (114, lv), (115, num ((L2q459.length : Nat) : Int)), (116, num ((i : Nat) : Int))]) (fun ⟨i, pf, bs, bl, nv, Ds⟩ => Ds.map V.mark) (fun ⟨i, pf, bs, bl, nv, Ds⟩ B => (i ≤ L2q459.length ∧ (pf, bs) = (List.range i).foldl (tword L2q459) ([[]], [-1]) ∧ bl.length = bs.length ∧ bs.length = pf.length ∧ PC pf ∧ pf.length ≤ 1 + 200 * i) ∧ A.le B ∧ Fresh A B nv 2 (ncells (bl.zip bs)) ∧ Fresh A B lv 4 (rcells L2q459) ∧ B.get b305 = some (.row true [lv, nv, num ((mo : Nat) : Int)] 3) ∧ V.blk nv ≠ some b305 ∧ V.blk lv ≠ some b305 ∧ Sep nv lv ∧ Defs A B Ds ∧ (Trie A B pf bl)) (fun ⟨i, pf, bs, bl, nv, Ds⟩ => L2q459.length - i) (⟨0, [[]], [-1], [b288], .slice (some ⟨b296, 0, none⟩) 1 1, Ds⟩) (EnvLe.cons rfl <| EnvLe.cons rfl <| EnvLe.cons rfl <| EnvLe.cons rfl <| EnvLe.nil _) rfl (⟨⟨Nat.zero_le _, rfl, rfl, rfl, PC.first, by simp⟩, le476, fr470, fr471, h468, no_nodes0_b305331, no475, (Sep.symm sp469), (hdf331.objs ob477), Trie.first h464 ge_b288⟩) ?_
      rintro ⟨i, pf, bs, bl, nv, Ds⟩ B483 ⟨⟨hi, ht, hbl, hbs, hpc, hpl⟩, le482, fr_nv482, fk_oq459_0482, hr_b305482, no_nv_b305482, no_oq459_0_b305482, sq482_0_1, hdf482, hT⟩
      refine Run.wf fun wf484 => ?_
      have ob485 := Objs.refl B483
      have hzl0 : (bl.zip bs).length = pf.length := by rw [List.length_zip]; omega
      have hwx := fun q : i < L2q459.length => (hok2 _ (getD_mem (d := Rot.zero) q)).1
      have hL2l : L2q459.length ≤ 30000 := by rw [hpq459.length_eq]; exact hL6
      refine Run.seq fun K486 h487 => .region <| .q rfl (qlssN rfl rfl) <| .nil <| h487 _ _ <| .seq fun K488 h489 => .if rfl (fun p490 => ?_) (fun p490 => ?_)
      ·
        refine Run.skip <| h489 _ _ <| .seq fun K491 h492 => .block <| .seq fun K493 h494 => .region <| .q rfl (qmove rfl) ?_
        obtain ⟨b495, f495, rw495, r495, rc495, n495, k495, e495, l495, g495, cl495, cs495⟩ := Slc.at (i := i) fk_oq459_0482.slc (by simp only [rcells_length]; omega) (by omega)
        refine Ops.q rfl (qindexS u86 sz80 rfl e495 rfl l495) <| .q rfl (qloadAggAt ag80 sz80 rfl rfl g495 (cl495.trans (congrArg some (rcells_at (by omega))))) <| .l rfl (fun _ _ hk496 _ => walloc wf484 z80 rfl fun A498 b497 nb499 => ?_)
        have ne_b305_b497 := ne_new wf484 hr_b305482 nb499.lo
        have no500 := fr_nv482.own.ne_new wf484 nb499.lo
        have no501 := fk_oq459_0482.own.ne_new wf484 nb499.lo
        have ge_b497 := none_of wf (Nat.le_trans le482.n nb499.lo)
        have h502 := nb499.le.get _ _ hr_b305482
        have fr503 := fr_nv482.le nb499.le
        have fr504 := fk_oq459_0482.le nb499.le
        have le505 := le482.trans nb499.le
        have ob506 := ob485.le nb499.le
        refine hk496 _ _ <| .q rfl (qassign rfl) <| .l rfl (fun _ _ hk507 _ => wstore (cs := [str ((L2q459.getD i .zero).w), str ((L2q459.getD i .zero).c), num (((L2q459.getD i .zero).r : Nat) : Int), .bool ((L2q459.getD i .zero).i)]) (c' := [str ((L2q459.getD i .zero).w), str ((L2q459.getD i .zero).c), num (((L2q459.getD i .zero).r : Nat) : Int), .bool ((L2q459.getD i .zero).i)]) nb499.wf rfl rfl rfl rfl sz80 nb499.get (Nat.le_of_ble_eq_true rfl) rfl rfl fun A508 sb509 => ?_)
        have h510 := sb509.keep _ _ ne_b305_b497 h502
        have fr511 := fr503.keep sb509.keep no500
        have fr512 := fr504.keep sb509.keep no501
        have ob513 := ob506.set nb499.get sb509.n sb509.keep
        have le514 := le_store le505 wf ge_b497 sb509.n sb509.keep
        refine hk507 _ _ <| .nil <| h494 _ _ <| .seq fun K515 h516 => .region <| .q rfl (qassign rfl) <| .nil <| h516 _ _ <| .seq fun K517 h518 => .region ?_
        refine Ops.q rfl (qfieldAddr fl80_0 sz9 (by decide) rfl) <| .q rfl (qloadAt ag9 rfl rfl sb509.get rfl) <| .q rfl (qslen u9 rfl) <| .q rfl (qmove rfl) <| .nil <| h518 _ _ <| .block <| .loopD (X := Nat × Nat × List (List UInt8) × List Int × List Nat × Value × List Nat) (fun ⟨k, nd, pf2, bs2, bl2, nv2, Ds⟩ => [(15, .pointer (some ⟨b305, 0, none⟩)), (18, num ((i : Nat) : Int)), (19, .pointer (some ⟨b497, 0, none⟩)), (20, num ((nd : Nat) : Int)), (114, lv), (115, num ((L2q459.length : Nat) : Int)), (116, num ((i : Nat) : Int)), (123, num ((((L2q459.getD i .zero).w).length : Nat) : Int)), (124, num ((k : Nat) : Int))]) (fun ⟨k, nd, pf2, bs2, bl2, nv2, Ds⟩ => Ds.map V.mark) (fun ⟨k, nd, pf2, bs2, bl2, nv2, Ds⟩ B => (k ≤ (L2q459.getD i .zero).w.length ∧ (pf2, bs2) = (List.range k).foldl (tstep (L2q459.getD i .zero).w i) (pf, bs) ∧ bl2.length = bs2.length ∧ bs2.length = pf2.length ∧ PC pf2 ∧ pf2.length ≤ pf.length + k ∧ (L2q459.getD i .zero).w.take k ∈ pf2 ∧ nd = pf2.idxOf ((L2q459.getD i .zero).w.take k)) ∧ A.le B ∧ Fresh A B nv2 2 (ncells (bl2.zip bs2)) ∧ Fresh A B lv 4 (rcells L2q459) ∧ B.get b305 = some (.row true [lv, nv2, num ((mo : Nat) : Int)] 3) ∧ B.get b497 = some (.row true [str ((L2q459.getD i .zero).w), str ((L2q459.getD i .zero).c), num (((L2q459.getD i .zero).r : Nat) : Int), .bool ((L2q459.getD i .zero).i)] 4) ∧ V.blk nv2 ≠ some b305 ∧ V.blk lv ≠ some b305 ∧ V.blk nv2 ≠ some b497 ∧ V.blk lv ≠ some b497 ∧ Sep nv2 lv ∧ Defs A B Ds ∧ (Trie A B pf2 bl2)) (fun ⟨k, nd, pf2, bs2, bl2, nv2, Ds⟩ => (L2q459.getD i .zero).w.length - k) (⟨0, 0, pf, bs, bl, nv, Ds⟩) (EnvLe.cons rfl <| EnvLe.cons rfl <| EnvLe.cons rfl <| EnvLe.cons rfl <| EnvLe.cons rfl <| EnvLe.cons rfl <| EnvLe.cons rfl <| EnvLe.cons rfl <| EnvLe.cons rfl <| EnvLe.nil _) rfl (⟨⟨Nat.zero_le _, rfl, hbl, hbs, hpc, Nat.le_refl _, (by simpa using hpc.mem0), (by simpa using hpc.idx0.symm)⟩, le514, fr511, fr512, h510, sb509.get, no_nv_b305482, no_oq459_0_b305482, no500, no501, sq482_0_1, (hdf482.objs ob513), (hT.objs ob513)⟩) ?_
        rintro ⟨k, nd, pf2, bs2, bl2, nv2, Ds⟩ B520 ⟨⟨hk4, ht2, hbl2, hbs2, hpc2, hpl2, hp, hq⟩, le519, fr_nv2519, fk_oq459_0519, hr_b305519, hr_b497519, no_nv2_b305519, no_oq459_0_b305519, no_nv2_b497519, no_oq459_0_b497519, sq519_0_1, hdf519, hT2⟩
        refine Run.wf fun wf521 => ?_
        have ob522 := Objs.refl B520
        have hndl : nd < pf2.length := hq ▸ idxOf_lt hp
        have hzl : (bl2.zip bs2).length = pf2.length := by rw [List.length_zip]; omega
        have hw200 := hwx (by omega)
        refine Run.seq fun K523 h524 => .region <| .q rfl (qlssN rfl rfl) <| .nil <| h524 _ _ <| .seq fun K525 h526 => .if rfl (fun p527 => ?_) (fun p527 => ?_)
        ·
          refine Run.skip <| h526 _ _ <| .seq fun K528 h529 => .block <| .seq fun K530 h531 => .region <| .q rfl (qmove rfl) <| .q rfl (qassign rfl) <| .nil <| h531 _ _ ?_
          refine Run.seq fun K532 h533 => .drawn [0, 1, 2, 3, 4, 5, 6, 7, 8, 9, 10, 11, 12, 13, 14, 15, 16, 17] mixed (by kernel_rfl) (by kernel_rfl) rfl <| .q rfl rfl rfl (qmove rfl) <| .q rfl rfl rfl (qnil rfl) <| .q rfl rfl rfl (qfieldAddr fl88_1 sz85 (by decide) rfl) <| .q rfl rfl rfl (qloadAt ag85 rfl rfl hr_b305519 rfl) <| .q rfl rfl rfl (qmove rfl) ?_
          obtain ⟨b535, f535, rw535, r535, rc535, n535, k535, e535, l535, g535, cl535, cs535⟩ := Slc.at (i := nd) fr_nv2519.slc (by simp only [ncells_length]; omega) (by omega)
          refine DOps.q rfl rfl rfl (qindexS u85 sz84 rfl e535 rfl l535) <| .q rfl rfl rfl (qfieldAddr fl84_0 sz82 (by decide) rfl) <| .q rfl rfl rfl (qloadAt ag82 rfl rfl g535 ((cs535 0 (by decide)).trans (ncells_f0 (by omega)))) <| .q rfl rfl rfl (qfieldAddr fl80_0 sz9 (by decide) rfl) <| .q rfl rfl rfl (qloadAt ag9 rfl rfl hr_b497519 rfl) <| .q rfl rfl rfl (qmove rfl) <| .q rfl rfl rfl (qsix u9 rfl rfl (by omega)) ?_
          have hTc539 := hT2.objs ob522
          obtain ⟨es539, clk539, hgm539, hE539⟩ := hTc539.2.2.2.2 nd hndl
          refine DOps.l rfl rfl rfl (fun _ _ hk538 _ => wlookupB (q := (L2q459.getD i .zero).w.take (k + 1)) rfl rfl u82 u5 z3 (by rw [zip_fst hbl2 (by omega)]; exact hgm539) hE539 (by rw [hq, getD_idxOf hp]; exact take_next (by omega)) (fun hin => ?_) (fun hin => ?_))
          ·
            have hidx := idxOf_lt hin
            refine hk538 _ _ (HeldNow.none (by kernel_rfl)) <| .q rfl rfl rfl (qmove rfl) <| .q rfl rfl rfl (qextract rfl rfl) <| .q rfl rfl rfl (qextract rfl rfl) <| .q rfl rfl rfl (qassign rfl) <| .q rfl rfl rfl (qassign rfl) <| .done <| h533 _ _ <| .seq fun K540 h541 => .seq fun K542 h543 => ?_
            refine Run.region <| .q rfl (qmove rfl) <| .q rfl (qnot rfl) <| .nil <| h543 _ _ <| .cond_false rfl <| .skip <| h541 _ _ <| .seq fun K544 h545 => .region ?_
            refine Ops.q rfl (qmove rfl) <| .q rfl (qassign rfl) <| .nil <| h545 _ _ <| .seq fun K546 h547 => .region <| .q rfl (qmove rfl) <| .q rfl (qaddN (b := 1) rfl rfl (by omega)) <| .q rfl (qmulN (a := 2) rfl rfl (by omega)) <| .q rfl (qfieldAddr fl80_0 sz9 (by decide) rfl) ?_
            refine Ops.q rfl (qloadAt ag9 rfl rfl hr_b497519 rfl) <| .q rfl (qslen u9 rfl) <| .q rfl (qgtrN rfl rfl) <| .q rfl (qmove rfl) <| .part (t := 182) rfl (fun p548 => ?_) (fun p548 => ?_)
            ·
              refine Ops.on rfl rfl <| .q rfl (qmove rfl) <| .on rfl rfl <| .q rfl (qnil rfl) <| .on rfl rfl <| .q rfl (qfieldAddr fl88_1 sz85 (by decide) rfl) <| .on rfl rfl <| .q rfl (qloadAt ag85 rfl rfl hr_b305519 rfl) <| .on rfl rfl <| .q rfl (qmove rfl) ?_
              refine Ops.on rfl rfl ?_
              obtain ⟨b549, f549, rw549, r549, rc549, n549, k549, e549, l549, g549, cl549, cs549⟩ := Slc.at (i := pf2.idxOf ((L2q459.getD i .zero).w.take (k + 1))) fr_nv2519.slc (by simp only [ncells_length]; omega) (by omega)
              refine Ops.q rfl (qindexS u85 sz84 rfl e549 rfl l549) <| .on rfl rfl <| .q rfl (qfieldAddr fl84_1 sz3 (by decide) rfl) <| .on rfl rfl <| .q rfl (qloadAt ag3 rfl rfl g549 (((cs549 1 (by decide)).trans (ncells_f1 (by omega))).trans (congrArg (fun z => some (num z)) (zip_snd (by (try simp only [List.length_append, List.length_cons, List.length_nil]); omega) (by (try simp only [List.length_append, List.length_cons, List.length_nil]); omega))))) <| .on rfl rfl <| .q rfl (qlss rfl rfl) <| .q rfl (qpickT rfl rfl) <| .nil <| h547 _ _ ?_
              refine Run.if rfl (fun p550 => ?_) (fun p550 => ?_)
              ·
                refine Run.region <| .q rfl (qmove rfl) <| .q rfl (qnil rfl) <| .q rfl (qfieldAddr fl88_1 sz85 (by decide) rfl) <| .q rfl (qloadAt ag85 rfl rfl hr_b305519 rfl) <| .q rfl (qmove rfl) <| .q rfl (qmove rfl) ?_
                obtain ⟨b551, f551, rw551, r551, rc551, n551, k551, e551, l551, g551, cl551, cs551⟩ := Slc.at (i := pf2.idxOf ((L2q459.getD i .zero).w.take (k + 1))) fr_nv2519.slc (by simp only [ncells_length]; omega) (by omega)
                refine Ops.q rfl (qindexS u85 sz84 rfl e551 rfl l551) <| .q rfl (qfieldAddr fl84_1 sz3 (by decide) rfl) <| .l rfl (fun _ _ hk552 _ => wstoreOwn (size := 2) (i := (pf2.idxOf ((L2q459.getD i .zero).w.take (k + 1)))) (j := 1) fr_nv2519 e551 l551 (by decide) wf521 rfl rfl rfl sz3 rfl fun A553 rr556 rc556 gg556 sb554 fr555 => ?_)
                rw [ncells_set (by (try simp only [List.length_append, List.length_cons, List.length_nil]); omega) (by (try simp only [List.length_append, List.length_cons, List.length_nil]); omega)] at fr555
                have h557 := sb554.keep _ _ (fun q => no_nv2_b305519 (by rw [e551]; exact congrArg some q.symm)) hr_b305519
                have h558 := sb554.keep _ _ (fun q => no_nv2_b497519 (by rw [e551]; exact congrArg some q.symm)) hr_b497519
                have fr559 := fk_oq459_0519.keep sb554.keep (fun q => sq519_0_1 _ (by rw [e551]; rfl) q)
                have le560 := le_store le519 wf (fr_nv2519.lo _ (by rw [e551]; rfl)) sb554.n sb554.keep
                have ob561 := ob522.set gg556 sb554.n sb554.keep
                refine hk552 _ _ <| .nil <| h529 _ _ <| .region <| .q rfl (qaddN (b := 1) rfl rfl (by omega)) <| .q rfl (qmove rfl) <| .nil ?_
                exact ⟨⟨k + 1, pf2.idxOf ((L2q459.getD i .zero).w.take (k + 1)), pf2, (bs2.set (pf2.idxOf ((L2q459.getD i .zero).w.take (k + 1))) ((i : Nat) : Int)), bl2, nv2, Ds⟩, EnvLe.cons rfl <| EnvLe.cons rfl <| EnvLe.cons rfl <| EnvLe.cons rfl <| EnvLe.cons rfl <| EnvLe.cons rfl <| EnvLe.cons rfl <| EnvLe.cons rfl <| EnvLe.cons rfl <| EnvLe.nil _, rfl, ⟨⟨by omega, fold_snoc ht2 (tstep_set (if_pos hin) rfl ⟨by omega, by assumption⟩), (by (try simp only [List.length_append, List.length_set, List.length_cons, List.length_nil]); omega), (by (try simp only [List.length_append, List.length_set, List.length_cons, List.length_nil]); omega), hpc2, (by (try simp only [List.length_append, List.length_set, List.length_cons, List.length_nil]); omega), hin, rfl⟩, le560, fr555, fr559, h557, h558, no_nv2_b305519, no_oq459_0_b305519, no_nv2_b497519, no_oq459_0_b497519, sq519_0_1, (hdf519.objs ob561), (hT2.objs ob561)⟩, (by (try dsimp only); omega)⟩
              ·
                refine Run.skip <| h529 _ _ <| .region <| .q rfl (qaddN (b := 1) rfl rfl (by omega)) <| .q rfl (qmove rfl) <| .nil ?_
                exact ⟨⟨k + 1, pf2.idxOf ((L2q459.getD i .zero).w.take (k + 1)), pf2, bs2, bl2, nv2, Ds⟩, EnvLe.cons rfl <| EnvLe.cons rfl <| EnvLe.cons rfl <| EnvLe.cons rfl <| EnvLe.cons rfl <| EnvLe.cons rfl <| EnvLe.cons rfl <| EnvLe.cons rfl <| EnvLe.cons rfl <| EnvLe.nil _, rfl, ⟨⟨by omega, fold_snoc ht2 (tstep_not (if_pos hin) rfl (by rintro ⟨q1, q2⟩; omega)), (by (try simp only [List.length_append, List.length_set, List.length_cons, List.length_nil]); omega), (by (try simp only [List.length_append, List.length_set, List.length_cons, List.length_nil]); omega), hpc2, (by (try simp only [List.length_append, List.length_set, List.length_cons, List.length_nil]); omega), hin, rfl⟩, le519, fr_nv2519, fk_oq459_0519, hr_b305519, hr_b497519, no_nv2_b305519, no_oq459_0_b305519, no_nv2_b497519, no_oq459_0_b497519, sq519_0_1, (hdf519.objs ob522), (hT2.objs ob522)⟩, (by (try dsimp only); omega)⟩
            ·
              refine Ops.off rfl rfl rfl rfl <| .off rfl rfl rfl rfl <| .off rfl rfl rfl rfl <| .off rfl rfl rfl rfl <| .off rfl rfl rfl rfl <| .off rfl rfl rfl rfl <| .off rfl rfl rfl rfl <| .off rfl rfl rfl rfl <| .off rfl rfl rfl rfl <| .q rfl (qpickF rfl rfl) ?_
              refine Ops.nil <| h547 _ _ <| .cond_false rfl <| .skip <| h529 _ _ <| .region <| .q rfl (qaddN (b := 1) rfl rfl (by omega)) <| .q rfl (qmove rfl) <| .nil ?_
              exact ⟨⟨k + 1, pf2.idxOf ((L2q459.getD i .zero).w.take (k + 1)), pf2, bs2, bl2, nv2, Ds⟩, EnvLe.cons rfl <| EnvLe.cons rfl <| EnvLe.cons rfl <| EnvLe.cons rfl <| EnvLe.cons rfl <| EnvLe.cons rfl <| EnvLe.cons rfl <| EnvLe.cons rfl <| EnvLe.cons rfl <| EnvLe.nil _, rfl, ⟨⟨by omega, fold_snoc ht2 (tstep_not (if_pos hin) rfl (by rintro ⟨q1, q2⟩; omega)), (by (try simp only [List.length_append, List.length_set, List.length_cons, List.length_nil]); omega), (by (try simp only [List.length_append, List.length_set, List.length_cons, List.length_nil]); omega), hpc2, (by (try simp only [List.length_append, List.length_set, List.length_cons, List.length_nil]); omega), hin, rfl⟩, le519, fr_nv2519, fk_oq459_0519, hr_b305519, hr_b497519, no_nv2_b305519, no_oq459_0_b305519, no_nv2_b497519, no_oq459_0_b497519, sq519_0_1, (hdf519.objs ob522), (hT2.objs ob522)⟩, (by (try dsimp only); omega)⟩
          ·
            refine hk538 _ _ (HeldNow.none (by kernel_rfl)) <| .q rfl rfl rfl (qmove rfl) <| .q rfl rfl rfl (qextract rfl rfl) <| .q rfl rfl rfl (qextract rfl rfl) <| .q rfl rfl rfl (qassign rfl) <| .q rfl rfl rfl (qassign rfl) <| .done <| h533 _ _ <| .seq fun K562 h563 => .seq fun K564 h565 => ?_
            refine Run.region <| .q rfl (qmove rfl) <| .q rfl (qnot rfl) <| .nil <| h565 _ _ <| .cond_true rfl <| .seq fun K566 h567 => .region <| .q rfl (qmove rfl) <| .q rfl (qnil rfl) ?_
            refine Ops.q rfl (qfieldAddr fl88_1 sz85 (by decide) rfl) <| .q rfl (qloadAt ag85 rfl rfl hr_b305519 rfl) <| .q rfl (qlenS (n := pf2.length) u85 rfl fr_nv2519.slc (by omega) ((ncells_len _).trans (by rw [hzl]))) <| .q rfl (qassign rfl) <| .nil <| h567 _ _ <| .seq fun K568 h569 => .region <| .q rfl (qmove rfl) <| .q rfl (qmove rfl) ?_
            refine Ops.q rfl (qnil rfl) <| .q rfl (qfieldAddr fl88_1 sz85 (by decide) rfl) <| .q rfl (qloadAt ag85 rfl rfl hr_b305519 rfl) ?_
            have hTc574 := hT2.objs ob522
            refine Ops.l rfl (fun _ _ hk570 _ => wmakeMap wf521 fun A572 b571 nb573 => ?_)
            have hni := hTc574.notin wf521 nb573.lo
            have ne_b305_b571 := ne_new wf521 hr_b305519 nb573.lo
            have no575 := fr_nv2519.own.ne_new wf521 nb573.lo
            have ge_b571 := none_of wf (Nat.le_trans le519.n nb573.lo)
            have h577 := nb573.le.get _ _ hr_b305519
            have h578 := nb573.le.get _ _ hr_b497519
            have fr579 := fr_nv2519.le nb573.le
            have fr580 := fk_oq459_0519.le nb573.le
            have le581 := le519.trans nb573.le
            have ob582 := ob522.le nb573.le
            refine hk570 _ _ <| .q rfl (qbuild rfl (buildV_struct u84 z84 pl84 rfl)) <| .l rfl (fun _ _ hk583 _ => wbuildSlice (c := [.map (some b571), num (-1)]) nb573.wf rfl (buildSliceV_of u85 sz84 z84 rfl (by decide) (by decide) rfl) fun A585 b584 nb586 => ?_)
            have h589 := nb586.le.get _ _ h577
            have h590 := nb586.le.get _ _ h578
            have h591 := nb586.le.get _ _ nb573.get
            have fr592 := fr579.le nb586.le
            have fr593 := fr580.le nb586.le
            have le594 := le581.trans nb586.le
            have ob595 := ob582.le nb586.le
            refine hk583 _ _ <| .l rfl (fun _ _ hk596 _ => wappend (ys := [.map (some b571), num (-1)]) rfl rfl u85 sz84 inf84 z84 rfl (by decide) u85 (fun _ h => by cases h) fr592.own (listOf_row (n := 1) nb586.get rfl) rfl rfl (by show (_ + _) * 16 ≤ _; simp only [ncells_length, List.length_cons, List.length_nil]; (try simp only [List.length_append, List.length_cons, List.length_nil]); omega) (by simp only [ncells_length, List.length_cons, List.length_nil]; (try simp only [List.length_append, List.length_cons, List.length_nil]); omega) fun A597 v598 ap599 => ?_)
            rw [show ([.map (some b571), num (-1)] : List Value) = ncells [(b571, -1)] from rfl, ncells_append] at ap599
            obtain ⟨fr602, le603⟩ := Fresh.grow fr592 le594 wf ap599
            have h604 := ap599.keep no_nv2_b305519 h589
            have ne605 := ap599.ne no_nv2_b305519 nb586.wf h589
            have h606 := ap599.keep no_nv2_b497519 h590
            have ne607 := ap599.ne no_nv2_b497519 nb586.wf h590
            have h608 := ap599.keep no575 h591
            have ob610 := ob595.appd fr592.own ap599
            have sp612 := Sep.appd (show Sep nv2 lv from sq519_0_1) fr593.own nb586.wf ap599
            have fr611 := fr593.appd ap599 sq519_0_1
            refine hk596 _ _ <| .q rfl (qnil rfl) <| .q rfl (qfieldAddr fl88_1 sz85 (by decide) rfl) ?_
            obtain ⟨p614, l614, c614, q614, _⟩ := fr602.own.slice
            subst q614
            refine Ops.l rfl (fun _ _ hk613 _ => wstore (cs := [.slice p614 l614 c614]) (c' := [lv, .slice p614 l614 c614, num ((mo : Nat) : Int)]) ap599.wf rfl rfl rfl rfl sz85 h604 (Nat.le_of_ble_eq_true rfl) rfl rfl fun A615 sb616 => ?_)
            have h617 := sb616.keep _ _ ne_b305_b497.symm h606
            have h618 := sb616.keep _ _ ne_b305_b571.symm h608
            have fr619 := fr611.keep sb616.keep no_oq459_0_b305519
            have fr620 := fr602.keep sb616.keep ne605
            have ob621 := ob610.set h604 sb616.n sb616.keep
            have le622 := le_store le603 wf ge_b305 sb616.n sb616.keep
            refine hk613 _ _ <| .nil ?_
            have fr623 := fresh_eq fr620 (congrArg ncells (zip_snoc (b := b571) (z := -1) hbl2))
            have hzl2 : ((bl2 ++ [b571]).zip (bs2 ++ [-1])).length = pf2.length + 1 := by rw [List.length_zip]; simp; omega
            refine h569 _ _ <| .drawn [0, 1, 2, 3, 4, 5, 6, 7, 8, 9, 10, 11, 12, 13] mixed (by kernel_rfl) (by kernel_rfl) rfl <| .q rfl rfl rfl (qmove rfl) <| .q rfl rfl rfl (qnil rfl) <| .q rfl rfl rfl (qfieldAddr fl88_1 sz85 (by decide) rfl) <| .q rfl rfl rfl (qloadAt ag85 rfl rfl sb616.get rfl) <| .q rfl rfl rfl (qmove rfl) ?_
            obtain ⟨b625, f625, rw625, r625, rc625, n625, k625, e625, l625, g625, cl625, cs625⟩ := Slc.at (i := nd) fr623.slc (by simp only [ncells_length]; omega) (by omega)
            refine DOps.q rfl rfl rfl (qindexS u85 sz84 rfl e625 rfl l625) <| .q rfl rfl rfl (qfieldAddr fl84_0 sz82 (by decide) rfl) <| .q rfl rfl rfl (qloadAt ag82 rfl rfl g625 ((cs625 0 (by decide)).trans (ncells_f0 (by omega)))) <| .q rfl rfl rfl (qfieldAddr fl80_0 sz9 (by decide) rfl) <| .q rfl rfl rfl (qloadAt ag9 rfl rfl h617 rfl) <| .q rfl rfl rfl (qmove rfl) <| .q rfl rfl rfl (qsix u9 rfl rfl (by omega)) <| .q rfl rfl rfl (qmove rfl) ?_
            have hTc629 := hT2.objs ob621
            obtain ⟨es629, clk629, hgm629, hE629⟩ := hTc629.2.2.2.2 nd hndl
            have hqn : pf2.getD nd [] ++ [(L2q459.getD i .zero).w.getD k 0] = (L2q459.getD i .zero).w.take (k + 1) := by rw [hq, getD_idxOf hp]; exact take_next (by omega)
            have hnew : pf2.getD nd [] ++ [(L2q459.getD i .zero).w.getD k 0] ∉ pf2 := by rw [hqn]; exact hin
            have hmz : (((bl2 ++ [b571]).zip (bs2 ++ [-1])).getD nd (0, 0)).1 = bl2.getD nd 0 := (zip_fst (by simp; omega) (by simp; omega)).trans (getD_app (by omega))
            refine DOps.l rfl rfl rfl (fun _ _ hk628 _ => wupdateB (pf := pf2) (p := pf2.getD nd []) (n := pf2.length) sb616.wf rfl rfl rfl u82 u5 (by rw [hmz]; exact hgm629) hE629 hnew fun A630 sb631 => ?_)
            rw [hmz] at sb631
            have hTn629 := hTc629.grow hndl hnew (fun d q => hnew (hpc2.cl _ _ q)) h618 hni ge_b571 hE629 sb631
            rw [hqn] at hTn629
            have h632 := sb631.keep _ _ (ne_rowobj sb616.get hgm629) sb616.get
            have h633 := sb631.keep _ _ (ne_rowobj h617 hgm629) h617
            have fr634 := fr619.keep sb631.keep (fr619.own.ne_obj hgm629)
            have fr635 := fr623.keep sb631.keep (fr623.own.ne_obj hgm629)
            have df636 := Defs.keep (hdf519.objs ob621) sb631.keep hgm629 (fun q => by cases q)
            have le637 := le_store le622 wf (hTc629.2.2.2.1 _ (getD_lt_mem (by rw [hTc629.1]; exact hndl))) sb631.n sb631.keep
            have ob638 := Objs.refl A630
            refine hk628 _ _ (HeldNow.none (by kernel_rfl)) <| .done <| h563 _ _ <| .seq fun K639 h640 => .region <| .q rfl (qmove rfl) <| .q rfl (qassign rfl) <| .nil <| h640 _ _ <| .seq fun K641 h642 => ?_
            refine Run.region <| .q rfl (qmove rfl) <| .q rfl (qaddN (b := 1) rfl rfl (by omega)) <| .q rfl (qmulN (a := 2) rfl rfl (by omega)) <| .q rfl (qfieldAddr fl80_0 sz9 (by decide) rfl) <| .q rfl (qloadAt ag9 rfl rfl h633 rfl) <| .q rfl (qslen u9 rfl) <| .q rfl (qgtrN rfl rfl) <| .q rfl (qmove rfl) <| .part (t := 182) rfl (fun p643 => ?_) (fun p643 => ?_)
            ·
              refine Ops.on rfl rfl <| .q rfl (qmove rfl) <| .on rfl rfl <| .q rfl (qnil rfl) <| .on rfl rfl <| .q rfl (qfieldAddr fl88_1 sz85 (by decide) rfl) <| .on rfl rfl <| .q rfl (qloadAt ag85 rfl rfl h632 rfl) <| .on rfl rfl <| .q rfl (qmove rfl) ?_
              refine Ops.on rfl rfl ?_
              obtain ⟨b644, f644, rw644, r644, rc644, n644, k644, e644, l644, g644, cl644, cs644⟩ := Slc.at (i := pf2.length) fr635.slc (by simp only [ncells_length]; omega) (by omega)
              refine Ops.q rfl (qindexS u85 sz84 rfl e644 rfl l644) <| .on rfl rfl <| .q rfl (qfieldAddr fl84_1 sz3 (by decide) rfl) <| .on rfl rfl <| .q rfl (qloadAt ag3 rfl rfl g644 (((cs644 1 (by decide)).trans (ncells_f1 (by omega))).trans (congrArg (fun z => some (num z)) (zip_snd (by (try simp only [List.length_append, List.length_cons, List.length_nil]); omega) (by (try simp only [List.length_append, List.length_cons, List.length_nil]); omega))))) <| .on rfl rfl <| .q rfl (qlss rfl rfl) <| .q rfl (qpickT rfl rfl) <| .nil <| h642 _ _ ?_
              refine Run.if rfl (fun p645 => ?_) (fun p645 => ?_)
              ·
                refine Run.region <| .q rfl (qmove rfl) <| .q rfl (qnil rfl) <| .q rfl (qfieldAddr fl88_1 sz85 (by decide) rfl) <| .q rfl (qloadAt ag85 rfl rfl h632 rfl) <| .q rfl (qmove rfl) <| .q rfl (qmove rfl) ?_
                obtain ⟨b646, f646, rw646, r646, rc646, n646, k646, e646, l646, g646, cl646, cs646⟩ := Slc.at (i := pf2.length) fr635.slc (by simp only [ncells_length]; omega) (by omega)
                refine Ops.q rfl (qindexS u85 sz84 rfl e646 rfl l646) <| .q rfl (qfieldAddr fl84_1 sz3 (by decide) rfl) <| .l rfl (fun _ _ hk647 _ => wstoreOwn (size := 2) (i := pf2.length) (j := 1) fr635 e646 l646 (by decide) sb631.wf rfl rfl rfl sz3 rfl fun A648 rr651 rc651 gg651 sb649 fr650 => ?_)
                rw [ncells_set (by (try simp only [List.length_append, List.length_cons, List.length_nil]); omega) (by (try simp only [List.length_append, List.length_cons, List.length_nil]); omega)] at fr650
                have h652 := sb649.keep _ _ (fun q => ne605 (by rw [e646]; exact congrArg some q.symm)) h632
                have h653 := sb649.keep _ _ (fun q => ne607 (by rw [e646]; exact congrArg some q.symm)) h633
                have fr654 := fr634.keep sb649.keep (fun q => sp612 _ (by rw [e646]; rfl) q)
                have le655 := le_store le637 wf (fr635.lo _ (by rw [e646]; rfl)) sb649.n sb649.keep
                have ob656 := ob638.set gg651 sb649.n sb649.keep
                refine hk647 _ _ <| .nil <| h529 _ _ <| .region <| .q rfl (qaddN (b := 1) rfl rfl (by omega)) <| .q rfl (qmove rfl) <| .nil ?_
                exact ⟨⟨k + 1, pf2.length, (pf2 ++ [(L2q459.getD i .zero).w.take (k + 1)]), ((bs2 ++ [-1]).set pf2.length ((i : Nat) : Int)), (bl2 ++ [b571]), .slice p614 l614 c614, Ds⟩, EnvLe.cons rfl <| EnvLe.cons rfl <| EnvLe.cons rfl <| EnvLe.cons rfl <| EnvLe.cons rfl <| EnvLe.cons rfl <| EnvLe.cons rfl <| EnvLe.cons rfl <| EnvLe.cons rfl <| EnvLe.nil _, rfl, ⟨⟨by omega, fold_snoc ht2 (tstep_set (if_neg hin) (idxOf_snoc hin).symm ⟨by omega, by assumption⟩), (by (try simp only [List.length_append, List.length_set, List.length_cons, List.length_nil]); omega), (by (try simp only [List.length_append, List.length_set, List.length_cons, List.length_nil]); omega), (by have q := hpc2.snoc (c := (L2q459.getD i .zero).w.getD k 0) hp; rw [take_next (by omega)] at q; exact q), (by (try simp only [List.length_append, List.length_set, List.length_cons, List.length_nil]); omega), by simp, (idxOf_snoc hin).symm⟩, le655, fr650, fr654, h652, h653, ne605, no_oq459_0_b305519, ne607, no_oq459_0_b497519, sp612, (df636.objs ob656), (hTn629.objs ob656)⟩, (by (try dsimp only); omega)⟩
              ·
                refine Run.skip <| h529 _ _ <| .region <| .q rfl (qaddN (b := 1) rfl rfl (by omega)) <| .q rfl (qmove rfl) <| .nil ?_
                exact ⟨⟨k + 1, pf2.length, (pf2 ++ [(L2q459.getD i .zero).w.take (k + 1)]), (bs2 ++ [-1]), (bl2 ++ [b571]), .slice p614 l614 c614, Ds⟩, EnvLe.cons rfl <| EnvLe.cons rfl <| EnvLe.cons rfl <| EnvLe.cons rfl <| EnvLe.cons rfl <| EnvLe.cons rfl <| EnvLe.cons rfl <| EnvLe.cons rfl <| EnvLe.cons rfl <| EnvLe.nil _, rfl, ⟨⟨by omega, fold_snoc ht2 (tstep_not (if_neg hin) (idxOf_snoc hin).symm (by rintro ⟨q1, q2⟩; omega)), (by (try simp only [List.length_append, List.length_set, List.length_cons, List.length_nil]); omega), (by (try simp only [List.length_append, List.length_set, List.length_cons, List.length_nil]); omega), (by have q := hpc2.snoc (c := (L2q459.getD i .zero).w.getD k 0) hp; rw [take_next (by omega)] at q; exact q), (by (try simp only [List.length_append, List.length_set, List.length_cons, List.length_nil]); omega), by simp, (idxOf_snoc hin).symm⟩, le637, fr635, fr634, h632, h633, ne605, no_oq459_0_b305519, ne607, no_oq459_0_b497519, sp612, (df636.objs ob638), (hTn629.objs ob638)⟩, (by (try dsimp only); omega)⟩
            ·
              refine Ops.off rfl rfl rfl rfl <| .off rfl rfl rfl rfl <| .off rfl rfl rfl rfl <| .off rfl rfl rfl rfl <| .off rfl rfl rfl rfl <| .off rfl rfl rfl rfl <| .off rfl rfl rfl rfl <| .off rfl rfl rfl rfl <| .off rfl rfl rfl rfl <| .q rfl (qpickF rfl rfl) ?_
              refine Ops.nil <| h642 _ _ <| .cond_false rfl <| .skip <| h529 _ _ <| .region <| .q rfl (qaddN (b := 1) rfl rfl (by omega)) <| .q rfl (qmove rfl) <| .nil ?_
              exact ⟨⟨k + 1, pf2.length, (pf2 ++ [(L2q459.getD i .zero).w.take (k + 1)]), (bs2 ++ [-1]), (bl2 ++ [b571]), .slice p614 l614 c614, Ds⟩, EnvLe.cons rfl <| EnvLe.cons rfl <| EnvLe.cons rfl <| EnvLe.cons rfl <| EnvLe.cons rfl <| EnvLe.cons rfl <| EnvLe.cons rfl <| EnvLe.cons rfl <| EnvLe.cons rfl <| EnvLe.nil _, rfl, ⟨⟨by omega, fold_snoc ht2 (tstep_not (if_neg hin) (idxOf_snoc hin).symm (by rintro ⟨q1, q2⟩; omega)), (by (try simp only [List.length_append, List.length_set, List.length_cons, List.length_nil]); omega), (by (try simp only [List.length_append, List.length_set, List.length_cons, List.length_nil]); omega), (by have q := hpc2.snoc (c := (L2q459.getD i .zero).w.getD k 0) hp; rw [take_next (by omega)] at q; exact q), (by (try simp only [List.length_append, List.length_set, List.length_cons, List.length_nil]); omega), by simp, (idxOf_snoc hin).symm⟩, le637, fr635, fr634, h632, h633, ne605, no_oq459_0_b305519, ne607, no_oq459_0_b497519, sp612, (df636.objs ob638), (hTn629.objs ob638)⟩, (by (try dsimp only); omega)⟩
        ·
          refine Run.exit <| h492 _ _ <| .region <| .q rfl (qaddN (b := 1) rfl rfl (by omega)) <| .q rfl (qmove rfl) <| .nil ?_
          exact ⟨⟨i + 1, pf2, bs2, bl2, nv2, Ds⟩, EnvLe.cons rfl <| EnvLe.cons rfl <| EnvLe.cons rfl <| EnvLe.cons rfl <| EnvLe.nil _, rfl, ⟨⟨by omega, (by rw [List.range_succ, List.foldl_append, ← ht]; show _ = tword L2q459 (pf, bs) i; unfold tword; rw [show (L2q459.getD i .zero).w.length = k by omega]; exact ht2), hbl2, hbs2, hpc2, (by have := hwx (by omega); omega)⟩, le519, fr_nv2519, fk_oq459_0519, hr_b305519, no_nv2_b305519, no_oq459_0_b305519, sq519_0_1, (hdf519.objs ob522), (hT2.objs ob522)⟩, (by (try dsimp only); omega)⟩
      ·
        refine Run.exit <| h479 _ _ <| .seq fun K657 h658 => .region <| .q rfl (qmove rfl) <| .q rfl (qassign rfl) <| .nil <| h658 _ _ <| .ret ?_
        (repeat first | with_reducible refine thenQ_exit ?_ | with_reducible refine blockQ_same ?_ | with_reducible refine blockQ_other (by decide) ?_); exact ⟨Ds, rfl, (hdf482.objs ob485).1, (fun D hD => ((hdf482.objs ob485).2 D hD).1), [.pointer (some ⟨b305, 0, none⟩)], fun A' wf2 hn2 hk2 => ⟨rfl, _, rfl, _, _, rfl, (hdf482.objs ob485).leave le482 hn2 hk2, wf2, (Rules.leave (hdf482.objs ob485) hk2 hr_b305482 ge_b305 fk_oq459_0482 fr_nv482 (hT.objs ob485) hbs), rs_ok hok2 (fun x hx => hL4 x (hpq459.mem_iff.1 hx)) hL5 (by rw [hpq459.length_eq]; exact hL6) (by rw [ht, show i = L2q459.length by omega]; rfl) hpc.root, (hpq459.trans hperm).trans (by rw [hE, show k = l.length by omega]; exact .refl _), hsq459⟩⟩
end Go.Proofs.YtaccklloepfemaaDoor
