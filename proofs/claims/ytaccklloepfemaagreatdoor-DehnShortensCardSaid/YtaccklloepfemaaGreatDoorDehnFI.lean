/- The contracts of the functions, one by one: what each comes to. -/
import Derived.Test.YtaccklloepfemaaGreatDoorDehnFH
namespace Go.Proofs.YtaccklloepfemaaGreatDoor
open Go Go.RowKit V
set_option maxRecDepth 100000
set_option linter.unusedVariables false
set_option linter.unusedSimpArgs false
theorem ag101 : aggOf Tryz.prog 101 = some false := by kernel_rfl
theorem ag36 : aggOf Tryz.prog 36 = some true := by kernel_rfl
theorem ag65 : aggOf Tryz.prog 65 = some false := by kernel_rfl
theorem ag95 : aggOf Tryz.prog 95 = some true := by kernel_rfl
theorem fl103_0 : fldOf Tryz.prog 103 0 = some (101, 0) := by kernel_rfl
theorem fl103_2 : fldOf Tryz.prog 103 2 = some (3, 2) := by kernel_rfl
theorem fl111_1 : fldOf Tryz.prog 111 1 = some (65, 1) := by kernel_rfl
theorem fl111_2 : fldOf Tryz.prog 111 2 = some (34, 2) := by kernel_rfl
theorem fl95_0 : fldOf Tryz.prog 95 0 = some (9, 0) := by kernel_rfl
theorem fl95_1 : fldOf Tryz.prog 95 1 = some (9, 1) := by kernel_rfl
theorem fl95_2 : fldOf Tryz.prog 95 2 = some (3, 2) := by kernel_rfl
theorem fl95_3 : fldOf Tryz.prog 95 3 = some (4, 3) := by kernel_rfl
theorem inf79 : Tryz.prog.info? 79 = some Tryz.t79 := by kernel_rfl
theorem pl111 : structPlaces Tryz.prog 111 = some [(0, 1), (1, 1), (2, 1)] := by kernel_rfl
theorem pl36 : structPlaces Tryz.prog 36 = some [(0, 1), (1, 1), (2, 1)] := by kernel_rfl
theorem pl79 : structPlaces Tryz.prog 79 = some [(0, 1), (1, 1), (2, 1)] := by kernel_rfl
theorem sz101 : szOf Tryz.prog 101 = some 1 := by kernel_rfl
theorem sz36 : szOf Tryz.prog 36 = some 3 := by kernel_rfl
theorem sz65 : szOf Tryz.prog 65 = some 1 := by kernel_rfl
theorem sz95 : szOf Tryz.prog 95 = some 4 := by kernel_rfl
theorem u101 : type_of% @Tryz.underlying101 := @Tryz.underlying101
theorem u111 : type_of% @Tryz.underlying111 := @Tryz.underlying111
theorem u36 : type_of% @Tryz.underlying36 := @Tryz.underlying36
theorem u79 : type_of% @Tryz.underlying79 := @Tryz.underlying79
theorem z111 : zeroOf Tryz.prog 111 = some (.agg #[.slice none 0 0, .pointer none, .slice none 0 0]) := by kernel_rfl
theorem z36 : zeroOf Tryz.prog 36 = some (.agg #[.string ⟨⟨[]⟩⟩, .int .i64 0, .slice none 0 0]) := by kernel_rfl

theorem s_put (w l : List UInt8) (low : Nat) (lv rv dv : Value) (b0 b1 b2 cap1 : Nat) (rw1 : Bool) (A0 A : AH) (le_ : A0.le A) (wf0 : A0.wf) (hb : A.get b0 = some (.row true [lv, rv, dv] 3)) (no0 : A0.get b0 = none) (hc : A.get b2 = some (.row true [num ((low : Nat) : Int)] 1)) (no2 : A0.get b2 = none) (fr : Fresh A0 A lv 1 (byteCells l)) (ne0 : blk lv ≠ some b0) (ne2 : blk lv ≠ some b2) (ne_b0_b2 : b0 ≠ b2) (gb1 : A0.get b1 = some (.row rw1 [.pointer (some ⟨b0, 0, none⟩)] cap1)) (hw : w.length ≤ 500000) (hl : l.length ≤ 500000000) : RetA Tryz.prog 113 #[str (w), .pointer (some ⟨b1, 0, none⟩), .pointer (some ⟨b2, 0, none⟩)] A (fun v A1 => ∃ lv2, v = .tuple #[] ∧ A0.le A1 ∧ A1.wf ∧ A1.get b0 = some (.row true [lv2, rv, dv] 3) ∧ A1.get b2 = some (.row true [num (((putF (l, low) w).2 : Nat) : Int)] 1) ∧ Fresh A0 A1 lv2 1 (byteCells (putF (l, low) w).1) ∧ blk lv2 ≠ some b0 ∧ blk lv2 ≠ some b2) := by
 refine enterA (e := [(0, str (w)), (1, .pointer (some ⟨b1, 0, none⟩)), (2, .pointer (some ⟨b2, 0, none⟩))]) (args := [str (w), .pointer (some ⟨b1, 0, none⟩), .pointer (some ⟨b2, 0, none⟩)]) Tryz.call113 Tryz.func113 rfl Tryz.results113 Tryz.ntmps113 rfl rfl rfl (fun wf => ?_)
 refine Run.seq fun K1 h2 => ?_
 refine Run.region ?_
 refine Ops.q rfl (qmove rfl) ?_
 refine Ops.q rfl (qslen u9 rfl) ?_
 refine Ops.q rfl (qmove rfl) ?_
 refine Ops.nil ?_
 refine h2 _ _ ?_
 refine Run.block ?_
 refine Run.loop (X := Nat × List UInt8 × Nat × Value) (fun ⟨k, x, lo, s⟩ => [(0, str (w)), (1, .pointer (some ⟨b1, 0, none⟩)), (2, .pointer (some ⟨b2, 0, none⟩)), (6, num ((w.length : Nat) : Int)), (7, num ((k : Nat) : Int))]) (fun ⟨k, x, lo, s⟩ B => (k ≤ w.length ∧ putF (x, lo) (w.drop k) = putF (l, low) w ∧ x.length ≤ l.length + k) ∧ A0.le B ∧ Fresh A0 B s 1 (byteCells x) ∧ B.get b2 = some (.row true [num ((lo : Nat) : Int)] 1) ∧ B.get b0 = some (.row true [s, rv, dv] 3) ∧ V.blk s ≠ some b2 ∧ V.blk s ≠ some b0) (fun ⟨k, x, lo, s⟩ => w.length - k) (⟨0, l, low, lv⟩) (EnvLe.cons rfl <| EnvLe.cons rfl <| EnvLe.cons rfl <| EnvLe.cons rfl <| EnvLe.cons rfl <| EnvLe.nil _) (⟨⟨Nat.zero_le _, rfl, Nat.le_refl _⟩, le_, (fresh_eq fr (congrArg byteCells ((by first | rfl | (rw [letter_of (by omega)]; rfl))))), hc, hb, ne2, ne0⟩) ?_
 rintro ⟨k, x, lo, s⟩ B4 ⟨⟨hk, hput, hxl⟩, le3, fr_s3, hr_b23, hr_b03, no_s_b23, no_s_b03⟩
 refine Run.wf fun wf5 => ?_
 refine Run.seq fun K6 h7 => ?_
 refine Run.region ?_
 refine Ops.q rfl (qlssN rfl rfl) ?_
 refine Ops.nil ?_
 refine h7 _ _ ?_
 refine Run.seq fun K8 h9 => ?_
 refine Run.if rfl (fun p10 => ?_) (fun p10 => ?_)
 ·
  refine Run.skip ?_
  refine h9 _ _ ?_
  refine Run.seq fun K11 h12 => ?_
  refine Run.block ?_
  refine Run.seq fun K13 h14 => ?_
  refine Run.region ?_
  refine Ops.q rfl (qmove rfl) ?_
  refine Ops.q rfl (qassign rfl) ?_
  refine Ops.nil ?_
  refine h14 _ _ ?_
  refine Run.seq fun K15 h16 => ?_
  refine Run.drawn [0, 1, 2, 3, 4, 5, 6, 7, 8] mixed (by kernel_rfl) (by kernel_rfl) rfl ?_
  have hc17 := cellOf (off := 0) (le3.get _ _ gb1) (show _ = some (.pointer (some ⟨b0, 0, none⟩)) from rfl)
  refine DOps.q rfl rfl rfl (qloadAt ag107 rfl rfl (le3.get _ _ gb1) rfl) ?_
  refine DOps.q rfl rfl rfl (qnil rfl) ?_
  refine DOps.q rfl rfl rfl (qfieldAddr fl111_0 sz109 (by decide) rfl) ?_
  refine DOps.q rfl rfl rfl (qmove rfl) ?_
  refine DOps.q rfl rfl rfl (qmove rfl) ?_
  refine DOps.q rfl rfl rfl (qmove rfl) ?_
  refine DOps.q rfl rfl rfl (qaddN (b := 1) rfl rfl (by omega)) ?_
  refine DOps.q rfl rfl rfl (qsl u9 rfl rfl rfl (by omega)) ?_
  have le22 := le_hide (bs := [some b0, blk s]) le3 (hoB no0 (hoV fr_s3.lo ho0))
  refine DOps.l rfl rfl rfl (fun _ _ hk18 _ => vcallF rfl (s_push ((w.take (k + 1)).drop k) x s rv dv b0 (B4.hide [some b0, blk s]) B4 (hide_le B4 [some b0, blk s]) (hide_wf wf5) hr_b03 (hide_none (by simp)) (fr_s3.hide (by simp)) no_s_b03 (by rw [List.length_drop, List.length_take]; omega) (by omega)) ?_)
  rintro v19 A20 ⟨lvq21, rfl, leq21, wfq21, hrq21_b0, foq21_0, neq21_0_b0⟩
  have hg23 := hide_get (bs := [some b0, blk s]) hr_b23 (nmB ne_b0_b2.symm (nmV no_s_b23 nm0))
  have h24 := leq21.get _ _ hg23
  have fr25 := foq21_0.base le22
  have no26 := foq21_0.seph hg23
  have le27 := le22.trans leq21
  refine hk18 _ _ (HeldNow.none (by kernel_rfl)) ?_
  refine DOps.done ?_
  refine h16 _ _ ?_
  refine Run.drawn [0, 1, 2, 3, 4, 5, 6, 7, 8] mixed (by kernel_rfl) (by kernel_rfl) rfl ?_
  have hc28 := cellOf (off := 0) h24 (show _ = some (num ((lo : Nat) : Int)) from rfl)
  refine DOps.q rfl rfl rfl (qloadAt ag3 rfl rfl h24 rfl) ?_
  have hc29 := cellOf (off := 0) (le27.get _ _ gb1) (show _ = some (.pointer (some ⟨b0, 0, none⟩)) from rfl)
  refine DOps.q rfl rfl rfl (qloadAt ag107 rfl rfl (le27.get _ _ gb1) rfl) ?_
  refine DOps.q rfl rfl rfl (qnil rfl) ?_
  refine DOps.q rfl rfl rfl (qfieldAddr fl111_0 sz109 (by decide) rfl) ?_
  refine DOps.q rfl rfl rfl (qfieldAddr fl109_0 sz80 (by decide) rfl) ?_
  have hc30 := cellOf (off := 0) hrq21_b0 (show _ = some (lvq21) from rfl)
  refine DOps.q rfl rfl rfl (qloadAt ag80 rfl rfl hrq21_b0 rfl) ?_
  refine DOps.q rfl rfl rfl (qlenS (n := (((w.take (k + 1)).drop k).foldl push x).length) u80 rfl fr25.slc (by omega) (bytes_len _)) ?_
  refine DOps.q rfl rfl rfl (qminN rfl rfl) ?_
  refine DOps.l rfl rfl rfl (fun _ _ hk31 _ => wstore (cs := [num ((min lo ((((w.take (k + 1)).drop k).foldl push x).length) : Nat) : Int)]) (c' := [num ((min lo ((((w.take (k + 1)).drop k).foldl push x).length) : Nat) : Int)]) wfq21 rfl rfl rfl rfl sz3 h24 (Nat.le_of_ble_eq_true rfl) rfl rfl fun A32 sb33 => ?_)
  have h34 := sb33.keep _ _ ne_b0_b2 hrq21_b0
  have fr35 := fr25.keep sb33.keep no26
  have le36 := le_store le27 wf0 no2 sb33.n sb33.keep
  refine hk31 _ _ (HeldNow.none (by kernel_rfl)) ?_
  refine DOps.done ?_
  refine h12 _ _ ?_
  refine Run.region ?_
  refine Ops.q rfl (qaddN (b := 1) rfl rfl (by omega)) ?_
  refine Ops.q rfl (qmove rfl) ?_
  refine Ops.nil ?_
  exact ⟨⟨k + 1, push x (w.getD k 0), min lo ((((w.take (k + 1)).drop k).foldl push x).length), lvq21⟩, EnvLe.cons rfl <| EnvLe.cons rfl <| EnvLe.cons rfl <| EnvLe.cons rfl <| EnvLe.cons rfl <| EnvLe.nil _, rfl, ⟨⟨by omega, by rw [letter_of (by omega)]; exact putF_step (by omega) hput, by have := push_length x (w.getD k 0); omega⟩, le36, (fresh_eq fr35 (congrArg byteCells ((by first | rfl | (rw [letter_of (by omega)]; rfl))))), sb33.get, h34, no26, neq21_0_b0⟩, (by (try dsimp only); omega)⟩
 ·
  refine Run.exit ?_
  repeat first | with_reducible refine thenQ_ret ?_ | with_reducible refine blockQ_ret ?_
  repeat first | with_reducible refine thenQ_exit ?_ | with_reducible refine blockQ_same ?_ | with_reducible refine blockQ_other (by decide) ?_ | with_reducible refine noGotoQ_exit ?_ | with_reducible refine noGotoQ_normal ?_
  exact retQn (vs := []) rfl (⟨_, rfl, le3, wf5, hr_b03, row_eq hr_b23 (congrArg (fun z : Nat => [num (z : Int)]) (by rw [putF_end (by omega) hput])), fresh_eq fr_s3 (congrArg byteCells (by rw [putF_end (by omega) hput])), no_s_b03, no_s_b23⟩)

theorem s_replace (p : Nat) (x : Rot) (l : List UInt8) (d : List DCell) (lv rv dv : Value) (b0 : Nat) (A0 A : AH) (le_ : A0.le A) (wf0 : A0.wf) (hb : A.get b0 = some (.row true [lv, rv, dv] 3)) (no0 : A0.get b0 = none) (fr : Fresh A0 A lv 1 (byteCells l)) (frd : Fresh A0 A dv 3 (dcells d)) (ne0 : blk lv ≠ some b0) (ned : blk dv ≠ some b0) (sp : Sep lv dv) (hL : Lets A0) (hp : p < l.length) (hl : l.length ≤ 100000) (hxw : x.w.length ≤ 200) (hxc : x.c.length ≤ 1000) (hd : d.length ≤ 1000000) : RetA Tryz.prog 96 #[.pointer (some ⟨b0, 0, none⟩), num ((p : Nat) : Int), .agg #[str (x.w), str (x.c), num ((x.r : Nat) : Int), .bool (x.i)]] A (fun v A1 => ∃ lv2 dv2, v = num (((repl l p x).2 : Nat) : Int) ∧ A0.le A1 ∧ A1.wf ∧ A1.get b0 = some (.row true [lv2, rv, dv2] 3) ∧ Fresh A0 A1 lv2 1 (byteCells (repl l p x).1) ∧ Fresh A0 A1 dv2 3 (dcells (d ++ [repC l p x])) ∧ blk lv2 ≠ some b0 ∧ blk dv2 ≠ some b0 ∧ Sep lv2 dv2) := by
 refine enterA (e := [(0, .pointer (some ⟨b0, 0, none⟩)), (1, num ((p : Nat) : Int)), (2, .agg #[str (x.w), str (x.c), num ((x.r : Nat) : Int), .bool (x.i)])]) (args := [.pointer (some ⟨b0, 0, none⟩), num ((p : Nat) : Int), .agg #[str (x.w), str (x.c), num ((x.r : Nat) : Int), .bool (x.i)]]) Tryz.call96 Tryz.func96 rfl Tryz.results96 Tryz.ntmps96 rfl rfl rfl (fun wf => ?_)
 refine Run.seq fun K1 h2 => ?_
 refine Run.region ?_
 refine Ops.l rfl (fun _ _ hk3 _ => wbox wf rfl rfl fun A5 b4 nb6 => ?_)
 have ne_b0_b4 := ne_new wf hb nb6.lo
 have no7 := fr.own.ne_new wf nb6.lo
 have no8 := frd.own.ne_new wf nb6.lo
 have ge_b4 := none_of wf0 (Nat.le_trans le_.n nb6.lo)
 have h9 := nb6.le.get _ _ hb
 have fr10 := fr.le nb6.le
 have fr11 := frd.le nb6.le
 have le12 := le_.trans nb6.le
 refine hk3 _ _ ?_
 refine Ops.l rfl (fun _ _ hk13 _ => wbox nb6.wf rfl rfl fun A15 b14 nb16 => ?_)
 have ne_b0_b14 := ne_new nb6.wf h9 nb16.lo
 have ne_b4_b14 := ne_new nb6.wf nb6.get nb16.lo
 have no17 := fr10.own.ne_new nb6.wf nb16.lo
 have no18 := fr11.own.ne_new nb6.wf nb16.lo
 have ge_b14 := none_of wf0 (Nat.le_trans le12.n nb16.lo)
 have h19 := nb16.le.get _ _ h9
 have h20 := nb16.le.get _ _ nb6.get
 have fr21 := fr10.le nb16.le
 have fr22 := fr11.le nb16.le
 have le23 := le12.trans nb16.le
 refine hk13 _ _ ?_
 refine Ops.q rfl (qassign rfl) ?_
 refine Ops.nil ?_
 refine h2 _ _ ?_
 refine Run.seq fun K24 h25 => ?_
 refine Run.region ?_
 refine Ops.q rfl (qassign rfl) ?_
 refine Ops.nil ?_
 refine h25 _ _ ?_
 refine Run.seq fun K26 h27 => ?_
 refine Run.block ?_
 refine Run.loop (X := Nat) (fun n => [(1, num ((p : Nat) : Int)), (3, .pointer (some ⟨b4, 0, none⟩)), (5, .pointer (some ⟨b14, 0, none⟩)), (7, num ((n : Nat) : Int))]) (fun n B => (n ≤ repN l p x) ∧ A15 = B) (fun n => x.w.length - n) 0 (EnvLe.cons rfl <| EnvLe.cons rfl <| EnvLe.cons rfl <| EnvLe.cons rfl <| EnvLe.nil _) (⟨Nat.zero_le _, rfl⟩) ?_
 rintro n B29 ⟨hn, rfl⟩
 have hrn := repN_le l p x
 refine Run.seq fun K30 h31 => ?_
 refine Run.join (fun f A1 => EnvLe [(45, .bool (decide (n < x.w.length ∧ p + n < l.length ∧ l.getD (p + n) 0 = x.w.getD n 0))), (1, num ((p : Nat) : Int)), (3, .pointer (some ⟨b4, 0, none⟩)), (5, .pointer (some ⟨b14, 0, none⟩)), (7, num ((n : Nat) : Int))] f.e ∧ f.ds = [] ∧ A15 = A1) ?_ ?_
 ·
  refine Run.drawn [0, 1, 2, 3, 4, 5, 6, 7, 8, 9, 10, 11, 12, 13, 14, 15, 16, 17, 18, 19, 20, 21, 22, 23, 24, 25, 26, 27, 28, 29, 30, 31, 32, 33] mixed (by kernel_rfl) (by kernel_rfl) rfl ?_
  refine DOps.q rfl rfl rfl (qmove rfl) ?_
  refine DOps.q rfl rfl rfl (qfieldAddr fl95_0 sz9 (by decide) rfl) ?_
  have hc34 := cellOf (off := 0) nb16.get (show _ = some (str (x.w)) from rfl)
  refine DOps.q rfl rfl rfl (qloadAt ag9 rfl rfl nb16.get rfl) ?_
  refine DOps.q rfl rfl rfl (qslen u9 rfl) ?_
  refine DOps.q rfl rfl rfl (qlssN rfl rfl) ?_
  refine DOps.q rfl rfl rfl (qmove rfl) ?_
  refine DOps.part (t := 17) rfl (fun p35 => ?_) (fun p35 => ?_)
  ·
   refine DOps.qOn rfl rfl rfl rfl rfl (qmove rfl) ?_
   refine DOps.qOn rfl rfl rfl rfl rfl (qmove rfl) ?_
   refine DOps.qOn rfl rfl rfl rfl rfl (qaddN rfl rfl (by omega)) ?_
   have hc36 := cellOf (off := 0) h20 (show _ = some (.pointer (some ⟨b0, 0, none⟩)) from rfl)
   refine DOps.qOn rfl rfl rfl rfl rfl (qloadAt ag107 rfl rfl h20 rfl) ?_
   refine DOps.qOn rfl rfl rfl rfl rfl (qnil rfl) ?_
   refine DOps.qOn rfl rfl rfl rfl rfl (qfieldAddr fl111_0 sz109 (by decide) rfl) ?_
   refine DOps.qOn rfl rfl rfl rfl rfl (qfieldAddr fl109_0 sz80 (by decide) rfl) ?_
   have hc37 := cellOf (off := 0) h19 (show _ = some (lv) from rfl)
   refine DOps.qOn rfl rfl rfl rfl rfl (qloadAt ag80 rfl rfl h19 rfl) ?_
   refine DOps.qOn rfl rfl rfl rfl rfl (qlenS (n := l.length) u80 rfl fr21.slc (by omega) (bytes_len _)) ?_
   refine DOps.qOn rfl rfl rfl rfl rfl (qlssN rfl rfl) ?_
   refine DOps.q rfl rfl rfl (qpickT rfl rfl) ?_
   refine DOps.q rfl rfl rfl (qmove rfl) ?_
   refine DOps.part (t := 29) rfl (fun p38 => ?_) (fun p38 => ?_)
   ·
    have hc39 := cellOf (off := 0) h20 (show _ = some (.pointer (some ⟨b0, 0, none⟩)) from rfl)
    refine DOps.qOn rfl rfl rfl rfl rfl (qloadAt ag107 rfl rfl h20 rfl) ?_
    refine DOps.qOn rfl rfl rfl rfl rfl (qnil rfl) ?_
    refine DOps.qOn rfl rfl rfl rfl rfl (qfieldAddr fl111_0 sz109 (by decide) rfl) ?_
    refine DOps.qOn rfl rfl rfl rfl rfl (qfieldAddr fl109_0 sz80 (by decide) rfl) ?_
    have hc40 := cellOf (off := 0) h19 (show _ = some (lv) from rfl)
    refine DOps.qOn rfl rfl rfl rfl rfl (qloadAt ag80 rfl rfl h19 rfl) ?_
    refine DOps.qOn rfl rfl rfl rfl rfl (qmove rfl) ?_
    refine DOps.qOn rfl rfl rfl rfl rfl (qmove rfl) ?_
    refine DOps.qOn rfl rfl rfl rfl rfl (qaddN rfl rfl (by omega)) ?_
    obtain ⟨b41, f41, rw41, r41, rc41, n41, k41, e41, l41, g41, cl41, cs41⟩ := Slc.at (i := p + n) fr21.slc (by simp only [bytes_length]; omega) (by omega)
    refine DOps.qOn rfl rfl rfl rfl rfl (qindexS u80 sz5 rfl e41 rfl l41) ?_
    have hc42 := cellOf (off := f41 + (p + n) * 1) g41 ((elt0 cs41).trans (bytes_get (by omega)))
    refine DOps.qOn rfl rfl rfl rfl rfl (qloadAt ag5 rfl rfl g41 ((elt0 cs41).trans (bytes_get (by omega)))) ?_
    refine DOps.qOn rfl rfl rfl rfl rfl (qfieldAddr fl95_0 sz9 (by decide) rfl) ?_
    have hc43 := cellOf (off := 0) nb16.get (show _ = some (str (x.w)) from rfl)
    refine DOps.qOn rfl rfl rfl rfl rfl (qloadAt ag9 rfl rfl nb16.get rfl) ?_
    refine DOps.qOn rfl rfl rfl rfl rfl (qmove rfl) ?_
    refine DOps.qOn rfl rfl rfl rfl rfl (qsix u9 rfl rfl (by omega)) ?_
    refine DOps.qOn rfl rfl rfl rfl rfl (qeqlB rfl rfl) ?_
    refine DOps.q rfl rfl rfl (qpickT rfl rfl) ?_
    refine DOps.done ?_
    exact ⟨EnvLe.cons (show some _ = some _ from congrArg (fun b => some (Value.bool b)) (show (decide ((l.getD (p + n) 0) = (x.w.getD n 0))) = decide (n < x.w.length ∧ p + n < l.length ∧ l.getD (p + n) 0 = x.w.getD n 0) from (by simp [*]))) <| EnvLe.cons rfl <| EnvLe.cons rfl <| EnvLe.cons rfl <| EnvLe.cons rfl <| EnvLe.nil _, rfl, rfl⟩
   ·
    refine DOps.qOff rfl rfl rfl rfl rfl rfl ?_
    refine DOps.qOff rfl rfl rfl rfl rfl rfl ?_
    refine DOps.qOff rfl rfl rfl rfl rfl rfl ?_
    refine DOps.qOff rfl rfl rfl rfl rfl rfl ?_
    refine DOps.qOff rfl rfl rfl rfl rfl rfl ?_
    refine DOps.qOff rfl rfl rfl rfl rfl rfl ?_
    refine DOps.qOff rfl rfl rfl rfl rfl rfl ?_
    refine DOps.qOff rfl rfl rfl rfl rfl rfl ?_
    refine DOps.qOff rfl rfl rfl rfl rfl rfl ?_
    refine DOps.qOff rfl rfl rfl rfl rfl rfl ?_
    refine DOps.qOff rfl rfl rfl rfl rfl rfl ?_
    refine DOps.qOff rfl rfl rfl rfl rfl rfl ?_
    refine DOps.qOff rfl rfl rfl rfl rfl rfl ?_
    refine DOps.qOff rfl rfl rfl rfl rfl rfl ?_
    refine DOps.qOff rfl rfl rfl rfl rfl rfl ?_
    refine DOps.q rfl rfl rfl (qpickF rfl rfl) ?_
    refine DOps.done ?_
    exact ⟨EnvLe.cons (show some _ = some _ from congrArg (fun b => some (Value.bool b)) (show (false) = decide (n < x.w.length ∧ p + n < l.length ∧ l.getD (p + n) 0 = x.w.getD n 0) from (by simp [*]))) <| EnvLe.cons rfl <| EnvLe.cons rfl <| EnvLe.cons rfl <| EnvLe.cons rfl <| EnvLe.nil _, rfl, rfl⟩
  ·
   refine DOps.qOff rfl rfl rfl rfl rfl rfl ?_
   refine DOps.qOff rfl rfl rfl rfl rfl rfl ?_
   refine DOps.qOff rfl rfl rfl rfl rfl rfl ?_
   refine DOps.qOff rfl rfl rfl rfl rfl rfl ?_
   refine DOps.qOff rfl rfl rfl rfl rfl rfl ?_
   refine DOps.qOff rfl rfl rfl rfl rfl rfl ?_
   refine DOps.qOff rfl rfl rfl rfl rfl rfl ?_
   refine DOps.qOff rfl rfl rfl rfl rfl rfl ?_
   refine DOps.qOff rfl rfl rfl rfl rfl rfl ?_
   refine DOps.qOff rfl rfl rfl rfl rfl rfl ?_
   refine DOps.q rfl rfl rfl (qpickF rfl rfl) ?_
   refine DOps.q rfl rfl rfl (qmove rfl) ?_
   refine DOps.qOff rfl rfl rfl rfl rfl rfl ?_
   refine DOps.qOff rfl rfl rfl rfl rfl rfl ?_
   refine DOps.qOff rfl rfl rfl rfl rfl rfl ?_
   refine DOps.qOff rfl rfl rfl rfl rfl rfl ?_
   refine DOps.qOff rfl rfl rfl rfl rfl rfl ?_
   refine DOps.qOff rfl rfl rfl rfl rfl rfl ?_
   refine DOps.qOff rfl rfl rfl rfl rfl rfl ?_
   refine DOps.qOff rfl rfl rfl rfl rfl rfl ?_
   refine DOps.qOff rfl rfl rfl rfl rfl rfl ?_
   refine DOps.qOff rfl rfl rfl rfl rfl rfl ?_
   refine DOps.qOff rfl rfl rfl rfl rfl rfl ?_
   refine DOps.qOff rfl rfl rfl rfl rfl rfl ?_
   refine DOps.qOff rfl rfl rfl rfl rfl rfl ?_
   refine DOps.qOff rfl rfl rfl rfl rfl rfl ?_
   refine DOps.qOff rfl rfl rfl rfl rfl rfl ?_
   refine DOps.q rfl rfl rfl (qpickF rfl rfl) ?_
   refine DOps.done ?_
   exact ⟨EnvLe.cons (show some _ = some _ from congrArg (fun b => some (Value.bool b)) (show (false) = decide (n < x.w.length ∧ p + n < l.length ∧ l.getD (p + n) 0 = x.w.getD n 0) from (by simp [*]))) <| EnvLe.cons rfl <| EnvLe.cons rfl <| EnvLe.cons rfl <| EnvLe.cons rfl <| EnvLe.nil _, rfl, rfl⟩
 ·
  rintro ⟨fe, fd⟩ _ ⟨hE, rfl, rfl⟩
  refine Run.forget hE ?_
  refine Run.if rfl (fun p44 => ?_) (fun p44 => ?_)
  ·
   refine Run.skip ?_
   refine h31 _ _ ?_
   refine Run.block ?_
   refine Run.region ?_
   refine Ops.q rfl (qmove rfl) ?_
   refine Ops.q rfl (qaddN (b := 1) rfl rfl (by omega)) ?_
   refine Ops.q rfl (qassign rfl) ?_
   refine Ops.nil ?_
   exact ⟨n + 1, EnvLe.cons rfl <| EnvLe.cons rfl <| EnvLe.cons rfl <| EnvLe.cons rfl <| EnvLe.nil _, rfl, ⟨repN_go hn ‹_›, rfl⟩, (by (try dsimp only); omega)⟩
  ·
   refine Run.exit ?_
   refine h27 _ _ ?_
   refine Run.seq fun K45 h46 => ?_
   refine Run.drawn [0, 1, 2, 3, 4, 5, 6, 7, 8, 9, 10, 11, 12, 13, 14, 15, 16, 17, 18, 19] mixed (by kernel_rfl) (by kernel_rfl) rfl ?_
   have hc47 := cellOf (off := 0) h20 (show _ = some (.pointer (some ⟨b0, 0, none⟩)) from rfl)
   refine DOps.q rfl rfl rfl (qloadAt ag107 rfl rfl h20 rfl) ?_
   refine DOps.q rfl rfl rfl (qnil rfl) ?_
   refine DOps.q rfl rfl rfl (qfieldAddr fl111_0 sz109 (by decide) rfl) ?_
   refine DOps.q rfl rfl rfl (qfieldAddr fl109_0 sz80 (by decide) rfl) ?_
   have hc48 := cellOf (off := 0) h19 (show _ = some (lv) from rfl)
   refine DOps.q rfl rfl rfl (qloadAt ag80 rfl rfl h19 rfl) ?_
   refine DOps.q rfl rfl rfl (qmove rfl) ?_
   obtain ⟨b49, n49, c49, q49, m49, d49⟩ := fr21.nonnil (by intro q; have := congrArg List.length q; simp only [bytes_length, List.length_nil] at this; omega)
   subst q49
   rw [bytes_length, Nat.mul_one] at m49
   have fr50 := fr21.take (k := p) (by omega)
   rw [Nat.mul_one, bytes_take] at fr50
   refine DOps.q rfl rfl rfl (qsliceHi u80 sz5 rfl rfl (by omega)) ?_
   refine DOps.qstr (l := l.take p) rfl rfl rfl u80 u9 u5 fr50.slc fun T51 => ?_
   have hc52 := cellOf (off := 0) h20 (show _ = some (.pointer (some ⟨b0, 0, none⟩)) from rfl)
   refine DOps.q rfl rfl rfl (qloadAt ag107 rfl rfl h20 rfl) ?_
   refine DOps.q rfl rfl rfl (qnil rfl) ?_
   refine DOps.q rfl rfl rfl (qfieldAddr fl111_0 sz109 (by decide) rfl) ?_
   refine DOps.q rfl rfl rfl (qfieldAddr fl109_0 sz80 (by decide) rfl) ?_
   have hc53 := cellOf (off := 0) h19 (show _ = some (.slice (some ⟨b49, 0, none⟩) n49 c49) from rfl)
   refine DOps.q rfl rfl rfl (qloadAt ag80 rfl rfl h19 rfl) ?_
   refine DOps.q rfl rfl rfl (qmove rfl) ?_
   refine DOps.q rfl rfl rfl (qmove rfl) ?_
   refine DOps.q rfl rfl rfl (qaddN rfl rfl (by omega)) ?_
   have sl54 := Slc.lo (j := p + n) fr21.slc (by decide) (by simp only [bytes_length]; omega)
   rw [Nat.mul_one, bytes_drop] at sl54
   refine DOps.q rfl rfl rfl (qsliceLo u80 sz5 rfl fr21.slc rfl (by decide) (by simp only [bytes_length]; omega)) ?_
   refine DOps.qstr (l := l.drop (p + n)) rfl rfl rfl u80 u9 u5 sl54 fun T55 => ?_
   refine DOps.q rfl rfl rfl (qassign rfl) ?_
   refine DOps.q rfl rfl rfl (qassign rfl) ?_
   refine DOps.done ?_
   refine h46 _ _ ?_
   refine Run.seq fun K56 h57 => ?_
   refine Run.drawn [0, 1, 2, 3, 4, 5, 6, 7, 8, 10, 11, 12, 13, 9, 14, 15, 16, 17, 18, 19] mixed (by kernel_rfl) (by kernel_rfl) rfl ?_
   have hc58 := cellOf (off := 0) h20 (show _ = some (.pointer (some ⟨b0, 0, none⟩)) from rfl)
   refine DOps.q rfl rfl rfl (qloadAt ag107 rfl rfl h20 rfl) ?_
   have hc59 := cellOf (off := 0) h20 (show _ = some (.pointer (some ⟨b0, 0, none⟩)) from rfl)
   refine DOps.q rfl rfl rfl (qloadAt ag107 rfl rfl h20 rfl) ?_
   refine DOps.q rfl rfl rfl (qnil rfl) ?_
   refine DOps.q rfl rfl rfl (qfieldAddr fl111_2 sz34 (by decide) rfl) ?_
   have hc60 := cellOf (off := 2) h19 (show _ = some (dv) from rfl)
   refine DOps.q rfl rfl rfl (qloadAt ag34 rfl rfl h19 rfl) ?_
   refine DOps.q rfl rfl rfl (qmove rfl) ?_
   refine DOps.q rfl rfl rfl (qfieldAddr fl95_1 sz9 (by decide) rfl) ?_
   have hc61 := cellOf (off := 1) nb16.get (show _ = some (str (x.c)) from rfl)
   refine DOps.q rfl rfl rfl (qloadAt ag9 rfl rfl nb16.get rfl) ?_
   refine DOps.q rfl rfl rfl (qsadd rfl rfl (by (try simp only [List.length_append, List.length_drop, List.length_take]); omega)) ?_
   refine DOps.q rfl rfl rfl (qfieldAddr fl95_2 sz3 (by decide) rfl) ?_
   have hc62 := cellOf (off := 2) nb16.get (show _ = some (num ((x.r : Nat) : Int)) from rfl)
   refine DOps.q rfl rfl rfl (qloadAt ag3 rfl rfl nb16.get rfl) ?_
   refine DOps.q rfl rfl rfl (qfieldAddr fl95_3 sz4 (by decide) rfl) ?_
   have hc63 := cellOf (off := 3) nb16.get (show _ = some (.bool (x.i)) from rfl)
   refine DOps.q rfl rfl rfl (qloadAt ag4 rfl rfl nb16.get rfl) ?_
   refine DOps.l rfl rfl rfl (fun _ _ hk64 _ => vcallF rfl (s_Reduce ((l.take p) ++ x.c) A15 (by first | omega | (simp only [List.length_append, List.length_drop, List.length_take]; omega)) (hL.le le23)) ?_)
   rintro v65 A66 ⟨rfl, leq67, wfq67⟩
   have h68 := leq67.get _ _ h19
   have h69 := leq67.get _ _ h20
   have h70 := leq67.get _ _ nb16.get
   have fr71 := fr21.le leq67
   have fr72 := fr22.le leq67
   have fr73 := fr50.le leq67
   have s74 := sl54.le leq67
   have hc75 := cell_le leq67 hc58
   have hc76 := cell_le leq67 hc59
   have hc77 := cell_le leq67 hc60
   have hc78 := cell_le leq67 hc61
   have hc79 := cell_le leq67 hc62
   have hc80 := cell_le leq67 hc63
   have le81 := le23.trans leq67
   refine hk64 _ _ (HeldNow.list (L := [(⟨b14, 3, none⟩, .bool (x.i)), (⟨b14, 2, none⟩, num ((x.r : Nat) : Int)), (⟨b0, 2, none⟩, dv), (⟨b4, 0, none⟩, .pointer (some ⟨b0, 0, none⟩)), (⟨b4, 0, none⟩, .pointer (some ⟨b0, 0, none⟩))]) (by kernel_rfl) (heldCons hc80 (heldCons hc79 (heldCons hc77 (heldCons hc76 (heldCons hc75 heldNil)))))) ?_
   refine DOps.q rfl rfl rfl (qbuild rfl (buildV_struct u79 z79 pl79 rfl)) ?_
   refine DOps.l rfl rfl rfl (fun _ _ hk82 _ => wbuildSlice (c := [str (wReduce ((l.take p) ++ x.c)), num ((x.r : Nat) : Int), .bool (x.i)]) wfq67 rfl (buildSliceV_of u34 sz79 z79 rfl (by decide) (by decide) rfl) fun A84 b83 nb85 => ?_)
   have ne_b0_b83 := ne_new wfq67 h68 nb85.lo
   have ne_b4_b83 := ne_new wfq67 h69 nb85.lo
   have ne_b14_b83 := ne_new wfq67 h70 nb85.lo
   have no86 := fr71.own.ne_new wfq67 nb85.lo
   have no87 := fr72.own.ne_new wfq67 nb85.lo
   have no88 := fr73.own.ne_new wfq67 nb85.lo
   have ge_b83 := none_of wf0 (Nat.le_trans le81.n nb85.lo)
   have h89 := nb85.le.get _ _ h68
   have h90 := nb85.le.get _ _ h69
   have h91 := nb85.le.get _ _ h70
   have fr92 := fr71.le nb85.le
   have fr93 := fr72.le nb85.le
   have fr94 := fr73.le nb85.le
   have s95 := s74.le nb85.le
   have hc96 := cell_le nb85.le hc75
   have hc97 := cell_le nb85.le hc76
   have hc98 := cell_le nb85.le hc77
   have hc99 := cell_le nb85.le hc79
   have hc100 := cell_le nb85.le hc80
   have le101 := le81.trans nb85.le
   refine hk82 _ _ (HeldNow.list (L := [(⟨b0, 2, none⟩, dv), (⟨b4, 0, none⟩, .pointer (some ⟨b0, 0, none⟩)), (⟨b4, 0, none⟩, .pointer (some ⟨b0, 0, none⟩))]) (by kernel_rfl) (heldCons hc98 (heldCons hc97 (heldCons hc96 heldNil)))) ?_
   refine DOps.l rfl rfl rfl (fun _ _ hk102 _ => wappend (ys := [str (wReduce ((l.take p) ++ x.c)), num ((x.r : Nat) : Int), .bool (x.i)]) rfl rfl u34 sz79 inf79 z79 rfl (by decide) u34 (fun _ h => by cases h) fr93.own (listOf_row (n := 1) nb85.get rfl) rfl rfl (by show (_ + _) * 32 ≤ _; simp only [dcells_length, List.length_cons, List.length_nil]; (try simp only [List.length_append, List.length_cons, List.length_nil]); omega) (by simp only [dcells_length, List.length_cons, List.length_nil]; (try simp only [List.length_append, List.length_cons, List.length_nil]); omega) fun A103 v104 ap105 => ?_)
   rw [show ([str (wReduce ((l.take p) ++ x.c)), num ((x.r : Nat) : Int), .bool (x.i)] : List Value) = dcells [⟨wReduce ((l.take p) ++ x.c), ((x.r : Nat) : Int), x.i⟩] from rfl, dcells_append] at ap105
   obtain ⟨fr108, le109⟩ := Fresh.grow fr93 le101 wf0 ap105
   have h110 := ap105.keep ned h89
   have ne111 := ap105.ne ned nb85.wf h89
   have h112 := ap105.keep no8 h90
   have ne113 := ap105.ne no8 nb85.wf h90
   have h114 := ap105.keep no18 h91
   have ne115 := ap105.ne no18 nb85.wf h91
   have sp117 := Sep.appd (show Sep dv (.slice (some ⟨b49, 0, none⟩) n49 c49) from (Sep.symm sp)) fr92.own nb85.wf ap105
   have fr116 := fr92.appd ap105 (Sep.symm sp)
   have sp119 := Sep.appd (show Sep dv (.slice (some ⟨b49, 0, none⟩) p c49) from (Sep.symm sp)) fr94.own nb85.wf ap105
   have fr118 := fr94.appd ap105 (Sep.symm sp)
   have hc120 := ap105.cell no8 hc96
   have hc121 := ap105.cell no8 hc97
   have hc122 := ap105.cell ned hc98
   refine hk102 _ _ (HeldNow.list (L := [(⟨b4, 0, none⟩, .pointer (some ⟨b0, 0, none⟩))]) (by kernel_rfl) (heldCons hc120 heldNil)) ?_
   refine DOps.q rfl rfl rfl (qnil rfl) ?_
   refine DOps.q rfl rfl rfl (qfieldAddr fl111_2 sz34 (by decide) rfl) ?_
   obtain ⟨p124, l124, c124, q124, _⟩ := fr108.own.slice
   subst q124
   refine DOps.l rfl rfl rfl (fun _ _ hk123 _ => wstore (cs := [.slice p124 l124 c124]) (c' := [.slice (some ⟨b49, 0, none⟩) n49 c49, rv, .slice p124 l124 c124]) ap105.wf rfl rfl rfl rfl sz34 h110 (Nat.le_of_ble_eq_true rfl) rfl rfl fun A125 sb126 => ?_)
   have h127 := sb126.keep _ _ ne_b0_b4.symm h112
   have h128 := sb126.keep _ _ ne_b0_b14.symm h114
   have fr129 := fr116.keep sb126.keep ne0
   have fr130 := fr118.keep sb126.keep ne0
   have fr131 := fr108.keep sb126.keep ne111
   have le132 := le_store le109 wf0 no0 sb126.n sb126.keep
   refine hk123 _ _ (HeldNow.none (by kernel_rfl)) ?_
   refine DOps.done ?_
   refine h57 _ _ ?_
   refine Run.seq fun K133 h134 => ?_
   refine Run.drawn [0, 1, 2, 3, 4, 5, 6, 7, 8, 9, 10, 11] mixed (by kernel_rfl) (by kernel_rfl) rfl ?_
   have hc135 := cellOf (off := 0) h127 (show _ = some (.pointer (some ⟨b0, 0, none⟩)) from rfl)
   refine DOps.q rfl rfl rfl (qloadAt ag107 rfl rfl h127 rfl) ?_
   have hc136 := cellOf (off := 0) h127 (show _ = some (.pointer (some ⟨b0, 0, none⟩)) from rfl)
   refine DOps.q rfl rfl rfl (qloadAt ag107 rfl rfl h127 rfl) ?_
   refine DOps.q rfl rfl rfl (qnil rfl) ?_
   refine DOps.q rfl rfl rfl (qfieldAddr fl111_0 sz109 (by decide) rfl) ?_
   refine DOps.q rfl rfl rfl (qfieldAddr fl109_0 sz80 (by decide) rfl) ?_
   have hc137 := cellOf (off := 0) sb126.get (show _ = some (.slice (some ⟨b49, 0, none⟩) n49 c49) from rfl)
   refine DOps.q rfl rfl rfl (qloadAt ag80 rfl rfl sb126.get rfl) ?_
   refine DOps.q rfl rfl rfl (qmove rfl) ?_
   have fr139 := fr129.take (k := p) (by omega)
   rw [Nat.mul_one, bytes_take] at fr139
   refine DOps.q rfl rfl rfl (qsliceHi u80 sz5 rfl rfl (by omega)) ?_
   refine DOps.q rfl rfl rfl (qnil rfl) ?_
   refine DOps.q rfl rfl rfl (qfieldAddr fl111_0 sz109 (by decide) rfl) ?_
   refine DOps.q rfl rfl rfl (qfieldAddr fl109_0 sz80 (by decide) rfl) ?_
   refine DOps.l rfl rfl rfl (fun _ _ hk140 _ => wstore (cs := [.slice (some ⟨b49, 0, none⟩) p c49]) (c' := [.slice (some ⟨b49, 0, none⟩) p c49, rv, .slice p124 l124 c124]) sb126.wf rfl rfl rfl rfl sz80 sb126.get (Nat.le_of_ble_eq_true rfl) rfl rfl fun A141 sb142 => ?_)
   have h143 := sb142.keep _ _ ne_b0_b4.symm h127
   have h144 := sb142.keep _ _ ne_b0_b14.symm h128
   have fr145 := fr129.keep sb142.keep ne0
   have fr146 := fr130.keep sb142.keep ne0
   have fr147 := fr131.keep sb142.keep ne111
   have fr148 := fr139.keep sb142.keep ne0
   have le149 := le_store le132 wf0 no0 sb142.n sb142.keep
   refine hk140 _ _ (HeldNow.none (by kernel_rfl)) ?_
   refine DOps.done ?_
   refine h134 _ _ ?_
   refine Run.seq fun K150 h151 => ?_
   refine Run.region ?_
   refine Ops.q rfl (qmove rfl) ?_
   refine Ops.l rfl (fun _ _ hk152 _ => walloc sb142.wf z3 rfl fun A154 b153 nb155 => ?_)
   have ne_b0_b153 := ne_new sb142.wf sb142.get nb155.lo
   have ne_b4_b153 := ne_new sb142.wf h143 nb155.lo
   have ne_b14_b153 := ne_new sb142.wf h144 nb155.lo
   have no156 := fr145.own.ne_new sb142.wf nb155.lo
   have no157 := fr146.own.ne_new sb142.wf nb155.lo
   have no158 := fr147.own.ne_new sb142.wf nb155.lo
   have no159 := fr148.own.ne_new sb142.wf nb155.lo
   have ge_b153 := none_of wf0 (Nat.le_trans le149.n nb155.lo)
   have h160 := nb155.le.get _ _ sb142.get
   have h161 := nb155.le.get _ _ h143
   have h162 := nb155.le.get _ _ h144
   have fr163 := fr145.le nb155.le
   have fr164 := fr146.le nb155.le
   have fr165 := fr147.le nb155.le
   have fr166 := fr148.le nb155.le
   have le167 := le149.trans nb155.le
   refine hk152 _ _ ?_
   refine Ops.l rfl (fun _ _ hk168 _ => wstore (cs := [num ((p : Nat) : Int)]) (c' := [num ((p : Nat) : Int)]) nb155.wf rfl rfl rfl rfl sz3 nb155.get (Nat.le_of_ble_eq_true rfl) rfl rfl fun A169 sb170 => ?_)
   have h171 := sb170.keep _ _ ne_b0_b153 h160
   have h172 := sb170.keep _ _ ne_b4_b153 h161
   have h173 := sb170.keep _ _ ne_b14_b153 h162
   have fr174 := fr163.keep sb170.keep no159
   have fr175 := fr164.keep sb170.keep no159
   have fr176 := fr165.keep sb170.keep no158
   have fr177 := fr166.keep sb170.keep no159
   have le178 := le_store le167 wf0 ge_b153 sb170.n sb170.keep
   refine hk168 _ _ ?_
   refine Ops.nil ?_
   refine h151 _ _ ?_
   refine Run.seq fun K179 h180 => ?_
   refine Run.region ?_
   refine Ops.q rfl (qfunc rfl rfl) ?_
   refine Ops.q rfl (qassign rfl) ?_
   refine Ops.nil ?_
   refine h180 _ _ ?_
   refine Run.seq fun K181 h182 => ?_
   refine Run.region ?_
   refine Ops.q rfl (qmove rfl) ?_
   refine Ops.q rfl (qfieldAddr fl95_0 sz9 (by decide) rfl) ?_
   refine Ops.q rfl (qloadAt ag9 rfl rfl h173 rfl) ?_
   refine Ops.q rfl (qmove rfl) ?_
   refine Ops.q rfl (qslLo u9 rfl rfl (by omega)) ?_
   refine Ops.l rfl (fun _ _ hk183 _ => vcallF rfl (s_Inverse (x.w.drop n) A169 (by first | omega | (simp only [List.length_append, List.length_drop, List.length_take]; omega)) (hL.le le178)) ?_)
   rintro v184 A185 ⟨rfl, leq186, wfq186⟩
   have h187 := leq186.get _ _ h171
   have h188 := leq186.get _ _ h172
   have h189 := leq186.get _ _ h173
   have h190 := leq186.get _ _ sb170.get
   have fr191 := fr174.le leq186
   have fr192 := fr175.le leq186
   have fr193 := fr176.le leq186
   have fr194 := fr177.le leq186
   have le195 := le178.trans leq186
   refine hk183 _ _ ?_
   have le200 := le_hide (bs := [some b0, some b153, blk (.slice (some ⟨b49, 0, none⟩) p c49)]) le195 (hoB no0 (hoB ge_b153 (hoV fr194.lo ho0)))
   refine Ops.l rfl (fun _ _ hk196 _ => vcall rfl rfl (s_put (wInverse (x.w.drop n)) (l.take p) p (.slice (some ⟨b49, 0, none⟩) p c49) rv (.slice p124 l124 c124) b0 b4 b153 _ _ (A185.hide [some b0, some b153, blk (.slice (some ⟨b49, 0, none⟩) p c49)]) A185 (hide_le A185 [some b0, some b153, blk (.slice (some ⟨b49, 0, none⟩) p c49)]) (hide_wf wfq186) h187 (hide_none (by simp)) h190 (hide_none (by simp)) (fr194.hide (by simp)) ne0 no159 ne_b0_b153 (hide_get (bs := [some b0, some b153, blk (.slice (some ⟨b49, 0, none⟩) p c49)]) h188 (nmB ne_b0_b4.symm (nmB ne_b4_b153 (nmV no7 nm0)))) (by first | (have := wInverse_length (x.w.drop n); rw [List.length_drop] at this; omega) | (rw [List.length_drop]; omega)) (by first | (rw [List.length_take]; omega) | (have h1 := putF_len (l.take p, p) (wInverse (x.w.drop n)); have h2 := wInverse_length (x.w.drop n); simp only [List.length_drop, List.length_take] at h1 h2; omega))) ?_)
   rintro v197 A198 ⟨lvq199, rfl, leq199, wfq199, hrq199_b0, hrq199_b153, foq199_0, neq199_0_b0, neq199_0_b153⟩
   have hg201 := hide_get (bs := [some b0, some b153, blk (.slice (some ⟨b49, 0, none⟩) p c49)]) h188 (nmB ne_b0_b4.symm (nmB ne_b4_b153 (nmV no7 nm0)))
   have h202 := leq199.get _ _ hg201
   have hg203 := hide_get (bs := [some b0, some b153, blk (.slice (some ⟨b49, 0, none⟩) p c49)]) h189 (nmB ne_b0_b14.symm (nmB ne_b14_b153 (nmV no17 nm0)))
   have h204 := leq199.get _ _ hg203
   have sp205 := foq199_0.sep fr193.own (offB ne111 (offB no158 (offV (Sep.symm sp117) off0)))
   have fr206 := fr193.off (offB ne111 (offB no158 (offV (Sep.symm sp117) off0))) leq199
   have fr207 := foq199_0.base le200
   have no208 := foq199_0.seph hg201
   have no209 := foq199_0.seph hg203
   have le210 := le200.trans leq199
   refine hk196 _ _ ?_
   refine Ops.nil ?_
   refine h182 _ _ ?_
   refine Run.seq fun K211 h212 => ?_
   refine Run.region ?_
   refine Ops.q rfl (qmove rfl) ?_
   refine Ops.q rfl (qmove rfl) ?_
   have le217 := le_hide (bs := [some b0, some b153, blk lvq199]) le210 (hoB no0 (hoB ge_b153 (hoV fr207.lo ho0)))
   refine Ops.l rfl (fun _ _ hk213 _ => vcall rfl rfl (s_put (l.drop (p + n)) ((putF (l.take p, p) (wInverse (x.w.drop n))).1) ((putF (l.take p, p) (wInverse (x.w.drop n))).2) lvq199 rv (.slice p124 l124 c124) b0 b4 b153 _ _ (A198.hide [some b0, some b153, blk lvq199]) A198 (hide_le A198 [some b0, some b153, blk lvq199]) (hide_wf wfq199) hrq199_b0 (hide_none (by simp)) hrq199_b153 (hide_none (by simp)) (fr207.hide (by simp)) neq199_0_b0 neq199_0_b153 ne_b0_b153 (hide_get (bs := [some b0, some b153, blk lvq199]) h202 (nmB ne_b0_b4.symm (nmB ne_b4_b153 (nmV no208 nm0)))) (by first | (have := wInverse_length (x.w.drop n); rw [List.length_drop] at this; omega) | (rw [List.length_drop]; omega)) (by first | (rw [List.length_take]; omega) | (have h1 := putF_len (l.take p, p) (wInverse (x.w.drop n)); have h2 := wInverse_length (x.w.drop n); simp only [List.length_drop, List.length_take] at h1 h2; omega))) ?_)
   rintro v214 A215 ⟨lvq216, rfl, leq216, wfq216, hrq216_b0, hrq216_b153, foq216_0, neq216_0_b0, neq216_0_b153⟩
   have hg218 := hide_get (bs := [some b0, some b153, blk lvq199]) h202 (nmB ne_b0_b4.symm (nmB ne_b4_b153 (nmV no208 nm0)))
   have h219 := leq216.get _ _ hg218
   have hg220 := hide_get (bs := [some b0, some b153, blk lvq199]) h204 (nmB ne_b0_b14.symm (nmB ne_b14_b153 (nmV no209 nm0)))
   have h221 := leq216.get _ _ hg220
   have sp222 := foq216_0.sep fr206.own (offB ne111 (offB no158 (offV sp205 off0)))
   have fr223 := fr206.off (offB ne111 (offB no158 (offV sp205 off0))) leq216
   have fr224 := foq216_0.base le217
   have no225 := foq216_0.seph hg218
   have no226 := foq216_0.seph hg220
   have le227 := le217.trans leq216
   refine hk213 _ _ ?_
   refine Ops.nil ?_
   refine h212 _ _ ?_
   refine Run.seq fun K228 h229 => ?_
   refine Run.region ?_
   refine Ops.q rfl (qloadAt ag3 rfl rfl hrq216_b153 rfl) ?_
   refine Ops.q rfl (qassign rfl) ?_
   refine Ops.nil ?_
   refine h229 _ _ ?_
   refine Run.ret ?_
   repeat first | with_reducible refine thenQ_ret ?_ | with_reducible refine blockQ_ret ?_
   exact retQ rfl (⟨_, _, by rw [repl, ← repN_stop hn ‹_›]; rfl, le227, wfq216, hrq216_b0, fresh_eq fr224 (congrArg byteCells (by rw [repl, ← repN_stop hn ‹_›])), fresh_eq fr223 (congrArg dcells rfl), neq216_0_b0, ne111, sp222⟩)

theorem s_run (br : Nat) (S : RS) (l : List UInt8) (d : List DCell) (lv dv : Value) (b0 : Nat) (A0 A : AH) (le_ : A0.le A) (wf0 : A0.wf) (hb : A.get b0 = some (.row true [lv, .pointer (some ⟨br, 0, none⟩), dv] 3)) (no0 : A0.get b0 = none) (fr : Fresh A0 A lv 1 (byteCells l)) (frd : Fresh A0 A dv 3 (dcells d)) (ne0 : blk lv ≠ some b0) (ned : blk dv ≠ some b0) (sp : Sep lv dv) (hR : Rules A0 br S) (hS : RSok S) (hL : Lets A0) (hl : l.length ≤ 6000) (hd : d.length ≤ 6000) : RetA Tryz.prog 62 #[.pointer (some ⟨b0, 0, none⟩)] A (fun v A1 => ∃ lv2 dv2, v = .tuple #[] ∧ A0.le A1 ∧ A1.wf ∧ A1.get b0 = some (.row true [lv2, .pointer (some ⟨br, 0, none⟩), dv2] 3) ∧ Fresh A0 A1 lv2 1 (byteCells (drun S.list S.most (fuel l.length) l d 0).1) ∧ Fresh A0 A1 dv2 3 (dcells (drun S.list S.most (fuel l.length) l d 0).2) ∧ blk lv2 ≠ some b0 ∧ blk dv2 ≠ some b0 ∧ Sep lv2 dv2) := by
 refine enterA (e := [(0, .pointer (some ⟨b0, 0, none⟩))]) (args := [.pointer (some ⟨b0, 0, none⟩)]) Tryz.call62 Tryz.func62 rfl Tryz.results62 Tryz.ntmps62 rfl rfl rfl (fun wf => ?_)
 have hR0 := hR
 obtain ⟨rwr, capr, lsv, nv, bl, hbr, hls, hnv, hN⟩ := hR
 have hsm := hS.small
 refine Run.scope ?_
 refine Run.seq fun K1 h2 => ?_
 refine Run.label ?_
 refine h2 _ _ ?_
 refine Run.seq fun K3 h4 => ?_
 refine Run.region ?_
 refine Ops.q rfl (qassign rfl) ?_
 refine Ops.nil ?_
 refine h4 _ _ ?_
 refine Run.block ?_
 refine Run.loop (X := Nat × List UInt8 × List DCell × Nat × Value × Value) (fun ⟨p, y, e, f, s, t⟩ => [(0, .pointer (some ⟨b0, 0, none⟩)), (2, num ((p : Nat) : Int))]) (fun ⟨p, y, e, f, s, t⟩ B => (drun S.list S.most f y e p = (drun S.list S.most (fuel l.length) l d 0) ∧ 100001 * y.length + (y.length - p) < f ∧ y.length ≤ 6000 ∧ e.length + y.length ≤ 12000) ∧ A0.le B ∧ Fresh A0 B s 1 (byteCells y) ∧ Fresh A0 B t 3 (dcells e) ∧ B.get b0 = some (.row true [s, .pointer (some ⟨br, 0, none⟩), t] 3) ∧ V.blk s ≠ some b0 ∧ V.blk t ≠ some b0 ∧ Sep s t) (fun ⟨p, y, e, f, s, t⟩ => 100001 * y.length + (y.length - p)) (⟨0, l, d, fuel l.length, lv, dv⟩) (EnvLe.cons rfl <| EnvLe.cons (congrArg (fun z : Int => some (num z)) (by (try split) <;> omega)) <| EnvLe.nil _) (⟨⟨rfl, by unfold fuel; omega, hl, by omega⟩, le_, fr, frd, hb, ne0, ned, sp⟩) ?_
 rintro ⟨p, y, e, f, s, t⟩ B6 ⟨⟨hu, hf, hy, he⟩, le5, fr_s5, fr_t5, hr_b05, no_s_b05, no_t_b05, sq5_0_1⟩
 refine Run.wf fun wf7 => ?_
 have hlb := longF_bound S.list (y.drop p)
 have hlt := fun (q : p < y.length) (z : 0 ≤ (longF S.list (y.drop p)).1) => repl_lt q z
 have hxm := fun z : 0 ≤ (longF S.list (y.drop p)).1 => getD_mem (d := Rot.zero) (longF_pos z).1
 have hlow := repl_low y p (S.list.getD (longF S.list (y.drop p)).1.toNat .zero)
 refine Run.seq fun K8 h9 => ?_
 refine Run.seq fun K10 h11 => ?_
 refine Run.region ?_
 refine Ops.q rfl (qmove rfl) ?_
 refine Ops.q rfl (qmove rfl) ?_
 refine Ops.q rfl (qnil rfl) ?_
 refine Ops.q rfl (qfieldAddr fl111_0 sz109 (by decide) rfl) ?_
 refine Ops.q rfl (qfieldAddr fl109_0 sz80 (by decide) rfl) ?_
 refine Ops.q rfl (qloadAt ag80 rfl rfl hr_b05 rfl) ?_
 refine Ops.q rfl (qlenS (n := y.length) u80 rfl fr_s5.slc (by omega) (bytes_len _)) ?_
 refine Ops.q rfl (qlssN rfl rfl) ?_
 refine Ops.nil ?_
 refine h11 _ _ ?_
 refine Run.if rfl (fun p12 => ?_) (fun p12 => ?_)
 ·
  refine Run.skip ?_
  refine h9 _ _ ?_
  refine Run.seq fun K13 h14 => ?_
  refine Run.block ?_
  refine Run.seq fun K15 h16 => ?_
  refine Run.drawn [0, 1, 2, 3, 4, 5, 6, 7, 8, 9, 10, 11, 12] mixed (by kernel_rfl) (by kernel_rfl) rfl ?_
  refine DOps.q rfl rfl rfl (qmove rfl) ?_
  refine DOps.q rfl rfl rfl (qnil rfl) ?_
  refine DOps.q rfl rfl rfl (qfieldAddr fl111_1 sz65 (by decide) rfl) ?_
  have hc17 := cellOf (off := 1) hr_b05 (show _ = some (.pointer (some ⟨br, 0, none⟩)) from rfl)
  refine DOps.q rfl rfl rfl (qloadAt ag65 rfl rfl hr_b05 rfl) ?_
  refine DOps.q rfl rfl rfl (qmove rfl) ?_
  refine DOps.q rfl rfl rfl (qmove rfl) ?_
  refine DOps.l rfl rfl rfl (fun _ _ hk18 _ => vcallF rfl (s_at b0 p B6) ?_)
  rintro v19 A20 ⟨b2q21, b1q21, rfl, leq21, wfq21, hAq21, hBq21⟩
  have h22 := leq21.get _ _ hr_b05
  have fr23 := fr_s5.le leq21
  have fr24 := fr_t5.le leq21
  have hc25 := cell_le leq21 hc17
  have le26 := le5.trans leq21
  have hA := hAq21
  have hB := hBq21
  refine hk18 _ _ (HeldNow.list (L := [(⟨b0, 1, none⟩, .pointer (some ⟨br, 0, none⟩))]) (by kernel_rfl) (heldCons hc25 heldNil)) ?_
  refine DOps.l rfl rfl rfl (fun _ _ hk27 _ => vcallF rfl (s_long br S 112 #[.pointer (some ⟨b1q21, 0, none⟩), .pointer (some ⟨b2q21, 0, none⟩)] (y.drop p) A20 (hR0.le le26) hS (by rw [List.length_drop]; omega) (fun i B hi le wf => s_at1 i p y s (.pointer (some ⟨br, 0, none⟩)) t b0 b1q21 b2q21 _ _ _ _ _ _ B (by rw [List.length_drop] at hi; omega) (le.get _ _ hAq21) (le.get _ _ hBq21) (le.get _ _ h22) (fr23.slc.le le))) ?_)
  rintro v28 A29 ⟨rfl, rfl⟩
  refine hk27 _ _ (HeldNow.none (by kernel_rfl)) ?_
  refine DOps.q rfl rfl rfl (qmove rfl) ?_
  refine DOps.q rfl rfl rfl (qextract rfl rfl) ?_
  refine DOps.q rfl rfl rfl (qextract rfl rfl) ?_
  refine DOps.q rfl rfl rfl (qassign rfl) ?_
  refine DOps.q rfl rfl rfl (qassign rfl) ?_
  refine DOps.done ?_
  refine h16 _ _ ?_
  refine Run.seq fun K31 h32 => ?_
  refine Run.region ?_
  refine Ops.q rfl (qmove rfl) ?_
  refine Ops.q rfl (qgeq rfl rfl) ?_
  refine Ops.nil ?_
  refine h32 _ _ ?_
  refine Run.if rfl (fun p33 => ?_) (fun p33 => ?_)
  ·
   refine Run.seq fun K34 h35 => ?_
   refine Run.region ?_
   refine Ops.q rfl (qmove rfl) ?_
   refine Ops.q rfl (qmove rfl) ?_
   refine Ops.q rfl (qmove rfl) ?_
   refine Ops.q rfl (qnil rfl) ?_
   refine Ops.q rfl (qfieldAddr fl111_1 sz65 (by decide) rfl) ?_
   refine Ops.q rfl (qloadAt ag65 rfl rfl h22 rfl) ?_
   refine Ops.q rfl (qnil rfl) ?_
   refine Ops.q rfl (qfieldAddr fl103_0 sz101 (by decide) rfl) ?_
   refine Ops.q rfl (qloadAt ag101 rfl rfl (le26.get _ _ hbr) rfl) ?_
   refine Ops.q rfl (qmove rfl) ?_
   obtain ⟨b36, f36, rw36, r36, rc36, n36, k36, e36, l36, g36, cl36, cs36⟩ := Slc.at (i := ((longF S.list (y.drop p)).1).toNat) (hls.le le26) (by simp only [rcells_length]; have := (longF_pos ‹0 ≤ (longF S.list (y.drop p)).1›).1; omega) (by omega)
   refine Ops.q rfl (qindexS u101 sz95 rfl e36 (natI (by omega)) l36) ?_
   refine Ops.q rfl (qloadAggAt ag95 sz95 rfl rfl g36 (cl36.trans (congrArg some (rcells_at (by omega))))) ?_
   have le41 := le_hide (bs := [some b0, blk s, blk t]) le26 (hoB no0 (hoV fr23.lo (hoV fr24.lo ho0)))
   refine Ops.l rfl (fun _ _ hk37 _ => vcallF rfl (s_replace p (S.list.getD (((longF S.list (y.drop p)).1).toNat) .zero) y e s (.pointer (some ⟨br, 0, none⟩)) t b0 (A20.hide [some b0, blk s, blk t]) A20 (hide_le A20 [some b0, blk s, blk t]) (hide_wf wfq21) h22 (hide_none (by simp)) (fr23.hide (by simp)) (fr24.hide (by simp)) no_s_b05 no_t_b05 sq5_0_1 (hL.le le41) (by omega) (by omega) (by have := hS.most _ (hxm ‹_›); omega) (hS.isw _ (hxm ‹_›)).2.2 (by omega)) ?_)
   rintro v38 A39 ⟨lvq40, dvq40, rfl, leq40, wfq40, hrq40_b0, foq40_0, foq40_1, neq40_0_b0, neq40_1_b0, spq40_0_1⟩
   have fr42 := foq40_0.base le41
   have fr43 := foq40_1.base le41
   have le44 := le41.trans leq40
   refine hk37 _ _ ?_
   refine Ops.q rfl (qassign rfl) ?_
   refine Ops.nil ?_
   refine h35 _ _ ?_
   refine Run.seq fun K45 h46 => ?_
   refine Run.region ?_
   refine Ops.q rfl (qmove rfl) ?_
   refine Ops.q rfl (qmove rfl) ?_
   refine Ops.q rfl (qnil rfl) ?_
   refine Ops.q rfl (qfieldAddr fl111_1 sz65 (by decide) rfl) ?_
   refine Ops.q rfl (qloadAt ag65 rfl rfl hrq40_b0 rfl) ?_
   refine Ops.q rfl (qnil rfl) ?_
   refine Ops.q rfl (qfieldAddr fl103_2 sz3 (by decide) rfl) ?_
   refine Ops.q rfl (qloadAt ag3 rfl rfl (le44.get _ _ hbr) rfl) ?_
   refine Ops.q rfl (qsub rfl rfl (by first | omega | (have := hlt (by omega) ‹_›; omega) | (split <;> omega))) ?_
   refine Ops.q rfl (qmax rfl rfl) ?_
   refine Ops.q rfl (qsub rfl rfl (by first | omega | (have := hlt (by omega) ‹_›; omega) | (split <;> omega))) ?_
   refine Ops.q rfl (qassign rfl) ?_
   refine Ops.nil ?_
   refine h46 _ _ ?_
   refine Run.exit ?_
   refine h14 _ _ ?_
   refine Run.region ?_
   refine Ops.q rfl (qmove rfl) ?_
   refine Ops.q rfl (qadd rfl rfl (by first | omega | (have := hlt (by omega) ‹_›; omega) | (split <;> omega))) ?_
   refine Ops.q rfl (qassign rfl) ?_
   refine Ops.nil ?_
   exact ⟨⟨(repl y p (S.list.getD (longF S.list (y.drop p)).1.toNat .zero)).2 - S.most, (repl y p (S.list.getD (((longF S.list (y.drop p)).1).toNat) .zero)).1, e ++ [repC y p (S.list.getD (((longF S.list (y.drop p)).1).toNat) .zero)], f - 1, lvq40, dvq40⟩, EnvLe.cons rfl <| EnvLe.cons (congrArg (fun z : Int => some (num z)) (by (try split) <;> omega)) <| EnvLe.nil _, rfl, ⟨⟨drun_go (by omega) (by omega) ‹_› hu, by have := hlt (by omega) ‹_›; omega, by have := hlt (by omega) ‹_›; omega, by have := hlt (by omega) ‹_›; simp only [List.length_append, List.length_cons, List.length_nil]; omega⟩, le44, fr42, fr43, hrq40_b0, neq40_0_b0, neq40_1_b0, spq40_0_1⟩, (by (try dsimp only); first | omega | (have := hlt (by omega) ‹_›; omega))⟩
  ·
   refine Run.skip ?_
   refine h14 _ _ ?_
   refine Run.region ?_
   refine Ops.q rfl (qmove rfl) ?_
   refine Ops.q rfl (qaddN (b := 1) rfl rfl (by first | omega | (have := hlt (by omega) ‹_›; omega) | (split <;> omega))) ?_
   refine Ops.q rfl (qassign rfl) ?_
   refine Ops.nil ?_
   exact ⟨⟨p + 1, y, e, f - 1, s, t⟩, EnvLe.cons rfl <| EnvLe.cons (congrArg (fun z : Int => some (num z)) (by (try split) <;> omega)) <| EnvLe.nil _, rfl, ⟨⟨drun_no (by omega) (by omega) ‹_› hu, by omega, hy, he⟩, le26, fr23, fr24, h22, no_s_b05, no_t_b05, sq5_0_1⟩, (by (try dsimp only); first | omega | (have := hlt (by omega) ‹_›; omega))⟩
 ·
  refine Run.exit ?_
  repeat first | with_reducible refine thenQ_ret ?_ | with_reducible refine blockQ_ret ?_ | with_reducible refine noGotoQ_ret ?_
  repeat first | with_reducible refine thenQ_exit ?_ | with_reducible refine blockQ_same ?_ | with_reducible refine blockQ_other (by decide) ?_ | with_reducible refine noGotoQ_exit ?_ | with_reducible refine noGotoQ_normal ?_
  exact retQn (vs := []) rfl (⟨_, _, rfl, le5, wf7, hr_b05, fresh_eq fr_s5 (congrArg byteCells (by rw [drun_end ‹_› hu])), fresh_eq fr_t5 (congrArg dcells (by rw [drun_end ‹_› hu])), no_s_b05, no_t_b05, sq5_0_1⟩)

theorem s_dshort (br : Nat) (S : RS) (w : List UInt8) (A : AH) (hR : Rules A br S) (hS : RSok S) (hL : Lets A) (hw : w.length ≤ 6000) : RetA Tryz.prog 34 #[.pointer (some ⟨br, 0, none⟩), str (w)] A (fun v A1 => ∃ dv, v = .agg #[str (dsh S w).1, num (((dsh S w).2.length : Nat) : Int), dv] ∧ A.le A1 ∧ A1.wf ∧ Fresh A A1 dv 3 (dcells (dsh S w).2)) := by
 refine enterA (e := [(0, .pointer (some ⟨br, 0, none⟩)), (1, str (w))]) (args := [.pointer (some ⟨br, 0, none⟩), str (w)]) Tryz.call34 Tryz.func34 rfl Tryz.results34 Tryz.ntmps34 rfl rfl rfl (fun wf => ?_)
 have le_ := AH.le.refl A
 have hR0 := hR
 obtain ⟨rwr, capr, lsv, nv, bl, hbr, hls, hnv, hN⟩ := hR
 have hrw := red_length w
 refine Run.seq fun K1 h2 => ?_
 refine Run.region ?_
 refine Ops.l rfl (fun _ _ hk3 _ => walloc wf z36 rfl fun A5 b4 nb6 => ?_)
 have ge_b4 := none_of wf (Nat.le_trans le_.n nb6.lo)
 have le7 := le_.trans nb6.le
 refine hk3 _ _ ?_
 refine Ops.nil ?_
 refine h2 _ _ ?_
 refine Run.seq fun K8 h9 => ?_
 refine Run.region ?_
 refine Ops.q rfl (qmove rfl) ?_
 refine Ops.q rfl (qbuild rfl (buildV_struct u111 z111 pl111 rfl)) ?_
 refine Ops.l rfl (fun _ _ hk10 _ => wbox nb6.wf rfl rfl fun A12 b11 nb13 => ?_)
 have ne_b4_b11 := ne_new nb6.wf nb6.get nb13.lo
 have ge_b11 := none_of wf (Nat.le_trans le7.n nb13.lo)
 have h14 := nb13.le.get _ _ nb6.get
 have le15 := le7.trans nb13.le
 refine hk10 _ _ ?_
 refine Ops.q rfl (qassign rfl) ?_
 refine Ops.nil ?_
 refine h9 _ _ ?_
 refine Run.seq fun K16 h17 => ?_
 refine Run.region ?_
 refine Ops.q rfl (qmove rfl) ?_
 refine Ops.q rfl (qnil rfl) ?_
 refine Ops.q rfl (qfieldAddr fl111_0 sz109 (by decide) rfl) ?_
 refine Ops.q rfl (qmove rfl) ?_
 have fr20 := Fresh.nil A A12 1
 have le24 := le_hide (bs := [some b11, blk (.slice none 0 0)]) le15 (hoB ge_b11 (hoV fr20.lo ho0))
 refine Ops.l rfl (fun _ _ hk18 _ => vcallF rfl (s_push w ([]) (.slice none 0 0) (.pointer (some ⟨br, 0, none⟩)) (.slice none 0 0) b11 (A12.hide [some b11, blk (.slice none 0 0)]) A12 (hide_le A12 [some b11, blk (.slice none 0 0)]) (hide_wf nb13.wf) nb13.get (hide_none (by simp)) (fr20.hide (by simp)) (fun q => by cases q) (by omega) (by simp)) ?_)
 rintro v21 A22 ⟨lvq23, rfl, leq23, wfq23, hrq23_b11, foq23_0, neq23_0_b11⟩
 have hg25 := hide_get (bs := [some b11, blk (.slice none 0 0)]) h14 (nmB ne_b4_b11 (nmV (fun q => by cases q) nm0))
 have h26 := leq23.get _ _ hg25
 have fr27 := foq23_0.base le24
 have no28 := foq23_0.seph hg25
 have le29 := le24.trans leq23
 refine hk18 _ _ ?_
 refine Ops.nil ?_
 refine h17 _ _ ?_
 refine Run.seq fun K30 h31 => ?_
 refine Run.region ?_
 refine Ops.q rfl (qmove rfl) ?_
 have fr34 := Fresh.nil A A22 3
 have le38 := le_hide (bs := [some b11, blk lvq23, blk (.slice none 0 0)]) le29 (hoB ge_b11 (hoV fr27.lo (hoV fr34.lo ho0)))
 refine Ops.l rfl (fun _ _ hk32 _ => vcallF rfl (s_run br S (w.foldl push ([])) ([]) lvq23 (.slice none 0 0) b11 (A22.hide [some b11, blk lvq23, blk (.slice none 0 0)]) A22 (hide_le A22 [some b11, blk lvq23, blk (.slice none 0 0)]) (hide_wf wfq23) hrq23_b11 (hide_none (by simp)) (fr27.hide (by simp)) (fr34.hide (by simp)) neq23_0_b11 (fun q => by cases q) (Sep.symm Sep.nil) (hR0.le le38) hS (hL.le le38) (by show (red w).length ≤ 6000; omega) (by simp)) ?_)
 rintro v35 A36 ⟨lvq37, dvq37, rfl, leq37, wfq37, hrq37_b11, foq37_0, foq37_1, neq37_0_b11, neq37_1_b11, spq37_0_1⟩
 have hg39 := hide_get (bs := [some b11, blk lvq23, blk (.slice none 0 0)]) h26 (nmB ne_b4_b11 (nmV no28 (nmV (fun q => by cases q) nm0)))
 have h40 := leq37.get _ _ hg39
 have fr41 := foq37_0.base le38
 have no42 := foq37_0.seph hg39
 have fr43 := foq37_1.base le38
 have no44 := foq37_1.seph hg39
 have le45 := le38.trans leq37
 refine hk32 _ _ ?_
 refine Ops.nil ?_
 refine h31 _ _ ?_
 refine Run.seq fun K46 h47 => ?_
 refine Run.drawn [0, 1, 2, 3, 4, 5, 6, 7, 8, 9, 10, 11, 12, 13, 14, 15, 16] mixed (by kernel_rfl) (by kernel_rfl) rfl ?_
 refine DOps.q rfl rfl rfl (qmove rfl) ?_
 refine DOps.q rfl rfl rfl (qnil rfl) ?_
 refine DOps.q rfl rfl rfl (qfieldAddr fl111_0 sz109 (by decide) rfl) ?_
 refine DOps.q rfl rfl rfl (qfieldAddr fl109_0 sz80 (by decide) rfl) ?_
 have hc48 := cellOf (off := 0) hrq37_b11 (show _ = some (lvq37) from rfl)
 refine DOps.q rfl rfl rfl (qloadAt ag80 rfl rfl hrq37_b11 rfl) ?_
 refine DOps.qstr (l := (drun S.list S.most (fuel (w.foldl push ([])).length) (w.foldl push ([])) ([]) 0).1) rfl rfl rfl u80 u9 u5 fr41.slc fun T49 => ?_
 refine DOps.q rfl rfl rfl (qmove rfl) ?_
 refine DOps.q rfl rfl rfl (qnil rfl) ?_
 refine DOps.q rfl rfl rfl (qfieldAddr fl111_2 sz34 (by decide) rfl) ?_
 have hc50 := cellOf (off := 2) hrq37_b11 (show _ = some (dvq37) from rfl)
 refine DOps.q rfl rfl rfl (qloadAt ag34 rfl rfl hrq37_b11 rfl) ?_
 refine DOps.q rfl rfl rfl (qlenS (n := ((drun S.list S.most (fuel (w.foldl push ([])).length) (w.foldl push ([])) ([]) 0).2).length) u34 rfl fr43.slc (by omega) (dcells_len _)) ?_
 refine DOps.q rfl rfl rfl (qmove rfl) ?_
 refine DOps.q rfl rfl rfl (qnil rfl) ?_
 refine DOps.q rfl rfl rfl (qfieldAddr fl111_2 sz34 (by decide) rfl) ?_
 have hc51 := cellOf (off := 2) hrq37_b11 (show _ = some (dvq37) from rfl)
 refine DOps.q rfl rfl rfl (qloadAt ag34 rfl rfl hrq37_b11 rfl) ?_
 obtain ⟨p52, l52, c52, q52, _⟩ := fr43.own.slice
 subst q52
 refine DOps.q rfl rfl rfl (qbuild rfl (buildV_struct u36 z36 pl36 rfl)) ?_
 refine DOps.l rfl rfl rfl (fun _ _ hk53 _ => wstore (cs := [str ((drun S.list S.most (fuel (w.foldl push ([])).length) (w.foldl push ([])) ([]) 0).1), num ((((drun S.list S.most (fuel (w.foldl push ([])).length) (w.foldl push ([])) ([]) 0).2).length : Nat) : Int), .slice p52 l52 c52]) (c' := [str ((drun S.list S.most (fuel (w.foldl push ([])).length) (w.foldl push ([])) ([]) 0).1), num ((((drun S.list S.most (fuel (w.foldl push ([])).length) (w.foldl push ([])) ([]) 0).2).length : Nat) : Int), .slice p52 l52 c52]) wfq37 rfl rfl rfl rfl sz36 h40 (Nat.le_of_ble_eq_true rfl) rfl rfl fun A54 sb55 => ?_)
 have h56 := sb55.keep _ _ ne_b4_b11.symm hrq37_b11
 have fr57 := fr41.keep sb55.keep no42
 have fr58 := fr43.keep sb55.keep no44
 have le59 := le_store le45 wf ge_b4 sb55.n sb55.keep
 refine hk53 _ _ (HeldNow.list (L := []) (by kernel_rfl) heldNil) ?_
 refine DOps.done ?_
 refine h47 _ _ ?_
 refine Run.ret ?_
 repeat first | with_reducible refine thenQ_ret ?_ | with_reducible refine blockQ_ret ?_
 exact retQ (resCell ag36 sz36 rfl sb55.get rfl resNil) (⟨_, rfl, le59, sb55.wf, fr58⟩)

theorem s_refused (g : Int) (u : Value) (l : List (List UInt8)) (w : List UInt8) (A : AH) (hn : l.length ≤ 1000000) (hL : Lets A) (hw : w.length ≤ 100000) (hu : Slc A 1 u (strs l)) : RetA Tryz.prog 32 #[.agg #[num (g), u], str (w)] A (fun v A1 => v = num ((rasked g l w : Nat) : Int) ∧ A.le A1 ∧ A1.wf) := by
 refine enterA (e := [(0, .agg #[num (g), u]), (1, str (w))]) (args := [.agg #[num (g), u], str (w)]) Tryz.call32 Tryz.func32 rfl Tryz.results32 Tryz.ntmps32 rfl rfl rfl (fun wf => ?_)
 have le_ := AH.le.refl A
 refine Run.seq fun K1 h2 => ?_
 refine Run.region ?_
 refine Ops.l rfl (fun _ _ hk3 _ => wbox wf rfl rfl fun A5 b4 nb6 => ?_)
 have ge_b4 := none_of wf (Nat.le_trans le_.n nb6.lo)
 have le7 := le_.trans nb6.le
 refine hk3 _ _ ?_
 refine Ops.q rfl (qassign rfl) ?_
 refine Ops.nil ?_
 refine h2 _ _ ?_
 refine Run.seq fun K8 h9 => ?_
 refine Run.seq fun K10 h11 => ?_
 refine Run.region ?_
 refine Ops.q rfl (qloadAggAt ag24 sz24 rfl rfl nb6.get rfl) ?_
 refine Ops.l rfl (fun _ _ hk12 _ => vcallF rfl (s_pCheck ((g)) u l A5 (by omega) (hL.le le7) (hu.le le7)) ?_)
 rintro v13 A14 ⟨rfl, leq15, wfq15⟩
 have h16 := leq15.get _ _ nb6.get
 have le17 := le7.trans leq15
 refine hk12 _ _ ?_
 refine Ops.q rfl (qassign rfl) ?_
 refine Ops.nil ?_
 refine h11 _ _ ?_
 refine Run.seq fun K18 h19 => ?_
 refine Run.region ?_
 refine Ops.q rfl (qmove rfl) ?_
 refine Ops.q rfl (qneqN (b := 0) rfl rfl) ?_
 refine Ops.nil ?_
 refine h19 _ _ ?_
 refine Run.if rfl (fun p20 => ?_) (fun p20 => ?_)
 ·
  refine Run.seq fun K21 h22 => ?_
  refine Run.region ?_
  refine Ops.q rfl (qmove rfl) ?_
  refine Ops.q rfl (qassign rfl) ?_
  refine Ops.nil ?_
  refine h22 _ _ ?_
  refine Run.ret ?_
  repeat first | with_reducible refine thenQ_ret ?_ | with_reducible refine blockQ_ret ?_
  exact retQ rfl (⟨by first | (rw [rasked, if_pos ‹_›]; rfl) | (rw [rasked, if_neg ‹_›, if_pos ‹_›]; rfl) | (rw [rasked, if_neg ‹_›, if_neg ‹_›, if_pos ‹_›]; rfl) | (rw [rasked, if_neg ‹_›, if_neg ‹_›, if_neg ‹_›]; rfl), le17, wfq15⟩)
 ·
  refine Run.skip ?_
  refine h9 _ _ ?_
  refine Run.seq fun K23 h24 => ?_
  refine Run.seq fun K25 h26 => ?_
  refine Run.region ?_
  refine Ops.q rfl (qfieldAddr fl24_0 sz3 (by decide) rfl) ?_
  refine Ops.q rfl (qloadAt ag3 rfl rfl h16 rfl) ?_
  refine Ops.q rfl (qmove rfl) ?_
  refine Ops.l rfl (fun _ _ hk27 _ => vcallF rfl (s_wCheck (g) w A14 (hL.le le17)) ?_)
  rintro v28 A29 ⟨rfl, leq30, wfq30⟩
  have h31 := leq30.get _ _ h16
  have le32 := le17.trans leq30
  refine hk27 _ _ ?_
  refine Ops.q rfl (qneqN (b := 0) rfl rfl) ?_
  refine Ops.nil ?_
  refine h26 _ _ ?_
  refine Run.if rfl (fun p33 => ?_) (fun p33 => ?_)
  ·
   refine Run.seq fun K34 h35 => ?_
   refine Run.region ?_
   refine Ops.q rfl (qassign rfl) ?_
   refine Ops.nil ?_
   refine h35 _ _ ?_
   refine Run.ret ?_
   repeat first | with_reducible refine thenQ_ret ?_ | with_reducible refine blockQ_ret ?_
   exact retQ rfl (⟨by first | (rw [rasked, if_pos ‹_›]; rfl) | (rw [rasked, if_neg ‹_›, if_pos ‹_›]; rfl) | (rw [rasked, if_neg ‹_›, if_neg ‹_›, if_pos ‹_›]; rfl) | (rw [rasked, if_neg ‹_›, if_neg ‹_›, if_neg ‹_›]; rfl), le32, wfq30⟩)
  ·
   refine Run.skip ?_
   refine h24 _ _ ?_
   refine Run.seq fun K36 h37 => ?_
   refine Run.seq fun K38 h39 => ?_
   refine Run.region ?_
   refine Ops.q rfl (qmove rfl) ?_
   refine Ops.q rfl (qslen u9 rfl) ?_
   refine Ops.q rfl (qgtrN (b := 5000) rfl rfl) ?_
   refine Ops.nil ?_
   refine h39 _ _ ?_
   refine Run.if rfl (fun p40 => ?_) (fun p40 => ?_)
   ·
    refine Run.seq fun K41 h42 => ?_
    refine Run.region ?_
    refine Ops.q rfl (qassign rfl) ?_
    refine Ops.nil ?_
    refine h42 _ _ ?_
    refine Run.ret ?_
    repeat first | with_reducible refine thenQ_ret ?_ | with_reducible refine blockQ_ret ?_
    exact retQ rfl (⟨by first | (rw [rasked, if_pos ‹_›]; rfl) | (rw [rasked, if_neg ‹_›, if_pos ‹_›]; rfl) | (rw [rasked, if_neg ‹_›, if_neg ‹_›, if_pos ‹_›]; rfl) | (rw [rasked, if_neg ‹_›, if_neg ‹_›, if_neg ‹_›]; rfl), le32, wfq30⟩)
   ·
    refine Run.skip ?_
    refine h37 _ _ ?_
    refine Run.seq fun K43 h44 => ?_
    refine Run.region ?_
    refine Ops.q rfl (qassign rfl) ?_
    refine Ops.nil ?_
    refine h44 _ _ ?_
    refine Run.ret ?_
    repeat first | with_reducible refine thenQ_ret ?_ | with_reducible refine blockQ_ret ?_
    exact retQ rfl (⟨by first | (rw [rasked, if_pos ‹_›]; rfl) | (rw [rasked, if_neg ‹_›, if_pos ‹_›]; rfl) | (rw [rasked, if_neg ‹_›, if_neg ‹_›, if_pos ‹_›]; rfl) | (rw [rasked, if_neg ‹_›, if_neg ‹_›, if_neg ‹_›]; rfl), le32, wfq30⟩)

theorem s_heavy (dv : Value) (d : List DCell) (A : AH) (hdn : d.length ≤ 100000000) (hcn : conjs d ≤ 1000000000000) (hv : Slc A 3 dv (dcells d)) : RetA Tryz.prog 35 #[dv] A (fun v A1 => v = .bool (decide (1000000 < conjs d ∨ 100000 < d.length)) ∧ A.le A1 ∧ A1.wf) := by
 refine enterA (e := [(0, dv)]) (args := [dv]) Tryz.call35 Tryz.func35 rfl Tryz.results35 Tryz.ntmps35 rfl rfl rfl (fun wf => ?_)
 have le_ := AH.le.refl A
 refine Run.seq fun K1 h2 => ?_
 refine Run.region ?_
 refine Ops.q rfl (qassign rfl) ?_
 refine Ops.nil ?_
 refine h2 _ _ ?_
 refine Run.seq fun K3 h4 => ?_
 refine Run.region ?_
 refine Ops.q rfl (qassign rfl) ?_
 refine Ops.nil ?_
 refine h4 _ _ ?_
 refine Run.seq fun K5 h6 => ?_
 refine Run.seq fun K7 h8 => ?_
 refine Run.region ?_
 refine Ops.q rfl (qmove rfl) ?_
 refine Ops.q rfl (qlenS (n := d.length) u34 rfl (hv.le le_) (by omega) (dcells_len _)) ?_
 refine Ops.q rfl (qmove rfl) ?_
 refine Ops.nil ?_
 refine h8 _ _ ?_
 refine Run.block ?_
 refine Run.loop (X := Nat × Nat) (fun ⟨k, n⟩ => [(0, dv), (3, num ((n : Nat) : Int)), (6, dv), (7, num ((d.length : Nat) : Int)), (8, num ((k : Nat) : Int))]) (fun ⟨k, n⟩ B => (k ≤ d.length ∧ n + conjs (d.drop k) = conjs d) ∧ A.le B) (fun ⟨k, n⟩ => d.length - k) (⟨0, 0⟩) (EnvLe.cons rfl <| EnvLe.cons rfl <| EnvLe.cons rfl <| EnvLe.cons rfl <| EnvLe.cons rfl <| EnvLe.nil _) (⟨⟨Nat.zero_le _, Nat.zero_add _⟩, le_⟩) ?_
 rintro ⟨k, n⟩ B10 ⟨⟨hk, hc⟩, le9⟩
 refine Run.wf fun wf11 => ?_
 have hcd := fun q : k < d.length => conjs_drop q
 refine Run.seq fun K12 h13 => ?_
 refine Run.region ?_
 refine Ops.q rfl (qlssN rfl rfl) ?_
 refine Ops.nil ?_
 refine h13 _ _ ?_
 refine Run.seq fun K14 h15 => ?_
 refine Run.if rfl (fun p16 => ?_) (fun p16 => ?_)
 ·
  refine Run.skip ?_
  refine h15 _ _ ?_
  refine Run.seq fun K17 h18 => ?_
  refine Run.block ?_
  refine Run.seq fun K19 h20 => ?_
  refine Run.region ?_
  obtain ⟨b21, f21, rw21, r21, rc21, n21, k21, e21, l21, g21, cl21, cs21⟩ := Slc.at (i := k) (hv.le le9) (by simp only [dcells_length]; omega) (by omega)
  refine Ops.q rfl (qindexS u34 sz79 rfl e21 rfl l21) ?_
  refine Ops.q rfl (qloadAggAt ag79 sz79 rfl rfl g21 (cl21.trans (congrArg some (dcells_at (by omega))))) ?_
  refine Ops.l rfl (fun _ _ hk22 _ => walloc wf11 z79 rfl fun A24 b23 nb25 => ?_)
  have ge_b23 := none_of wf (Nat.le_trans le9.n nb25.lo)
  have le26 := le9.trans nb25.le
  refine hk22 _ _ ?_
  refine Ops.l rfl (fun _ _ hk27 _ => wstore (cs := [str ((d.getD k .zero).conj), num ((d.getD k .zero).rel), .bool ((d.getD k .zero).inv)]) (c' := [str ((d.getD k .zero).conj), num ((d.getD k .zero).rel), .bool ((d.getD k .zero).inv)]) nb25.wf rfl rfl rfl rfl sz79 nb25.get (Nat.le_of_ble_eq_true rfl) rfl rfl fun A28 sb29 => ?_)
  have le30 := le_store le26 wf ge_b23 sb29.n sb29.keep
  refine hk27 _ _ ?_
  refine Ops.nil ?_
  refine h20 _ _ ?_
  refine Run.region ?_
  refine Ops.q rfl (qmove rfl) ?_
  refine Ops.q rfl (qfieldAddr fl79_0 sz9 (by decide) rfl) ?_
  refine Ops.q rfl (qloadAt ag9 rfl rfl sb29.get rfl) ?_
  refine Ops.q rfl (qslen u9 rfl) ?_
  refine Ops.q rfl (qaddN rfl rfl (by have := hcd (by omega); omega)) ?_
  refine Ops.q rfl (qassign rfl) ?_
  refine Ops.nil ?_
  refine h18 _ _ ?_
  refine Run.region ?_
  refine Ops.q rfl (qaddN (b := 1) rfl rfl (by omega)) ?_
  refine Ops.q rfl (qmove rfl) ?_
  refine Ops.nil ?_
  exact ⟨⟨k + 1, n + (d.getD k .zero).conj.length⟩, EnvLe.cons rfl <| EnvLe.cons rfl <| EnvLe.cons rfl <| EnvLe.cons rfl <| EnvLe.cons rfl <| EnvLe.nil _, rfl, ⟨⟨by omega, by have := hcd (by omega); omega⟩, le30⟩, (by (try dsimp only); omega)⟩
 ·
  refine Run.exit ?_
  refine h6 _ _ ?_
  refine Run.seq fun K31 h32 => ?_
  refine Run.region ?_
  refine Ops.q rfl (qmove rfl) ?_
  refine Ops.q rfl (qgtrN (b := 1000000) rfl rfl) ?_
  refine Ops.q rfl (qmove rfl) ?_
  refine Ops.part (t := 20) rfl (fun p33 => ?_) (fun p33 => ?_)
  ·
   refine Ops.off rfl rfl rfl rfl ?_
   refine Ops.off rfl rfl rfl rfl ?_
   refine Ops.off rfl rfl rfl rfl ?_
   refine Ops.q rfl (qpickT rfl rfl) ?_
   refine Ops.q rfl (qassign rfl) ?_
   refine Ops.nil ?_
   refine h32 _ _ ?_
   refine Run.ret ?_
   repeat first | with_reducible refine thenQ_ret ?_ | with_reducible refine blockQ_ret ?_
   exact retQ rfl (⟨by have hz : conjs (d.drop k) = 0 := (by rw [dropL_end (by omega)]; rfl); have hn2 : n = conjs d := (by omega); subst hn2; simp_all [oneV] <;> omega, le9, wf11⟩)
  ·
   refine Ops.on rfl rfl ?_
   refine Ops.q rfl (qmove rfl) ?_
   refine Ops.on rfl rfl ?_
   refine Ops.q rfl (qlenS (n := d.length) u34 rfl (hv.le le9) (by omega) (dcells_len _)) ?_
   refine Ops.on rfl rfl ?_
   refine Ops.q rfl (qgtrN (b := 100000) rfl rfl) ?_
   refine Ops.q rfl (qpickF rfl rfl) ?_
   refine Ops.q rfl (qassign rfl) ?_
   refine Ops.nil ?_
   refine h32 _ _ ?_
   refine Run.ret ?_
   repeat first | with_reducible refine thenQ_ret ?_ | with_reducible refine blockQ_ret ?_
   exact retQ rfl (⟨by have hz : conjs (d.drop k) = 0 := (by rw [dropL_end (by omega)]; rfl); have hn2 : n = conjs d := (by omega); subst hn2; simp_all [oneV] <;> omega, le9, wf11⟩)
end Go.Proofs.YtaccklloepfemaaGreatDoor
