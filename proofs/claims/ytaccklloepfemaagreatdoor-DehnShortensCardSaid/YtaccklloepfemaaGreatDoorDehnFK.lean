/- The contracts of the functions, one by one: what each comes to. -/
import Derived.Test.YtaccklloepfemaaGreatDoorDehnFJ
import Derived.Test.YtaccklloepfemaaGreatDoorDehnTI
import Derived.Test.YtaccklloepfemaaGreatDoorLays
namespace Go.Proofs.YtaccklloepfemaaGreatDoor
open Go Go.RowKit V
set_option maxRecDepth 100000
set_option linter.unusedVariables false
set_option linter.unusedSimpArgs false
set_option maxHeartbeats 4000000
theorem ag90 : aggOf Tryz.prog 90 = some false := by kernel_rfl
theorem inf95 : Tryz.prog.info? 95 = some Tryz.t95 := by kernel_rfl
theorem inf99 : Tryz.prog.info? 99 = some Tryz.t99 := by kernel_rfl
theorem pl103 : structPlaces Tryz.prog 103 = some [(0, 1), (1, 1), (2, 1)] := by kernel_rfl
theorem pl95 : structPlaces Tryz.prog 95 = some [(0, 1), (1, 1), (2, 1), (3, 1)] := by kernel_rfl
theorem pl99 : structPlaces Tryz.prog 99 = some [(0, 1), (1, 1)] := by kernel_rfl
theorem sz90 : szOf Tryz.prog 90 = some 1 := by kernel_rfl
theorem u103 : type_of% @Tryz.underlying103 := @Tryz.underlying103
theorem u90 : type_of% @Tryz.underlying90 := @Tryz.underlying90
theorem u91 : type_of% @Tryz.underlying91 := @Tryz.underlying91
theorem u95 : type_of% @Tryz.underlying95 := @Tryz.underlying95
theorem u99 : type_of% @Tryz.underlying99 := @Tryz.underlying99
theorem z103 : zeroOf Tryz.prog 103 = some (.agg #[.slice none 0 0, .slice none 0 0, .int .i64 0]) := by kernel_rfl
theorem z4 : zeroOf Tryz.prog 4 = some (.bool false) := by kernel_rfl
theorem z90 : zeroOf Tryz.prog 90 = some (.map none) := by kernel_rfl
theorem z95 : zeroOf Tryz.prog 95 = some (.agg #[.string ⟨⟨[]⟩⟩, .string ⟨⟨[]⟩⟩, .int .i64 0, .bool false]) := by kernel_rfl
theorem z99 : zeroOf Tryz.prog 99 = some (.agg #[.map none, .int .i64 0]) := by kernel_rfl

theorem s_cmp1 (x y : Rot) (A : AH) (hL : Lets A) (hx : x.w.length ≤ 1000000) (hy : y.w.length ≤ 1000000) : RetA Tryz.prog 59 #[.agg #[str (x.w), str (x.c), num ((x.r : Nat) : Int), .bool (x.i)], .agg #[str (y.w), str (y.c), num ((y.r : Nat) : Int), .bool (y.i)]] A (fun v A1 => v = num (wCompare x.w y.w)) := by
 refine enterA (e := [(0, .agg #[str (x.w), str (x.c), num ((x.r : Nat) : Int), .bool (x.i)]), (1, .agg #[str (y.w), str (y.c), num ((y.r : Nat) : Int), .bool (y.i)])]) (args := [.agg #[str (x.w), str (x.c), num ((x.r : Nat) : Int), .bool (x.i)], .agg #[str (y.w), str (y.c), num ((y.r : Nat) : Int), .bool (y.i)]]) Tryz.call59 Tryz.func59 rfl Tryz.results59 Tryz.ntmps59 rfl rfl rfl (fun wf => ?_)
 have le_ := AH.le.refl A
 refine Run.seq fun K1 h2 => ?_
 refine Run.region ?_
 refine Ops.l rfl (fun _ _ hk3 _ => wbox wf rfl rfl fun A5 b4 nb6 => ?_)
 have ge_b4 := none_of wf (Nat.le_trans le_.n nb6.lo)
 have le7 := le_.trans nb6.le
 refine hk3 _ _ ?_
 refine Ops.l rfl (fun _ _ hk8 _ => wbox nb6.wf rfl rfl fun A10 b9 nb11 => ?_)
 have ne_b4_b9 := ne_new nb6.wf nb6.get nb11.lo
 have ge_b9 := none_of wf (Nat.le_trans le7.n nb11.lo)
 have h12 := nb11.le.get _ _ nb6.get
 have le13 := le7.trans nb11.le
 refine hk8 _ _ ?_
 refine Ops.q rfl (qassign rfl) ?_
 refine Ops.nil ?_
 refine h2 _ _ ?_
 refine Run.seq fun K14 h15 => ?_
 refine Run.region ?_
 refine Ops.q rfl (qfieldAddr fl95_0 sz9 (by decide) rfl) ?_
 refine Ops.q rfl (qloadAt ag9 rfl rfl h12 rfl) ?_
 refine Ops.q rfl (qfieldAddr fl95_0 sz9 (by decide) rfl) ?_
 refine Ops.q rfl (qloadAt ag9 rfl rfl nb11.get rfl) ?_
 refine Ops.l rfl (fun _ _ hk16 _ => vcallF rfl (s_Compare x.w y.w A10 (by first | omega | (simp only [List.length_append, List.length_drop, List.length_take, inv_length]; omega)) (by first | omega | (simp only [List.length_append, List.length_drop, List.length_take, inv_length]; omega)) (hL.le le13)) ?_)
 rintro v17 A18 ⟨rfl, leq19, wfq19⟩
 have h20 := leq19.get _ _ h12
 have h21 := leq19.get _ _ nb11.get
 have le22 := le13.trans leq19
 refine hk16 _ _ ?_
 refine Ops.q rfl (qassign rfl) ?_
 refine Ops.nil ?_
 refine h15 _ _ ?_
 refine Run.ret ?_
 repeat first | with_reducible refine thenQ_ret ?_ | with_reducible refine blockQ_ret ?_
 exact retQ rfl (rfl)

theorem s_sortW (L : List Rot) (lv : Value) (A0 A : AH) (le : A0.le A) (wf0 : A0.wf) (own : Fresh A0 A lv 4 (rcells L)) (hL : Lets A0) (hok : ∀ x ∈ L, okR x) (hl : L.length ≤ 30000) :
    RetA Tryz.prog 58 #[lv, .func (.func 59) #[] #[]] A (fun v A1 => ∃ L2, L2.Perm L ∧ L2.Pairwise (fun x y => ¬ cmpw y.w x.w < 0) ∧ v = .tuple #[] ∧ A0.le A1 ∧ A1.wf ∧ Fresh A0 A1 lv 4 (rcells L2)) := by
  obtain ⟨d, rfl⟩ := attach_ok hok
  rw [← cellsOf] at own
  refine (sortFunc_ret Tryz.sortR 4 (by decide) (fun w => Tryz.isAgg95 w) (fun w => Tryz.sizeOf95 w) (fun x : OkRot => rcell x.1) (fun _ => rfl) ?_ cmpR cmpR_swo 59 #[] Tryz.call58 Tryz.call59 (by rw [List.length_map] at hl; omega) wf0 le own ?_).mono ?_
  · intro x v hv
    simp only [rcell, List.mem_cons, List.not_mem_nil, or_false] at hv
    rcases hv with rfl | rfl | rfl | rfl <;> rfl
  · intro n hn b hb x y
    have hx := x.2; have hy := y.2
    refine (s_cmp1 x.1 y.1 (A.frozen b n) (lets_frozen hL le (own.lo b hb)) (by have := hx.1; omega) (by have := hy.1; omega)).mono ?_
    rintro v A1 rfl
    show _ = num _
    rw [wCompare, if_pos ⟨hx.2.1, hy.2.1⟩]; rfl
  · rintro v A1 ⟨rfl, h2, h3, _, d', h4, h5, h6⟩
    rw [cellsOf] at h6
    exact ⟨d'.map (·.1), h4.map _, (by rw [List.pairwise_map]; exact h5), rfl, h2, h3, h6⟩


theorem s_newRules (g : Int) (u : Value) (l : List (List UInt8)) (A : AH) (hL : Lets A) (hp : pcheck g l = 0) (hu : Slc A 1 u (strs l)) : RetA Tryz.prog 33 #[.agg #[num (g), u]] A (fun v A1 => ∃ br S, v = .pointer (some ⟨br, 0, none⟩) ∧ A.le A1 ∧ A1.wf ∧ (∀ hs, (∀ b, some b ∈ hs → ∃ o, A.get b = some o) → Rules (A1.hide hs) br S) ∧ RSok S ∧ S.list.Perm (allR l) ∧ S.list.Pairwise (fun x y => ¬ cmpw y.w x.w < 0)) := by
  refine enterM (e := [(0, .agg #[num (g), u])]) (args := [.agg #[num (g), u]]) Tryz.call33 Tryz.func33 rfl Tryz.results33 Tryz.ntmps33 rfl rfl rfl (fun wf => ?_)
  have le_ := AH.le.refl A
  have ob_ := Objs.refl A
  have df_ : Defs A A [] := ⟨List.Pairwise.nil, fun _ h => by cases h⟩
  have hz := pcheck_zero hp
  have hll : ∀ k, k < l.length → (l.getD k []).length ≤ 200 := fun k q => (hz.2.2 _ (getD_mem q)).1
  refine Run.seq fun K1 h2 => ?_
  refine Run.region ?_
  refine Ops.l rfl (fun _ _ hk3 _ => wbox wf rfl rfl fun A5 b4 nb6 => ?_)
  have ge_b4 := none_of wf (Nat.le_trans le_.n nb6.lo)
  have le7 := le_.trans nb6.le
  have ob8 := ob_.le nb6.le
  refine hk3 _ _ ?_
  refine Ops.q rfl (qassign rfl) ?_
  refine Ops.nil ?_
  refine h2 _ _ ?_
  refine Run.seq fun K9 h10 => ?_
  refine Run.region ?_
  refine Ops.l rfl (fun _ _ hk11 _ => wmakeMap nb6.wf fun A13 b12 nb14 => ?_)
  have ne_b4_b12 := ne_new nb6.wf nb6.get nb14.lo
  have ge_b12 := none_of wf (Nat.le_trans le7.n nb14.lo)
  have h15 := nb14.le.get _ _ nb6.get
  have le16 := le7.trans nb14.le
  have ob17 := ob8.le nb14.le
  refine hk11 _ _ ?_
  refine Ops.l rfl (fun _ _ hk18 _ => walloc nb14.wf z90 rfl fun A20 b19 nb21 => ?_)
  have ne_b4_b19 := ne_new nb14.wf h15 nb21.lo
  have ne_b12_b19 := ne_new nb14.wf nb14.get nb21.lo
  have ge_b19 := none_of wf (Nat.le_trans le16.n nb21.lo)
  have h22 := nb21.le.get _ _ h15
  have h23 := nb21.le.get _ _ nb14.get
  have le24 := le16.trans nb21.le
  have ob25 := ob17.le nb21.le
  refine hk18 _ _ ?_
  refine Ops.l rfl (fun _ _ hk26 _ => wstore (cs := [.map (some b12)]) (c' := [.map (some b12)]) nb21.wf rfl rfl rfl rfl sz90 nb21.get (Nat.le_of_ble_eq_true rfl) rfl rfl fun A27 sb28 => ?_)
  have h29 := sb28.keep _ _ ne_b4_b19 h22
  have h30 := sb28.keep _ _ ne_b12_b19 h23
  have ob31 := ob25.set nb21.get sb28.n sb28.keep
  have le32 := le_store le24 wf ge_b19 sb28.n sb28.keep
  refine hk26 _ _ ?_
  refine Ops.nil ?_
  refine h10 _ _ ?_
  refine Run.seq fun K33 h34 => ?_
  refine Run.seq fun K35 h36 => ?_
  refine Run.region ?_
  refine Ops.q rfl (qfieldAddr fl24_1 sz22 (by decide) rfl) ?_
  refine Ops.q rfl (qloadAt ag22 rfl rfl h29 rfl) ?_
  refine Ops.q rfl (qlenS (n := l.length) u22 rfl (hu.le le32) (by omega) (strs_len _)) ?_
  refine Ops.q rfl (qmove rfl) ?_
  refine Ops.nil ?_
  refine h36 _ _ ?_
  refine Run.block ?_
  refine Run.loopD (X := Nat × List Rot × List Nat) (fun ⟨k, E, Ds⟩ => [(3, .pointer (some ⟨b19, 0, none⟩)), (26, u), (27, num ((l.length : Nat) : Int)), (28, num ((k : Nat) : Int))]) (fun ⟨k, E, Ds⟩ => Ds.map V.mark) (fun ⟨k, E, Ds⟩ B => (k ≤ l.length ∧ E = (List.range k).foldl (addR l) [] ∧ E.length ≤ 400 * k) ∧ A.le B ∧ B.get b12 = some (.obj true (mobj E)) ∧ B.get b19 = some (.row true [.map (some b12)] 1) ∧ Defs A B Ds) (fun ⟨k, E, Ds⟩ => l.length - k) (⟨0, [], []⟩) (EnvLe.cons rfl <| EnvLe.cons rfl <| EnvLe.cons rfl <| EnvLe.cons rfl <| EnvLe.nil _) rfl (⟨⟨Nat.zero_le _, rfl, Nat.zero_le _⟩, le32, h30, sb28.get, (df_.objs ob31)⟩) ?_
  rintro ⟨k, E, Ds⟩ B38 ⟨⟨hk, hE, hEl⟩, le37, hr_b1237, hr_b1937, hdf37⟩
  refine Run.wf fun wf39 => ?_
  have ob40 := Objs.refl B38
  have hlk := hll k
  refine Run.seq fun K41 h42 => ?_
  refine Run.region ?_
  refine Ops.q rfl (qlssN rfl rfl) ?_
  refine Ops.nil ?_
  refine h42 _ _ ?_
  refine Run.seq fun K43 h44 => ?_
  refine Run.if rfl (fun p45 => ?_) (fun p45 => ?_)
  ·
    refine Run.skip ?_
    refine h44 _ _ ?_
    refine Run.seq fun K46 h47 => ?_
    refine Run.block ?_
    refine Run.seq fun K48 h49 => ?_
    refine Run.region ?_
    refine Ops.q rfl (qmove rfl) ?_
    obtain ⟨b50, f50, rw50, r50, rc50, n50, k50, e50, l50, g50, cl50, cs50⟩ := Slc.at (i := k) (hu.le le37) (by simp only [strs_length]; omega) (by omega)
    refine Ops.q rfl (qindexS u22 sz9 rfl e50 rfl l50) ?_
    refine Ops.q rfl (qloadAt ag9 rfl rfl g50 ((elt0 cs50).trans (strs_get (by omega)))) ?_
    refine Ops.l rfl (fun _ _ hk51 _ => walloc wf39 z3 rfl fun A53 b52 nb54 => ?_)
    have ne_b12_b52 := ne_new wf39 hr_b1237 nb54.lo
    have ne_b19_b52 := ne_new wf39 hr_b1937 nb54.lo
    have ge_b52 := none_of wf (Nat.le_trans le37.n nb54.lo)
    have h55 := nb54.le.get _ _ hr_b1237
    have h56 := nb54.le.get _ _ hr_b1937
    have le57 := le37.trans nb54.le
    have ob58 := ob40.le nb54.le
    refine hk51 _ _ ?_
    refine Ops.l rfl (fun _ _ hk59 _ => wstore (cs := [num ((k : Nat) : Int)]) (c' := [num ((k : Nat) : Int)]) nb54.wf rfl rfl rfl rfl sz3 nb54.get (Nat.le_of_ble_eq_true rfl) rfl rfl fun A60 sb61 => ?_)
    have h62 := sb61.keep _ _ ne_b12_b52 h55
    have h63 := sb61.keep _ _ ne_b19_b52 h56
    have ob64 := ob58.set nb54.get sb61.n sb61.keep
    have le65 := le_store le57 wf ge_b52 sb61.n sb61.keep
    refine hk59 _ _ ?_
    refine Ops.q rfl (qassign rfl) ?_
    refine Ops.nil ?_
    refine h49 _ _ ?_
    refine Run.seq fun K66 h67 => ?_
    refine Run.region ?_
    refine Ops.l rfl (fun _ _ hk68 _ => wbuildSlice (c := [.bool (false), .bool (true)]) sb61.wf rfl (buildSliceV_of u91 sz4 z4 rfl (by decide) (by decide) rfl) fun A70 b69 nb71 => ?_)
    have ne_b12_b69 := ne_new sb61.wf h62 nb71.lo
    have ne_b19_b69 := ne_new sb61.wf h63 nb71.lo
    have ne_b52_b69 := ne_new sb61.wf sb61.get nb71.lo
    have ge_b69 := none_of wf (Nat.le_trans le65.n nb71.lo)
    have h72 := nb71.le.get _ _ h62
    have h73 := nb71.le.get _ _ h63
    have h74 := nb71.le.get _ _ sb61.get
    have le75 := le65.trans nb71.le
    have ob76 := ob64.le nb71.le
    refine hk68 _ _ ?_
    refine Ops.q rfl (qlen u91 rfl) ?_
    refine Ops.q rfl (qmove rfl) ?_
    refine Ops.nil ?_
    refine h67 _ _ ?_
    refine Run.block ?_
    refine Run.loopD (X := Nat × List Rot × List Nat) (fun ⟨m, E2, Ds⟩ => [(3, .pointer (some ⟨b19, 0, none⟩)), (4, .pointer (some ⟨b52, 0, none⟩)), (5, str (l.getD k [])), (26, u), (27, num ((l.length : Nat) : Int)), (28, num ((k : Nat) : Int)), (33, .slice (some ⟨b69, 0, none⟩) 2 2), (34, num ((2 : Nat) : Int)), (35, num ((m : Nat) : Int))]) (fun ⟨m, E2, Ds⟩ => Ds.map V.mark) (fun ⟨m, E2, Ds⟩ B => (m ≤ 2 ∧ E2 = (List.range m).foldl (fun E j => addV k (l.getD k []) E (decide (j = 1))) E ∧ E2.length ≤ E.length + 200 * m) ∧ A.le B ∧ B.get b12 = some (.obj true (mobj E2)) ∧ B.get b19 = some (.row true [.map (some b12)] 1) ∧ B.get b52 = some (.row true [num ((k : Nat) : Int)] 1) ∧ B.get b69 = some (.row true [.bool (false), .bool (true)] 2) ∧ Defs A B Ds) (fun ⟨m, E2, Ds⟩ => 2 - m) (⟨0, E, Ds⟩) (EnvLe.cons rfl <| EnvLe.cons rfl <| EnvLe.cons rfl <| EnvLe.cons rfl <| EnvLe.cons rfl <| EnvLe.cons rfl <| EnvLe.cons rfl <| EnvLe.cons rfl <| EnvLe.cons rfl <| EnvLe.nil _) rfl (⟨⟨Nat.zero_le _, rfl, Nat.le_refl _⟩, le75, h72, h73, h74, nb71.get, (hdf37.objs ob76)⟩) ?_
    rintro ⟨m, E2, Ds⟩ B78 ⟨⟨hm, hE2, hE2l⟩, le77, hr_b1277, hr_b1977, hr_b5277, hr_b6977, hdf77⟩
    refine Run.wf fun wf79 => ?_
    have ob80 := Objs.refl B78
    have hwl := wOf_length (l.getD k []) (decide (m = 1))
    refine Run.seq fun K81 h82 => ?_
    refine Run.region ?_
    refine Ops.q rfl (qlssN (b := 2) rfl rfl) ?_
    refine Ops.nil ?_
    refine h82 _ _ ?_
    refine Run.seq fun K83 h84 => ?_
    refine Run.if rfl (fun p85 => ?_) (fun p85 => ?_)
    ·
      refine Run.skip ?_
      refine h84 _ _ ?_
      refine Run.seq fun K86 h87 => ?_
      refine Run.block ?_
      refine Run.seq fun K88 h89 => ?_
      refine Run.region ?_
      refine Ops.q rfl (qindexS u91 sz4 rfl rfl rfl (by omega)) ?_
      refine Ops.q rfl (qloadAt ag4 rfl rfl hr_b6977 (two_get (by omega))) ?_
      refine Ops.l rfl (fun _ _ hk90 _ => walloc wf79 z4 rfl fun A92 b91 nb93 => ?_)
      have ne_b12_b91 := ne_new wf79 hr_b1277 nb93.lo
      have ne_b19_b91 := ne_new wf79 hr_b1977 nb93.lo
      have ne_b52_b91 := ne_new wf79 hr_b5277 nb93.lo
      have ne_b69_b91 := ne_new wf79 hr_b6977 nb93.lo
      have ge_b91 := none_of wf (Nat.le_trans le77.n nb93.lo)
      have h94 := nb93.le.get _ _ hr_b1277
      have h95 := nb93.le.get _ _ hr_b1977
      have h96 := nb93.le.get _ _ hr_b5277
      have h97 := nb93.le.get _ _ hr_b6977
      have le98 := le77.trans nb93.le
      have ob99 := ob80.le nb93.le
      refine hk90 _ _ ?_
      refine Ops.l rfl (fun _ _ hk100 _ => wstore (cs := [.bool (decide (m = 1))]) (c' := [.bool (decide (m = 1))]) nb93.wf rfl rfl rfl rfl sz4 nb93.get (Nat.le_of_ble_eq_true rfl) rfl rfl fun A101 sb102 => ?_)
      have h103 := sb102.keep _ _ ne_b12_b91 h94
      have h104 := sb102.keep _ _ ne_b19_b91 h95
      have h105 := sb102.keep _ _ ne_b52_b91 h96
      have h106 := sb102.keep _ _ ne_b69_b91 h97
      have ob107 := ob99.set nb93.get sb102.n sb102.keep
      have le108 := le_store le98 wf ge_b91 sb102.n sb102.keep
      refine hk100 _ _ ?_
      refine Ops.nil ?_
      refine h89 _ _ ?_
      refine Run.seq fun K109 h110 => ?_
      refine Run.region ?_
      refine Ops.q rfl (qmove rfl) ?_
      refine Ops.q rfl (qassign rfl) ?_
      refine Ops.nil ?_
      refine h110 _ _ ?_
      refine Run.join (fun f A1 => EnvLe [(8, str ((wOf (l.getD k []) (decide (m = 1))))), (3, .pointer (some ⟨b19, 0, none⟩)), (4, .pointer (some ⟨b52, 0, none⟩)), (5, str (l.getD k [])), (26, u), (27, num ((l.length : Nat) : Int)), (28, num ((k : Nat) : Int)), (33, .slice (some ⟨b69, 0, none⟩) 2 2), (34, num ((2 : Nat) : Int)), (35, num ((m : Nat) : Int)), (36, .bool (decide (m < 2))), (37, .pointer (some ⟨b69, 0 + m * 1, none⟩)), (38, .bool (decide (m = 1))), (7, .pointer (some ⟨b91, 0, none⟩)), (39, str (l.getD k []))] f.e ∧ f.ds = Ds.map V.mark ∧ A101.le A1 ∧ A1.wf) ?_ ?_
      ·
        have jl113 := AH.le.refl A101
        refine Run.seq fun K114 h115 => ?_
        refine Run.region ?_
        refine Ops.q rfl (qloadAt ag4 rfl rfl sb102.get rfl) ?_
        refine Ops.nil ?_
        refine h115 _ _ ?_
        refine Run.if rfl (fun p116 => ?_) (fun p116 => ?_)
        ·
          refine Run.region ?_
          refine Ops.q rfl (qmove rfl) ?_
          refine Ops.l rfl (fun _ _ hk117 _ => vcallF rfl (s_Inverse (l.getD k []) A101 (by first | omega | (have := hlk (by omega); omega) | (rw [List.length_take]; omega) | (rw [List.length_append]; omega)) (hL.le le108)) ?_)
          rintro v118 A119 ⟨rfl, leq120, wfq120⟩
          have h121 := leq120.get _ _ h103
          have h122 := leq120.get _ _ h104
          have h123 := leq120.get _ _ h105
          have h124 := leq120.get _ _ h106
          have h125 := leq120.get _ _ sb102.get
          have le126 := le108.trans leq120
          have ob127 := ob107.le leq120
          have jl128 := jl113.trans leq120
          refine hk117 _ _ ?_
          refine Ops.q rfl (qassign rfl) ?_
          refine Ops.nil ?_
          exact ⟨EnvLe.cons (congrArg some (congrArg str (show _ = wOf (l.getD k []) (decide (m = 1)) from by first | (rw [wOf, if_pos (decide_eq_true ‹m = 1›)]) | (rw [wOf, decide_eq_false ‹¬ m = 1›]; rfl)))) <| EnvLe.cons rfl <| EnvLe.cons rfl <| EnvLe.cons rfl <| EnvLe.cons rfl <| EnvLe.cons rfl <| EnvLe.cons rfl <| EnvLe.cons rfl <| EnvLe.cons rfl <| EnvLe.cons rfl <| EnvLe.cons rfl <| EnvLe.cons rfl <| EnvLe.cons rfl <| EnvLe.cons rfl <| EnvLe.cons rfl <| EnvLe.nil _, rfl, jl128, wfq120⟩
        ·
          refine Run.skip ?_
          exact ⟨EnvLe.cons (congrArg some (congrArg str (show _ = wOf (l.getD k []) (decide (m = 1)) from by first | (rw [wOf, if_pos (decide_eq_true ‹m = 1›)]) | (rw [wOf, decide_eq_false ‹¬ m = 1›]; rfl)))) <| EnvLe.cons rfl <| EnvLe.cons rfl <| EnvLe.cons rfl <| EnvLe.cons rfl <| EnvLe.cons rfl <| EnvLe.cons rfl <| EnvLe.cons rfl <| EnvLe.cons rfl <| EnvLe.cons rfl <| EnvLe.cons rfl <| EnvLe.cons rfl <| EnvLe.cons rfl <| EnvLe.cons rfl <| EnvLe.cons rfl <| EnvLe.nil _, rfl, jl113, sb102.wf⟩
      ·
        rintro ⟨fe, fd⟩ A129 ⟨hE, rfl, leq130, wfq130⟩
        refine Run.forget hE ?_
        have h131 := leq130.get _ _ h103
        have h132 := leq130.get _ _ h104
        have h133 := leq130.get _ _ h105
        have h134 := leq130.get _ _ h106
        have h135 := leq130.get _ _ sb102.get
        have le136 := le108.trans leq130
        have ob137 := ob107.le leq130
        refine Run.seq fun K138 h139 => ?_
        refine Run.region ?_
        refine Ops.q rfl (qmove rfl) ?_
        refine Ops.l rfl (fun _ _ hk140 _ => vcallF rfl (s_Cyclic ((wOf (l.getD k []) (decide (m = 1)))) A129 (by first | omega | (have := hlk (by omega); omega) | (rw [List.length_take]; omega) | (rw [List.length_append]; omega)) (hL.le le136)) ?_)
        rintro v141 A142 ⟨rfl, leq143, wfq143⟩
        have h144 := leq143.get _ _ h131
        have h145 := leq143.get _ _ h132
        have h146 := leq143.get _ _ h133
        have h147 := leq143.get _ _ h134
        have h148 := leq143.get _ _ h135
        have le149 := le136.trans leq143
        have ob150 := ob137.le leq143
        refine hk140 _ _ ?_
        refine Ops.q rfl (qmove rfl) ?_
        refine Ops.q rfl (qextract rfl rfl) ?_
        refine Ops.q rfl (qextract rfl rfl) ?_
        refine Ops.l rfl (fun _ _ hk151 _ => walloc wfq143 z9 rfl fun A153 b152 nb154 => ?_)
        have ne_b12_b152 := ne_new wfq143 h144 nb154.lo
        have ne_b19_b152 := ne_new wfq143 h145 nb154.lo
        have ne_b52_b152 := ne_new wfq143 h146 nb154.lo
        have ne_b69_b152 := ne_new wfq143 h147 nb154.lo
        have ne_b91_b152 := ne_new wfq143 h148 nb154.lo
        have ge_b152 := none_of wf (Nat.le_trans le149.n nb154.lo)
        have h155 := nb154.le.get _ _ h144
        have h156 := nb154.le.get _ _ h145
        have h157 := nb154.le.get _ _ h146
        have h158 := nb154.le.get _ _ h147
        have h159 := nb154.le.get _ _ h148
        have le160 := le149.trans nb154.le
        have ob161 := ob150.le nb154.le
        refine hk151 _ _ ?_
        refine Ops.q rfl (qassign rfl) ?_
        refine Ops.l rfl (fun _ _ hk162 _ => wstore (cs := [str (wConj ((wOf (l.getD k []) (decide (m = 1)))))]) (c' := [str (wConj ((wOf (l.getD k []) (decide (m = 1)))))]) nb154.wf rfl rfl rfl rfl sz9 nb154.get (Nat.le_of_ble_eq_true rfl) rfl rfl fun A163 sb164 => ?_)
        have h165 := sb164.keep _ _ ne_b12_b152 h155
        have h166 := sb164.keep _ _ ne_b19_b152 h156
        have h167 := sb164.keep _ _ ne_b52_b152 h157
        have h168 := sb164.keep _ _ ne_b69_b152 h158
        have h169 := sb164.keep _ _ ne_b91_b152 h159
        have ob170 := ob161.set nb154.get sb164.n sb164.keep
        have le171 := le_store le160 wf ge_b152 sb164.n sb164.keep
        refine hk162 _ _ ?_
        refine Ops.nil ?_
        refine h139 _ _ ?_
        refine Run.seq fun K172 h173 => ?_
        refine Run.region ?_
        refine Ops.q rfl (qmove rfl) ?_
        refine Ops.l rfl (fun _ _ hk174 _ => vcallF rfl (s_rotations (wCore ((wOf (l.getD k []) (decide (m = 1))))) A163) ?_)
        rintro v175 A176 ⟨b1q177, rfl, leq177, wfq177, hAq177⟩
        have h178 := leq177.get _ _ h165
        have h179 := leq177.get _ _ h166
        have h180 := leq177.get _ _ h167
        have h181 := leq177.get _ _ h168
        have h182 := leq177.get _ _ h169
        have h183 := leq177.get _ _ sb164.get
        have le184 := le171.trans leq177
        have ob185 := ob170.le leq177
        have hA := hAq177
        refine hk174 _ _ ?_
        refine Ops.nil ?_
        refine h173 _ _ ?_
        refine Run.block ?_
        have hx186_b19 := hide_get (bs := [some b12]) h179 (nmB (by rintro rfl; have q1 := h178; rw [h179] at q1; cases q1) nm0)
        have hx186_b52 := hide_get (bs := [some b12]) h180 (nmB (by rintro rfl; have q1 := h178; rw [h180] at q1; cases q1) nm0)
        have hx186_b69 := hide_get (bs := [some b12]) h181 (nmB (by rintro rfl; have q1 := h178; rw [h181] at q1; cases q1) nm0)
        have hx186_b91 := hide_get (bs := [some b12]) h182 (nmB (by rintro rfl; have q1 := h178; rw [h182] at q1; cases q1) nm0)
        have hx186_b152 := hide_get (bs := [some b12]) h183 (nmB (by rintro rfl; have q1 := h178; rw [h183] at q1; cases q1) nm0)
        have hx186_b1q177 := hide_get (bs := [some b12]) hAq177 (nmB (by rintro rfl; have q1 := h178; rw [hAq177] at q1; cases q1) nm0)
        have lM186 := Lets.hideLe hL le184 h178
        have lb186 := le_hide (bs := [some b12]) le184 (hoB ge_b12 ho0)
        have lt186 := wfq177 _ _ h178
        have df186 := hdf77.objs ob185
        refine Run.rangeFunc (wCore (wOf (l.getD k []) (decide (m = 1)))).length (fun j => [str ((wCore (wOf (l.getD k []) (decide (m = 1)))).take j), str ((wCore (wOf (l.getD k []) (decide (m = 1)))).drop j ++ (wCore (wOf (l.getD k []) (decide (m = 1)))).take j)]) (fun j B => (A176.hide [some b12]).le B ∧ B.get b12 = some (.obj true (mobj (addJ k (decide (m = 1)) (wCore (wOf (l.getD k []) (decide (m = 1)))) (wConj (wOf (l.getD k []) (decide (m = 1)))) E2 j)))) (fun j => [(11, str ((wCore (wOf (l.getD k []) (decide (m = 1)))).take j)), (12, str ((wCore (wOf (l.getD k []) (decide (m = 1)))).drop j ++ (wCore (wOf (l.getD k []) (decide (m = 1)))).take j)), (3, .pointer (some ⟨b19, 0, none⟩)), (4, .pointer (some ⟨b52, 0, none⟩)), (37, .pointer (some ⟨b69, 0 + m * 1, none⟩)), (7, .pointer (some ⟨b91, 0, none⟩)), (10, .pointer (some ⟨b152, 0, none⟩))]) rfl Tryz.call91 (fun _ => rfl) (by decide) ?_ ?_ ?_ ?_ ?_ ?_
        · rintro j B B2 ⟨i1, i2⟩ wf2 hn hk
          exact ⟨⟨Nat.le_trans i1.n hn, fun b o g => hk b o (hide_wf wfq177 b o g) (i1.get b o g)⟩, hk _ _ lt186 i2⟩
        · exact ⟨hide_le _ _, h178⟩
        · intro lp J B hJI _ wfB hJ0 hyd
          exact s_rot1 (wCore (wOf (l.getD k []) (decide (m = 1)))) b1q177 lp J B (by have := wCore_length (wOf (l.getD k []) (decide (m = 1))); have := wOf_length (l.getD k []) (decide (m = 1)); omega) (fun i C hj => ⟨_, _, (hJI i C hj).1.get _ _ hx186_b1q177⟩) wfB hJ0 hyd
        · intro F j B hF hj
          refine RunI.seq fun K187 h188 => ?_
          refine RunI.region hF (by repeat' first | with_reducible exact no_roundQ | with_reducible apply no_thenQ | with_reducible apply no_blockQ) (by kernel_rfl) ?_
          refine Ops.q rfl (qassign rfl) ?_
          refine Ops.nil ?_
          refine h188 _ _ ?_
          refine RunI.region hF (by repeat' first | with_reducible exact no_roundQ | with_reducible apply no_thenQ | with_reducible apply no_blockQ) (by kernel_rfl) ?_
          refine Ops.q rfl (qassign rfl) ?_
          refine Ops.nil ?_
          exact ⟨EnvLe.cons rfl <| EnvLe.cons rfl <| EnvLe.cons rfl <| EnvLe.cons rfl <| EnvLe.cons rfl <| EnvLe.cons rfl <| EnvLe.cons rfl <| EnvLe.nil _, rfl, rfl⟩
        · rintro F j B lr dr rl rd hF hj ⟨i1, i2⟩ wfB glr gdr hlr hdr
          generalize hM : (A176.hide [some b12]) = M at i1 lb186 lM186 hx186_b19 hx186_b52 hx186_b69 hx186_b91 hx186_b152 hx186_b1q177
          have wfM : M.wf := by rw [← hM]; exact hide_wf wfq177
          have noM : M.get b12 = none := by rw [← hM]; exact hide_none (by simp)
          have ne_l0_b12 : lr ≠ b12 := by omega
          have ne_l00_b12 : dr ≠ b12 := by omega
          have hEj := addJ_len k (decide (m = 1)) (wCore (wOf (l.getD k []) (decide (m = 1)))) (wConj (wOf (l.getD k []) (decide (m = 1)))) E2 j
          have hcl := wCore_length (wOf (l.getD k []) (decide (m = 1)))
          have hwl := wOf_length (l.getD k []) (decide (m = 1))
          have hlk1 := hlk (by omega)
          have hq3 : (wConj (wOf (l.getD k []) (decide (m = 1)))).length ≤ 200 := by have := wConj_length (wOf (l.getD k []) (decide (m = 1))); omega
          have hq1 : (wInverse ((wCore (wOf (l.getD k []) (decide (m = 1)))).take j)).length ≤ 200 := by have := wInverse_length ((wCore (wOf (l.getD k []) (decide (m = 1)))).take j); rw [List.length_take] at this; omega
          have hq2 : (wInverse (wConj (wOf (l.getD k []) (decide (m = 1))))).length ≤ 200 := by have := wInverse_length (wConj (wOf (l.getD k []) (decide (m = 1)))); omega
          refine RunI.block ?_
          refine RunI.seq fun K189 h190 => ?_
          refine RunI.region hF (by repeat' first | with_reducible exact no_roundQ | with_reducible apply no_thenQ | with_reducible apply no_blockQ) (by kernel_rfl) ?_
          refine Ops.q rfl (qloadAt ag90 rfl rfl (i1.get _ _ hx186_b19) rfl) ?_
          refine Ops.q rfl (qmove rfl) ?_
          refine Ops.l rfl (fun _ _ hk191 _ => wlookupS rfl rfl u90 u9 z95 i2 (fun y hmem hmw => ?_) (fun hnew => ?_))
          ·
            refine hk191 _ _ ?_
            refine Ops.q rfl (qmove rfl) ?_
            refine Ops.q rfl (qextract rfl rfl) ?_
            refine Ops.q rfl (qextract rfl rfl) ?_
            refine Ops.l rfl (fun _ _ hk192 _ => walloc wfB z95 rfl fun A194 b193 nb195 => ?_)
            have ne_b12_b193 := ne_new wfB i2 nb195.lo
            have ne_l0_b193 := ne_new wfB hlr nb195.lo
            have ne_l00_b193 := ne_new wfB hdr nb195.lo
            have ge_b193 := none_of wfM (Nat.le_trans i1.n nb195.lo)
            have h196 := nb195.le.get _ _ i2
            have h197 := nb195.le.get _ _ hlr
            have h198 := nb195.le.get _ _ hdr
            have le199 := i1.trans nb195.le
            refine hk192 _ _ ?_
            refine Ops.l rfl (fun _ _ hk200 _ => wstore (cs := [str (y.w), str (y.c), num ((y.r : Nat) : Int), .bool (y.i)]) (c' := [str (y.w), str (y.c), num ((y.r : Nat) : Int), .bool (y.i)]) nb195.wf rfl rfl rfl rfl sz95 nb195.get (Nat.le_of_ble_eq_true rfl) rfl rfl fun A201 sb202 => ?_)
            have h203 := sb202.keep _ _ ne_b12_b193 h196
            have h204 := sb202.keep _ _ ne_l0_b193 h197
            have h205 := sb202.keep _ _ ne_l00_b193 h198
            have le206 := le_store le199 wfM ge_b193 sb202.n sb202.keep
            refine hk200 _ _ ?_
            refine Ops.q rfl (qassign rfl) ?_
            refine Ops.nil ?_
            refine h190 _ _ ?_
            refine RunI.seq fun K207 h208 => ?_
            refine RunI.region hF (by repeat' first | with_reducible exact no_roundQ | with_reducible apply no_thenQ | with_reducible apply no_blockQ) (by kernel_rfl) ?_
            refine Ops.q rfl (qmove rfl) ?_
            refine Ops.q rfl (qnot rfl) ?_
            refine Ops.nil ?_
            refine h208 _ _ ?_
            refine RunI.cond_false rfl ?_
            refine RunI.skip ?_
            exact ⟨⟨le206, by rw [addJ_succ]; exact (addE_met (x := mkR k (decide (m = 1)) (wCore (wOf (l.getD k []) (decide (m = 1)))) (wConj (wOf (l.getD k []) (decide (m = 1)))) j) hmem hmw).symm ▸ h203⟩, sb202.wf, h204, h205⟩
          ·
            refine hk191 _ _ ?_
            refine Ops.q rfl (qmove rfl) ?_
            refine Ops.q rfl (qextract rfl rfl) ?_
            refine Ops.q rfl (qextract rfl rfl) ?_
            refine Ops.l rfl (fun _ _ hk209 _ => walloc wfB z95 rfl fun A211 b210 nb212 => ?_)
            have ne_b12_b210 := ne_new wfB i2 nb212.lo
            have ne_l0_b210 := ne_new wfB hlr nb212.lo
            have ne_l00_b210 := ne_new wfB hdr nb212.lo
            have ge_b210 := none_of wfM (Nat.le_trans i1.n nb212.lo)
            have h213 := nb212.le.get _ _ i2
            have h214 := nb212.le.get _ _ hlr
            have h215 := nb212.le.get _ _ hdr
            have le216 := i1.trans nb212.le
            refine hk209 _ _ ?_
            refine Ops.l rfl (fun _ _ hk217 _ => wstore (cs := [str ([]), str ([]), num ((0 : Nat) : Int), .bool (false)]) (c' := [str ([]), str ([]), num ((0 : Nat) : Int), .bool (false)]) nb212.wf rfl rfl rfl rfl sz95 nb212.get (Nat.le_of_ble_eq_true rfl) rfl rfl fun A218 sb219 => ?_)
            have h220 := sb219.keep _ _ ne_b12_b210 h213
            have h221 := sb219.keep _ _ ne_l0_b210 h214
            have h222 := sb219.keep _ _ ne_l00_b210 h215
            have le223 := le_store le216 wfM ge_b210 sb219.n sb219.keep
            refine hk217 _ _ ?_
            refine Ops.q rfl (qassign rfl) ?_
            refine Ops.nil ?_
            refine h190 _ _ ?_
            refine RunI.seq fun K224 h225 => ?_
            refine RunI.region hF (by repeat' first | with_reducible exact no_roundQ | with_reducible apply no_thenQ | with_reducible apply no_blockQ) (by kernel_rfl) ?_
            refine Ops.q rfl (qmove rfl) ?_
            refine Ops.q rfl (qnot rfl) ?_
            refine Ops.nil ?_
            refine h225 _ _ ?_
            refine RunI.cond_true rfl ?_
            refine RunI.drawn [0, 1, 2, 3, 5, 9, 10, 4, 6, 7, 8, 11, 12] hF (by repeat' first | with_reducible exact no_roundQ | with_reducible apply no_thenQ | with_reducible apply no_blockQ) (by kernel_rfl) mixed (by kernel_rfl) (by kernel_rfl) rfl ?_
            have hc226 := cellOf (off := 0) (le223.get _ _ hx186_b19) (show _ = some (.map (some b12)) from rfl)
            refine DOps.q rfl rfl rfl (qloadAt ag90 rfl rfl (le223.get _ _ hx186_b19) rfl) ?_
            refine DOps.q rfl rfl rfl (qmove rfl) ?_
            refine DOps.q rfl rfl rfl (qmove rfl) ?_
            refine DOps.q rfl rfl rfl (qmove rfl) ?_
            have hc227 := cellOf (off := 0) (le223.get _ _ hx186_b152) (show _ = some (str (wConj ((wOf (l.getD k []) (decide (m = 1)))))) from rfl)
            refine DOps.q rfl rfl rfl (qloadAt ag9 rfl rfl (le223.get _ _ hx186_b152) rfl) ?_
            have hc228 := cellOf (off := 0) (le223.get _ _ hx186_b52) (show _ = some (num ((k : Nat) : Int)) from rfl)
            refine DOps.q rfl rfl rfl (qloadAt ag3 rfl rfl (le223.get _ _ hx186_b52) rfl) ?_
            have hc229 := cellOf (off := 0) (le223.get _ _ hx186_b91) (show _ = some (.bool (decide (m = 1))) from rfl)
            refine DOps.q rfl rfl rfl (qloadAt ag4 rfl rfl (le223.get _ _ hx186_b91) rfl) ?_
            refine DOps.l rfl rfl rfl (fun _ _ hk230 _ => vcallF rfl (s_Inverse ((wCore (wOf (l.getD k []) (decide (m = 1)))).take j) A218 (by first | omega | (have := hlk (by omega); omega) | (rw [List.length_take]; omega) | (rw [List.length_append]; omega)) (lM186.le le223)) ?_)
            rintro v231 A232 ⟨rfl, leq233, wfq233⟩
            have h234 := leq233.get _ _ h220
            have h235 := leq233.get _ _ h221
            have h236 := leq233.get _ _ h222
            have h237 := leq233.get _ _ sb219.get
            have hc238 := cell_le leq233 hc226
            have hc239 := cell_le leq233 hc227
            have hc240 := cell_le leq233 hc228
            have hc241 := cell_le leq233 hc229
            have le242 := le223.trans leq233
            refine hk230 _ _ (HeldNow.list (L := [(⟨b91, 0, none⟩, .bool (decide (m = 1))), (⟨b52, 0, none⟩, num ((k : Nat) : Int)), (⟨b152, 0, none⟩, str (wConj ((wOf (l.getD k []) (decide (m = 1)))))), (⟨b19, 0, none⟩, .map (some b12))]) (by kernel_rfl) (heldCons hc241 (heldCons hc240 (heldCons hc239 (heldCons hc238 heldNil))))) ?_
            refine DOps.l rfl rfl rfl (fun _ _ hk243 _ => vcallF rfl (s_Inverse (wConj ((wOf (l.getD k []) (decide (m = 1))))) A232 (by first | omega | (have := hlk (by omega); omega) | (rw [List.length_take]; omega) | (rw [List.length_append]; omega)) (lM186.le le242)) ?_)
            rintro v244 A245 ⟨rfl, leq246, wfq246⟩
            have h247 := leq246.get _ _ h234
            have h248 := leq246.get _ _ h235
            have h249 := leq246.get _ _ h236
            have h250 := leq246.get _ _ h237
            have hc251 := cell_le leq246 hc238
            have hc252 := cell_le leq246 hc239
            have hc253 := cell_le leq246 hc240
            have hc254 := cell_le leq246 hc241
            have le255 := le242.trans leq246
            refine hk243 _ _ (HeldNow.list (L := [(⟨b91, 0, none⟩, .bool (decide (m = 1))), (⟨b52, 0, none⟩, num ((k : Nat) : Int)), (⟨b19, 0, none⟩, .map (some b12))]) (by kernel_rfl) (heldCons hc254 (heldCons hc253 (heldCons hc251 heldNil)))) ?_
            refine DOps.q rfl rfl rfl (qsadd rfl rfl (by (try simp only [List.length_append, List.length_drop, List.length_take]); omega)) ?_
            refine DOps.l rfl rfl rfl (fun _ _ hk256 _ => vcallF rfl (s_Reduce ((wInverse ((wCore (wOf (l.getD k []) (decide (m = 1)))).take j)) ++ (wInverse (wConj ((wOf (l.getD k []) (decide (m = 1))))))) A245 (by first | omega | (have := hlk (by omega); omega) | (rw [List.length_take]; omega) | (rw [List.length_append]; omega)) (lM186.le le255)) ?_)
            rintro v257 A258 ⟨rfl, leq259, wfq259⟩
            have h260 := leq259.get _ _ h247
            have h261 := leq259.get _ _ h248
            have h262 := leq259.get _ _ h249
            have h263 := leq259.get _ _ h250
            have hc264 := cell_le leq259 hc251
            have hc265 := cell_le leq259 hc253
            have hc266 := cell_le leq259 hc254
            have le267 := le255.trans leq259
            refine hk256 _ _ (HeldNow.list (L := [(⟨b91, 0, none⟩, .bool (decide (m = 1))), (⟨b52, 0, none⟩, num ((k : Nat) : Int)), (⟨b19, 0, none⟩, .map (some b12))]) (by kernel_rfl) (heldCons hc266 (heldCons hc265 (heldCons hc264 heldNil)))) ?_
            refine DOps.q rfl rfl rfl (qbuild rfl (buildV_struct u95 z95 pl95 rfl)) ?_
            refine DOps.l rfl rfl rfl (fun _ _ hk268 _ => wupdateS (r := (mkR k (decide (m = 1)) (wCore (wOf (l.getD k []) (decide (m = 1)))) (wConj (wOf (l.getD k []) (decide (m = 1)))) j)) wfq259 rfl rfl rfl rfl u90 u9 h260 hnew fun A269 sb270 => ?_)
            have h271 := sb270.keep _ _ ne_l0_b12 h261
            have h272 := sb270.keep _ _ ne_l00_b12 h262
            have h273 := sb270.keep _ _ ne_b12_b210.symm h263
            have le274 := le_store le267 wfM noM sb270.n sb270.keep
            refine hk268 _ _ (HeldNow.none (by kernel_rfl)) ?_
            refine DOps.done ?_
            exact ⟨⟨le274, by rw [addJ_succ]; exact (addE_new (x := mkR k (decide (m = 1)) (wCore (wOf (l.getD k []) (decide (m = 1)))) (wConj (wOf (l.getD k []) (decide (m = 1)))) j) hnew).symm ▸ sb270.get⟩, sb270.wf, h271, h272⟩
        · rintro A275 Dq276 ⟨i1, i2⟩ wfq276 gD nD hD
          have leq276 := lb186.trans i1
          have h277 := i1.get _ _ hx186_b19
          have h278 := i1.get _ _ hx186_b52
          have h279 := i1.get _ _ hx186_b69
          have h280 := i1.get _ _ hx186_b91
          have h281 := i1.get _ _ hx186_b152
          have h282 := i1.get _ _ hx186_b1q177
          have dfq276 : Defs A A275 (Dq276 :: Ds) := Defs.push df186 le184 hD (fun b o g => i1.get _ _ (hide_get g (nmB (by rintro rfl; have q1 := h178; rw [g] at q1; cases q1) nm0))) (by cases q1 : A176.get Dq276 with | none => rfl | some o => exact absurd (wfq177 _ _ q1) (by omega))
          have h283 := i2
          have ob284 := Objs.refl A275
          refine h87 _ _ ?_
          refine Run.region ?_
          refine Ops.q rfl (qaddN (b := 1) rfl rfl (by omega)) ?_
          refine Ops.q rfl (qmove rfl) ?_
          refine Ops.nil ?_
          exact ⟨⟨m + 1, addV k (l.getD k []) E2 (decide (m = 1)), Dq276 :: Ds⟩, EnvLe.cons rfl <| EnvLe.cons rfl <| EnvLe.cons rfl <| EnvLe.cons rfl <| EnvLe.cons rfl <| EnvLe.cons rfl <| EnvLe.cons rfl <| EnvLe.cons rfl <| EnvLe.cons rfl <| EnvLe.nil _, rfl, ⟨⟨by omega, by rw [List.range_succ, List.foldl_append, ← hE2]; rfl, by have := addJ_len k (decide (m = 1)) (wCore (wOf (l.getD k []) (decide (m = 1)))) (wConj (wOf (l.getD k []) (decide (m = 1)))) E2 (wCore (wOf (l.getD k []) (decide (m = 1)))).length; have := wCore_length (wOf (l.getD k []) (decide (m = 1))); have h0 := hwl; have h1 := hlk (by omega); unfold addV; omega⟩, leq276, h283, h277, h278, h279, (dfq276.objs ob284)⟩, (by (try dsimp only); omega)⟩
    ·
      refine Run.exit ?_
      refine h47 _ _ ?_
      refine Run.region ?_
      refine Ops.q rfl (qaddN (b := 1) rfl rfl (by omega)) ?_
      refine Ops.q rfl (qmove rfl) ?_
      refine Ops.nil ?_
      exact ⟨⟨k + 1, E2, Ds⟩, EnvLe.cons rfl <| EnvLe.cons rfl <| EnvLe.cons rfl <| EnvLe.cons rfl <| EnvLe.nil _, rfl, ⟨⟨by omega, by rw [List.range_succ, List.foldl_append, ← hE, hE2, show m = 2 by omega]; rfl, by omega⟩, le77, hr_b1277, hr_b1977, (hdf77.objs ob80)⟩, (by (try dsimp only); omega)⟩
  ·
    refine Run.exit ?_
    refine h34 _ _ ?_
    refine Run.seq fun K285 h286 => ?_
    refine Run.region ?_
    refine Ops.l rfl (fun _ _ hk287 _ => wmakeMap wf39 fun A289 b288 nb290 => ?_)
    have ne_b12_b288 := ne_new wf39 hr_b1237 nb290.lo
    have ne_b19_b288 := ne_new wf39 hr_b1937 nb290.lo
    have ge_b288 := none_of wf (Nat.le_trans le37.n nb290.lo)
    have h291 := nb290.le.get _ _ hr_b1237
    have h292 := nb290.le.get _ _ hr_b1937
    have le293 := le37.trans nb290.le
    have ob294 := ob40.le nb290.le
    refine hk287 _ _ ?_
    refine Ops.q rfl (qbuild rfl (buildV_struct u99 z99 pl99 rfl)) ?_
    refine Ops.l rfl (fun _ _ hk295 _ => wbuildSlice (c := [.map (some b288), num (-1)]) nb290.wf rfl (buildSliceV_of u100 sz99 z99 rfl (by decide) (by decide) rfl) fun A297 b296 nb298 => ?_)
    have ne_b12_b296 := ne_new nb290.wf h291 nb298.lo
    have ne_b19_b296 := ne_new nb290.wf h292 nb298.lo
    have ne_b288_b296 := ne_new nb290.wf nb290.get nb298.lo
    have ge_b296 := none_of wf (Nat.le_trans le293.n nb298.lo)
    have h299 := nb298.le.get _ _ h291
    have h300 := nb298.le.get _ _ h292
    have h301 := nb298.le.get _ _ nb290.get
    have le302 := le293.trans nb298.le
    have ob303 := ob294.le nb298.le
    refine hk295 _ _ ?_
    refine Ops.q rfl (qbuild rfl (buildV_struct u103 z103 pl103 rfl)) ?_
    refine Ops.l rfl (fun _ _ hk304 _ => wbox nb298.wf rfl rfl fun A306 b305 nb307 => ?_)
    have ne_b12_b305 := ne_new nb298.wf h299 nb307.lo
    have ne_b19_b305 := ne_new nb298.wf h300 nb307.lo
    have ne_b288_b305 := ne_new nb298.wf h301 nb307.lo
    have ne_b296_b305 := ne_new nb298.wf nb298.get nb307.lo
    have ge_b305 := none_of wf (Nat.le_trans le302.n nb307.lo)
    have h308 := nb307.le.get _ _ h299
    have h309 := nb307.le.get _ _ h300
    have h310 := nb307.le.get _ _ h301
    have h311 := nb307.le.get _ _ nb298.get
    have le312 := le302.trans nb307.le
    have ob313 := ob303.le nb307.le
    refine hk304 _ _ ?_
    refine Ops.q rfl (qassign rfl) ?_
    refine Ops.nil ?_
    have fr314 : Fresh A A306 (.slice (some ⟨b296, 0, none⟩) 1 1) 2 (ncells [(b288, -1)]) := Fresh.lit h311 ge_b296 rfl (Nat.le_refl _)
    have hEsh : ∀ x ∈ E, okR x := fun x hx => allR_ok hp x ((show E = allR l by rw [hE, show k = l.length by omega]; rfl) ▸ hx)
    have hE400 : E.length ≤ 24000 := by have := hz.2.1; omega
    refine h286 _ _ ?_
    refine Run.seq fun K315 h316 => ?_
    refine Run.seq fun K317 h318 => ?_
    refine Run.region ?_
    refine Ops.q rfl (qloadAt ag90 rfl rfl h309 rfl) ?_
    refine Ops.l rfl (fun _ _ hk319 _ => wrangeM (E := E) nb307.wf rfl u90 h308 fun A320 b321 nb322 => ?_)
    have ne_b12_b321 := ne_new nb307.wf h308 nb322.lo
    have ne_b19_b321 := ne_new nb307.wf h309 nb322.lo
    have ne_b288_b321 := ne_new nb307.wf h310 nb322.lo
    have ne_b305_b321 := ne_new nb307.wf nb307.get nb322.lo
    have no323 := fr314.own.ne_new nb307.wf nb322.lo
    have ge_b321 := none_of wf (Nat.le_trans le312.n nb322.lo)
    have h324 := nb322.le.get _ _ h308
    have h325 := nb322.le.get _ _ h309
    have h326 := nb322.le.get _ _ h310
    have h327 := nb322.le.get _ _ nb307.get
    have fr328 := fr314.le nb322.le
    have le329 := le312.trans nb322.le
    have ob330 := ob313.le nb322.le
    refine hk319 _ _ ?_
    refine Ops.nil ?_
    refine h318 _ _ ?_
    refine Run.block ?_
    refine Run.loopD (X := List Nat × List Rot × Nat × Value × List Nat) (fun ⟨idx, L, mo, lv, Ds⟩ => [(15, .pointer (some ⟨b305, 0, none⟩)), (80, .pointer (some ⟨b321, 0, none⟩))]) (fun ⟨idx, L, mo, lv, Ds⟩ => Ds.map V.mark) (fun ⟨idx, L, mo, lv, Ds⟩ B => (L = idx.map (fun j => E.getD j .zero) ∧ idx.Nodup ∧ (∀ j ∈ idx, j < E.length) ∧ (∀ x ∈ L, x.w.length ≤ mo) ∧ mo ≤ 200 ∧ L.length ≤ 30000) ∧ A.le B ∧ Fresh A B lv 4 (rcells L) ∧ Fresh A B (.slice (some ⟨b296, 0, none⟩) 1 1) 2 (ncells ([(b288, -1)])) ∧ B.get b12 = some (.obj true (mobj E)) ∧ B.get b288 = some (.obj true (.map #[] 0)) ∧ B.get b321 = some (.obj true (.mapIter (some b12) E.length idx.toArray E.length)) ∧ B.get b305 = some (.row true [lv, .slice (some ⟨b296, 0, none⟩) 1 1, num ((mo : Nat) : Int)] 3) ∧ V.blk lv ≠ some b12 ∧ V.blk (.slice (some ⟨b296, 0, none⟩) 1 1) ≠ some b12 ∧ V.blk lv ≠ some b288 ∧ V.blk (.slice (some ⟨b296, 0, none⟩) 1 1) ≠ some b288 ∧ V.blk lv ≠ some b321 ∧ V.blk (.slice (some ⟨b296, 0, none⟩) 1 1) ≠ some b321 ∧ V.blk lv ≠ some b305 ∧ V.blk (.slice (some ⟨b296, 0, none⟩) 1 1) ≠ some b305 ∧ Sep lv (.slice (some ⟨b296, 0, none⟩) 1 1) ∧ Defs A B Ds) (fun ⟨idx, L, mo, lv, Ds⟩ => E.length - idx.length) (⟨[], [], 0, .slice none 0 0, Ds⟩) (EnvLe.cons rfl <| EnvLe.cons rfl <| EnvLe.nil _) rfl (⟨⟨rfl, List.Pairwise.nil, (fun _ h => by cases h), (fun _ h => by cases h), by omega, by decide⟩, le329, (Fresh.nil A A320 4), fr328, h324, h326, nb322.get, h327, (fun q => by cases q), (fun q => by cases q; exact ne_b12_b296 rfl), (fun q => by cases q), (fun q => by cases q; exact ne_b288_b296 rfl), (fun q => by cases q), no323, (fun q => by cases q), (fun q => by cases q; exact ne_b296_b305.symm rfl), Sep.nil, (hdf37.objs ob330)⟩) ?_
    rintro ⟨idx, L, mo, lv, Ds⟩ B332 ⟨⟨hL1, hL2, hL3, hL4, hL5, hL6⟩, le331, fr_lv331, fk_nodes0331, hr_b12331, hr_b288331, hr_b321331, hr_b305331, no_lv_b12331, no_nodes0_b12331, no_lv_b288331, no_nodes0_b288331, no_lv_b321331, no_nodes0_b321331, no_lv_b305331, no_nodes0_b305331, sq331_0_1, hdf331⟩
    refine Run.wf fun wf333 => ?_
    have ob334 := Objs.refl B332
    have hEw := fun j (q : j < E.length) => hEsh _ (getD_mem (d := Rot.zero) q)
    have hil := nodup_bound _ _ hL2 hL3
    have hLl : L.length = idx.length := by rw [hL1]; simp
    refine Run.seq fun K335 h336 => ?_
    refine Run.region ?_
    refine Ops.l rfl (fun _ _ hk337 _ => wnextM (E := E) (idx := idx) wf333 rfl hr_b321331 hr_b12331 ne_b12_b321 (fun kk hkk hki A338 sb339 => ?_) (fun hall => ?_))
    ·
      have df340 := Defs.keep (hdf331.objs ob334) sb339.keep hr_b321331 (fun q => by cases q)
      have h341 := sb339.keep _ _ ne_b12_b321 hr_b12331
      have h342 := sb339.keep _ _ ne_b288_b321 hr_b288331
      have h343 := sb339.keep _ _ ne_b305_b321 hr_b305331
      have fr344 := fr_lv331.keep sb339.keep no_lv_b321331
      have fr345 := fk_nodes0331.keep sb339.keep no_nodes0_b321331
      have le346 := le_store le331 wf ge_b321 sb339.n sb339.keep
      have ob347 := Objs.refl A338
      refine hk337 _ _ ?_
      refine Ops.q rfl (qextract rfl rfl) ?_
      refine Ops.nil ?_
      refine h336 _ _ ?_
      refine Run.seq fun K348 h349 => ?_
      refine Run.cond_true rfl ?_
      refine Run.skip ?_
      refine h349 _ _ ?_
      refine Run.block ?_
      refine Run.seq fun K350 h351 => ?_
      refine Run.region ?_
      refine Ops.l rfl (fun _ _ hk352 _ => wentryM (E := E) (idx := idx) (k := kk) rfl sb339.get h341 ne_b12_b321 hkk ?_)
      refine hk352 _ _ ?_
      refine Ops.q rfl (qextract rfl rfl) ?_
      refine Ops.l rfl (fun _ _ hk353 _ => walloc sb339.wf z95 rfl fun A355 b354 nb356 => ?_)
      have ne_b12_b354 := ne_new sb339.wf h341 nb356.lo
      have ne_b288_b354 := ne_new sb339.wf h342 nb356.lo
      have ne_b321_b354 := ne_new sb339.wf sb339.get nb356.lo
      have ne_b305_b354 := ne_new sb339.wf h343 nb356.lo
      have no357 := fr344.own.ne_new sb339.wf nb356.lo
      have no358 := fr345.own.ne_new sb339.wf nb356.lo
      have ge_b354 := none_of wf (Nat.le_trans le346.n nb356.lo)
      have h359 := nb356.le.get _ _ h341
      have h360 := nb356.le.get _ _ h342
      have h361 := nb356.le.get _ _ sb339.get
      have h362 := nb356.le.get _ _ h343
      have fr363 := fr344.le nb356.le
      have fr364 := fr345.le nb356.le
      have le365 := le346.trans nb356.le
      have ob366 := ob347.le nb356.le
      refine hk353 _ _ ?_
      refine Ops.l rfl (fun _ _ hk367 _ => wstore (cs := [str ((E.getD kk .zero).w), str ((E.getD kk .zero).c), num (((E.getD kk .zero).r : Nat) : Int), .bool ((E.getD kk .zero).i)]) (c' := [str ((E.getD kk .zero).w), str ((E.getD kk .zero).c), num (((E.getD kk .zero).r : Nat) : Int), .bool ((E.getD kk .zero).i)]) nb356.wf rfl rfl rfl rfl sz95 nb356.get (Nat.le_of_ble_eq_true rfl) rfl rfl fun A368 sb369 => ?_)
      have h370 := sb369.keep _ _ ne_b12_b354 h359
      have h371 := sb369.keep _ _ ne_b288_b354 h360
      have h372 := sb369.keep _ _ ne_b321_b354 h361
      have h373 := sb369.keep _ _ ne_b305_b354 h362
      have fr374 := fr363.keep sb369.keep no357
      have fr375 := fr364.keep sb369.keep no358
      have ob376 := ob366.set nb356.get sb369.n sb369.keep
      have le377 := le_store le365 wf ge_b354 sb369.n sb369.keep
      refine hk367 _ _ ?_
      refine Ops.nil ?_
      refine h351 _ _ ?_
      refine Run.seq fun K378 h379 => ?_
      refine Run.drawn [0, 1, 2, 3, 4, 5, 6, 7, 8, 9, 10] mixed (by kernel_rfl) (by kernel_rfl) rfl ?_
      refine DOps.q rfl rfl rfl (qmove rfl) ?_
      refine DOps.q rfl rfl rfl (qmove rfl) ?_
      refine DOps.q rfl rfl rfl (qnil rfl) ?_
      refine DOps.q rfl rfl rfl (qfieldAddr fl103_0 sz101 (by decide) rfl) ?_
      have hc380 := cellOf (off := 0) h373 (show _ = some (lv) from rfl)
      refine DOps.q rfl rfl rfl (qloadAt ag101 rfl rfl h373 rfl) ?_
      have hc381 := cellOf (off := 0) sb369.get (show _ = some (str ((E.getD kk .zero).w)) from rfl)
      have hc382 := cellOf (off := 1) sb369.get (show _ = some (str ((E.getD kk .zero).c)) from rfl)
      have hc383 := cellOf (off := 2) sb369.get (show _ = some (num (((E.getD kk .zero).r : Nat) : Int)) from rfl)
      have hc384 := cellOf (off := 3) sb369.get (show _ = some (.bool ((E.getD kk .zero).i)) from rfl)
      refine DOps.q rfl rfl rfl (qloadAggAt ag95 sz95 rfl rfl sb369.get rfl) ?_
      refine DOps.l rfl rfl rfl (fun _ _ hk385 _ => wbuildSlice (c := [str ((E.getD kk .zero).w), str ((E.getD kk .zero).c), num (((E.getD kk .zero).r : Nat) : Int), .bool ((E.getD kk .zero).i)]) sb369.wf rfl (buildSliceV_of u101 sz95 z95 rfl (by decide) (by decide) rfl) fun A387 b386 nb388 => ?_)
      have ne_b12_b386 := ne_new sb369.wf h370 nb388.lo
      have ne_b288_b386 := ne_new sb369.wf h371 nb388.lo
      have ne_b321_b386 := ne_new sb369.wf h372 nb388.lo
      have ne_b305_b386 := ne_new sb369.wf h373 nb388.lo
      have ne_b354_b386 := ne_new sb369.wf sb369.get nb388.lo
      have no389 := fr374.own.ne_new sb369.wf nb388.lo
      have no390 := fr375.own.ne_new sb369.wf nb388.lo
      have ge_b386 := none_of wf (Nat.le_trans le377.n nb388.lo)
      have h391 := nb388.le.get _ _ h370
      have h392 := nb388.le.get _ _ h371
      have h393 := nb388.le.get _ _ h372
      have h394 := nb388.le.get _ _ h373
      have h395 := nb388.le.get _ _ sb369.get
      have fr396 := fr374.le nb388.le
      have fr397 := fr375.le nb388.le
      have hc398 := cell_le nb388.le hc380
      have hc399 := cell_le nb388.le hc381
      have hc400 := cell_le nb388.le hc382
      have hc401 := cell_le nb388.le hc383
      have hc402 := cell_le nb388.le hc384
      have le403 := le377.trans nb388.le
      have ob404 := ob376.le nb388.le
      refine hk385 _ _ (HeldNow.list (L := [(⟨b305, 0, none⟩, lv)]) (by kernel_rfl) (heldCons hc398 heldNil)) ?_
      refine DOps.l rfl rfl rfl (fun _ _ hk405 _ => wappend (ys := [str ((E.getD kk .zero).w), str ((E.getD kk .zero).c), num (((E.getD kk .zero).r : Nat) : Int), .bool ((E.getD kk .zero).i)]) rfl rfl u101 sz95 inf95 z95 rfl (by decide) u101 (fun _ h => by cases h) fr396.own (listOf_row (n := 1) nb388.get rfl) rfl rfl (by show (_ + _) * 48 ≤ _; simp only [rcells_length, List.length_cons, List.length_nil]; (try simp only [List.length_append, List.length_cons, List.length_nil]); omega) (by simp only [rcells_length, List.length_cons, List.length_nil]; (try simp only [List.length_append, List.length_cons, List.length_nil]); omega) fun A406 v407 ap408 => ?_)
      rw [show ([str ((E.getD kk .zero).w), str ((E.getD kk .zero).c), num (((E.getD kk .zero).r : Nat) : Int), .bool ((E.getD kk .zero).i)] : List Value) = rcells [⟨(E.getD kk .zero).w, (E.getD kk .zero).c, (E.getD kk .zero).r, (E.getD kk .zero).i⟩] from rfl, rcells_append] at ap408
      obtain ⟨fr411, le412⟩ := Fresh.grow fr396 le403 wf ap408
      have h413 := ap408.keep no_lv_b12331 h391
      have ne414 := ap408.ne no_lv_b12331 nb388.wf h391
      have h415 := ap408.keep no_lv_b288331 h392
      have ne416 := ap408.ne no_lv_b288331 nb388.wf h392
      have h417 := ap408.keep no_lv_b321331 h393
      have ne418 := ap408.ne no_lv_b321331 nb388.wf h393
      have h419 := ap408.keep no_lv_b305331 h394
      have ne420 := ap408.ne no_lv_b305331 nb388.wf h394
      have h421 := ap408.keep no357 h395
      have ne422 := ap408.ne no357 nb388.wf h395
      have ob423 := ob404.appd fr396.own ap408
      have sp425 := Sep.appd (show Sep lv (.slice (some ⟨b296, 0, none⟩) 1 1) from sq331_0_1) fr397.own nb388.wf ap408
      have fr424 := fr397.appd ap408 sq331_0_1
      have hc426 := ap408.cell no_lv_b305331 hc398
      refine hk405 _ _ (HeldNow.none (by kernel_rfl)) ?_
      refine DOps.q rfl rfl rfl (qnil rfl) ?_
      refine DOps.q rfl rfl rfl (qfieldAddr fl103_0 sz101 (by decide) rfl) ?_
      obtain ⟨p428, l428, c428, q428, _⟩ := fr411.own.slice
      subst q428
      refine DOps.l rfl rfl rfl (fun _ _ hk427 _ => wstore (cs := [.slice p428 l428 c428]) (c' := [.slice p428 l428 c428, .slice (some ⟨b296, 0, none⟩) 1 1, num ((mo : Nat) : Int)]) ap408.wf rfl rfl rfl rfl sz101 h419 (Nat.le_of_ble_eq_true rfl) rfl rfl fun A429 sb430 => ?_)
      have h431 := sb430.keep _ _ ne_b12_b305 h413
      have h432 := sb430.keep _ _ ne_b288_b305 h415
      have h433 := sb430.keep _ _ ne_b305_b321.symm h417
      have h434 := sb430.keep _ _ ne_b305_b354.symm h421
      have fr435 := fr424.keep sb430.keep no_nodes0_b305331
      have fr436 := fr411.keep sb430.keep ne420
      have ob437 := ob423.set h419 sb430.n sb430.keep
      have le438 := le_store le412 wf ge_b305 sb430.n sb430.keep
      refine hk427 _ _ (HeldNow.none (by kernel_rfl)) ?_
      refine DOps.done ?_
      refine h379 _ _ ?_
      refine Run.drawn [0, 1, 2, 3, 4, 5, 6, 7, 8, 9, 10, 11] mixed (by kernel_rfl) (by kernel_rfl) rfl ?_
      refine DOps.q rfl rfl rfl (qmove rfl) ?_
      refine DOps.q rfl rfl rfl (qmove rfl) ?_
      refine DOps.q rfl rfl rfl (qnil rfl) ?_
      refine DOps.q rfl rfl rfl (qfieldAddr fl103_2 sz3 (by decide) rfl) ?_
      have hc439 := cellOf (off := 2) sb430.get (show _ = some (num ((mo : Nat) : Int)) from rfl)
      refine DOps.q rfl rfl rfl (qloadAt ag3 rfl rfl sb430.get rfl) ?_
      refine DOps.q rfl rfl rfl (qfieldAddr fl95_0 sz9 (by decide) rfl) ?_
      have hc440 := cellOf (off := 0) h434 (show _ = some (str ((E.getD kk .zero).w)) from rfl)
      refine DOps.q rfl rfl rfl (qloadAt ag9 rfl rfl h434 rfl) ?_
      refine DOps.q rfl rfl rfl (qslen u9 rfl) ?_
      refine DOps.q rfl rfl rfl (qmaxN rfl rfl) ?_
      refine DOps.q rfl rfl rfl (qnil rfl) ?_
      refine DOps.q rfl rfl rfl (qfieldAddr fl103_2 sz3 (by decide) rfl) ?_
      refine DOps.l rfl rfl rfl (fun _ _ hk441 _ => wstore (cs := [num ((max mo (((E.getD kk .zero).w).length) : Nat) : Int)]) (c' := [.slice p428 l428 c428, .slice (some ⟨b296, 0, none⟩) 1 1, num ((max mo (((E.getD kk .zero).w).length) : Nat) : Int)]) sb430.wf rfl rfl rfl rfl sz3 sb430.get (Nat.le_of_ble_eq_true rfl) rfl rfl fun A442 sb443 => ?_)
      have h444 := sb443.keep _ _ ne_b12_b305 h431
      have h445 := sb443.keep _ _ ne_b288_b305 h432
      have h446 := sb443.keep _ _ ne_b305_b321.symm h433
      have h447 := sb443.keep _ _ ne_b305_b354.symm h434
      have fr448 := fr435.keep sb443.keep no_nodes0_b305331
      have fr449 := fr436.keep sb443.keep ne420
      have ob450 := ob437.set sb430.get sb443.n sb443.keep
      have le451 := le_store le438 wf ge_b305 sb443.n sb443.keep
      refine hk441 _ _ (HeldNow.none (by kernel_rfl)) ?_
      refine DOps.done ?_
      exact ⟨⟨idx ++ [kk], L ++ [⟨(E.getD kk .zero).w, (E.getD kk .zero).c, (E.getD kk .zero).r, (E.getD kk .zero).i⟩], max mo (((E.getD kk .zero).w).length), .slice p428 l428 c428, Ds⟩, EnvLe.cons rfl <| EnvLe.cons rfl <| EnvLe.nil _, rfl, ⟨⟨by rw [hL1]; simp, nodup_snoc hL2 hki, fun j hj => (List.mem_append.1 hj).elim (hL3 j) (fun q => by simp at q; omega), fun x hx => (List.mem_append.1 hx).elim (fun q => Nat.le_trans (hL4 x q) (Nat.le_max_left _ _)) (fun q => by simp at q; rw [q]; exact Nat.le_max_right _ _), by have := (hEw kk hkk).1; omega, by simp; omega⟩, le451, fr449, fr448, h444, h445, h446, sb443.get, ne414, no_nodes0_b12331, ne416, no_nodes0_b288331, ne418, no_nodes0_b321331, ne420, no_nodes0_b305331, sp425, (df340.objs ob450)⟩, (by have := nodup_bound _ _ (nodup_snoc hL2 hki) (fun j hj => (List.mem_append.1 hj).elim (hL3 j) (fun q => by simp at q; omega) : ∀ j ∈ idx ++ [kk], j < E.length); simp at this ⊢; omega)⟩
    ·
      refine hk337 _ _ ?_
      refine Ops.q rfl (qextract rfl rfl) ?_
      refine Ops.nil ?_
      refine h336 _ _ ?_
      refine Run.seq fun K452 h453 => ?_
      refine Run.cond_false rfl ?_
      refine Run.exit ?_
      refine h316 _ _ ?_
      refine Run.seq fun K454 h455 => ?_
      refine Run.region ?_
      refine Ops.q rfl (qmove rfl) ?_
      refine Ops.q rfl (qnil rfl) ?_
      refine Ops.q rfl (qfieldAddr fl103_0 sz101 (by decide) rfl) ?_
      refine Ops.q rfl (qloadAt ag101 rfl rfl hr_b305331 rfl) ?_
      have hok1 : ∀ x ∈ L, okR x := by rw [hL1]; intro x hx; obtain ⟨j, hj, rfl⟩ := List.mem_map.1 hx; exact hEw j (hL3 j hj)
      have hperm : L.Perm E := by rw [hL1]; exact picks_perm hL2 hL3 hall
      have le460 := le_hide (bs := [blk lv]) le331 (hoV fr_lv331.lo ho0)
      refine Ops.l rfl (fun _ _ hk456 _ => vcallF rfl (s_sortW L lv (B332.hide [blk lv]) B332 (hide_le B332 [blk lv]) (hide_wf wf333) (fr_lv331.hide (by simp)) (hL.le le460) hok1 hL6) ?_)
      rintro v457 A458 ⟨L2q459, hpq459, hsq459, rfl, leq459, wfq459, foq459_0⟩
      have hg461 := hide_get (bs := [blk lv]) hr_b12331 (nmV no_lv_b12331 nm0)
      have h462 := leq459.get _ _ hg461
      have hg463 := hide_get (bs := [blk lv]) hr_b288331 (nmV no_lv_b288331 nm0)
      have h464 := leq459.get _ _ hg463
      have hg465 := hide_get (bs := [blk lv]) hr_b321331 (nmV no_lv_b321331 nm0)
      have h466 := leq459.get _ _ hg465
      have hg467 := hide_get (bs := [blk lv]) hr_b305331 (nmV no_lv_b305331 nm0)
      have h468 := leq459.get _ _ hg467
      have sp469 := foq459_0.sep fk_nodes0331.own (offV sq331_0_1 off0)
      have fr470 := fk_nodes0331.off (offV sq331_0_1 off0) leq459
      have fr471 := foq459_0.base le460
      have no472 := foq459_0.seph hg461
      have no473 := foq459_0.seph hg463
      have no474 := foq459_0.seph hg465
      have no475 := foq459_0.seph hg467
      have le476 := le460.trans leq459
      have ob477 := ob334.hideOwn fr_lv331.own leq459
      try (have hok2 : ∀ x ∈ L2q459, okR x := fun x hx => hok1 x (hpq459.mem_iff.1 hx))
      refine hk456 _ _ ?_
      refine Ops.nil ?_
      refine h455 _ _ ?_
      refine Run.seq fun K478 h479 => ?_
      refine Run.seq fun K480 h481 => ?_
      refine Run.region ?_
      refine Ops.q rfl (qmove rfl) ?_
      refine Ops.q rfl (qnil rfl) ?_
      refine Ops.q rfl (qfieldAddr fl103_0 sz101 (by decide) rfl) ?_
      refine Ops.q rfl (qloadAt ag101 rfl rfl h468 rfl) ?_
      refine Ops.q rfl (qlenS (n := L2q459.length) u101 rfl fr471.slc (by omega) (rcells_len _)) ?_
      refine Ops.q rfl (qmove rfl) ?_
      refine Ops.nil ?_
      refine h481 _ _ ?_
      refine Run.block ?_
      refine Run.loopD (X := Nat × List (List UInt8) × List Int × List Nat × Value × List Nat) (fun ⟨i, pf, bs, bl, nv, Ds⟩ => [(15, .pointer (some ⟨b305, 0, none⟩)), (114, lv), (115, num ((L2q459.length : Nat) : Int)), (116, num ((i : Nat) : Int))]) (fun ⟨i, pf, bs, bl, nv, Ds⟩ => Ds.map V.mark) (fun ⟨i, pf, bs, bl, nv, Ds⟩ B => (i ≤ L2q459.length ∧ (pf, bs) = (List.range i).foldl (tword L2q459) ([[]], [-1]) ∧ bl.length = bs.length ∧ bs.length = pf.length ∧ PC pf ∧ pf.length ≤ 1 + 200 * i) ∧ A.le B ∧ Fresh A B nv 2 (ncells (bl.zip bs)) ∧ Fresh A B lv 4 (rcells L2q459) ∧ B.get b305 = some (.row true [lv, nv, num ((mo : Nat) : Int)] 3) ∧ V.blk nv ≠ some b305 ∧ V.blk lv ≠ some b305 ∧ Sep nv lv ∧ Defs A B Ds ∧ (Trie A B pf bl)) (fun ⟨i, pf, bs, bl, nv, Ds⟩ => L2q459.length - i) (⟨0, [[]], [-1], [b288], .slice (some ⟨b296, 0, none⟩) 1 1, Ds⟩) (EnvLe.cons rfl <| EnvLe.cons rfl <| EnvLe.cons rfl <| EnvLe.cons rfl <| EnvLe.nil _) rfl (⟨⟨Nat.zero_le _, rfl, rfl, rfl, PC.first, by simp⟩, le476, fr470, fr471, h468, no_nodes0_b305331, no475, (Sep.symm sp469), (hdf331.objs ob477), Trie.first h464 ge_b288⟩) ?_
      rintro ⟨i, pf, bs, bl, nv, Ds⟩ B483 ⟨⟨hi, ht, hbl, hbs, hpc, hpl⟩, le482, fr_nv482, fk_oq459_0482, hr_b305482, no_nv_b305482, no_oq459_0_b305482, sq482_0_1, hdf482, hT⟩
      refine Run.wf fun wf484 => ?_
      have ob485 := Objs.refl B483
      have hzl0 : (bl.zip bs).length = pf.length := by rw [List.length_zip]; omega
      have hwx := fun q : i < L2q459.length => (hok2 _ (getD_mem (d := Rot.zero) q)).1
      have hL2l : L2q459.length ≤ 30000 := by rw [hpq459.length_eq]; exact hL6
      refine Run.seq fun K486 h487 => ?_
      refine Run.region ?_
      refine Ops.q rfl (qlssN rfl rfl) ?_
      refine Ops.nil ?_
      refine h487 _ _ ?_
      refine Run.seq fun K488 h489 => ?_
      refine Run.if rfl (fun p490 => ?_) (fun p490 => ?_)
      ·
        refine Run.skip ?_
        refine h489 _ _ ?_
        refine Run.seq fun K491 h492 => ?_
        refine Run.block ?_
        refine Run.seq fun K493 h494 => ?_
        refine Run.region ?_
        refine Ops.q rfl (qmove rfl) ?_
        obtain ⟨b495, f495, rw495, r495, rc495, n495, k495, e495, l495, g495, cl495, cs495⟩ := Slc.at (i := i) fk_oq459_0482.slc (by simp only [rcells_length]; omega) (by omega)
        refine Ops.q rfl (qindexS u101 sz95 rfl e495 rfl l495) ?_
        refine Ops.q rfl (qloadAggAt ag95 sz95 rfl rfl g495 (cl495.trans (congrArg some (rcells_at (by omega))))) ?_
        refine Ops.l rfl (fun _ _ hk496 _ => walloc wf484 z95 rfl fun A498 b497 nb499 => ?_)
        have ne_b305_b497 := ne_new wf484 hr_b305482 nb499.lo
        have no500 := fr_nv482.own.ne_new wf484 nb499.lo
        have no501 := fk_oq459_0482.own.ne_new wf484 nb499.lo
        have ge_b497 := none_of wf (Nat.le_trans le482.n nb499.lo)
        have h502 := nb499.le.get _ _ hr_b305482
        have fr503 := fr_nv482.le nb499.le
        have fr504 := fk_oq459_0482.le nb499.le
        have le505 := le482.trans nb499.le
        have ob506 := ob485.le nb499.le
        refine hk496 _ _ ?_
        refine Ops.q rfl (qassign rfl) ?_
        refine Ops.l rfl (fun _ _ hk507 _ => wstore (cs := [str ((L2q459.getD i .zero).w), str ((L2q459.getD i .zero).c), num (((L2q459.getD i .zero).r : Nat) : Int), .bool ((L2q459.getD i .zero).i)]) (c' := [str ((L2q459.getD i .zero).w), str ((L2q459.getD i .zero).c), num (((L2q459.getD i .zero).r : Nat) : Int), .bool ((L2q459.getD i .zero).i)]) nb499.wf rfl rfl rfl rfl sz95 nb499.get (Nat.le_of_ble_eq_true rfl) rfl rfl fun A508 sb509 => ?_)
        have h510 := sb509.keep _ _ ne_b305_b497 h502
        have fr511 := fr503.keep sb509.keep no500
        have fr512 := fr504.keep sb509.keep no501
        have ob513 := ob506.set nb499.get sb509.n sb509.keep
        have le514 := le_store le505 wf ge_b497 sb509.n sb509.keep
        refine hk507 _ _ ?_
        refine Ops.nil ?_
        refine h494 _ _ ?_
        refine Run.seq fun K515 h516 => ?_
        refine Run.region ?_
        refine Ops.q rfl (qassign rfl) ?_
        refine Ops.nil ?_
        refine h516 _ _ ?_
        refine Run.seq fun K517 h518 => ?_
        refine Run.region ?_
        refine Ops.q rfl (qfieldAddr fl95_0 sz9 (by decide) rfl) ?_
        refine Ops.q rfl (qloadAt ag9 rfl rfl sb509.get rfl) ?_
        refine Ops.q rfl (qslen u9 rfl) ?_
        refine Ops.q rfl (qmove rfl) ?_
        refine Ops.nil ?_
        refine h518 _ _ ?_
        refine Run.block ?_
        refine Run.loopD (X := Nat × Nat × List (List UInt8) × List Int × List Nat × Value × List Nat) (fun ⟨k, nd, pf2, bs2, bl2, nv2, Ds⟩ => [(15, .pointer (some ⟨b305, 0, none⟩)), (18, num ((i : Nat) : Int)), (19, .pointer (some ⟨b497, 0, none⟩)), (20, num ((nd : Nat) : Int)), (114, lv), (115, num ((L2q459.length : Nat) : Int)), (116, num ((i : Nat) : Int)), (123, num ((((L2q459.getD i .zero).w).length : Nat) : Int)), (124, num ((k : Nat) : Int))]) (fun ⟨k, nd, pf2, bs2, bl2, nv2, Ds⟩ => Ds.map V.mark) (fun ⟨k, nd, pf2, bs2, bl2, nv2, Ds⟩ B => (k ≤ (L2q459.getD i .zero).w.length ∧ (pf2, bs2) = (List.range k).foldl (tstep (L2q459.getD i .zero).w i) (pf, bs) ∧ bl2.length = bs2.length ∧ bs2.length = pf2.length ∧ PC pf2 ∧ pf2.length ≤ pf.length + k ∧ (L2q459.getD i .zero).w.take k ∈ pf2 ∧ nd = pf2.idxOf ((L2q459.getD i .zero).w.take k)) ∧ A.le B ∧ Fresh A B nv2 2 (ncells (bl2.zip bs2)) ∧ Fresh A B lv 4 (rcells L2q459) ∧ B.get b305 = some (.row true [lv, nv2, num ((mo : Nat) : Int)] 3) ∧ B.get b497 = some (.row true [str ((L2q459.getD i .zero).w), str ((L2q459.getD i .zero).c), num (((L2q459.getD i .zero).r : Nat) : Int), .bool ((L2q459.getD i .zero).i)] 4) ∧ V.blk nv2 ≠ some b305 ∧ V.blk lv ≠ some b305 ∧ V.blk nv2 ≠ some b497 ∧ V.blk lv ≠ some b497 ∧ Sep nv2 lv ∧ Defs A B Ds ∧ (Trie A B pf2 bl2)) (fun ⟨k, nd, pf2, bs2, bl2, nv2, Ds⟩ => (L2q459.getD i .zero).w.length - k) (⟨0, 0, pf, bs, bl, nv, Ds⟩) (EnvLe.cons rfl <| EnvLe.cons rfl <| EnvLe.cons rfl <| EnvLe.cons rfl <| EnvLe.cons rfl <| EnvLe.cons rfl <| EnvLe.cons rfl <| EnvLe.cons rfl <| EnvLe.cons rfl <| EnvLe.nil _) rfl (⟨⟨Nat.zero_le _, rfl, hbl, hbs, hpc, Nat.le_refl _, (by simpa using hpc.mem0), (by simpa using hpc.idx0.symm)⟩, le514, fr511, fr512, h510, sb509.get, no_nv_b305482, no_oq459_0_b305482, no500, no501, sq482_0_1, (hdf482.objs ob513), (hT.objs ob513)⟩) ?_
        rintro ⟨k, nd, pf2, bs2, bl2, nv2, Ds⟩ B520 ⟨⟨hk4, ht2, hbl2, hbs2, hpc2, hpl2, hp, hq⟩, le519, fr_nv2519, fk_oq459_0519, hr_b305519, hr_b497519, no_nv2_b305519, no_oq459_0_b305519, no_nv2_b497519, no_oq459_0_b497519, sq519_0_1, hdf519, hT2⟩
        refine Run.wf fun wf521 => ?_
        have ob522 := Objs.refl B520
        have hndl : nd < pf2.length := hq ▸ idxOf_lt hp
        have hzl : (bl2.zip bs2).length = pf2.length := by rw [List.length_zip]; omega
        have hw200 := hwx (by omega)
        refine Run.seq fun K523 h524 => ?_
        refine Run.region ?_
        refine Ops.q rfl (qlssN rfl rfl) ?_
        refine Ops.nil ?_
        refine h524 _ _ ?_
        refine Run.seq fun K525 h526 => ?_
        refine Run.if rfl (fun p527 => ?_) (fun p527 => ?_)
        ·
          refine Run.skip ?_
          refine h526 _ _ ?_
          refine Run.seq fun K528 h529 => ?_
          refine Run.block ?_
          refine Run.seq fun K530 h531 => ?_
          refine Run.region ?_
          refine Ops.q rfl (qmove rfl) ?_
          refine Ops.q rfl (qassign rfl) ?_
          refine Ops.nil ?_
          refine h531 _ _ ?_
          refine Run.seq fun K532 h533 => ?_
          refine Run.drawn [0, 1, 2, 3, 4, 5, 6, 7, 8, 9, 10, 11, 12, 13, 14, 15, 16, 17] mixed (by kernel_rfl) (by kernel_rfl) rfl ?_
          refine DOps.q rfl rfl rfl (qmove rfl) ?_
          refine DOps.q rfl rfl rfl (qnil rfl) ?_
          refine DOps.q rfl rfl rfl (qfieldAddr fl103_1 sz100 (by decide) rfl) ?_
          have hc534 := cellOf (off := 1) hr_b305519 (show _ = some (nv2) from rfl)
          refine DOps.q rfl rfl rfl (qloadAt ag100 rfl rfl hr_b305519 rfl) ?_
          refine DOps.q rfl rfl rfl (qmove rfl) ?_
          obtain ⟨b535, f535, rw535, r535, rc535, n535, k535, e535, l535, g535, cl535, cs535⟩ := Slc.at (i := nd) fr_nv2519.slc (by simp only [ncells_length]; omega) (by omega)
          refine DOps.q rfl rfl rfl (qindexS u100 sz99 rfl e535 rfl l535) ?_
          refine DOps.q rfl rfl rfl (qfieldAddr fl99_0 sz97 (by decide) rfl) ?_
          have hc536 := cellOf (off := f535 + nd * 2) g535 ((cs535 0 (by decide)).trans (ncells_f0 (by omega)))
          refine DOps.q rfl rfl rfl (qloadAt ag97 rfl rfl g535 ((cs535 0 (by decide)).trans (ncells_f0 (by omega)))) ?_
          refine DOps.q rfl rfl rfl (qfieldAddr fl95_0 sz9 (by decide) rfl) ?_
          have hc537 := cellOf (off := 0) hr_b497519 (show _ = some (str ((L2q459.getD i .zero).w)) from rfl)
          refine DOps.q rfl rfl rfl (qloadAt ag9 rfl rfl hr_b497519 rfl) ?_
          refine DOps.q rfl rfl rfl (qmove rfl) ?_
          refine DOps.q rfl rfl rfl (qsix u9 rfl rfl (by omega)) ?_
          have hTc539 := hT2.objs ob522
          obtain ⟨es539, clk539, hgm539, hE539⟩ := hTc539.2.2.2.2 nd hndl
          refine DOps.l rfl rfl rfl (fun _ _ hk538 _ => wlookupB (q := (L2q459.getD i .zero).w.take (k + 1)) rfl rfl u97 u5 z3 (by rw [zip_fst hbl2 (by omega)]; exact hgm539) hE539 (by rw [hq, getD_idxOf hp]; exact take_next (by omega)) (fun hin => ?_) (fun hin => ?_))
          ·
            have hidx := idxOf_lt hin
            refine hk538 _ _ (HeldNow.none (by kernel_rfl)) ?_
            refine DOps.q rfl rfl rfl (qmove rfl) ?_
            refine DOps.q rfl rfl rfl (qextract rfl rfl) ?_
            refine DOps.q rfl rfl rfl (qextract rfl rfl) ?_
            refine DOps.q rfl rfl rfl (qassign rfl) ?_
            refine DOps.q rfl rfl rfl (qassign rfl) ?_
            refine DOps.done ?_
            refine h533 _ _ ?_
            refine Run.seq fun K540 h541 => ?_
            refine Run.seq fun K542 h543 => ?_
            refine Run.region ?_
            refine Ops.q rfl (qmove rfl) ?_
            refine Ops.q rfl (qnot rfl) ?_
            refine Ops.nil ?_
            refine h543 _ _ ?_
            refine Run.cond_false rfl ?_
            refine Run.skip ?_
            refine h541 _ _ ?_
            refine Run.seq fun K544 h545 => ?_
            refine Run.region ?_
            refine Ops.q rfl (qmove rfl) ?_
            refine Ops.q rfl (qassign rfl) ?_
            refine Ops.nil ?_
            refine h545 _ _ ?_
            refine Run.seq fun K546 h547 => ?_
            refine Run.region ?_
            refine Ops.q rfl (qmove rfl) ?_
            refine Ops.q rfl (qaddN (b := 1) rfl rfl (by omega)) ?_
            refine Ops.q rfl (qmulN (a := 2) rfl rfl (by omega)) ?_
            refine Ops.q rfl (qfieldAddr fl95_0 sz9 (by decide) rfl) ?_
            refine Ops.q rfl (qloadAt ag9 rfl rfl hr_b497519 rfl) ?_
            refine Ops.q rfl (qslen u9 rfl) ?_
            refine Ops.q rfl (qgtrN rfl rfl) ?_
            refine Ops.q rfl (qmove rfl) ?_
            refine Ops.part (t := 182) rfl (fun p548 => ?_) (fun p548 => ?_)
            ·
              refine Ops.on rfl rfl ?_
              refine Ops.q rfl (qmove rfl) ?_
              refine Ops.on rfl rfl ?_
              refine Ops.q rfl (qnil rfl) ?_
              refine Ops.on rfl rfl ?_
              refine Ops.q rfl (qfieldAddr fl103_1 sz100 (by decide) rfl) ?_
              refine Ops.on rfl rfl ?_
              refine Ops.q rfl (qloadAt ag100 rfl rfl hr_b305519 rfl) ?_
              refine Ops.on rfl rfl ?_
              refine Ops.q rfl (qmove rfl) ?_
              refine Ops.on rfl rfl ?_
              obtain ⟨b549, f549, rw549, r549, rc549, n549, k549, e549, l549, g549, cl549, cs549⟩ := Slc.at (i := pf2.idxOf ((L2q459.getD i .zero).w.take (k + 1))) fr_nv2519.slc (by simp only [ncells_length]; omega) (by omega)
              refine Ops.q rfl (qindexS u100 sz99 rfl e549 rfl l549) ?_
              refine Ops.on rfl rfl ?_
              refine Ops.q rfl (qfieldAddr fl99_1 sz3 (by decide) rfl) ?_
              refine Ops.on rfl rfl ?_
              refine Ops.q rfl (qloadAt ag3 rfl rfl g549 (((cs549 1 (by decide)).trans (ncells_f1 (by omega))).trans (congrArg (fun z => some (num z)) (zip_snd (by (try simp only [List.length_append, List.length_cons, List.length_nil]); omega) (by (try simp only [List.length_append, List.length_cons, List.length_nil]); omega))))) ?_
              refine Ops.on rfl rfl ?_
              refine Ops.q rfl (qlss rfl rfl) ?_
              refine Ops.q rfl (qpickT rfl rfl) ?_
              refine Ops.nil ?_
              refine h547 _ _ ?_
              refine Run.if rfl (fun p550 => ?_) (fun p550 => ?_)
              ·
                refine Run.region ?_
                refine Ops.q rfl (qmove rfl) ?_
                refine Ops.q rfl (qnil rfl) ?_
                refine Ops.q rfl (qfieldAddr fl103_1 sz100 (by decide) rfl) ?_
                refine Ops.q rfl (qloadAt ag100 rfl rfl hr_b305519 rfl) ?_
                refine Ops.q rfl (qmove rfl) ?_
                refine Ops.q rfl (qmove rfl) ?_
                obtain ⟨b551, f551, rw551, r551, rc551, n551, k551, e551, l551, g551, cl551, cs551⟩ := Slc.at (i := pf2.idxOf ((L2q459.getD i .zero).w.take (k + 1))) fr_nv2519.slc (by simp only [ncells_length]; omega) (by omega)
                refine Ops.q rfl (qindexS u100 sz99 rfl e551 rfl l551) ?_
                refine Ops.q rfl (qfieldAddr fl99_1 sz3 (by decide) rfl) ?_
                refine Ops.l rfl (fun _ _ hk552 _ => wstoreOwn (size := 2) (i := (pf2.idxOf ((L2q459.getD i .zero).w.take (k + 1)))) (j := 1) fr_nv2519 e551 l551 (by decide) wf521 rfl rfl rfl sz3 rfl fun A553 rr556 rc556 gg556 sb554 fr555 => ?_)
                rw [ncells_set (by (try simp only [List.length_append, List.length_cons, List.length_nil]); omega) (by (try simp only [List.length_append, List.length_cons, List.length_nil]); omega)] at fr555
                have h557 := sb554.keep _ _ (fun q => no_nv2_b305519 (by rw [e551]; exact congrArg some q.symm)) hr_b305519
                have h558 := sb554.keep _ _ (fun q => no_nv2_b497519 (by rw [e551]; exact congrArg some q.symm)) hr_b497519
                have fr559 := fk_oq459_0519.keep sb554.keep (fun q => sq519_0_1 _ (by rw [e551]; rfl) q)
                have le560 := le_store le519 wf (fr_nv2519.lo _ (by rw [e551]; rfl)) sb554.n sb554.keep
                have ob561 := ob522.set gg556 sb554.n sb554.keep
                refine hk552 _ _ ?_
                refine Ops.nil ?_
                refine h529 _ _ ?_
                refine Run.region ?_
                refine Ops.q rfl (qaddN (b := 1) rfl rfl (by omega)) ?_
                refine Ops.q rfl (qmove rfl) ?_
                refine Ops.nil ?_
                exact ⟨⟨k + 1, pf2.idxOf ((L2q459.getD i .zero).w.take (k + 1)), pf2, (bs2.set (pf2.idxOf ((L2q459.getD i .zero).w.take (k + 1))) ((i : Nat) : Int)), bl2, nv2, Ds⟩, EnvLe.cons rfl <| EnvLe.cons rfl <| EnvLe.cons rfl <| EnvLe.cons rfl <| EnvLe.cons rfl <| EnvLe.cons rfl <| EnvLe.cons rfl <| EnvLe.cons rfl <| EnvLe.cons rfl <| EnvLe.nil _, rfl, ⟨⟨by omega, fold_snoc ht2 (tstep_set (if_pos hin) rfl ⟨by omega, by assumption⟩), (by (try simp only [List.length_append, List.length_set, List.length_cons, List.length_nil]); omega), (by (try simp only [List.length_append, List.length_set, List.length_cons, List.length_nil]); omega), hpc2, (by (try simp only [List.length_append, List.length_set, List.length_cons, List.length_nil]); omega), hin, rfl⟩, le560, fr555, fr559, h557, h558, no_nv2_b305519, no_oq459_0_b305519, no_nv2_b497519, no_oq459_0_b497519, sq519_0_1, (hdf519.objs ob561), (hT2.objs ob561)⟩, (by (try dsimp only); omega)⟩
              ·
                refine Run.skip ?_
                refine h529 _ _ ?_
                refine Run.region ?_
                refine Ops.q rfl (qaddN (b := 1) rfl rfl (by omega)) ?_
                refine Ops.q rfl (qmove rfl) ?_
                refine Ops.nil ?_
                exact ⟨⟨k + 1, pf2.idxOf ((L2q459.getD i .zero).w.take (k + 1)), pf2, bs2, bl2, nv2, Ds⟩, EnvLe.cons rfl <| EnvLe.cons rfl <| EnvLe.cons rfl <| EnvLe.cons rfl <| EnvLe.cons rfl <| EnvLe.cons rfl <| EnvLe.cons rfl <| EnvLe.cons rfl <| EnvLe.cons rfl <| EnvLe.nil _, rfl, ⟨⟨by omega, fold_snoc ht2 (tstep_not (if_pos hin) rfl (by rintro ⟨q1, q2⟩; omega)), (by (try simp only [List.length_append, List.length_set, List.length_cons, List.length_nil]); omega), (by (try simp only [List.length_append, List.length_set, List.length_cons, List.length_nil]); omega), hpc2, (by (try simp only [List.length_append, List.length_set, List.length_cons, List.length_nil]); omega), hin, rfl⟩, le519, fr_nv2519, fk_oq459_0519, hr_b305519, hr_b497519, no_nv2_b305519, no_oq459_0_b305519, no_nv2_b497519, no_oq459_0_b497519, sq519_0_1, (hdf519.objs ob522), (hT2.objs ob522)⟩, (by (try dsimp only); omega)⟩
            ·
              refine Ops.off rfl rfl rfl rfl ?_
              refine Ops.off rfl rfl rfl rfl ?_
              refine Ops.off rfl rfl rfl rfl ?_
              refine Ops.off rfl rfl rfl rfl ?_
              refine Ops.off rfl rfl rfl rfl ?_
              refine Ops.off rfl rfl rfl rfl ?_
              refine Ops.off rfl rfl rfl rfl ?_
              refine Ops.off rfl rfl rfl rfl ?_
              refine Ops.off rfl rfl rfl rfl ?_
              refine Ops.q rfl (qpickF rfl rfl) ?_
              refine Ops.nil ?_
              refine h547 _ _ ?_
              refine Run.cond_false rfl ?_
              refine Run.skip ?_
              refine h529 _ _ ?_
              refine Run.region ?_
              refine Ops.q rfl (qaddN (b := 1) rfl rfl (by omega)) ?_
              refine Ops.q rfl (qmove rfl) ?_
              refine Ops.nil ?_
              exact ⟨⟨k + 1, pf2.idxOf ((L2q459.getD i .zero).w.take (k + 1)), pf2, bs2, bl2, nv2, Ds⟩, EnvLe.cons rfl <| EnvLe.cons rfl <| EnvLe.cons rfl <| EnvLe.cons rfl <| EnvLe.cons rfl <| EnvLe.cons rfl <| EnvLe.cons rfl <| EnvLe.cons rfl <| EnvLe.cons rfl <| EnvLe.nil _, rfl, ⟨⟨by omega, fold_snoc ht2 (tstep_not (if_pos hin) rfl (by rintro ⟨q1, q2⟩; omega)), (by (try simp only [List.length_append, List.length_set, List.length_cons, List.length_nil]); omega), (by (try simp only [List.length_append, List.length_set, List.length_cons, List.length_nil]); omega), hpc2, (by (try simp only [List.length_append, List.length_set, List.length_cons, List.length_nil]); omega), hin, rfl⟩, le519, fr_nv2519, fk_oq459_0519, hr_b305519, hr_b497519, no_nv2_b305519, no_oq459_0_b305519, no_nv2_b497519, no_oq459_0_b497519, sq519_0_1, (hdf519.objs ob522), (hT2.objs ob522)⟩, (by (try dsimp only); omega)⟩
          ·
            refine hk538 _ _ (HeldNow.none (by kernel_rfl)) ?_
            refine DOps.q rfl rfl rfl (qmove rfl) ?_
            refine DOps.q rfl rfl rfl (qextract rfl rfl) ?_
            refine DOps.q rfl rfl rfl (qextract rfl rfl) ?_
            refine DOps.q rfl rfl rfl (qassign rfl) ?_
            refine DOps.q rfl rfl rfl (qassign rfl) ?_
            refine DOps.done ?_
            refine h533 _ _ ?_
            refine Run.seq fun K562 h563 => ?_
            refine Run.seq fun K564 h565 => ?_
            refine Run.region ?_
            refine Ops.q rfl (qmove rfl) ?_
            refine Ops.q rfl (qnot rfl) ?_
            refine Ops.nil ?_
            refine h565 _ _ ?_
            refine Run.cond_true rfl ?_
            refine Run.seq fun K566 h567 => ?_
            refine Run.region ?_
            refine Ops.q rfl (qmove rfl) ?_
            refine Ops.q rfl (qnil rfl) ?_
            refine Ops.q rfl (qfieldAddr fl103_1 sz100 (by decide) rfl) ?_
            refine Ops.q rfl (qloadAt ag100 rfl rfl hr_b305519 rfl) ?_
            refine Ops.q rfl (qlenS (n := pf2.length) u100 rfl fr_nv2519.slc (by omega) ((ncells_len _).trans (by rw [hzl]))) ?_
            refine Ops.q rfl (qassign rfl) ?_
            refine Ops.nil ?_
            refine h567 _ _ ?_
            refine Run.seq fun K568 h569 => ?_
            refine Run.region ?_
            refine Ops.q rfl (qmove rfl) ?_
            refine Ops.q rfl (qmove rfl) ?_
            refine Ops.q rfl (qnil rfl) ?_
            refine Ops.q rfl (qfieldAddr fl103_1 sz100 (by decide) rfl) ?_
            refine Ops.q rfl (qloadAt ag100 rfl rfl hr_b305519 rfl) ?_
            have hTc574 := hT2.objs ob522
            refine Ops.l rfl (fun _ _ hk570 _ => wmakeMap wf521 fun A572 b571 nb573 => ?_)
            have hni := hTc574.notin wf521 nb573.lo
            have ne_b305_b571 := ne_new wf521 hr_b305519 nb573.lo
            have ne_b497_b571 := ne_new wf521 hr_b497519 nb573.lo
            have no575 := fr_nv2519.own.ne_new wf521 nb573.lo
            have no576 := fk_oq459_0519.own.ne_new wf521 nb573.lo
            have ge_b571 := none_of wf (Nat.le_trans le519.n nb573.lo)
            have h577 := nb573.le.get _ _ hr_b305519
            have h578 := nb573.le.get _ _ hr_b497519
            have fr579 := fr_nv2519.le nb573.le
            have fr580 := fk_oq459_0519.le nb573.le
            have le581 := le519.trans nb573.le
            have ob582 := ob522.le nb573.le
            refine hk570 _ _ ?_
            refine Ops.q rfl (qbuild rfl (buildV_struct u99 z99 pl99 rfl)) ?_
            refine Ops.l rfl (fun _ _ hk583 _ => wbuildSlice (c := [.map (some b571), num (-1)]) nb573.wf rfl (buildSliceV_of u100 sz99 z99 rfl (by decide) (by decide) rfl) fun A585 b584 nb586 => ?_)
            have ne_b305_b584 := ne_new nb573.wf h577 nb586.lo
            have ne_b497_b584 := ne_new nb573.wf h578 nb586.lo
            have ne_b571_b584 := ne_new nb573.wf nb573.get nb586.lo
            have no587 := fr579.own.ne_new nb573.wf nb586.lo
            have no588 := fr580.own.ne_new nb573.wf nb586.lo
            have ge_b584 := none_of wf (Nat.le_trans le581.n nb586.lo)
            have h589 := nb586.le.get _ _ h577
            have h590 := nb586.le.get _ _ h578
            have h591 := nb586.le.get _ _ nb573.get
            have fr592 := fr579.le nb586.le
            have fr593 := fr580.le nb586.le
            have le594 := le581.trans nb586.le
            have ob595 := ob582.le nb586.le
            refine hk583 _ _ ?_
            refine Ops.l rfl (fun _ _ hk596 _ => wappend (ys := [.map (some b571), num (-1)]) rfl rfl u100 sz99 inf99 z99 rfl (by decide) u100 (fun _ h => by cases h) fr592.own (listOf_row (n := 1) nb586.get rfl) rfl rfl (by show (_ + _) * 16 ≤ _; simp only [ncells_length, List.length_cons, List.length_nil]; (try simp only [List.length_append, List.length_cons, List.length_nil]); omega) (by simp only [ncells_length, List.length_cons, List.length_nil]; (try simp only [List.length_append, List.length_cons, List.length_nil]); omega) fun A597 v598 ap599 => ?_)
            rw [show ([.map (some b571), num (-1)] : List Value) = ncells [(b571, -1)] from rfl, ncells_append] at ap599
            obtain ⟨fr602, le603⟩ := Fresh.grow fr592 le594 wf ap599
            have h604 := ap599.keep no_nv2_b305519 h589
            have ne605 := ap599.ne no_nv2_b305519 nb586.wf h589
            have h606 := ap599.keep no_nv2_b497519 h590
            have ne607 := ap599.ne no_nv2_b497519 nb586.wf h590
            have h608 := ap599.keep no575 h591
            have ne609 := ap599.ne no575 nb586.wf h591
            have ob610 := ob595.appd fr592.own ap599
            have sp612 := Sep.appd (show Sep nv2 lv from sq519_0_1) fr593.own nb586.wf ap599
            have fr611 := fr593.appd ap599 sq519_0_1
            refine hk596 _ _ ?_
            refine Ops.q rfl (qnil rfl) ?_
            refine Ops.q rfl (qfieldAddr fl103_1 sz100 (by decide) rfl) ?_
            obtain ⟨p614, l614, c614, q614, _⟩ := fr602.own.slice
            subst q614
            refine Ops.l rfl (fun _ _ hk613 _ => wstore (cs := [.slice p614 l614 c614]) (c' := [lv, .slice p614 l614 c614, num ((mo : Nat) : Int)]) ap599.wf rfl rfl rfl rfl sz100 h604 (Nat.le_of_ble_eq_true rfl) rfl rfl fun A615 sb616 => ?_)
            have h617 := sb616.keep _ _ ne_b305_b497.symm h606
            have h618 := sb616.keep _ _ ne_b305_b571.symm h608
            have fr619 := fr611.keep sb616.keep no_oq459_0_b305519
            have fr620 := fr602.keep sb616.keep ne605
            have ob621 := ob610.set h604 sb616.n sb616.keep
            have le622 := le_store le603 wf ge_b305 sb616.n sb616.keep
            refine hk613 _ _ ?_
            refine Ops.nil ?_
            have fr623 := fresh_eq fr620 (congrArg ncells (zip_snoc (b := b571) (z := -1) hbl2))
            have hzl2 : ((bl2 ++ [b571]).zip (bs2 ++ [-1])).length = pf2.length + 1 := by rw [List.length_zip]; simp; omega
            refine h569 _ _ ?_
            refine Run.drawn [0, 1, 2, 3, 4, 5, 6, 7, 8, 9, 10, 11, 12, 13] mixed (by kernel_rfl) (by kernel_rfl) rfl ?_
            refine DOps.q rfl rfl rfl (qmove rfl) ?_
            refine DOps.q rfl rfl rfl (qnil rfl) ?_
            refine DOps.q rfl rfl rfl (qfieldAddr fl103_1 sz100 (by decide) rfl) ?_
            have hc624 := cellOf (off := 1) sb616.get (show _ = some (.slice p614 l614 c614) from rfl)
            refine DOps.q rfl rfl rfl (qloadAt ag100 rfl rfl sb616.get rfl) ?_
            refine DOps.q rfl rfl rfl (qmove rfl) ?_
            obtain ⟨b625, f625, rw625, r625, rc625, n625, k625, e625, l625, g625, cl625, cs625⟩ := Slc.at (i := nd) fr623.slc (by simp only [ncells_length]; omega) (by omega)
            refine DOps.q rfl rfl rfl (qindexS u100 sz99 rfl e625 rfl l625) ?_
            refine DOps.q rfl rfl rfl (qfieldAddr fl99_0 sz97 (by decide) rfl) ?_
            have hc626 := cellOf (off := f625 + nd * 2) g625 ((cs625 0 (by decide)).trans (ncells_f0 (by omega)))
            refine DOps.q rfl rfl rfl (qloadAt ag97 rfl rfl g625 ((cs625 0 (by decide)).trans (ncells_f0 (by omega)))) ?_
            refine DOps.q rfl rfl rfl (qfieldAddr fl95_0 sz9 (by decide) rfl) ?_
            have hc627 := cellOf (off := 0) h617 (show _ = some (str ((L2q459.getD i .zero).w)) from rfl)
            refine DOps.q rfl rfl rfl (qloadAt ag9 rfl rfl h617 rfl) ?_
            refine DOps.q rfl rfl rfl (qmove rfl) ?_
            refine DOps.q rfl rfl rfl (qsix u9 rfl rfl (by omega)) ?_
            refine DOps.q rfl rfl rfl (qmove rfl) ?_
            have hTc629 := hT2.objs ob621
            obtain ⟨es629, clk629, hgm629, hE629⟩ := hTc629.2.2.2.2 nd hndl
            have hqn : pf2.getD nd [] ++ [(L2q459.getD i .zero).w.getD k 0] = (L2q459.getD i .zero).w.take (k + 1) := by rw [hq, getD_idxOf hp]; exact take_next (by omega)
            have hnew : pf2.getD nd [] ++ [(L2q459.getD i .zero).w.getD k 0] ∉ pf2 := by rw [hqn]; exact hin
            have hmz : (((bl2 ++ [b571]).zip (bs2 ++ [-1])).getD nd (0, 0)).1 = bl2.getD nd 0 := (zip_fst (by simp; omega) (by simp; omega)).trans (getD_app (by omega))
            refine DOps.l rfl rfl rfl (fun _ _ hk628 _ => wupdateB (pf := pf2) (p := pf2.getD nd []) (n := pf2.length) sb616.wf rfl rfl rfl u97 u5 (by rw [hmz]; exact hgm629) hE629 hnew fun A630 sb631 => ?_)
            rw [hmz] at sb631
            have hTn629 := hTc629.grow hndl hnew (fun d q => hnew (hpc2.cl _ _ q)) h618 hni ge_b571 hE629 sb631
            rw [hqn] at hTn629
            have h632 := sb631.keep _ _ (ne_rowobj sb616.get hgm629) sb616.get
            have h633 := sb631.keep _ _ (ne_rowobj h617 hgm629) h617
            have fr634 := fr619.keep sb631.keep (fr619.own.ne_obj hgm629)
            have fr635 := fr623.keep sb631.keep (fr623.own.ne_obj hgm629)
            have df636 := Defs.keep (hdf519.objs ob621) sb631.keep hgm629 (fun q => by cases q)
            have le637 := le_store le622 wf (hTc629.2.2.2.1 _ (getD_lt_mem (by rw [hTc629.1]; exact hndl))) sb631.n sb631.keep
            have ob638 := Objs.refl A630
            refine hk628 _ _ (HeldNow.none (by kernel_rfl)) ?_
            refine DOps.done ?_
            refine h563 _ _ ?_
            refine Run.seq fun K639 h640 => ?_
            refine Run.region ?_
            refine Ops.q rfl (qmove rfl) ?_
            refine Ops.q rfl (qassign rfl) ?_
            refine Ops.nil ?_
            refine h640 _ _ ?_
            refine Run.seq fun K641 h642 => ?_
            refine Run.region ?_
            refine Ops.q rfl (qmove rfl) ?_
            refine Ops.q rfl (qaddN (b := 1) rfl rfl (by omega)) ?_
            refine Ops.q rfl (qmulN (a := 2) rfl rfl (by omega)) ?_
            refine Ops.q rfl (qfieldAddr fl95_0 sz9 (by decide) rfl) ?_
            refine Ops.q rfl (qloadAt ag9 rfl rfl h633 rfl) ?_
            refine Ops.q rfl (qslen u9 rfl) ?_
            refine Ops.q rfl (qgtrN rfl rfl) ?_
            refine Ops.q rfl (qmove rfl) ?_
            refine Ops.part (t := 182) rfl (fun p643 => ?_) (fun p643 => ?_)
            ·
              refine Ops.on rfl rfl ?_
              refine Ops.q rfl (qmove rfl) ?_
              refine Ops.on rfl rfl ?_
              refine Ops.q rfl (qnil rfl) ?_
              refine Ops.on rfl rfl ?_
              refine Ops.q rfl (qfieldAddr fl103_1 sz100 (by decide) rfl) ?_
              refine Ops.on rfl rfl ?_
              refine Ops.q rfl (qloadAt ag100 rfl rfl h632 rfl) ?_
              refine Ops.on rfl rfl ?_
              refine Ops.q rfl (qmove rfl) ?_
              refine Ops.on rfl rfl ?_
              obtain ⟨b644, f644, rw644, r644, rc644, n644, k644, e644, l644, g644, cl644, cs644⟩ := Slc.at (i := pf2.length) fr635.slc (by simp only [ncells_length]; omega) (by omega)
              refine Ops.q rfl (qindexS u100 sz99 rfl e644 rfl l644) ?_
              refine Ops.on rfl rfl ?_
              refine Ops.q rfl (qfieldAddr fl99_1 sz3 (by decide) rfl) ?_
              refine Ops.on rfl rfl ?_
              refine Ops.q rfl (qloadAt ag3 rfl rfl g644 (((cs644 1 (by decide)).trans (ncells_f1 (by omega))).trans (congrArg (fun z => some (num z)) (zip_snd (by (try simp only [List.length_append, List.length_cons, List.length_nil]); omega) (by (try simp only [List.length_append, List.length_cons, List.length_nil]); omega))))) ?_
              refine Ops.on rfl rfl ?_
              refine Ops.q rfl (qlss rfl rfl) ?_
              refine Ops.q rfl (qpickT rfl rfl) ?_
              refine Ops.nil ?_
              refine h642 _ _ ?_
              refine Run.if rfl (fun p645 => ?_) (fun p645 => ?_)
              ·
                refine Run.region ?_
                refine Ops.q rfl (qmove rfl) ?_
                refine Ops.q rfl (qnil rfl) ?_
                refine Ops.q rfl (qfieldAddr fl103_1 sz100 (by decide) rfl) ?_
                refine Ops.q rfl (qloadAt ag100 rfl rfl h632 rfl) ?_
                refine Ops.q rfl (qmove rfl) ?_
                refine Ops.q rfl (qmove rfl) ?_
                obtain ⟨b646, f646, rw646, r646, rc646, n646, k646, e646, l646, g646, cl646, cs646⟩ := Slc.at (i := pf2.length) fr635.slc (by simp only [ncells_length]; omega) (by omega)
                refine Ops.q rfl (qindexS u100 sz99 rfl e646 rfl l646) ?_
                refine Ops.q rfl (qfieldAddr fl99_1 sz3 (by decide) rfl) ?_
                refine Ops.l rfl (fun _ _ hk647 _ => wstoreOwn (size := 2) (i := pf2.length) (j := 1) fr635 e646 l646 (by decide) sb631.wf rfl rfl rfl sz3 rfl fun A648 rr651 rc651 gg651 sb649 fr650 => ?_)
                rw [ncells_set (by (try simp only [List.length_append, List.length_cons, List.length_nil]); omega) (by (try simp only [List.length_append, List.length_cons, List.length_nil]); omega)] at fr650
                have h652 := sb649.keep _ _ (fun q => ne605 (by rw [e646]; exact congrArg some q.symm)) h632
                have h653 := sb649.keep _ _ (fun q => ne607 (by rw [e646]; exact congrArg some q.symm)) h633
                have fr654 := fr634.keep sb649.keep (fun q => sp612 _ (by rw [e646]; rfl) q)
                have le655 := le_store le637 wf (fr635.lo _ (by rw [e646]; rfl)) sb649.n sb649.keep
                have ob656 := ob638.set gg651 sb649.n sb649.keep
                refine hk647 _ _ ?_
                refine Ops.nil ?_
                refine h529 _ _ ?_
                refine Run.region ?_
                refine Ops.q rfl (qaddN (b := 1) rfl rfl (by omega)) ?_
                refine Ops.q rfl (qmove rfl) ?_
                refine Ops.nil ?_
                exact ⟨⟨k + 1, pf2.length, (pf2 ++ [(L2q459.getD i .zero).w.take (k + 1)]), ((bs2 ++ [-1]).set pf2.length ((i : Nat) : Int)), (bl2 ++ [b571]), .slice p614 l614 c614, Ds⟩, EnvLe.cons rfl <| EnvLe.cons rfl <| EnvLe.cons rfl <| EnvLe.cons rfl <| EnvLe.cons rfl <| EnvLe.cons rfl <| EnvLe.cons rfl <| EnvLe.cons rfl <| EnvLe.cons rfl <| EnvLe.nil _, rfl, ⟨⟨by omega, fold_snoc ht2 (tstep_set (if_neg hin) (idxOf_snoc hin).symm ⟨by omega, by assumption⟩), (by (try simp only [List.length_append, List.length_set, List.length_cons, List.length_nil]); omega), (by (try simp only [List.length_append, List.length_set, List.length_cons, List.length_nil]); omega), (by have q := hpc2.snoc (c := (L2q459.getD i .zero).w.getD k 0) hp; rw [take_next (by omega)] at q; exact q), (by (try simp only [List.length_append, List.length_set, List.length_cons, List.length_nil]); omega), by simp, (idxOf_snoc hin).symm⟩, le655, fr650, fr654, h652, h653, ne605, no_oq459_0_b305519, ne607, no_oq459_0_b497519, sp612, (df636.objs ob656), (hTn629.objs ob656)⟩, (by (try dsimp only); omega)⟩
              ·
                refine Run.skip ?_
                refine h529 _ _ ?_
                refine Run.region ?_
                refine Ops.q rfl (qaddN (b := 1) rfl rfl (by omega)) ?_
                refine Ops.q rfl (qmove rfl) ?_
                refine Ops.nil ?_
                exact ⟨⟨k + 1, pf2.length, (pf2 ++ [(L2q459.getD i .zero).w.take (k + 1)]), (bs2 ++ [-1]), (bl2 ++ [b571]), .slice p614 l614 c614, Ds⟩, EnvLe.cons rfl <| EnvLe.cons rfl <| EnvLe.cons rfl <| EnvLe.cons rfl <| EnvLe.cons rfl <| EnvLe.cons rfl <| EnvLe.cons rfl <| EnvLe.cons rfl <| EnvLe.cons rfl <| EnvLe.nil _, rfl, ⟨⟨by omega, fold_snoc ht2 (tstep_not (if_neg hin) (idxOf_snoc hin).symm (by rintro ⟨q1, q2⟩; omega)), (by (try simp only [List.length_append, List.length_set, List.length_cons, List.length_nil]); omega), (by (try simp only [List.length_append, List.length_set, List.length_cons, List.length_nil]); omega), (by have q := hpc2.snoc (c := (L2q459.getD i .zero).w.getD k 0) hp; rw [take_next (by omega)] at q; exact q), (by (try simp only [List.length_append, List.length_set, List.length_cons, List.length_nil]); omega), by simp, (idxOf_snoc hin).symm⟩, le637, fr635, fr634, h632, h633, ne605, no_oq459_0_b305519, ne607, no_oq459_0_b497519, sp612, (df636.objs ob638), (hTn629.objs ob638)⟩, (by (try dsimp only); omega)⟩
            ·
              refine Ops.off rfl rfl rfl rfl ?_
              refine Ops.off rfl rfl rfl rfl ?_
              refine Ops.off rfl rfl rfl rfl ?_
              refine Ops.off rfl rfl rfl rfl ?_
              refine Ops.off rfl rfl rfl rfl ?_
              refine Ops.off rfl rfl rfl rfl ?_
              refine Ops.off rfl rfl rfl rfl ?_
              refine Ops.off rfl rfl rfl rfl ?_
              refine Ops.off rfl rfl rfl rfl ?_
              refine Ops.q rfl (qpickF rfl rfl) ?_
              refine Ops.nil ?_
              refine h642 _ _ ?_
              refine Run.cond_false rfl ?_
              refine Run.skip ?_
              refine h529 _ _ ?_
              refine Run.region ?_
              refine Ops.q rfl (qaddN (b := 1) rfl rfl (by omega)) ?_
              refine Ops.q rfl (qmove rfl) ?_
              refine Ops.nil ?_
              exact ⟨⟨k + 1, pf2.length, (pf2 ++ [(L2q459.getD i .zero).w.take (k + 1)]), (bs2 ++ [-1]), (bl2 ++ [b571]), .slice p614 l614 c614, Ds⟩, EnvLe.cons rfl <| EnvLe.cons rfl <| EnvLe.cons rfl <| EnvLe.cons rfl <| EnvLe.cons rfl <| EnvLe.cons rfl <| EnvLe.cons rfl <| EnvLe.cons rfl <| EnvLe.cons rfl <| EnvLe.nil _, rfl, ⟨⟨by omega, fold_snoc ht2 (tstep_not (if_neg hin) (idxOf_snoc hin).symm (by rintro ⟨q1, q2⟩; omega)), (by (try simp only [List.length_append, List.length_set, List.length_cons, List.length_nil]); omega), (by (try simp only [List.length_append, List.length_set, List.length_cons, List.length_nil]); omega), (by have q := hpc2.snoc (c := (L2q459.getD i .zero).w.getD k 0) hp; rw [take_next (by omega)] at q; exact q), (by (try simp only [List.length_append, List.length_set, List.length_cons, List.length_nil]); omega), by simp, (idxOf_snoc hin).symm⟩, le637, fr635, fr634, h632, h633, ne605, no_oq459_0_b305519, ne607, no_oq459_0_b497519, sp612, (df636.objs ob638), (hTn629.objs ob638)⟩, (by (try dsimp only); omega)⟩
        ·
          refine Run.exit ?_
          refine h492 _ _ ?_
          refine Run.region ?_
          refine Ops.q rfl (qaddN (b := 1) rfl rfl (by omega)) ?_
          refine Ops.q rfl (qmove rfl) ?_
          refine Ops.nil ?_
          exact ⟨⟨i + 1, pf2, bs2, bl2, nv2, Ds⟩, EnvLe.cons rfl <| EnvLe.cons rfl <| EnvLe.cons rfl <| EnvLe.cons rfl <| EnvLe.nil _, rfl, ⟨⟨by omega, (by rw [List.range_succ, List.foldl_append, ← ht]; show _ = tword L2q459 (pf, bs) i; unfold tword; rw [show (L2q459.getD i .zero).w.length = k by omega]; exact ht2), hbl2, hbs2, hpc2, (by have := hwx (by omega); omega)⟩, le519, fr_nv2519, fk_oq459_0519, hr_b305519, no_nv2_b305519, no_oq459_0_b305519, sq519_0_1, (hdf519.objs ob522), (hT2.objs ob522)⟩, (by (try dsimp only); omega)⟩
      ·
        refine Run.exit ?_
        refine h479 _ _ ?_
        refine Run.seq fun K657 h658 => ?_
        refine Run.region ?_
        refine Ops.q rfl (qmove rfl) ?_
        refine Ops.q rfl (qassign rfl) ?_
        refine Ops.nil ?_
        refine h658 _ _ ?_
        refine Run.ret ?_
        (repeat first | with_reducible refine thenQ_exit ?_ | with_reducible refine blockQ_same ?_ | with_reducible refine blockQ_other (by decide) ?_); exact ⟨Ds, rfl, (hdf482.objs ob485).1, (fun D hD => ((hdf482.objs ob485).2 D hD).1), [.pointer (some ⟨b305, 0, none⟩)], fun A' wf2 hn2 hk2 => ⟨rfl, _, rfl, _, _, rfl, (hdf482.objs ob485).leave le482 hn2 hk2, wf2, (Rules.leave (hdf482.objs ob485) hk2 hr_b305482 ge_b305 fk_oq459_0482 fr_nv482 (hT.objs ob485) hbs), rs_ok hok2 (fun x hx => hL4 x (hpq459.mem_iff.1 hx)) hL5 (by rw [hpq459.length_eq]; exact hL6) (by rw [ht, show i = L2q459.length by omega]; rfl) hpc.root, (hpq459.trans hperm).trans (by rw [hE, show k = l.length by omega]; exact .refl _), hsq459⟩⟩
end Go.Proofs.YtaccklloepfemaaGreatDoor
