/- A part of the proof: what the last text needs of the library, the laws and the walks. -/
import Derived.Test.YtaccklloepfemaaDoorSam3
namespace Go.Proofs.YtaccklloepfemaaDoor
open Go Go.RowKit V
set_option maxRecDepth 100000
set_option linter.unusedVariables false
set_option linter.unusedSimpArgs false
set_option maxHeartbeats 4000000
theorem ag75 : aggOf Tryd.prog 75 = some false := by kernel_rfl
theorem inf80 : Tryd.prog.info? 80 = some Tryd.t80 := by kernel_rfl
theorem inf84 : Tryd.prog.info? 84 = some Tryd.t84 := by kernel_rfl
theorem pl80 : structPlaces Tryd.prog 80 = some [(0, 1), (1, 1), (2, 1), (3, 1)] := by kernel_rfl
theorem pl84 : structPlaces Tryd.prog 84 = some [(0, 1), (1, 1)] := by kernel_rfl
theorem pl88 : structPlaces Tryd.prog 88 = some [(0, 1), (1, 1), (2, 1)] := by kernel_rfl
theorem sz75 : szOf Tryd.prog 75 = some 1 := by kernel_rfl
theorem u75 : type_of% @Tryd.underlying75 := @Tryd.underlying75
theorem u76 : type_of% @Tryd.underlying76 := @Tryd.underlying76
theorem u80 : type_of% @Tryd.underlying80 := @Tryd.underlying80
theorem u84 : type_of% @Tryd.underlying84 := @Tryd.underlying84
theorem u88 : type_of% @Tryd.underlying88 := @Tryd.underlying88
theorem z4 : zeroOf Tryd.prog 4 = some (.bool false) := by kernel_rfl
theorem z75 : zeroOf Tryd.prog 75 = some (.map none) := by kernel_rfl
theorem z80 : zeroOf Tryd.prog 80 = some (.agg #[.string ⟨⟨[]⟩⟩, .string ⟨⟨[]⟩⟩, .int .i64 0, .bool false]) := by kernel_rfl
theorem z84 : zeroOf Tryd.prog 84 = some (.agg #[.map none, .int .i64 0]) := by kernel_rfl
theorem z88 : zeroOf Tryd.prog 88 = some (.agg #[.slice none 0 0, .slice none 0 0, .int .i64 0]) := by kernel_rfl

theorem s_cmp1 (x y : Rot) (A : AH) (hL : Lets A) (hx : x.w.length ≤ 1000000) (hy : y.w.length ≤ 1000000) : RetA Tryd.prog 50 #[.agg #[str (x.w), str (x.c), num ((x.r : Nat) : Int), .bool (x.i)], .agg #[str (y.w), str (y.c), num ((y.r : Nat) : Int), .bool (y.i)]] A (fun v A1 => v = num (wCompare x.w y.w)) := by
 refine enterA (e := [(0, .agg #[str (x.w), str (x.c), num ((x.r : Nat) : Int), .bool (x.i)]), (1, .agg #[str (y.w), str (y.c), num ((y.r : Nat) : Int), .bool (y.i)])]) (args := [.agg #[str (x.w), str (x.c), num ((x.r : Nat) : Int), .bool (x.i)], .agg #[str (y.w), str (y.c), num ((y.r : Nat) : Int), .bool (y.i)]]) Tryd.call50 Tryd.func50 rfl Tryd.results50 Tryd.ntmps50 rfl rfl rfl (fun wf => ?_)
 have le_ := AH.le.refl A
 refine Run.seq fun K1 h2 => .region <| .l rfl (fun _ _ hk3 _ => wbox wf rfl rfl fun A5 b4 nb6 => ?_)
 have le7 := le_.trans nb6.le
 refine hk3 _ _ <| .l rfl (fun _ _ hk8 _ => wbox nb6.wf rfl rfl fun A10 b9 nb11 => ?_)
 have h12 := nb11.le.get _ _ nb6.get
 have le13 := le7.trans nb11.le
 refine hk8 _ _ <| .q rfl (qassign rfl) <| .nil <| h2 _ _ <| .seq fun K14 h15 => .region <| .q rfl (qfieldAddr fl80_0 sz9 (by decide) rfl) <| .q rfl (qloadAt ag9 rfl rfl h12 rfl) <| .q rfl (qfieldAddr fl80_0 sz9 (by decide) rfl) <| .q rfl (qloadAt ag9 rfl rfl nb11.get rfl) ?_
 refine Ops.l rfl (fun _ _ hk16 _ => vcallF rfl (s_Compare x.w y.w A10 (by first | omega | (simp only [List.length_append, List.length_drop, List.length_take, inv_length]; omega)) (by first | omega | (simp only [List.length_append, List.length_drop, List.length_take, inv_length]; omega)) (hL.le le13)) ?_)
 rintro v17 A18 ⟨rfl, leq19, wfq19⟩
 refine hk16 _ _ <| .q rfl (qassign rfl) <| .nil <| h15 _ _ <| .ret ?_
 repeat first | with_reducible refine thenQ_ret ?_ | with_reducible refine blockQ_ret ?_
 exact retQ rfl (rfl)

theorem s_sortW (L : List Rot) (lv : Value) (A0 A : AH) (le : A0.le A) (wf0 : A0.wf) (own : Fresh A0 A lv 4 (rcells L)) (hL : Lets A0) (hok : ∀ x ∈ L, okR x) (hl : L.length ≤ 30000) :
    RetA Tryd.prog 49 #[lv, .func (.func 50) #[] #[]] A (fun v A1 => ∃ L2, L2.Perm L ∧ L2.Pairwise (fun x y => ¬ cmpw y.w x.w < 0) ∧ v = .tuple #[] ∧ A0.le A1 ∧ A1.wf ∧ Fresh A0 A1 lv 4 (rcells L2)) := by
  obtain ⟨d, rfl⟩ := attach_ok hok
  rw [← cellsOf] at own
  refine (sortFunc_ret Tryd.sortR 4 (by decide) (fun w => Tryd.isAgg80 w) (fun w => Tryd.sizeOf80 w) (fun x : OkRot => rcell x.1) (fun _ => rfl) ?_ cmpR cmpR_swo 50 #[] Tryd.call49 Tryd.call50 (by rw [List.length_map] at hl; omega) wf0 le own ?_).mono ?_
  · intro x v hv
    simp only [rcell, List.mem_cons, List.not_mem_nil, or_false] at hv
    rcases hv with rfl | rfl | rfl | rfl <;> rfl
  · intro n hn b hb x y
    have hx := x.2; have hy := y.2
    refine (s_cmp1 x.1 y.1 (A.frozen b n) (lets_frozen hL le (own.lo b hb)) (by have := hx.1; omega) (by have := hy.1; omega)).mono ?_
    rintro v A1 rfl
    show _ = num _
    rw [wCompare, if_pos ⟨hx.2.1, hy.2.1⟩]; rfl
  · rintro v A1 ⟨rfl, h2, h3, _, d', h4, h5, h6⟩
    rw [cellsOf] at h6
    exact ⟨d'.map (·.1), h4.map _, (by rw [List.pairwise_map]; exact h5), rfl, h2, h3, h6⟩


theorem s_newRules (g : Int) (u : Value) (l : List (List UInt8)) (A : AH) (hL : Lets A) (hp : pcheck g l = 0) (hu : Slc A 1 u (strs l)) : RetA Tryd.prog 27 #[.agg #[num (g), u]] A (fun v A1 => ∃ br S, v = .pointer (some ⟨br, 0, none⟩) ∧ A.le A1 ∧ A1.wf ∧ (∀ hs, (∀ b, some b ∈ hs → ∃ o, A.get b = some o) → Rules (A1.hide hs) br S) ∧ RSok S ∧ S.list.Perm (allR l) ∧ S.list.Pairwise (fun x y => ¬ cmpw y.w x.w < 0)) := by
  refine enterM (e := [(0, .agg #[num (g), u])]) (args := [.agg #[num (g), u]]) Tryd.call27 Tryd.func27 rfl Tryd.results27 Tryd.ntmps27 rfl rfl rfl (fun wf => ?_)
  have le_ := AH.le.refl A
  have ob_ := Objs.refl A
  have df_ : Defs A A [] := ⟨List.Pairwise.nil, fun _ h => by cases h⟩
  have hz := pcheck_zero hp
  have hll : ∀ k, k < l.length → (l.getD k []).length ≤ 200 := fun k q => (hz.2.2 _ (getD_mem q)).1
  refine Run.seq fun K1 h2 => .region <| .l rfl (fun _ _ hk3 _ => wbox wf rfl rfl fun A5 b4 nb6 => ?_)
  have le7 := le_.trans nb6.le
  have ob8 := ob_.le nb6.le
  refine hk3 _ _ <| .q rfl (qassign rfl) <| .nil <| h2 _ _ <| .seq fun K9 h10 => .region <| .l rfl (fun _ _ hk11 _ => wmakeMap nb6.wf fun A13 b12 nb14 => ?_)
  have ge_b12 := none_of wf (Nat.le_trans le7.n nb14.lo)
  have h15 := nb14.le.get _ _ nb6.get
  have le16 := le7.trans nb14.le
  have ob17 := ob8.le nb14.le
  refine hk11 _ _ <| .l rfl (fun _ _ hk18 _ => walloc nb14.wf z75 rfl fun A20 b19 nb21 => ?_)
  have ne_b4_b19 := ne_new nb14.wf h15 nb21.lo
  have ne_b12_b19 := ne_new nb14.wf nb14.get nb21.lo
  have ge_b19 := none_of wf (Nat.le_trans le16.n nb21.lo)
  have h22 := nb21.le.get _ _ h15
  have h23 := nb21.le.get _ _ nb14.get
  have le24 := le16.trans nb21.le
  have ob25 := ob17.le nb21.le
  refine hk18 _ _ <| .l rfl (fun _ _ hk26 _ => wstore (cs := [.map (some b12)]) (c' := [.map (some b12)]) nb21.wf rfl rfl rfl rfl sz75 nb21.get (Nat.le_of_ble_eq_true rfl) rfl rfl fun A27 sb28 => ?_)
  have h29 := sb28.keep _ _ ne_b4_b19 h22
  have h30 := sb28.keep _ _ ne_b12_b19 h23
  have ob31 := ob25.set nb21.get sb28.n sb28.keep
  have le32 := le_store le24 wf ge_b19 sb28.n sb28.keep
  refine hk26 _ _ <| .nil <| h10 _ _ <| .seq fun K33 h34 => .seq fun K35 h36 => .region <| .q rfl (qfieldAddr fl24_1 sz22 (by decide) rfl) <| .q rfl (qloadAt ag22 rfl rfl h29 rfl) <| .q rfl (qlenS (n := l.length) u22 rfl (hu.le le32) (by omega) (strs_len _)) <| .q rfl (qmove rfl) ?_
  refine Ops.nil <| h36 _ _ <| .block <| .loopD (X := Nat × List Rot × List Nat) (fun ⟨k, E, Ds⟩ => [(3, .pointer (some ⟨b19, 0, none⟩)), (26, u), (27, num ((l.length : Nat) : Int)), (28, num ((k : Nat) : Int))]) (fun ⟨k, E, Ds⟩ => Ds.map V.mark) (fun ⟨k, E, Ds⟩ B => (k ≤ l.length ∧ E = (List.range k).foldl (addR l) [] ∧ E.length ≤ 400 * k) ∧ A.le B ∧ B.get b12 = some (.obj true (mobj E)) ∧ B.get b19 = some (.row true [.map (some b12)] 1) ∧ Defs A B Ds) (fun ⟨k, E, Ds⟩ => l.length - k) (⟨0, [], []⟩) (EnvLe.cons rfl <| EnvLe.cons rfl <| EnvLe.cons rfl <| EnvLe.cons rfl <| EnvLe.nil _) rfl (⟨⟨Nat.zero_le _, rfl, Nat.zero_le _⟩, le32, h30, sb28.get, (df_.objs ob31)⟩) ?_
  rintro ⟨k, E, Ds⟩ B38 ⟨⟨hk, hE, hEl⟩, le37, hr_b1237, hr_b1937, hdf37⟩
  refine Run.wf fun wf39 => ?_
  have ob40 := Objs.refl B38
  have hlk := hll k
  refine Run.seq fun K41 h42 => .region <| .q rfl (qlssN rfl rfl) <| .nil <| h42 _ _ <| .seq fun K43 h44 => .if rfl (fun p45 => ?_) (fun p45 => ?_)
  ·
    refine Run.skip <| h44 _ _ <| .seq fun K46 h47 => .block <| .seq fun K48 h49 => .region <| .q rfl (qmove rfl) ?_
    obtain ⟨b50, f50, rw50, r50, rc50, n50, k50, e50, l50, g50, cl50, cs50⟩ := Slc.at (i := k) (hu.le le37) (by simp only [strs_length]; omega) (by omega)
    refine Ops.q rfl (qindexS u22 sz9 rfl e50 rfl l50) <| .q rfl (qloadAt ag9 rfl rfl g50 ((elt0 cs50).trans (strs_get (by omega)))) <| .l rfl (fun _ _ hk51 _ => walloc wf39 z3 rfl fun A53 b52 nb54 => ?_)
    have ne_b12_b52 := ne_new wf39 hr_b1237 nb54.lo
    have ne_b19_b52 := ne_new wf39 hr_b1937 nb54.lo
    have ge_b52 := none_of wf (Nat.le_trans le37.n nb54.lo)
    have h55 := nb54.le.get _ _ hr_b1237
    have h56 := nb54.le.get _ _ hr_b1937
    have le57 := le37.trans nb54.le
    have ob58 := ob40.le nb54.le
    refine hk51 _ _ <| .l rfl (fun _ _ hk59 _ => wstore (cs := [num ((k : Nat) : Int)]) (c' := [num ((k : Nat) : Int)]) nb54.wf rfl rfl rfl rfl sz3 nb54.get (Nat.le_of_ble_eq_true rfl) rfl rfl fun A60 sb61 => ?_)
    have h62 := sb61.keep _ _ ne_b12_b52 h55
    have h63 := sb61.keep _ _ ne_b19_b52 h56
    have ob64 := ob58.set nb54.get sb61.n sb61.keep
    have le65 := le_store le57 wf ge_b52 sb61.n sb61.keep
    refine hk59 _ _ <| .q rfl (qassign rfl) <| .nil <| h49 _ _ <| .seq fun K66 h67 => .region <| .l rfl (fun _ _ hk68 _ => wbuildSlice (c := [.bool (false), .bool (true)]) sb61.wf rfl (buildSliceV_of u76 sz4 z4 rfl (by decide) (by decide) rfl) fun A70 b69 nb71 => ?_)
    have h72 := nb71.le.get _ _ h62
    have h73 := nb71.le.get _ _ h63
    have h74 := nb71.le.get _ _ sb61.get
    have le75 := le65.trans nb71.le
    have ob76 := ob64.le nb71.le
    refine hk68 _ _ <| .q rfl (qlen u76 rfl) <| .q rfl (qmove rfl) <| .nil <| h67 _ _ <| .block <| .loopD (X := Nat × List Rot × List Nat) (fun ⟨m, E2, Ds⟩ => [(3, .pointer (some ⟨b19, 0, none⟩)), (4, .pointer (some ⟨b52, 0, none⟩)), (5, str (l.getD k [])), (26, u), (27, num ((l.length : Nat) : Int)), (28, num ((k : Nat) : Int)), (33, .slice (some ⟨b69, 0, none⟩) 2 2), (34, num ((2 : Nat) : Int)), (35, num ((m : Nat) : Int))]) (fun ⟨m, E2, Ds⟩ => Ds.map V.mark) (fun ⟨m, E2, Ds⟩ B => (m ≤ 2 ∧ E2 = (List.range m).foldl (fun E j => addV k (l.getD k []) E (decide (j = 1))) E ∧ E2.length ≤ E.length + 200 * m) ∧ A.le B ∧ B.get b12 = some (.obj true (mobj E2)) ∧ B.get b19 = some (.row true [.map (some b12)] 1) ∧ B.get b52 = some (.row true [num ((k : Nat) : Int)] 1) ∧ B.get b69 = some (.row true [.bool (false), .bool (true)] 2) ∧ Defs A B Ds) (fun ⟨m, E2, Ds⟩ => 2 - m) (⟨0, E, Ds⟩) (EnvLe.cons rfl <| EnvLe.cons rfl <| EnvLe.cons rfl <| EnvLe.cons rfl <| EnvLe.cons rfl <| EnvLe.cons rfl <| EnvLe.cons rfl <| EnvLe.cons rfl <| EnvLe.cons rfl <| EnvLe.nil _) rfl (⟨⟨Nat.zero_le _, rfl, Nat.le_refl _⟩, le75, h72, h73, h74, nb71.get, (hdf37.objs ob76)⟩) ?_
    rintro ⟨m, E2, Ds⟩ B78 ⟨⟨hm, hE2, hE2l⟩, le77, hr_b1277, hr_b1977, hr_b5277, hr_b6977, hdf77⟩
    refine Run.wf fun wf79 => ?_
    have ob80 := Objs.refl B78
    have hwl := wOf_length (l.getD k []) (decide (m = 1))
    refine Run.seq fun K81 h82 => .region <| .q rfl (qlssN (b := 2) rfl rfl) <| .nil <| h82 _ _ <| .seq fun K83 h84 => .if rfl (fun p85 => ?_) (fun p85 => ?_)
    ·
      refine Run.skip <| h84 _ _ <| .seq fun K86 h87 => .block <| .seq fun K88 h89 => .region <| .q rfl (qindexS u76 sz4 rfl rfl rfl (by omega)) <| .q rfl (qloadAt ag4 rfl rfl hr_b6977 (two_get (by omega))) <| .l rfl (fun _ _ hk90 _ => walloc wf79 z4 rfl fun A92 b91 nb93 => ?_)
      have ne_b12_b91 := ne_new wf79 hr_b1277 nb93.lo
      have ne_b19_b91 := ne_new wf79 hr_b1977 nb93.lo
      have ne_b52_b91 := ne_new wf79 hr_b5277 nb93.lo
      have ne_b69_b91 := ne_new wf79 hr_b6977 nb93.lo
      have ge_b91 := none_of wf (Nat.le_trans le77.n nb93.lo)
      have h94 := nb93.le.get _ _ hr_b1277
      have h95 := nb93.le.get _ _ hr_b1977
      have h96 := nb93.le.get _ _ hr_b5277
      have h97 := nb93.le.get _ _ hr_b6977
      have le98 := le77.trans nb93.le
      have ob99 := ob80.le nb93.le
      refine hk90 _ _ <| .l rfl (fun _ _ hk100 _ => wstore (cs := [.bool (decide (m = 1))]) (c' := [.bool (decide (m = 1))]) nb93.wf rfl rfl rfl rfl sz4 nb93.get (Nat.le_of_ble_eq_true rfl) rfl rfl fun A101 sb102 => ?_)
      have h103 := sb102.keep _ _ ne_b12_b91 h94
      have h104 := sb102.keep _ _ ne_b19_b91 h95
      have h105 := sb102.keep _ _ ne_b52_b91 h96
      have h106 := sb102.keep _ _ ne_b69_b91 h97
      have ob107 := ob99.set nb93.get sb102.n sb102.keep
      have le108 := le_store le98 wf ge_b91 sb102.n sb102.keep
      refine hk100 _ _ <| .nil <| h89 _ _ <| .seq fun K109 h110 => .region <| .q rfl (qmove rfl) <| .q rfl (qassign rfl) <| .nil <| h110 _ _ <| .join (fun f A1 => EnvLe [(8, str ((wOf (l.getD k []) (decide (m = 1))))), (3, .pointer (some ⟨b19, 0, none⟩)), (4, .pointer (some ⟨b52, 0, none⟩)), (5, str (l.getD k [])), (26, u), (27, num ((l.length : Nat) : Int)), (28, num ((k : Nat) : Int)), (33, .slice (some ⟨b69, 0, none⟩) 2 2), (34, num ((2 : Nat) : Int)), (35, num ((m : Nat) : Int)), (36, .bool (decide (m < 2))), (37, .pointer (some ⟨b69, 0 + m * 1, none⟩)), (38, .bool (decide (m = 1))), (7, .pointer (some ⟨b91, 0, none⟩)), (39, str (l.getD k []))] f.e ∧ f.ds = Ds.map V.mark ∧ A101.le A1 ∧ A1.wf) ?_ ?_
      ·
        have jl113 := AH.le.refl A101
        refine Run.seq fun K114 h115 => .region <| .q rfl (qloadAt ag4 rfl rfl sb102.get rfl) <| .nil <| h115 _ _ <| .if rfl (fun p116 => ?_) (fun p116 => ?_)
        ·
          refine Run.region <| .q rfl (qmove rfl) <| .l rfl (fun _ _ hk117 _ => vcallF rfl (s_Inverse (l.getD k []) A101 (by first | omega | (have := hlk (by omega); omega) | (rw [List.length_take]; omega) | (rw [List.length_append]; omega)) (hL.le le108)) ?_)
          rintro v118 A119 ⟨rfl, leq120, wfq120⟩
          have jl128 := jl113.trans leq120
          refine hk117 _ _ <| .q rfl (qassign rfl) <| .nil ?_
          exact ⟨EnvLe.cons (congrArg some (congrArg str (show _ = wOf (l.getD k []) (decide (m = 1)) from by first | (rw [wOf, if_pos (decide_eq_true ‹m = 1›)]) | (rw [wOf, decide_eq_false ‹¬ m = 1›]; rfl)))) <| EnvLe.cons rfl <| EnvLe.cons rfl <| EnvLe.cons rfl <| EnvLe.cons rfl <| EnvLe.cons rfl <| EnvLe.cons rfl <| EnvLe.cons rfl <| EnvLe.cons rfl <| EnvLe.cons rfl <| EnvLe.cons rfl <| EnvLe.cons rfl <| EnvLe.cons rfl <| EnvLe.cons rfl <| EnvLe.cons rfl <| EnvLe.nil _, rfl, jl128, wfq120⟩
        ·
          refine Run.skip ?_
          exact ⟨EnvLe.cons (congrArg some (congrArg str (show _ = wOf (l.getD k []) (decide (m = 1)) from by first | (rw [wOf, if_pos (decide_eq_true ‹m = 1›)]) | (rw [wOf, decide_eq_false ‹¬ m = 1›]; rfl)))) <| EnvLe.cons rfl <| EnvLe.cons rfl <| EnvLe.cons rfl <| EnvLe.cons rfl <| EnvLe.cons rfl <| EnvLe.cons rfl <| EnvLe.cons rfl <| EnvLe.cons rfl <| EnvLe.cons rfl <| EnvLe.cons rfl <| EnvLe.cons rfl <| EnvLe.cons rfl <| EnvLe.cons rfl <| EnvLe.cons rfl <| EnvLe.nil _, rfl, jl113, sb102.wf⟩
      ·
        rintro ⟨fe, fd⟩ A129 ⟨hE, rfl, leq130, wfq130⟩
        refine Run.forget hE ?_
        have h131 := leq130.get _ _ h103
        have h132 := leq130.get _ _ h104
        have h133 := leq130.get _ _ h105
        have h134 := leq130.get _ _ h106
        have h135 := leq130.get _ _ sb102.get
        have le136 := le108.trans leq130
        have ob137 := ob107.le leq130
        refine Run.seq fun K138 h139 => .region <| .q rfl (qmove rfl) <| .l rfl (fun _ _ hk140 _ => vcallF rfl (s_Cyclic ((wOf (l.getD k []) (decide (m = 1)))) A129 (by first | omega | (have := hlk (by omega); omega) | (rw [List.length_take]; omega) | (rw [List.length_append]; omega)) (hL.le le136)) ?_)
        rintro v141 A142 ⟨rfl, leq143, wfq143⟩
        have h144 := leq143.get _ _ h131
        have h145 := leq143.get _ _ h132
        have h146 := leq143.get _ _ h133
        have h147 := leq143.get _ _ h134
        have h148 := leq143.get _ _ h135
        have le149 := le136.trans leq143
        have ob150 := ob137.le leq143
        refine hk140 _ _ <| .q rfl (qmove rfl) <| .q rfl (qextract rfl rfl) <| .q rfl (qextract rfl rfl) <| .l rfl (fun _ _ hk151 _ => walloc wfq143 z9 rfl fun A153 b152 nb154 => ?_)
        have ne_b12_b152 := ne_new wfq143 h144 nb154.lo
        have ne_b19_b152 := ne_new wfq143 h145 nb154.lo
        have ne_b52_b152 := ne_new wfq143 h146 nb154.lo
        have ne_b69_b152 := ne_new wfq143 h147 nb154.lo
        have ne_b91_b152 := ne_new wfq143 h148 nb154.lo
        have ge_b152 := none_of wf (Nat.le_trans le149.n nb154.lo)
        have h155 := nb154.le.get _ _ h144
        have h156 := nb154.le.get _ _ h145
        have h157 := nb154.le.get _ _ h146
        have h158 := nb154.le.get _ _ h147
        have h159 := nb154.le.get _ _ h148
        have le160 := le149.trans nb154.le
        have ob161 := ob150.le nb154.le
        refine hk151 _ _ <| .q rfl (qassign rfl) <| .l rfl (fun _ _ hk162 _ => wstore (cs := [str (wConj ((wOf (l.getD k []) (decide (m = 1)))))]) (c' := [str (wConj ((wOf (l.getD k []) (decide (m = 1)))))]) nb154.wf rfl rfl rfl rfl sz9 nb154.get (Nat.le_of_ble_eq_true rfl) rfl rfl fun A163 sb164 => ?_)
        have h165 := sb164.keep _ _ ne_b12_b152 h155
        have h166 := sb164.keep _ _ ne_b19_b152 h156
        have h167 := sb164.keep _ _ ne_b52_b152 h157
        have h168 := sb164.keep _ _ ne_b69_b152 h158
        have h169 := sb164.keep _ _ ne_b91_b152 h159
        have ob170 := ob161.set nb154.get sb164.n sb164.keep
        have le171 := le_store le160 wf ge_b152 sb164.n sb164.keep
        refine hk162 _ _ <| .nil <| h139 _ _ <| .seq fun K172 h173 => .region <| .q rfl (qmove rfl) <| .l rfl (fun _ _ hk174 _ => vcallF rfl (s_rotations (wCore ((wOf (l.getD k []) (decide (m = 1))))) A163) ?_)
        rintro v175 A176 ⟨b1q177, rfl, leq177, wfq177, hAq177⟩
        have h178 := leq177.get _ _ h165
        have h179 := leq177.get _ _ h166
        have h180 := leq177.get _ _ h167
        have h181 := leq177.get _ _ h168
        have h182 := leq177.get _ _ h169
        have h183 := leq177.get _ _ sb164.get
        have le184 := le171.trans leq177
        have ob185 := ob170.le leq177
        have hA := hAq177
        refine hk174 _ _ <| .nil <| h173 _ _ <| .block ?_
        have hx186_b19 := hide_get (bs := [some b12]) h179 (nmB (by rintro rfl; have q1 := h178; rw [h179] at q1; cases q1) nm0)
        have hx186_b52 := hide_get (bs := [some b12]) h180 (nmB (by rintro rfl; have q1 := h178; rw [h180] at q1; cases q1) nm0)
        have hx186_b69 := hide_get (bs := [some b12]) h181 (nmB (by rintro rfl; have q1 := h178; rw [h181] at q1; cases q1) nm0)
        have hx186_b91 := hide_get (bs := [some b12]) h182 (nmB (by rintro rfl; have q1 := h178; rw [h182] at q1; cases q1) nm0)
        have hx186_b152 := hide_get (bs := [some b12]) h183 (nmB (by rintro rfl; have q1 := h178; rw [h183] at q1; cases q1) nm0)
        have hx186_b1q177 := hide_get (bs := [some b12]) hAq177 (nmB (by rintro rfl; have q1 := h178; rw [hAq177] at q1; cases q1) nm0)
        have lM186 := Lets.hideLe hL le184 h178
        have lb186 := le_hide (bs := [some b12]) le184 (hoB ge_b12 ho0)
        have lt186 := wfq177 _ _ h178
        have df186 := hdf77.objs ob185
        refine Run.rangeFunc (wCore (wOf (l.getD k []) (decide (m = 1)))).length (fun j => [str ((wCore (wOf (l.getD k []) (decide (m = 1)))).take j), str ((wCore (wOf (l.getD k []) (decide (m = 1)))).drop j ++ (wCore (wOf (l.getD k []) (decide (m = 1)))).take j)]) (fun j B => (A176.hide [some b12]).le B ∧ B.get b12 = some (.obj true (mobj (addJ k (decide (m = 1)) (wCore (wOf (l.getD k []) (decide (m = 1)))) (wConj (wOf (l.getD k []) (decide (m = 1)))) E2 j)))) (fun j => [(11, str ((wCore (wOf (l.getD k []) (decide (m = 1)))).take j)), (12, str ((wCore (wOf (l.getD k []) (decide (m = 1)))).drop j ++ (wCore (wOf (l.getD k []) (decide (m = 1)))).take j)), (3, .pointer (some ⟨b19, 0, none⟩)), (4, .pointer (some ⟨b52, 0, none⟩)), (37, .pointer (some ⟨b69, 0 + m * 1, none⟩)), (7, .pointer (some ⟨b91, 0, none⟩)), (10, .pointer (some ⟨b152, 0, none⟩))]) rfl Tryd.call65 (fun _ => rfl) (by decide) ?_ ?_ ?_ ?_ ?_ ?_
        · rintro j B B2 ⟨i1, i2⟩ wf2 hn hk
          exact ⟨⟨Nat.le_trans i1.n hn, fun b o g => hk b o (hide_wf wfq177 b o g) (i1.get b o g)⟩, hk _ _ lt186 i2⟩
        · exact ⟨hide_le _ _, h178⟩
        · intro lp J B hJI _ wfB hJ0 hyd
          exact s_rot1 (wCore (wOf (l.getD k []) (decide (m = 1)))) b1q177 lp J B (by have := wCore_length (wOf (l.getD k []) (decide (m = 1))); have := wOf_length (l.getD k []) (decide (m = 1)); omega) (fun i C hj => ⟨_, _, (hJI i C hj).1.get _ _ hx186_b1q177⟩) wfB hJ0 hyd
        · intro F j B hF hj
          refine RunI.seq fun K187 h188 => .region hF (by repeat' first | with_reducible exact no_roundQ | with_reducible apply no_thenQ | with_reducible apply no_blockQ) (by kernel_rfl) <| .q rfl (qassign rfl) <| .nil <| h188 _ _ <| .region hF (by repeat' first | with_reducible exact no_roundQ | with_reducible apply no_thenQ | with_reducible apply no_blockQ) (by kernel_rfl) <| .q rfl (qassign rfl) <| .nil ?_
          exact ⟨EnvLe.cons rfl <| EnvLe.cons rfl <| EnvLe.cons rfl <| EnvLe.cons rfl <| EnvLe.cons rfl <| EnvLe.cons rfl <| EnvLe.cons rfl <| EnvLe.nil _, rfl, rfl⟩
        · rintro F j B lr dr rl rd hF hj ⟨i1, i2⟩ wfB glr gdr hlr hdr
          generalize hM : (A176.hide [some b12]) = M at i1 lb186 lM186 hx186_b19 hx186_b52 hx186_b69 hx186_b91 hx186_b152 hx186_b1q177
          have wfM : M.wf := by rw [← hM]; exact hide_wf wfq177
          have noM : M.get b12 = none := by rw [← hM]; exact hide_none (by simp)
          have ne_l0_b12 : lr ≠ b12 := by omega
          have ne_l00_b12 : dr ≠ b12 := by omega
          have hEj := addJ_len k (decide (m = 1)) (wCore (wOf (l.getD k []) (decide (m = 1)))) (wConj (wOf (l.getD k []) (decide (m = 1)))) E2 j
          have hcl := wCore_length (wOf (l.getD k []) (decide (m = 1)))
          have hwl := wOf_length (l.getD k []) (decide (m = 1))
          have hlk1 := hlk (by omega)
          have hq3 : (wConj (wOf (l.getD k []) (decide (m = 1)))).length ≤ 200 := by have := wConj_length (wOf (l.getD k []) (decide (m = 1))); omega
          have hq1 : (wInverse ((wCore (wOf (l.getD k []) (decide (m = 1)))).take j)).length ≤ 200 := by have := wInverse_length ((wCore (wOf (l.getD k []) (decide (m = 1)))).take j); rw [List.length_take] at this; omega
          have hq2 : (wInverse (wConj (wOf (l.getD k []) (decide (m = 1))))).length ≤ 200 := by have := wInverse_length (wConj (wOf (l.getD k []) (decide (m = 1)))); omega
          refine RunI.block <| .seq fun K189 h190 => .region hF (by repeat' first | with_reducible exact no_roundQ | with_reducible apply no_thenQ | with_reducible apply no_blockQ) (by kernel_rfl) <| .q rfl (qloadAt ag75 rfl rfl (i1.get _ _ hx186_b19) rfl) <| .q rfl (qmove rfl) <| .l rfl (fun _ _ hk191 _ => wlookupS rfl rfl u75 u9 z80 i2 (fun y hmem hmw => ?_) (fun hnew => ?_))
          ·
            refine hk191 _ _ <| .q rfl (qmove rfl) <| .q rfl (qextract rfl rfl) <| .q rfl (qextract rfl rfl) <| .l rfl (fun _ _ hk192 _ => walloc wfB z80 rfl fun A194 b193 nb195 => ?_)
            have ne_b12_b193 := ne_new wfB i2 nb195.lo
            have ne_l0_b193 := ne_new wfB hlr nb195.lo
            have ne_l00_b193 := ne_new wfB hdr nb195.lo
            have ge_b193 := none_of wfM (Nat.le_trans i1.n nb195.lo)
            have h196 := nb195.le.get _ _ i2
            have h197 := nb195.le.get _ _ hlr
            have h198 := nb195.le.get _ _ hdr
            have le199 := i1.trans nb195.le
            refine hk192 _ _ <| .l rfl (fun _ _ hk200 _ => wstore (cs := [str (y.w), str (y.c), num ((y.r : Nat) : Int), .bool (y.i)]) (c' := [str (y.w), str (y.c), num ((y.r : Nat) : Int), .bool (y.i)]) nb195.wf rfl rfl rfl rfl sz80 nb195.get (Nat.le_of_ble_eq_true rfl) rfl rfl fun A201 sb202 => ?_)
            have h203 := sb202.keep _ _ ne_b12_b193 h196
            have h204 := sb202.keep _ _ ne_l0_b193 h197
            have h205 := sb202.keep _ _ ne_l00_b193 h198
            have le206 := le_store le199 wfM ge_b193 sb202.n sb202.keep
            refine hk200 _ _ <| .q rfl (qassign rfl) <| .nil <| h190 _ _ <| .seq fun K207 h208 => .region hF (by repeat' first | with_reducible exact no_roundQ | with_reducible apply no_thenQ | with_reducible apply no_blockQ) (by kernel_rfl) <| .q rfl (qmove rfl) <| .q rfl (qnot rfl) <| .nil <| h208 _ _ ?_
            refine RunI.cond_false rfl <| .skip ?_
            exact ⟨⟨le206, by rw [addJ_succ]; exact (addE_met (x := mkR k (decide (m = 1)) (wCore (wOf (l.getD k []) (decide (m = 1)))) (wConj (wOf (l.getD k []) (decide (m = 1)))) j) hmem hmw).symm ▸ h203⟩, sb202.wf, h204, h205⟩
          ·
            refine hk191 _ _ <| .q rfl (qmove rfl) <| .q rfl (qextract rfl rfl) <| .q rfl (qextract rfl rfl) <| .l rfl (fun _ _ hk209 _ => walloc wfB z80 rfl fun A211 b210 nb212 => ?_)
            have ne_b12_b210 := ne_new wfB i2 nb212.lo
            have ne_l0_b210 := ne_new wfB hlr nb212.lo
            have ne_l00_b210 := ne_new wfB hdr nb212.lo
            have ge_b210 := none_of wfM (Nat.le_trans i1.n nb212.lo)
            have h213 := nb212.le.get _ _ i2
            have h214 := nb212.le.get _ _ hlr
            have h215 := nb212.le.get _ _ hdr
            have le216 := i1.trans nb212.le
            refine hk209 _ _ <| .l rfl (fun _ _ hk217 _ => wstore (cs := [str ([]), str ([]), num ((0 : Nat) : Int), .bool (false)]) (c' := [str ([]), str ([]), num ((0 : Nat) : Int), .bool (false)]) nb212.wf rfl rfl rfl rfl sz80 nb212.get (Nat.le_of_ble_eq_true rfl) rfl rfl fun A218 sb219 => ?_)
            have h220 := sb219.keep _ _ ne_b12_b210 h213
            have h221 := sb219.keep _ _ ne_l0_b210 h214
            have h222 := sb219.keep _ _ ne_l00_b210 h215
            have le223 := le_store le216 wfM ge_b210 sb219.n sb219.keep
            refine hk217 _ _ <| .q rfl (qassign rfl) <| .nil <| h190 _ _ <| .seq fun K224 h225 => .region hF (by repeat' first | with_reducible exact no_roundQ | with_reducible apply no_thenQ | with_reducible apply no_blockQ) (by kernel_rfl) <| .q rfl (qmove rfl) <| .q rfl (qnot rfl) <| .nil <| h225 _ _ ?_
            refine RunI.cond_true rfl <| .drawn [0, 1, 2, 3, 5, 9, 10, 4, 6, 7, 8, 11, 12] hF (by repeat' first | with_reducible exact no_roundQ | with_reducible apply no_thenQ | with_reducible apply no_blockQ) (by kernel_rfl) mixed (by kernel_rfl) (by kernel_rfl) rfl ?_
            have hc226 := cellOf (off := 0) (le223.get _ _ hx186_b19) (show _ = some (.map (some b12)) from rfl)
            refine DOps.q rfl rfl rfl (qloadAt ag75 rfl rfl (le223.get _ _ hx186_b19) rfl) <| .q rfl rfl rfl (qmove rfl) <| .q rfl rfl rfl (qmove rfl) <| .q rfl rfl rfl (qmove rfl) ?_
            have hc227 := cellOf (off := 0) (le223.get _ _ hx186_b152) (show _ = some (str (wConj ((wOf (l.getD k []) (decide (m = 1)))))) from rfl)
            refine DOps.q rfl rfl rfl (qloadAt ag9 rfl rfl (le223.get _ _ hx186_b152) rfl) ?_
            have hc228 := cellOf (off := 0) (le223.get _ _ hx186_b52) (show _ = some (num ((k : Nat) : Int)) from rfl)
            refine DOps.q rfl rfl rfl (qloadAt ag3 rfl rfl (le223.get _ _ hx186_b52) rfl) ?_
            have hc229 := cellOf (off := 0) (le223.get _ _ hx186_b91) (show _ = some (.bool (decide (m = 1))) from rfl)
            refine DOps.q rfl rfl rfl (qloadAt ag4 rfl rfl (le223.get _ _ hx186_b91) rfl) <| .l rfl rfl rfl (fun _ _ hk230 _ => vcallF rfl (s_Inverse ((wCore (wOf (l.getD k []) (decide (m = 1)))).take j) A218 (by first | omega | (have := hlk (by omega); omega) | (rw [List.length_take]; omega) | (rw [List.length_append]; omega)) (lM186.le le223)) ?_)
            rintro v231 A232 ⟨rfl, leq233, wfq233⟩
            have h234 := leq233.get _ _ h220
            have h235 := leq233.get _ _ h221
            have h236 := leq233.get _ _ h222
            have hc238 := cell_le leq233 hc226
            have hc239 := cell_le leq233 hc227
            have hc240 := cell_le leq233 hc228
            have hc241 := cell_le leq233 hc229
            have le242 := le223.trans leq233
            refine hk230 _ _ (HeldNow.list (L := [(⟨b91, 0, none⟩, .bool (decide (m = 1))), (⟨b52, 0, none⟩, num ((k : Nat) : Int)), (⟨b152, 0, none⟩, str (wConj ((wOf (l.getD k []) (decide (m = 1)))))), (⟨b19, 0, none⟩, .map (some b12))]) (by kernel_rfl) (heldCons hc241 (heldCons hc240 (heldCons hc239 (heldCons hc238 heldNil))))) <| .l rfl rfl rfl (fun _ _ hk243 _ => vcallF rfl (s_Inverse (wConj ((wOf (l.getD k []) (decide (m = 1))))) A232 (by first | omega | (have := hlk (by omega); omega) | (rw [List.length_take]; omega) | (rw [List.length_append]; omega)) (lM186.le le242)) ?_)
            rintro v244 A245 ⟨rfl, leq246, wfq246⟩
            have h247 := leq246.get _ _ h234
            have h248 := leq246.get _ _ h235
            have h249 := leq246.get _ _ h236
            have hc251 := cell_le leq246 hc238
            have hc253 := cell_le leq246 hc240
            have hc254 := cell_le leq246 hc241
            have le255 := le242.trans leq246
            refine hk243 _ _ (HeldNow.list (L := [(⟨b91, 0, none⟩, .bool (decide (m = 1))), (⟨b52, 0, none⟩, num ((k : Nat) : Int)), (⟨b19, 0, none⟩, .map (some b12))]) (by kernel_rfl) (heldCons hc254 (heldCons hc253 (heldCons hc251 heldNil)))) <| .q rfl rfl rfl (qsadd rfl rfl (by (try simp only [List.length_append, List.length_drop, List.length_take]); omega)) <| .l rfl rfl rfl (fun _ _ hk256 _ => vcallF rfl (s_Reduce ((wInverse ((wCore (wOf (l.getD k []) (decide (m = 1)))).take j)) ++ (wInverse (wConj ((wOf (l.getD k []) (decide (m = 1))))))) A245 (by first | omega | (have := hlk (by omega); omega) | (rw [List.length_take]; omega) | (rw [List.length_append]; omega)) (lM186.le le255)) ?_)
            rintro v257 A258 ⟨rfl, leq259, wfq259⟩
            have h260 := leq259.get _ _ h247
            have h261 := leq259.get _ _ h248
            have h262 := leq259.get _ _ h249
            have hc264 := cell_le leq259 hc251
            have hc265 := cell_le leq259 hc253
            have hc266 := cell_le leq259 hc254
            have le267 := le255.trans leq259
            refine hk256 _ _ (HeldNow.list (L := [(⟨b91, 0, none⟩, .bool (decide (m = 1))), (⟨b52, 0, none⟩, num ((k : Nat) : Int)), (⟨b19, 0, none⟩, .map (some b12))]) (by kernel_rfl) (heldCons hc266 (heldCons hc265 (heldCons hc264 heldNil)))) <| .q rfl rfl rfl (qbuild rfl (buildV_struct u80 z80 pl80 rfl)) <| .l rfl rfl rfl (fun _ _ hk268 _ => wupdateS (r := (mkR k (decide (m = 1)) (wCore (wOf (l.getD k []) (decide (m = 1)))) (wConj (wOf (l.getD k []) (decide (m = 1)))) j)) wfq259 rfl rfl rfl rfl u75 u9 h260 hnew fun A269 sb270 => ?_)
            have h271 := sb270.keep _ _ ne_l0_b12 h261
            have h272 := sb270.keep _ _ ne_l00_b12 h262
            have le274 := le_store le267 wfM noM sb270.n sb270.keep
            refine hk268 _ _ (HeldNow.none (by kernel_rfl)) <| .done ?_
            exact ⟨⟨le274, by rw [addJ_succ]; exact (addE_new (x := mkR k (decide (m = 1)) (wCore (wOf (l.getD k []) (decide (m = 1)))) (wConj (wOf (l.getD k []) (decide (m = 1)))) j) hnew).symm ▸ sb270.get⟩, sb270.wf, h271, h272⟩
        · rintro A275 Dq276 ⟨i1, i2⟩ wfq276 gD nD hD
          have leq276 := lb186.trans i1
          have h277 := i1.get _ _ hx186_b19
          have h278 := i1.get _ _ hx186_b52
          have h279 := i1.get _ _ hx186_b69
          have dfq276 : Defs A A275 (Dq276 :: Ds) := Defs.push df186 le184 hD (fun b o g => i1.get _ _ (hide_get g (nmB (by rintro rfl; have q1 := h178; rw [g] at q1; cases q1) nm0))) (by cases q1 : A176.get Dq276 with | none => rfl | some o => exact absurd (wfq177 _ _ q1) (by omega))
          have h283 := i2
          have ob284 := Objs.refl A275
          refine h87 _ _ <| .region <| .q rfl (qaddN (b := 1) rfl rfl (by omega)) <| .q rfl (qmove rfl) <| .nil ?_
          exact ⟨⟨m + 1, addV k (l.getD k []) E2 (decide (m = 1)), Dq276 :: Ds⟩, EnvLe.cons rfl <| EnvLe.cons rfl <| EnvLe.cons rfl <| EnvLe.cons rfl <| EnvLe.cons rfl <| EnvLe.cons rfl <| EnvLe.cons rfl <| EnvLe.cons rfl <| EnvLe.cons rfl <| EnvLe.nil _, rfl, ⟨⟨by omega, by rw [List.range_succ, List.foldl_append, ← hE2]; rfl, by have := addJ_len k (decide (m = 1)) (wCore (wOf (l.getD k []) (decide (m = 1)))) (wConj (wOf (l.getD k []) (decide (m = 1)))) E2 (wCore (wOf (l.getD k []) (decide (m = 1)))).length; have := wCore_length (wOf (l.getD k []) (decide (m = 1))); have h0 := hwl; have h1 := hlk (by omega); unfold addV; omega⟩, leq276, h283, h277, h278, h279, (dfq276.objs ob284)⟩, (by (try dsimp only); omega)⟩
    ·
      refine Run.exit <| h47 _ _ <| .region <| .q rfl (qaddN (b := 1) rfl rfl (by omega)) <| .q rfl (qmove rfl) <| .nil ?_
      exact ⟨⟨k + 1, E2, Ds⟩, EnvLe.cons rfl <| EnvLe.cons rfl <| EnvLe.cons rfl <| EnvLe.cons rfl <| EnvLe.nil _, rfl, ⟨⟨by omega, by rw [List.range_succ, List.foldl_append, ← hE, hE2, show m = 2 by omega]; rfl, by omega⟩, le77, hr_b1277, hr_b1977, (hdf77.objs ob80)⟩, (by (try dsimp only); omega)⟩
  ·
    refine Run.exit <| h34 _ _ <| .seq fun K285 h286 => .region <| .l rfl (fun _ _ hk287 _ => wmakeMap wf39 fun A289 b288 nb290 => ?_)
    have ge_b288 := none_of wf (Nat.le_trans le37.n nb290.lo)
    have h291 := nb290.le.get _ _ hr_b1237
    have h292 := nb290.le.get _ _ hr_b1937
    have le293 := le37.trans nb290.le
    have ob294 := ob40.le nb290.le
    refine hk287 _ _ <| .q rfl (qbuild rfl (buildV_struct u84 z84 pl84 rfl)) <| .l rfl (fun _ _ hk295 _ => wbuildSlice (c := [.map (some b288), num (-1)]) nb290.wf rfl (buildSliceV_of u85 sz84 z84 rfl (by decide) (by decide) rfl) fun A297 b296 nb298 => ?_)
    have ne_b12_b296 := ne_new nb290.wf h291 nb298.lo
    have ne_b288_b296 := ne_new nb290.wf nb290.get nb298.lo
    have ge_b296 := none_of wf (Nat.le_trans le293.n nb298.lo)
    have h299 := nb298.le.get _ _ h291
    have h300 := nb298.le.get _ _ h292
    have h301 := nb298.le.get _ _ nb290.get
    have le302 := le293.trans nb298.le
    have ob303 := ob294.le nb298.le
    refine hk295 _ _ <| .q rfl (qbuild rfl (buildV_struct u88 z88 pl88 rfl)) <| .l rfl (fun _ _ hk304 _ => wbox nb298.wf rfl rfl fun A306 b305 nb307 => ?_)
    have ne_b12_b305 := ne_new nb298.wf h299 nb307.lo
    have ne_b288_b305 := ne_new nb298.wf h301 nb307.lo
    have ne_b296_b305 := ne_new nb298.wf nb298.get nb307.lo
    have ge_b305 := none_of wf (Nat.le_trans le302.n nb307.lo)
    have h308 := nb307.le.get _ _ h299
    have h309 := nb307.le.get _ _ h300
    have h310 := nb307.le.get _ _ h301
    have h311 := nb307.le.get _ _ nb298.get
    have le312 := le302.trans nb307.le
    have ob313 := ob303.le nb307.le
    refine hk304 _ _ <| .q rfl (qassign rfl) <| .nil ?_
    have fr314 : Fresh A A306 (.slice (some ⟨b296, 0, none⟩) 1 1) 2 (ncells [(b288, -1)]) := Fresh.lit h311 ge_b296 rfl (Nat.le_refl _)
    have hEsh : ∀ x ∈ E, okR x := fun x hx => allR_ok hp x ((show E = allR l by rw [hE, show k = l.length by omega]; rfl) ▸ hx)
    have hE400 : E.length ≤ 24000 := by have := hz.2.1; omega
    refine h286 _ _ <| .seq fun K315 h316 => .seq fun K317 h318 => .region <| .q rfl (qloadAt ag75 rfl rfl h309 rfl) <| .l rfl (fun _ _ hk319 _ => wrangeM (E := E) nb307.wf rfl u75 h308 fun A320 b321 nb322 => ?_)
    have ne_b12_b321 := ne_new nb307.wf h308 nb322.lo
    have ne_b288_b321 := ne_new nb307.wf h310 nb322.lo
    have ne_b305_b321 := ne_new nb307.wf nb307.get nb322.lo
    have no323 := fr314.own.ne_new nb307.wf nb322.lo
    have ge_b321 := none_of wf (Nat.le_trans le312.n nb322.lo)
    have h324 := nb322.le.get _ _ h308
    have h326 := nb322.le.get _ _ h310
    have h327 := nb322.le.get _ _ nb307.get
    have fr328 := fr314.le nb322.le
    have le329 := le312.trans nb322.le
    have ob330 := ob313.le nb322.le
    refine hk319 _ _ <| .nil <| h318 _ _ <| .block <| .loopD (X := List Nat × List Rot × Nat × Value × List Nat) (fun ⟨idx, L, mo, lv, Ds⟩ => [(15, .pointer (some ⟨b305, 0, none⟩)), (80, .pointer (some ⟨b321, 0, none⟩))]) (fun ⟨idx, L, mo, lv, Ds⟩ => Ds.map V.mark) (fun ⟨idx, L, mo, lv, Ds⟩ B => (L = idx.map (fun j => E.getD j .zero) ∧ idx.Nodup ∧ (∀ j ∈ idx, j < E.length) ∧ (∀ x ∈ L, x.w.length ≤ mo) ∧ mo ≤ 200 ∧ L.length ≤ 30000) ∧ A.le B ∧ Fresh A B lv 4 (rcells L) ∧ Fresh A B (.slice (some ⟨b296, 0, none⟩) 1 1) 2 (ncells ([(b288, -1)])) ∧ B.get b12 = some (.obj true (mobj E)) ∧ B.get b288 = some (.obj true (.map #[] 0)) ∧ B.get b321 = some (.obj true (.mapIter (some b12) E.length idx.toArray E.length)) ∧ B.get b305 = some (.row true [lv, .slice (some ⟨b296, 0, none⟩) 1 1, num ((mo : Nat) : Int)] 3) ∧ V.blk lv ≠ some b12 ∧ V.blk (.slice (some ⟨b296, 0, none⟩) 1 1) ≠ some b12 ∧ V.blk lv ≠ some b288 ∧ V.blk (.slice (some ⟨b296, 0, none⟩) 1 1) ≠ some b288 ∧ V.blk lv ≠ some b321 ∧ V.blk (.slice (some ⟨b296, 0, none⟩) 1 1) ≠ some b321 ∧ V.blk lv ≠ some b305 ∧ V.blk (.slice (some ⟨b296, 0, none⟩) 1 1) ≠ some b305 ∧ Sep lv (.slice (some ⟨b296, 0, none⟩) 1 1) ∧ Defs A B Ds) (fun ⟨idx, L, mo, lv, Ds⟩ => E.length - idx.length) (⟨[], [], 0, .slice none 0 0, Ds⟩) (EnvLe.cons rfl <| EnvLe.cons rfl <| EnvLe.nil _) rfl (⟨⟨rfl, List.Pairwise.nil, (fun _ h => by cases h), (fun _ h => by cases h), by omega, by decide⟩, le329, (Fresh.nil A A320 4), fr328, h324, h326, nb322.get, h327, (fun q => by cases q), (fun q => by cases q; exact ne_b12_b296 rfl), (fun q => by cases q), (fun q => by cases q; exact ne_b288_b296 rfl), (fun q => by cases q), no323, (fun q => by cases q), (fun q => by cases q; exact ne_b296_b305.symm rfl), Sep.nil, (hdf37.objs ob330)⟩) ?_
    rintro ⟨idx, L, mo, lv, Ds⟩ B332 ⟨⟨hL1, hL2, hL3, hL4, hL5, hL6⟩, le331, fr_lv331, fk_nodes0331, hr_b12331, hr_b288331, hr_b321331, hr_b305331, no_lv_b12331, no_nodes0_b12331, no_lv_b288331, no_nodes0_b288331, no_lv_b321331, no_nodes0_b321331, no_lv_b305331, no_nodes0_b305331, sq331_0_1, hdf331⟩
    refine Run.wf fun wf333 => ?_
    have ob334 := Objs.refl B332
    have hEw := fun j (q : j < E.length) => hEsh _ (getD_mem (d := Rot.zero) q)
    have hil := nodup_bound _ _ hL2 hL3
    have hLl : L.length = idx.length := by rw [hL1]; simp
    refine Run.seq fun K335 h336 => .region <| .l rfl (fun _ _ hk337 _ => wnextM (E := E) (idx := idx) wf333 rfl hr_b321331 hr_b12331 ne_b12_b321 (fun kk hkk hki A338 sb339 => ?_) (fun hall => ?_))
    ·
      have df340 := Defs.keep (hdf331.objs ob334) sb339.keep hr_b321331 (fun q => by cases q)
      have h341 := sb339.keep _ _ ne_b12_b321 hr_b12331
      have h342 := sb339.keep _ _ ne_b288_b321 hr_b288331
      have h343 := sb339.keep _ _ ne_b305_b321 hr_b305331
      have fr344 := fr_lv331.keep sb339.keep no_lv_b321331
      have fr345 := fk_nodes0331.keep sb339.keep no_nodes0_b321331
      have le346 := le_store le331 wf ge_b321 sb339.n sb339.keep
      have ob347 := Objs.refl A338
      refine hk337 _ _ <| .q rfl (qextract rfl rfl) <| .nil <| h336 _ _ <| .seq fun K348 h349 => .cond_true rfl <| .skip <| h349 _ _ <| .block <| .seq fun K350 h351 => ?_
      refine Run.region <| .l rfl (fun _ _ hk352 _ => wentryM (E := E) (idx := idx) (k := kk) rfl sb339.get h341 ne_b12_b321 hkk ?_)
      refine hk352 _ _ <| .q rfl (qextract rfl rfl) <| .l rfl (fun _ _ hk353 _ => walloc sb339.wf z80 rfl fun A355 b354 nb356 => ?_)
      have ne_b12_b354 := ne_new sb339.wf h341 nb356.lo
      have ne_b288_b354 := ne_new sb339.wf h342 nb356.lo
      have ne_b321_b354 := ne_new sb339.wf sb339.get nb356.lo
      have ne_b305_b354 := ne_new sb339.wf h343 nb356.lo
      have no357 := fr344.own.ne_new sb339.wf nb356.lo
      have no358 := fr345.own.ne_new sb339.wf nb356.lo
      have ge_b354 := none_of wf (Nat.le_trans le346.n nb356.lo)
      have h359 := nb356.le.get _ _ h341
      have h360 := nb356.le.get _ _ h342
      have h361 := nb356.le.get _ _ sb339.get
      have h362 := nb356.le.get _ _ h343
      have fr363 := fr344.le nb356.le
      have fr364 := fr345.le nb356.le
      have le365 := le346.trans nb356.le
      have ob366 := ob347.le nb356.le
      refine hk353 _ _ <| .l rfl (fun _ _ hk367 _ => wstore (cs := [str ((E.getD kk .zero).w), str ((E.getD kk .zero).c), num (((E.getD kk .zero).r : Nat) : Int), .bool ((E.getD kk .zero).i)]) (c' := [str ((E.getD kk .zero).w), str ((E.getD kk .zero).c), num (((E.getD kk .zero).r : Nat) : Int), .bool ((E.getD kk .zero).i)]) nb356.wf rfl rfl rfl rfl sz80 nb356.get (Nat.le_of_ble_eq_true rfl) rfl rfl fun A368 sb369 => ?_)
      have h370 := sb369.keep _ _ ne_b12_b354 h359
      have h371 := sb369.keep _ _ ne_b288_b354 h360
      have h372 := sb369.keep _ _ ne_b321_b354 h361
      have h373 := sb369.keep _ _ ne_b305_b354 h362
      have fr374 := fr363.keep sb369.keep no357
      have fr375 := fr364.keep sb369.keep no358
      have ob376 := ob366.set nb356.get sb369.n sb369.keep
      have le377 := le_store le365 wf ge_b354 sb369.n sb369.keep
      refine hk367 _ _ <| .nil <| h351 _ _ <| .seq fun K378 h379 => .drawn [0, 1, 2, 3, 4, 5, 6, 7, 8, 9, 10] mixed (by kernel_rfl) (by kernel_rfl) rfl <| .q rfl rfl rfl (qmove rfl) <| .q rfl rfl rfl (qmove rfl) <| .q rfl rfl rfl (qnil rfl) <| .q rfl rfl rfl (qfieldAddr fl88_0 sz86 (by decide) rfl) ?_
      have hc380 := cellOf (off := 0) h373 (show _ = some (lv) from rfl)
      refine DOps.q rfl rfl rfl (qloadAt ag86 rfl rfl h373 rfl) <| .q rfl rfl rfl (qloadAggAt ag80 sz80 rfl rfl sb369.get rfl) <| .l rfl rfl rfl (fun _ _ hk385 _ => wbuildSlice (c := [str ((E.getD kk .zero).w), str ((E.getD kk .zero).c), num (((E.getD kk .zero).r : Nat) : Int), .bool ((E.getD kk .zero).i)]) sb369.wf rfl (buildSliceV_of u86 sz80 z80 rfl (by decide) (by decide) rfl) fun A387 b386 nb388 => ?_)
      have h391 := nb388.le.get _ _ h370
      have h392 := nb388.le.get _ _ h371
      have h393 := nb388.le.get _ _ h372
      have h394 := nb388.le.get _ _ h373
      have h395 := nb388.le.get _ _ sb369.get
      have fr396 := fr374.le nb388.le
      have fr397 := fr375.le nb388.le
      have hc398 := cell_le nb388.le hc380
      have le403 := le377.trans nb388.le
      have ob404 := ob376.le nb388.le
      refine hk385 _ _ (HeldNow.list (L := [(⟨b305, 0, none⟩, lv)]) (by kernel_rfl) (heldCons hc398 heldNil)) <| .l rfl rfl rfl (fun _ _ hk405 _ => wappend (ys := [str ((E.getD kk .zero).w), str ((E.getD kk .zero).c), num (((E.getD kk .zero).r : Nat) : Int), .bool ((E.getD kk .zero).i)]) rfl rfl u86 sz80 inf80 z80 rfl (by decide) u86 (fun _ h => by cases h) fr396.own (listOf_row (n := 1) nb388.get rfl) rfl rfl (by show (_ + _) * 48 ≤ _; simp only [rcells_length, List.length_cons, List.length_nil]; (try simp only [List.length_append, List.length_cons, List.length_nil]); omega) (by simp only [rcells_length, List.length_cons, List.length_nil]; (try simp only [List.length_append, List.length_cons, List.length_nil]); omega) fun A406 v407 ap408 => ?_)
      rw [show ([str ((E.getD kk .zero).w), str ((E.getD kk .zero).c), num (((E.getD kk .zero).r : Nat) : Int), .bool ((E.getD kk .zero).i)] : List Value) = rcells [⟨(E.getD kk .zero).w, (E.getD kk .zero).c, (E.getD kk .zero).r, (E.getD kk .zero).i⟩] from rfl, rcells_append] at ap408
      obtain ⟨fr411, le412⟩ := Fresh.grow fr396 le403 wf ap408
      have h413 := ap408.keep no_lv_b12331 h391
      have ne414 := ap408.ne no_lv_b12331 nb388.wf h391
      have h415 := ap408.keep no_lv_b288331 h392
      have ne416 := ap408.ne no_lv_b288331 nb388.wf h392
      have h417 := ap408.keep no_lv_b321331 h393
      have ne418 := ap408.ne no_lv_b321331 nb388.wf h393
      have h419 := ap408.keep no_lv_b305331 h394
      have ne420 := ap408.ne no_lv_b305331 nb388.wf h394
      have h421 := ap408.keep no357 h395
      have ob423 := ob404.appd fr396.own ap408
      have sp425 := Sep.appd (show Sep lv (.slice (some ⟨b296, 0, none⟩) 1 1) from sq331_0_1) fr397.own nb388.wf ap408
      have fr424 := fr397.appd ap408 sq331_0_1
      refine hk405 _ _ (HeldNow.none (by kernel_rfl)) <| .q rfl rfl rfl (qnil rfl) <| .q rfl rfl rfl (qfieldAddr fl88_0 sz86 (by decide) rfl) ?_
      obtain ⟨p428, l428, c428, q428, _⟩ := fr411.own.slice
      subst q428
      refine DOps.l rfl rfl rfl (fun _ _ hk427 _ => wstore (cs := [.slice p428 l428 c428]) (c' := [.slice p428 l428 c428, .slice (some ⟨b296, 0, none⟩) 1 1, num ((mo : Nat) : Int)]) ap408.wf rfl rfl rfl rfl sz86 h419 (Nat.le_of_ble_eq_true rfl) rfl rfl fun A429 sb430 => ?_)
      have h431 := sb430.keep _ _ ne_b12_b305 h413
      have h432 := sb430.keep _ _ ne_b288_b305 h415
      have h433 := sb430.keep _ _ ne_b305_b321.symm h417
      have h434 := sb430.keep _ _ ne_b305_b354.symm h421
      have fr435 := fr424.keep sb430.keep no_nodes0_b305331
      have fr436 := fr411.keep sb430.keep ne420
      have ob437 := ob423.set h419 sb430.n sb430.keep
      have le438 := le_store le412 wf ge_b305 sb430.n sb430.keep
      refine hk427 _ _ (HeldNow.none (by kernel_rfl)) <| .done <| h379 _ _ <| .drawn [0, 1, 2, 3, 4, 5, 6, 7, 8, 9, 10, 11] mixed (by kernel_rfl) (by kernel_rfl) rfl <| .q rfl rfl rfl (qmove rfl) <| .q rfl rfl rfl (qmove rfl) <| .q rfl rfl rfl (qnil rfl) <| .q rfl rfl rfl (qfieldAddr fl88_2 sz3 (by decide) rfl) <| .q rfl rfl rfl (qloadAt ag3 rfl rfl sb430.get rfl) <| .q rfl rfl rfl (qfieldAddr fl80_0 sz9 (by decide) rfl) ?_
      refine DOps.q rfl rfl rfl (qloadAt ag9 rfl rfl h434 rfl) <| .q rfl rfl rfl (qslen u9 rfl) <| .q rfl rfl rfl (qmaxN rfl rfl) <| .q rfl rfl rfl (qnil rfl) <| .q rfl rfl rfl (qfieldAddr fl88_2 sz3 (by decide) rfl) <| .l rfl rfl rfl (fun _ _ hk441 _ => wstore (cs := [num ((max mo (((E.getD kk .zero).w).length) : Nat) : Int)]) (c' := [.slice p428 l428 c428, .slice (some ⟨b296, 0, none⟩) 1 1, num ((max mo (((E.getD kk .zero).w).length) : Nat) : Int)]) sb430.wf rfl rfl rfl rfl sz3 sb430.get (Nat.le_of_ble_eq_true rfl) rfl rfl fun A442 sb443 => ?_)
      have h444 := sb443.keep _ _ ne_b12_b305 h431
      have h445 := sb443.keep _ _ ne_b288_b305 h432
      have h446 := sb443.keep _ _ ne_b305_b321.symm h433
      have fr448 := fr435.keep sb443.keep no_nodes0_b305331
      have fr449 := fr436.keep sb443.keep ne420
      have ob450 := ob437.set sb430.get sb443.n sb443.keep
      have le451 := le_store le438 wf ge_b305 sb443.n sb443.keep
      refine hk441 _ _ (HeldNow.none (by kernel_rfl)) <| .done ?_
      exact ⟨⟨idx ++ [kk], L ++ [⟨(E.getD kk .zero).w, (E.getD kk .zero).c, (E.getD kk .zero).r, (E.getD kk .zero).i⟩], max mo (((E.getD kk .zero).w).length), .slice p428 l428 c428, Ds⟩, EnvLe.cons rfl <| EnvLe.cons rfl <| EnvLe.nil _, rfl, ⟨⟨by rw [hL1]; simp, nodup_snoc hL2 hki, fun j hj => (List.mem_append.1 hj).elim (hL3 j) (fun q => by simp at q; omega), fun x hx => (List.mem_append.1 hx).elim (fun q => Nat.le_trans (hL4 x q) (Nat.le_max_left _ _)) (fun q => by simp at q; rw [q]; exact Nat.le_max_right _ _), by have := (hEw kk hkk).1; omega, by simp; omega⟩, le451, fr449, fr448, h444, h445, h446, sb443.get, ne414, no_nodes0_b12331, ne416, no_nodes0_b288331, ne418, no_nodes0_b321331, ne420, no_nodes0_b305331, sp425, (df340.objs ob450)⟩, (by have := nodup_bound _ _ (nodup_snoc hL2 hki) (fun j hj => (List.mem_append.1 hj).elim (hL3 j) (fun q => by simp at q; omega) : ∀ j ∈ idx ++ [kk], j < E.length); simp at this ⊢; omega)⟩
    ·
      refine hk337 _ _ <| .q rfl (qextract rfl rfl) <| .nil <| h336 _ _ <| .seq fun K452 h453 => .cond_false rfl <| .exit <| h316 _ _ <| .seq fun K454 h455 => .region ?_
      refine Ops.q rfl (qmove rfl) <| .q rfl (qnil rfl) <| .q rfl (qfieldAddr fl88_0 sz86 (by decide) rfl) <| .q rfl (qloadAt ag86 rfl rfl hr_b305331 rfl) ?_
      have hok1 : ∀ x ∈ L, okR x := by rw [hL1]; intro x hx; obtain ⟨j, hj, rfl⟩ := List.mem_map.1 hx; exact hEw j (hL3 j hj)
      have hperm : L.Perm E := by rw [hL1]; exact picks_perm hL2 hL3 hall
      have le460 := le_hide (bs := [blk lv]) le331 (hoV fr_lv331.lo ho0)
      refine Ops.l rfl (fun _ _ hk456 _ => vcallF rfl (s_sortW L lv (B332.hide [blk lv]) B332 (hide_le B332 [blk lv]) (hide_wf wf333) (fr_lv331.hide (by simp)) (hL.le le460) hok1 hL6) ?_)
      rintro v457 A458 ⟨L2q459, hpq459, hsq459, rfl, leq459, wfq459, foq459_0⟩
      have hg463 := hide_get (bs := [blk lv]) hr_b288331 (nmV no_lv_b288331 nm0)
      have h464 := leq459.get _ _ hg463
      have hg467 := hide_get (bs := [blk lv]) hr_b305331 (nmV no_lv_b305331 nm0)
      have h468 := leq459.get _ _ hg467
      have sp469 := foq459_0.sep fk_nodes0331.own (offV sq331_0_1 off0)
      have fr470 := fk_nodes0331.off (offV sq331_0_1 off0) leq459
      have fr471 := foq459_0.base le460
      have no475 := foq459_0.seph hg467
      have le476 := le460.trans leq459
      have ob477 := ob334.hideOwn fr_lv331.own leq459
      try (have hok2 : ∀ x ∈ L2q459, okR x := fun x hx => hok1 x (hpq459.mem_iff.1 hx))
      refine hk456 _ _ <| .nil <| h455 _ _ <| .seq fun K478 h479 => .seq fun K480 h481 => .region <| .q rfl (qmove rfl) <| .q rfl (qnil rfl) <| .q rfl (qfieldAddr fl88_0 sz86 (by decide) rfl) <| .q rfl (qloadAt ag86 rfl rfl h468 rfl) ?_
      refine Ops.q rfl (qlenS (n := L2q459.length) u86 rfl fr471.slc (by omega) (rcells_len _)) <| .q rfl (qmove rfl) <| .nil <| h481 _ _ <| .block <| .loopD (X := Nat × List (List UInt8) × List Int × List Nat × Value × List Nat) (fun ⟨i, pf, bs, bl, nv, Ds⟩ => [(15, .pointer (some ⟨b305, 0, none⟩)), (114, lv), (115, num ((L2q459.length : Nat) : Int)), (116, num ((i : Nat) : Int))]) (fun ⟨i, pf, bs, bl, nv, Ds⟩ => Ds.map V.mark) (fun ⟨i, pf, bs, bl, nv, Ds⟩ B => (i ≤ L2q459.length ∧ (pf, bs) = (List.range i).foldl (tword L2q459) ([[]], [-1]) ∧ bl.length = bs.length ∧ bs.length = pf.length ∧ PC pf ∧ pf.length ≤ 1 + 200 * i) ∧ A.le B ∧ Fresh A B nv 2 (ncells (bl.zip bs)) ∧ Fresh A B lv 4 (rcells L2q459) ∧ B.get b305 = some (.row true [lv, nv, num ((mo : Nat) : Int)] 3) ∧ V.blk nv ≠ some b305 ∧ V.blk lv ≠ some b305 ∧ Sep nv lv ∧ Defs A B Ds ∧ (Trie A B pf bl)) (fun ⟨i, pf, bs, bl, nv, Ds⟩ => L2q459.length - i) (⟨0, [[]], [-1], [b288], .slice (some ⟨b296, 0, none⟩) 1 1, Ds⟩) (EnvLe.cons rfl <| EnvLe.cons rfl <| EnvLe.cons rfl <| EnvLe.cons rfl <| EnvLe.nil _) rfl (⟨⟨Nat.zero_le _, rfl, rfl, rfl, PC.first, by simp⟩, le476, fr470, fr471, h468, no_nodes0_b305331, no475, (Sep.symm sp469), (hdf331.objs ob477), Trie.first h464 ge_b288⟩) ?_
      rintro ⟨i, pf, bs, bl, nv, Ds⟩ B483 ⟨⟨hi, ht, hbl, hbs, hpc, hpl⟩, le482, fr_nv482, fk_oq459_0482, hr_b305482, no_nv_b305482, no_oq459_0_b305482, sq482_0_1, hdf482, hT⟩
      refine Run.wf fun wf484 => ?_
      have ob485 := Objs.refl B483
      have hzl0 : (bl.zip bs).length = pf.length := by rw [List.length_zip]; omega
      have hwx := fun q : i < L2q459.length => (hok2 _ (getD_mem (d := Rot.zero) q)).1
      have hL2l : L2q459.length ≤ 30000 := by rw [hpq459.length_eq]; exact hL6
      refine Run.seq fun K486 h487 => .region <| .q rfl (qlssN rfl rfl) <| .nil <| h487 _ _ <| .seq fun K488 h489 => .if rfl (fun p490 => ?_) (fun p490 => ?_)
      ·
        refine Run.skip <| h489 _ _ <| .seq fun K491 h492 => .block <| .seq fun K493 h494 => .region <| .q rfl (qmove rfl) ?_
        obtain ⟨b495, f495, rw495, r495, rc495, n495, k495, e495, l495, g495, cl495, cs495⟩ := Slc.at (i := i) fk_oq459_0482.slc (by simp only [rcells_length]; omega) (by omega)
        refine Ops.q rfl (qindexS u86 sz80 rfl e495 rfl l495) <| .q rfl (qloadAggAt ag80 sz80 rfl rfl g495 (cl495.trans (congrArg some (rcells_at (by omega))))) <| .l rfl (fun _ _ hk496 _ => walloc wf484 z80 rfl fun A498 b497 nb499 => ?_)
        have ne_b305_b497 := ne_new wf484 hr_b305482 nb499.lo
        have no500 := fr_nv482.own.ne_new wf484 nb499.lo
        have no501 := fk_oq459_0482.own.ne_new wf484 nb499.lo
        have ge_b497 := none_of wf (Nat.le_trans le482.n nb499.lo)
        have h502 := nb499.le.get _ _ hr_b305482
        have fr503 := fr_nv482.le nb499.le
        have fr504 := fk_oq459_0482.le nb499.le
        have le505 := le482.trans nb499.le
        have ob506 := ob485.le nb499.le
        refine hk496 _ _ <| .q rfl (qassign rfl) <| .l rfl (fun _ _ hk507 _ => wstore (cs := [str ((L2q459.getD i .zero).w), str ((L2q459.getD i .zero).c), num (((L2q459.getD i .zero).r : Nat) : Int), .bool ((L2q459.getD i .zero).i)]) (c' := [str ((L2q459.getD i .zero).w), str ((L2q459.getD i .zero).c), num (((L2q459.getD i .zero).r : Nat) : Int), .bool ((L2q459.getD i .zero).i)]) nb499.wf rfl rfl rfl rfl sz80 nb499.get (Nat.le_of_ble_eq_true rfl) rfl rfl fun A508 sb509 => ?_)
        have h510 := sb509.keep _ _ ne_b305_b497 h502
        have fr511 := fr503.keep sb509.keep no500
        have fr512 := fr504.keep sb509.keep no501
        have ob513 := ob506.set nb499.get sb509.n sb509.keep
        have le514 := le_store le505 wf ge_b497 sb509.n sb509.keep
        refine hk507 _ _ <| .nil <| h494 _ _ <| .seq fun K515 h516 => .region <| .q rfl (qassign rfl) <| .nil <| h516 _ _ <| .seq fun K517 h518 => .region ?_
        refine Ops.q rfl (qfieldAddr fl80_0 sz9 (by decide) rfl) <| .q rfl (qloadAt ag9 rfl rfl sb509.get rfl) <| .q rfl (qslen u9 rfl) <| .q rfl (qmove rfl) <| .nil <| h518 _ _ <| .block <| .loopD (X := Nat × Nat × List (List UInt8) × List Int × List Nat × Value × List Nat) (fun ⟨k, nd, pf2, bs2, bl2, nv2, Ds⟩ => [(15, .pointer (some ⟨b305, 0, none⟩)), (18, num ((i : Nat) : Int)), (19, .pointer (some ⟨b497, 0, none⟩)), (20, num ((nd : Nat) : Int)), (114, lv), (115, num ((L2q459.length : Nat) : Int)), (116, num ((i : Nat) : Int)), (123, num ((((L2q459.getD i .zero).w).length : Nat) : Int)), (124, num ((k : Nat) : Int))]) (fun ⟨k, nd, pf2, bs2, bl2, nv2, Ds⟩ => Ds.map V.mark) (fun ⟨k, nd, pf2, bs2, bl2, nv2, Ds⟩ B => (k ≤ (L2q459.getD i .zero).w.length ∧ (pf2, bs2) = (List.range k).foldl (tstep (L2q459.getD i .zero).w i) (pf, bs) ∧ bl2.length = bs2.length ∧ bs2.length = pf2.length ∧ PC pf2 ∧ pf2.length ≤ pf.length + k ∧ (L2q459.getD i .zero).w.take k ∈ pf2 ∧ nd = pf2.idxOf ((L2q459.getD i .zero).w.take k)) ∧ A.le B ∧ Fresh A B nv2 2 (ncells (bl2.zip bs2)) ∧ Fresh A B lv 4 (rcells L2q459) ∧ B.get b305 = some (.row true [lv, nv2, num ((mo : Nat) : Int)] 3) ∧ B.get b497 = some (.row true [str ((L2q459.getD i .zero).w), str ((L2q459.getD i .zero).c), num (((L2q459.getD i .zero).r : Nat) : Int), .bool ((L2q459.getD i .zero).i)] 4) ∧ V.blk nv2 ≠ some b305 ∧ V.blk lv ≠ some b305 ∧ V.blk nv2 ≠ some b497 ∧ V.blk lv ≠ some b497 ∧ Sep nv2 lv ∧ Defs A B Ds ∧ (Trie A B pf2 bl2)) (fun ⟨k, nd, pf2, bs2, bl2, nv2, Ds⟩ => (L2q459.getD i .zero).w.length - k) (⟨0, 0, pf, bs, bl, nv, Ds⟩) (EnvLe.cons rfl <| EnvLe.cons rfl <| EnvLe.cons rfl <| EnvLe.cons rfl <| EnvLe.cons rfl <| EnvLe.cons rfl <| EnvLe.cons rfl <| EnvLe.cons rfl <| EnvLe.cons rfl <| EnvLe.nil _) rfl (⟨⟨Nat.zero_le _, rfl, hbl, hbs, hpc, Nat.le_refl _, (by simpa using hpc.mem0), (by simpa using hpc.idx0.symm)⟩, le514, fr511, fr512, h510, sb509.get, no_nv_b305482, no_oq459_0_b305482, no500, no501, sq482_0_1, (hdf482.objs ob513), (hT.objs ob513)⟩) ?_
        rintro ⟨k, nd, pf2, bs2, bl2, nv2, Ds⟩ B520 ⟨⟨hk4, ht2, hbl2, hbs2, hpc2, hpl2, hp, hq⟩, le519, fr_nv2519, fk_oq459_0519, hr_b305519, hr_b497519, no_nv2_b305519, no_oq459_0_b305519, no_nv2_b497519, no_oq459_0_b497519, sq519_0_1, hdf519, hT2⟩
        refine Run.wf fun wf521 => ?_
        have ob522 := Objs.refl B520
        have hndl : nd < pf2.length := hq ▸ idxOf_lt hp
        have hzl : (bl2.zip bs2).length = pf2.length := by rw [List.length_zip]; omega
        have hw200 := hwx (by omega)
        refine Run.seq fun K523 h524 => .region <| .q rfl (qlssN rfl rfl) <| .nil <| h524 _ _ <| .seq fun K525 h526 => .if rfl (fun p527 => ?_) (fun p527 => ?_)
        ·
          refine Run.skip <| h526 _ _ <| .seq fun K528 h529 => .block <| .seq fun K530 h531 => .region <| .q rfl (qmove rfl) <| .q rfl (qassign rfl) <| .nil <| h531 _ _ ?_
          refine Run.seq fun K532 h533 => .drawn [0, 1, 2, 3, 4, 5, 6, 7, 8, 9, 10, 11, 12, 13, 14, 15, 16, 17] mixed (by kernel_rfl) (by kernel_rfl) rfl <| .q rfl rfl rfl (qmove rfl) <| .q rfl rfl rfl (qnil rfl) <| .q rfl rfl rfl (qfieldAddr fl88_1 sz85 (by decide) rfl) <| .q rfl rfl rfl (qloadAt ag85 rfl rfl hr_b305519 rfl) <| .q rfl rfl rfl (qmove rfl) ?_
          obtain ⟨b535, f535, rw535, r535, rc535, n535, k535, e535, l535, g535, cl535, cs535⟩ := Slc.at (i := nd) fr_nv2519.slc (by simp only [ncells_length]; omega) (by omega)
          refine DOps.q rfl rfl rfl (qindexS u85 sz84 rfl e535 rfl l535) <| .q rfl rfl rfl (qfieldAddr fl84_0 sz82 (by decide) rfl) <| .q rfl rfl rfl (qloadAt ag82 rfl rfl g535 ((cs535 0 (by decide)).trans (ncells_f0 (by omega)))) <| .q rfl rfl rfl (qfieldAddr fl80_0 sz9 (by decide) rfl) <| .q rfl rfl rfl (qloadAt ag9 rfl rfl hr_b497519 rfl) <| .q rfl rfl rfl (qmove rfl) <| .q rfl rfl rfl (qsix u9 rfl rfl (by omega)) ?_
          have hTc539 := hT2.objs ob522
          obtain ⟨es539, clk539, hgm539, hE539⟩ := hTc539.2.2.2.2 nd hndl
          refine DOps.l rfl rfl rfl (fun _ _ hk538 _ => wlookupB (q := (L2q459.getD i .zero).w.take (k + 1)) rfl rfl u82 u5 z3 (by rw [zip_fst hbl2 (by omega)]; exact hgm539) hE539 (by rw [hq, getD_idxOf hp]; exact take_next (by omega)) (fun hin => ?_) (fun hin => ?_))
          ·
            have hidx := idxOf_lt hin
            refine hk538 _ _ (HeldNow.none (by kernel_rfl)) <| .q rfl rfl rfl (qmove rfl) <| .q rfl rfl rfl (qextract rfl rfl) <| .q rfl rfl rfl (qextract rfl rfl) <| .q rfl rfl rfl (qassign rfl) <| .q rfl rfl rfl (qassign rfl) <| .done <| h533 _ _ <| .seq fun K540 h541 => .seq fun K542 h543 => ?_
            refine Run.region <| .q rfl (qmove rfl) <| .q rfl (qnot rfl) <| .nil <| h543 _ _ <| .cond_false rfl <| .skip <| h541 _ _ <| .seq fun K544 h545 => .region ?_
            refine Ops.q rfl (qmove rfl) <| .q rfl (qassign rfl) <| .nil <| h545 _ _ <| .seq fun K546 h547 => .region <| .q rfl (qmove rfl) <| .q rfl (qaddN (b := 1) rfl rfl (by omega)) <| .q rfl (qmulN (a := 2) rfl rfl (by omega)) <| .q rfl (qfieldAddr fl80_0 sz9 (by decide) rfl) ?_
            refine Ops.q rfl (qloadAt ag9 rfl rfl hr_b497519 rfl) <| .q rfl (qslen u9 rfl) <| .q rfl (qgtrN rfl rfl) <| .q rfl (qmove rfl) <| .part (t := 182) rfl (fun p548 => ?_) (fun p548 => ?_)
            ·
              refine Ops.on rfl rfl <| .q rfl (qmove rfl) <| .on rfl rfl <| .q rfl (qnil rfl) <| .on rfl rfl <| .q rfl (qfieldAddr fl88_1 sz85 (by decide) rfl) <| .on rfl rfl <| .q rfl (qloadAt ag85 rfl rfl hr_b305519 rfl) <| .on rfl rfl <| .q rfl (qmove rfl) ?_
              refine Ops.on rfl rfl ?_
              obtain ⟨b549, f549, rw549, r549, rc549, n549, k549, e549, l549, g549, cl549, cs549⟩ := Slc.at (i := pf2.idxOf ((L2q459.getD i .zero).w.take (k + 1))) fr_nv2519.slc (by simp only [ncells_length]; omega) (by omega)
              refine Ops.q rfl (qindexS u85 sz84 rfl e549 rfl l549) <| .on rfl rfl <| .q rfl (qfieldAddr fl84_1 sz3 (by decide) rfl) <| .on rfl rfl <| .q rfl (qloadAt ag3 rfl rfl g549 (((cs549 1 (by decide)).trans (ncells_f1 (by omega))).trans (congrArg (fun z => some (num z)) (zip_snd (by (try simp only [List.length_append, List.length_cons, List.length_nil]); omega) (by (try simp only [List.length_append, List.length_cons, List.length_nil]); omega))))) <| .on rfl rfl <| .q rfl (qlss rfl rfl) <| .q rfl (qpickT rfl rfl) <| .nil <| h547 _ _ ?_
              refine Run.if rfl (fun p550 => ?_) (fun p550 => ?_)
              ·
                refine Run.region <| .q rfl (qmove rfl) <| .q rfl (qnil rfl) <| .q rfl (qfieldAddr fl88_1 sz85 (by decide) rfl) <| .q rfl (qloadAt ag85 rfl rfl hr_b305519 rfl) <| .q rfl (qmove rfl) <| .q rfl (qmove rfl) ?_
                obtain ⟨b551, f551, rw551, r551, rc551, n551, k551, e551, l551, g551, cl551, cs551⟩ := Slc.at (i := pf2.idxOf ((L2q459.getD i .zero).w.take (k + 1))) fr_nv2519.slc (by simp only [ncells_length]; omega) (by omega)
                refine Ops.q rfl (qindexS u85 sz84 rfl e551 rfl l551) <| .q rfl (qfieldAddr fl84_1 sz3 (by decide) rfl) <| .l rfl (fun _ _ hk552 _ => wstoreOwn (size := 2) (i := (pf2.idxOf ((L2q459.getD i .zero).w.take (k + 1)))) (j := 1) fr_nv2519 e551 l551 (by decide) wf521 rfl rfl rfl sz3 rfl fun A553 rr556 rc556 gg556 sb554 fr555 => ?_)
                rw [ncells_set (by (try simp only [List.length_append, List.length_cons, List.length_nil]); omega) (by (try simp only [List.length_append, List.length_cons, List.length_nil]); omega)] at fr555
                have h557 := sb554.keep _ _ (fun q => no_nv2_b305519 (by rw [e551]; exact congrArg some q.symm)) hr_b305519
                have h558 := sb554.keep _ _ (fun q => no_nv2_b497519 (by rw [e551]; exact congrArg some q.symm)) hr_b497519
                have fr559 := fk_oq459_0519.keep sb554.keep (fun q => sq519_0_1 _ (by rw [e551]; rfl) q)
                have le560 := le_store le519 wf (fr_nv2519.lo _ (by rw [e551]; rfl)) sb554.n sb554.keep
                have ob561 := ob522.set gg556 sb554.n sb554.keep
                refine hk552 _ _ <| .nil <| h529 _ _ <| .region <| .q rfl (qaddN (b := 1) rfl rfl (by omega)) <| .q rfl (qmove rfl) <| .nil ?_
                exact ⟨⟨k + 1, pf2.idxOf ((L2q459.getD i .zero).w.take (k + 1)), pf2, (bs2.set (pf2.idxOf ((L2q459.getD i .zero).w.take (k + 1))) ((i : Nat) : Int)), bl2, nv2, Ds⟩, EnvLe.cons rfl <| EnvLe.cons rfl <| EnvLe.cons rfl <| EnvLe.cons rfl <| EnvLe.cons rfl <| EnvLe.cons rfl <| EnvLe.cons rfl <| EnvLe.cons rfl <| EnvLe.cons rfl <| EnvLe.nil _, rfl, ⟨⟨by omega, fold_snoc ht2 (tstep_set (if_pos hin) rfl ⟨by omega, by assumption⟩), (by (try simp only [List.length_append, List.length_set, List.length_cons, List.length_nil]); omega), (by (try simp only [List.length_append, List.length_set, List.length_cons, List.length_nil]); omega), hpc2, (by (try simp only [List.length_append, List.length_set, List.length_cons, List.length_nil]); omega), hin, rfl⟩, le560, fr555, fr559, h557, h558, no_nv2_b305519, no_oq459_0_b305519, no_nv2_b497519, no_oq459_0_b497519, sq519_0_1, (hdf519.objs ob561), (hT2.objs ob561)⟩, (by (try dsimp only); omega)⟩
              ·
                refine Run.skip <| h529 _ _ <| .region <| .q rfl (qaddN (b := 1) rfl rfl (by omega)) <| .q rfl (qmove rfl) <| .nil ?_
                exact ⟨⟨k + 1, pf2.idxOf ((L2q459.getD i .zero).w.take (k + 1)), pf2, bs2, bl2, nv2, Ds⟩, EnvLe.cons rfl <| EnvLe.cons rfl <| EnvLe.cons rfl <| EnvLe.cons rfl <| EnvLe.cons rfl <| EnvLe.cons rfl <| EnvLe.cons rfl <| EnvLe.cons rfl <| EnvLe.cons rfl <| EnvLe.nil _, rfl, ⟨⟨by omega, fold_snoc ht2 (tstep_not (if_pos hin) rfl (by rintro ⟨q1, q2⟩; omega)), (by (try simp only [List.length_append, List.length_set, List.length_cons, List.length_nil]); omega), (by (try simp only [List.length_append, List.length_set, List.length_cons, List.length_nil]); omega), hpc2, (by (try simp only [List.length_append, List.length_set, List.length_cons, List.length_nil]); omega), hin, rfl⟩, le519, fr_nv2519, fk_oq459_0519, hr_b305519, hr_b497519, no_nv2_b305519, no_oq459_0_b305519, no_nv2_b497519, no_oq459_0_b497519, sq519_0_1, (hdf519.objs ob522), (hT2.objs ob522)⟩, (by (try dsimp only); omega)⟩
            ·
              refine Ops.off rfl rfl rfl rfl <| .off rfl rfl rfl rfl <| .off rfl rfl rfl rfl <| .off rfl rfl rfl rfl <| .off rfl rfl rfl rfl <| .off rfl rfl rfl rfl <| .off rfl rfl rfl rfl <| .off rfl rfl rfl rfl <| .off rfl rfl rfl rfl <| .q rfl (qpickF rfl rfl) ?_
              refine Ops.nil <| h547 _ _ <| .cond_false rfl <| .skip <| h529 _ _ <| .region <| .q rfl (qaddN (b := 1) rfl rfl (by omega)) <| .q rfl (qmove rfl) <| .nil ?_
              exact ⟨⟨k + 1, pf2.idxOf ((L2q459.getD i .zero).w.take (k + 1)), pf2, bs2, bl2, nv2, Ds⟩, EnvLe.cons rfl <| EnvLe.cons rfl <| EnvLe.cons rfl <| EnvLe.cons rfl <| EnvLe.cons rfl <| EnvLe.cons rfl <| EnvLe.cons rfl <| EnvLe.cons rfl <| EnvLe.cons rfl <| EnvLe.nil _, rfl, ⟨⟨by omega, fold_snoc ht2 (tstep_not (if_pos hin) rfl (by rintro ⟨q1, q2⟩; omega)), (by (try simp only [List.length_append, List.length_set, List.length_cons, List.length_nil]); omega), (by (try simp only [List.length_append, List.length_set, List.length_cons, List.length_nil]); omega), hpc2, (by (try simp only [List.length_append, List.length_set, List.length_cons, List.length_nil]); omega), hin, rfl⟩, le519, fr_nv2519, fk_oq459_0519, hr_b305519, hr_b497519, no_nv2_b305519, no_oq459_0_b305519, no_nv2_b497519, no_oq459_0_b497519, sq519_0_1, (hdf519.objs ob522), (hT2.objs ob522)⟩, (by (try dsimp only); omega)⟩
          ·
            refine hk538 _ _ (HeldNow.none (by kernel_rfl)) <| .q rfl rfl rfl (qmove rfl) <| .q rfl rfl rfl (qextract rfl rfl) <| .q rfl rfl rfl (qextract rfl rfl) <| .q rfl rfl rfl (qassign rfl) <| .q rfl rfl rfl (qassign rfl) <| .done <| h533 _ _ <| .seq fun K562 h563 => .seq fun K564 h565 => ?_
            refine Run.region <| .q rfl (qmove rfl) <| .q rfl (qnot rfl) <| .nil <| h565 _ _ <| .cond_true rfl <| .seq fun K566 h567 => .region <| .q rfl (qmove rfl) <| .q rfl (qnil rfl) ?_
            refine Ops.q rfl (qfieldAddr fl88_1 sz85 (by decide) rfl) <| .q rfl (qloadAt ag85 rfl rfl hr_b305519 rfl) <| .q rfl (qlenS (n := pf2.length) u85 rfl fr_nv2519.slc (by omega) ((ncells_len _).trans (by rw [hzl]))) <| .q rfl (qassign rfl) <| .nil <| h567 _ _ <| .seq fun K568 h569 => .region <| .q rfl (qmove rfl) <| .q rfl (qmove rfl) ?_
            refine Ops.q rfl (qnil rfl) <| .q rfl (qfieldAddr fl88_1 sz85 (by decide) rfl) <| .q rfl (qloadAt ag85 rfl rfl hr_b305519 rfl) ?_
            have hTc574 := hT2.objs ob522
            refine Ops.l rfl (fun _ _ hk570 _ => wmakeMap wf521 fun A572 b571 nb573 => ?_)
            have hni := hTc574.notin wf521 nb573.lo
            have ne_b305_b571 := ne_new wf521 hr_b305519 nb573.lo
            have no575 := fr_nv2519.own.ne_new wf521 nb573.lo
            have ge_b571 := none_of wf (Nat.le_trans le519.n nb573.lo)
            have h577 := nb573.le.get _ _ hr_b305519
            have h578 := nb573.le.get _ _ hr_b497519
            have fr579 := fr_nv2519.le nb573.le
            have fr580 := fk_oq459_0519.le nb573.le
            have le581 := le519.trans nb573.le
            have ob582 := ob522.le nb573.le
            refine hk570 _ _ <| .q rfl (qbuild rfl (buildV_struct u84 z84 pl84 rfl)) <| .l rfl (fun _ _ hk583 _ => wbuildSlice (c := [.map (some b571), num (-1)]) nb573.wf rfl (buildSliceV_of u85 sz84 z84 rfl (by decide) (by decide) rfl) fun A585 b584 nb586 => ?_)
            have h589 := nb586.le.get _ _ h577
            have h590 := nb586.le.get _ _ h578
            have h591 := nb586.le.get _ _ nb573.get
            have fr592 := fr579.le nb586.le
            have fr593 := fr580.le nb586.le
            have le594 := le581.trans nb586.le
            have ob595 := ob582.le nb586.le
            refine hk583 _ _ <| .l rfl (fun _ _ hk596 _ => wappend (ys := [.map (some b571), num (-1)]) rfl rfl u85 sz84 inf84 z84 rfl (by decide) u85 (fun _ h => by cases h) fr592.own (listOf_row (n := 1) nb586.get rfl) rfl rfl (by show (_ + _) * 16 ≤ _; simp only [ncells_length, List.length_cons, List.length_nil]; (try simp only [List.length_append, List.length_cons, List.length_nil]); omega) (by simp only [ncells_length, List.length_cons, List.length_nil]; (try simp only [List.length_append, List.length_cons, List.length_nil]); omega) fun A597 v598 ap599 => ?_)
            rw [show ([.map (some b571), num (-1)] : List Value) = ncells [(b571, -1)] from rfl, ncells_append] at ap599
            obtain ⟨fr602, le603⟩ := Fresh.grow fr592 le594 wf ap599
            have h604 := ap599.keep no_nv2_b305519 h589
            have ne605 := ap599.ne no_nv2_b305519 nb586.wf h589
            have h606 := ap599.keep no_nv2_b497519 h590
            have ne607 := ap599.ne no_nv2_b497519 nb586.wf h590
            have h608 := ap599.keep no575 h591
            have ob610 := ob595.appd fr592.own ap599
            have sp612 := Sep.appd (show Sep nv2 lv from sq519_0_1) fr593.own nb586.wf ap599
            have fr611 := fr593.appd ap599 sq519_0_1
            refine hk596 _ _ <| .q rfl (qnil rfl) <| .q rfl (qfieldAddr fl88_1 sz85 (by decide) rfl) ?_
            obtain ⟨p614, l614, c614, q614, _⟩ := fr602.own.slice
            subst q614
            refine Ops.l rfl (fun _ _ hk613 _ => wstore (cs := [.slice p614 l614 c614]) (c' := [lv, .slice p614 l614 c614, num ((mo : Nat) : Int)]) ap599.wf rfl rfl rfl rfl sz85 h604 (Nat.le_of_ble_eq_true rfl) rfl rfl fun A615 sb616 => ?_)
            have h617 := sb616.keep _ _ ne_b305_b497.symm h606
            have h618 := sb616.keep _ _ ne_b305_b571.symm h608
            have fr619 := fr611.keep sb616.keep no_oq459_0_b305519
            have fr620 := fr602.keep sb616.keep ne605
            have ob621 := ob610.set h604 sb616.n sb616.keep
            have le622 := le_store le603 wf ge_b305 sb616.n sb616.keep
            refine hk613 _ _ <| .nil ?_
            have fr623 := fresh_eq fr620 (congrArg ncells (zip_snoc (b := b571) (z := -1) hbl2))
            have hzl2 : ((bl2 ++ [b571]).zip (bs2 ++ [-1])).length = pf2.length + 1 := by rw [List.length_zip]; simp; omega
            refine h569 _ _ <| .drawn [0, 1, 2, 3, 4, 5, 6, 7, 8, 9, 10, 11, 12, 13] mixed (by kernel_rfl) (by kernel_rfl) rfl <| .q rfl rfl rfl (qmove rfl) <| .q rfl rfl rfl (qnil rfl) <| .q rfl rfl rfl (qfieldAddr fl88_1 sz85 (by decide) rfl) <| .q rfl rfl rfl (qloadAt ag85 rfl rfl sb616.get rfl) <| .q rfl rfl rfl (qmove rfl) ?_
            obtain ⟨b625, f625, rw625, r625, rc625, n625, k625, e625, l625, g625, cl625, cs625⟩ := Slc.at (i := nd) fr623.slc (by simp only [ncells_length]; omega) (by omega)
            refine DOps.q rfl rfl rfl (qindexS u85 sz84 rfl e625 rfl l625) <| .q rfl rfl rfl (qfieldAddr fl84_0 sz82 (by decide) rfl) <| .q rfl rfl rfl (qloadAt ag82 rfl rfl g625 ((cs625 0 (by decide)).trans (ncells_f0 (by omega)))) <| .q rfl rfl rfl (qfieldAddr fl80_0 sz9 (by decide) rfl) <| .q rfl rfl rfl (qloadAt ag9 rfl rfl h617 rfl) <| .q rfl rfl rfl (qmove rfl) <| .q rfl rfl rfl (qsix u9 rfl rfl (by omega)) <| .q rfl rfl rfl (qmove rfl) ?_
            have hTc629 := hT2.objs ob621
            obtain ⟨es629, clk629, hgm629, hE629⟩ := hTc629.2.2.2.2 nd hndl
            have hqn : pf2.getD nd [] ++ [(L2q459.getD i .zero).w.getD k 0] = (L2q459.getD i .zero).w.take (k + 1) := by rw [hq, getD_idxOf hp]; exact take_next (by omega)
            have hnew : pf2.getD nd [] ++ [(L2q459.getD i .zero).w.getD k 0] ∉ pf2 := by rw [hqn]; exact hin
            have hmz : (((bl2 ++ [b571]).zip (bs2 ++ [-1])).getD nd (0, 0)).1 = bl2.getD nd 0 := (zip_fst (by simp; omega) (by simp; omega)).trans (getD_app (by omega))
            refine DOps.l rfl rfl rfl (fun _ _ hk628 _ => wupdateB (pf := pf2) (p := pf2.getD nd []) (n := pf2.length) sb616.wf rfl rfl rfl u82 u5 (by rw [hmz]; exact hgm629) hE629 hnew fun A630 sb631 => ?_)
            rw [hmz] at sb631
            have hTn629 := hTc629.grow hndl hnew (fun d q => hnew (hpc2.cl _ _ q)) h618 hni ge_b571 hE629 sb631
            rw [hqn] at hTn629
            have h632 := sb631.keep _ _ (ne_rowobj sb616.get hgm629) sb616.get
            have h633 := sb631.keep _ _ (ne_rowobj h617 hgm629) h617
            have fr634 := fr619.keep sb631.keep (fr619.own.ne_obj hgm629)
            have fr635 := fr623.keep sb631.keep (fr623.own.ne_obj hgm629)
            have df636 := Defs.keep (hdf519.objs ob621) sb631.keep hgm629 (fun q => by cases q)
            have le637 := le_store le622 wf (hTc629.2.2.2.1 _ (getD_lt_mem (by rw [hTc629.1]; exact hndl))) sb631.n sb631.keep
            have ob638 := Objs.refl A630
            refine hk628 _ _ (HeldNow.none (by kernel_rfl)) <| .done <| h563 _ _ <| .seq fun K639 h640 => .region <| .q rfl (qmove rfl) <| .q rfl (qassign rfl) <| .nil <| h640 _ _ <| .seq fun K641 h642 => ?_
            refine Run.region <| .q rfl (qmove rfl) <| .q rfl (qaddN (b := 1) rfl rfl (by omega)) <| .q rfl (qmulN (a := 2) rfl rfl (by omega)) <| .q rfl (qfieldAddr fl80_0 sz9 (by decide) rfl) <| .q rfl (qloadAt ag9 rfl rfl h633 rfl) <| .q rfl (qslen u9 rfl) <| .q rfl (qgtrN rfl rfl) <| .q rfl (qmove rfl) <| .part (t := 182) rfl (fun p643 => ?_) (fun p643 => ?_)
            ·
              refine Ops.on rfl rfl <| .q rfl (qmove rfl) <| .on rfl rfl <| .q rfl (qnil rfl) <| .on rfl rfl <| .q rfl (qfieldAddr fl88_1 sz85 (by decide) rfl) <| .on rfl rfl <| .q rfl (qloadAt ag85 rfl rfl h632 rfl) <| .on rfl rfl <| .q rfl (qmove rfl) ?_
              refine Ops.on rfl rfl ?_
              obtain ⟨b644, f644, rw644, r644, rc644, n644, k644, e644, l644, g644, cl644, cs644⟩ := Slc.at (i := pf2.length) fr635.slc (by simp only [ncells_length]; omega) (by omega)
              refine Ops.q rfl (qindexS u85 sz84 rfl e644 rfl l644) <| .on rfl rfl <| .q rfl (qfieldAddr fl84_1 sz3 (by decide) rfl) <| .on rfl rfl <| .q rfl (qloadAt ag3 rfl rfl g644 (((cs644 1 (by decide)).trans (ncells_f1 (by omega))).trans (congrArg (fun z => some (num z)) (zip_snd (by (try simp only [List.length_append, List.length_cons, List.length_nil]); omega) (by (try simp only [List.length_append, List.length_cons, List.length_nil]); omega))))) <| .on rfl rfl <| .q rfl (qlss rfl rfl) <| .q rfl (qpickT rfl rfl) <| .nil <| h642 _ _ ?_
              refine Run.if rfl (fun p645 => ?_) (fun p645 => ?_)
              ·
                refine Run.region <| .q rfl (qmove rfl) <| .q rfl (qnil rfl) <| .q rfl (qfieldAddr fl88_1 sz85 (by decide) rfl) <| .q rfl (qloadAt ag85 rfl rfl h632 rfl) <| .q rfl (qmove rfl) <| .q rfl (qmove rfl) ?_
                obtain ⟨b646, f646, rw646, r646, rc646, n646, k646, e646, l646, g646, cl646, cs646⟩ := Slc.at (i := pf2.length) fr635.slc (by simp only [ncells_length]; omega) (by omega)
                refine Ops.q rfl (qindexS u85 sz84 rfl e646 rfl l646) <| .q rfl (qfieldAddr fl84_1 sz3 (by decide) rfl) <| .l rfl (fun _ _ hk647 _ => wstoreOwn (size := 2) (i := pf2.length) (j := 1) fr635 e646 l646 (by decide) sb631.wf rfl rfl rfl sz3 rfl fun A648 rr651 rc651 gg651 sb649 fr650 => ?_)
                rw [ncells_set (by (try simp only [List.length_append, List.length_cons, List.length_nil]); omega) (by (try simp only [List.length_append, List.length_cons, List.length_nil]); omega)] at fr650
                have h652 := sb649.keep _ _ (fun q => ne605 (by rw [e646]; exact congrArg some q.symm)) h632
                have h653 := sb649.keep _ _ (fun q => ne607 (by rw [e646]; exact congrArg some q.symm)) h633
                have fr654 := fr634.keep sb649.keep (fun q => sp612 _ (by rw [e646]; rfl) q)
                have le655 := le_store le637 wf (fr635.lo _ (by rw [e646]; rfl)) sb649.n sb649.keep
                have ob656 := ob638.set gg651 sb649.n sb649.keep
                refine hk647 _ _ <| .nil <| h529 _ _ <| .region <| .q rfl (qaddN (b := 1) rfl rfl (by omega)) <| .q rfl (qmove rfl) <| .nil ?_
                exact ⟨⟨k + 1, pf2.length, (pf2 ++ [(L2q459.getD i .zero).w.take (k + 1)]), ((bs2 ++ [-1]).set pf2.length ((i : Nat) : Int)), (bl2 ++ [b571]), .slice p614 l614 c614, Ds⟩, EnvLe.cons rfl <| EnvLe.cons rfl <| EnvLe.cons rfl <| EnvLe.cons rfl <| EnvLe.cons rfl <| EnvLe.cons rfl <| EnvLe.cons rfl <| EnvLe.cons rfl <| EnvLe.cons rfl <| EnvLe.nil _, rfl, ⟨⟨by omega, fold_snoc ht2 (tstep_set (if_neg hin) (idxOf_snoc hin).symm ⟨by omega, by assumption⟩), (by (try simp only [List.length_append, List.length_set, List.length_cons, List.length_nil]); omega), (by (try simp only [List.length_append, List.length_set, List.length_cons, List.length_nil]); omega), (by have q := hpc2.snoc (c := (L2q459.getD i .zero).w.getD k 0) hp; rw [take_next (by omega)] at q; exact q), (by (try simp only [List.length_append, List.length_set, List.length_cons, List.length_nil]); omega), by simp, (idxOf_snoc hin).symm⟩, le655, fr650, fr654, h652, h653, ne605, no_oq459_0_b305519, ne607, no_oq459_0_b497519, sp612, (df636.objs ob656), (hTn629.objs ob656)⟩, (by (try dsimp only); omega)⟩
              ·
                refine Run.skip <| h529 _ _ <| .region <| .q rfl (qaddN (b := 1) rfl rfl (by omega)) <| .q rfl (qmove rfl) <| .nil ?_
                exact ⟨⟨k + 1, pf2.length, (pf2 ++ [(L2q459.getD i .zero).w.take (k + 1)]), (bs2 ++ [-1]), (bl2 ++ [b571]), .slice p614 l614 c614, Ds⟩, EnvLe.cons rfl <| EnvLe.cons rfl <| EnvLe.cons rfl <| EnvLe.cons rfl <| EnvLe.cons rfl <| EnvLe.cons rfl <| EnvLe.cons rfl <| EnvLe.cons rfl <| EnvLe.cons rfl <| EnvLe.nil _, rfl, ⟨⟨by omega, fold_snoc ht2 (tstep_not (if_neg hin) (idxOf_snoc hin).symm (by rintro ⟨q1, q2⟩; omega)), (by (try simp only [List.length_append, List.length_set, List.length_cons, List.length_nil]); omega), (by (try simp only [List.length_append, List.length_set, List.length_cons, List.length_nil]); omega), (by have q := hpc2.snoc (c := (L2q459.getD i .zero).w.getD k 0) hp; rw [take_next (by omega)] at q; exact q), (by (try simp only [List.length_append, List.length_set, List.length_cons, List.length_nil]); omega), by simp, (idxOf_snoc hin).symm⟩, le637, fr635, fr634, h632, h633, ne605, no_oq459_0_b305519, ne607, no_oq459_0_b497519, sp612, (df636.objs ob638), (hTn629.objs ob638)⟩, (by (try dsimp only); omega)⟩
            ·
              refine Ops.off rfl rfl rfl rfl <| .off rfl rfl rfl rfl <| .off rfl rfl rfl rfl <| .off rfl rfl rfl rfl <| .off rfl rfl rfl rfl <| .off rfl rfl rfl rfl <| .off rfl rfl rfl rfl <| .off rfl rfl rfl rfl <| .off rfl rfl rfl rfl <| .q rfl (qpickF rfl rfl) ?_
              refine Ops.nil <| h642 _ _ <| .cond_false rfl <| .skip <| h529 _ _ <| .region <| .q rfl (qaddN (b := 1) rfl rfl (by omega)) <| .q rfl (qmove rfl) <| .nil ?_
              exact ⟨⟨k + 1, pf2.length, (pf2 ++ [(L2q459.getD i .zero).w.take (k + 1)]), (bs2 ++ [-1]), (bl2 ++ [b571]), .slice p614 l614 c614, Ds⟩, EnvLe.cons rfl <| EnvLe.cons rfl <| EnvLe.cons rfl <| EnvLe.cons rfl <| EnvLe.cons rfl <| EnvLe.cons rfl <| EnvLe.cons rfl <| EnvLe.cons rfl <| EnvLe.cons rfl <| EnvLe.nil _, rfl, ⟨⟨by omega, fold_snoc ht2 (tstep_not (if_neg hin) (idxOf_snoc hin).symm (by rintro ⟨q1, q2⟩; omega)), (by (try simp only [List.length_append, List.length_set, List.length_cons, List.length_nil]); omega), (by (try simp only [List.length_append, List.length_set, List.length_cons, List.length_nil]); omega), (by have q := hpc2.snoc (c := (L2q459.getD i .zero).w.getD k 0) hp; rw [take_next (by omega)] at q; exact q), (by (try simp only [List.length_append, List.length_set, List.length_cons, List.length_nil]); omega), by simp, (idxOf_snoc hin).symm⟩, le637, fr635, fr634, h632, h633, ne605, no_oq459_0_b305519, ne607, no_oq459_0_b497519, sp612, (df636.objs ob638), (hTn629.objs ob638)⟩, (by (try dsimp only); omega)⟩
        ·
          refine Run.exit <| h492 _ _ <| .region <| .q rfl (qaddN (b := 1) rfl rfl (by omega)) <| .q rfl (qmove rfl) <| .nil ?_
          exact ⟨⟨i + 1, pf2, bs2, bl2, nv2, Ds⟩, EnvLe.cons rfl <| EnvLe.cons rfl <| EnvLe.cons rfl <| EnvLe.cons rfl <| EnvLe.nil _, rfl, ⟨⟨by omega, (by rw [List.range_succ, List.foldl_append, ← ht]; show _ = tword L2q459 (pf, bs) i; unfold tword; rw [show (L2q459.getD i .zero).w.length = k by omega]; exact ht2), hbl2, hbs2, hpc2, (by have := hwx (by omega); omega)⟩, le519, fr_nv2519, fk_oq459_0519, hr_b305519, no_nv2_b305519, no_oq459_0_b305519, sq519_0_1, (hdf519.objs ob522), (hT2.objs ob522)⟩, (by (try dsimp only); omega)⟩
      ·
        refine Run.exit <| h479 _ _ <| .seq fun K657 h658 => .region <| .q rfl (qmove rfl) <| .q rfl (qassign rfl) <| .nil <| h658 _ _ <| .ret ?_
        (repeat first | with_reducible refine thenQ_exit ?_ | with_reducible refine blockQ_same ?_ | with_reducible refine blockQ_other (by decide) ?_); exact ⟨Ds, rfl, (hdf482.objs ob485).1, (fun D hD => ((hdf482.objs ob485).2 D hD).1), [.pointer (some ⟨b305, 0, none⟩)], fun A' wf2 hn2 hk2 => ⟨rfl, _, rfl, _, _, rfl, (hdf482.objs ob485).leave le482 hn2 hk2, wf2, (Rules.leave (hdf482.objs ob485) hk2 hr_b305482 ge_b305 fk_oq459_0482 fr_nv482 (hT.objs ob485) hbs), rs_ok hok2 (fun x hx => hL4 x (hpq459.mem_iff.1 hx)) hL5 (by rw [hpq459.length_eq]; exact hL6) (by rw [ht, show i = L2q459.length by omega]; rfl) hpc.root, (hpq459.trans hperm).trans (by rw [hE, show k = l.length by omega]; exact .refl _), hsq459⟩⟩
end Go.Proofs.YtaccklloepfemaaDoor

namespace Go.Proofs.YtaccklloepfemaaDoor
set_option linter.unusedVariables false
set_option linter.unusedSimpArgs false
open Go Go.RowKit V

theorem drun_small {L : List Rot} {m : Nat} (hx : ∀ x ∈ L, x.c.length ≤ 1000) : ∀ (f : Nat) (l : List UInt8) (d : List DCell) (p : Nat), l.length ≤ 6000 →
    (drun L m f l d p).1.length ≤ l.length ∧ (drun L m f l d p).2.length + (drun L m f l d p).1.length ≤ d.length + l.length ∧ ∀ c ∈ (drun L m f l d p).2, c ∈ d ∨ c.conj.length ≤ 7000
  | 0, l, d, p, _ => ⟨Nat.le_refl _, Nat.le_refl _, fun c h => .inl h⟩
  | f + 1, l, d, p, hl => by
    rw [drun]
    by_cases hp : p < l.length
    · rw [if_pos hp]
      by_cases h : 0 ≤ (longF L (l.drop p)).1
      · rw [if_pos h]
        have hlt := repl_lt hp h
        obtain ⟨h1, h2, h3⟩ := drun_small (m := m) hx f (repl l p (L.getD (longF L (l.drop p)).1.toNat .zero)).1 (d ++ [repC l p (L.getD (longF L (l.drop p)).1.toNat .zero)]) ((repl l p (L.getD (longF L (l.drop p)).1.toNat .zero)).2 - m) (by omega)
        refine ⟨by omega, by simp only [List.length_append, List.length_cons, List.length_nil] at h2; omega, fun c hc => ?_⟩
        rcases h3 c hc with q | q
        · rcases List.mem_append.1 q with q | q
          · exact .inl q
          · simp only [List.mem_singleton] at q
            subst q
            right
            have e1 := hx _ (getD_mem (d := Rot.zero) (longF_pos h).1)
            have e2 := wReduce_length (l.take p ++ (L.getD (longF L (l.drop p)).1.toNat .zero).c)
            rw [List.length_append, List.length_take] at e2
            show (wReduce _).length ≤ 7000
            omega
        · exact .inr q
      · rw [if_neg h]; exact drun_small (m := m) hx f l d (p + 1) hl
    · rw [if_neg hp]; exact ⟨Nat.le_refl _, Nat.le_refl _, fun c h => .inl h⟩
theorem conjs_le {d : List DCell} {n : Nat} (h : ∀ c ∈ d, c.conj.length ≤ n) : conjs d ≤ d.length * n := by
  induction d with
  | nil => simp [conjs]
  | cons c d ih =>
    have h1 := ih fun c hc => h c (List.mem_cons_of_mem _ hc)
    have h2 := h c List.mem_cons_self
    simp only [conjs, List.map_cons, List.sum_cons, List.length_cons] at h1 ⊢
    rw [Nat.add_mul]; omega
theorem dsh_small {S : RS} (hS : RSok S) {w : List UInt8} (hw : w.length ≤ 6000) : (dsh S w).1.length ≤ 6000 ∧ (dsh S w).2.length ≤ 100000000 ∧ conjs (dsh S w).2 ≤ 100000000 := by
  have hr := red_length w
  obtain ⟨h1, h2, h3⟩ := drun_small (m := S.most) (fun x hx => (hS.isw x hx).2.2) (fuel (red w).length) (red w) [] 0 (by omega)
  have h4 : ∀ c ∈ (dsh S w).2, c.conj.length ≤ 7000 := fun c hc => (h3 c hc).elim (fun q => by cases q) id
  have h5 := conjs_le h4
  change (dsh S w).1.length ≤ _ at h1
  change (dsh S w).2.length + (dsh S w).1.length ≤ _ at h2
  simp only [List.length_nil] at h2
  have : (dsh S w).2.length * 7000 ≤ 6000 * 7000 := Nat.mul_le_mul_right _ (by omega)
  omega
/-- What is so of the rules of a presentation. -/
def SOk (l : List (List UInt8)) (S : RS) : Prop := RSok S ∧ S.list.Perm (allR l) ∧ S.list.Pairwise (fun x y => ¬ cmpw y.w x.w < 0)
def Heavy (d : List DCell) : Prop := 1000000 < conjs d ∨ 100000 < d.length
instance (d : List DCell) : Decidable (Heavy d) := inferInstanceAs (Decidable (_ ∨ _))
def shOf (S : RS) (w : List UInt8) : List UInt8 × List DCell × Nat := if Heavy (dsh S w).2 then ([], [], 2) else ((dsh S w).1, (dsh S w).2, 0)
def ShR (g : Int) (l : List (List UInt8)) (w : List UInt8) (r : List UInt8 × List DCell × Nat) : Prop :=
  if ¬ rasked g l w = 0 then r = ([], [], rasked g l w) else ∃ S, SOk l S ∧ r = shOf S w
theorem ShR.no {g : Int} {l : List (List UInt8)} {w : List UInt8} (h : ¬ rasked g l w = 0) : ShR g l w ([], [], rasked g l w) := by rw [ShR, if_pos h]
theorem ShR.heavy {g : Int} {l : List (List UInt8)} {w : List UInt8} {S : RS} (h : ¬ ¬ rasked g l w = 0) (hS : SOk l S) (hh : Heavy (dsh S w).2) : ShR g l w ([], [], 2) := by rw [ShR, if_neg h]; exact ⟨S, hS, by rw [shOf, if_pos hh]⟩
theorem ShR.ok {g : Int} {l : List (List UInt8)} {w : List UInt8} {S : RS} (h : ¬ ¬ rasked g l w = 0) (hS : SOk l S) (hh : ¬ Heavy (dsh S w).2) : ShR g l w ((dsh S w).1, (dsh S w).2, 0) := by rw [ShR, if_neg h]; exact ⟨S, hS, by rw [shOf, if_neg hh]⟩
def StR (g : Int) (l : List (List UInt8)) (w : List UInt8) (r : Bool × Nat) : Prop :=
  if ¬ rasked g l w = 0 then r = (false, rasked g l w) else if wReduce w = w then ∃ S, SOk l S ∧ r = (decide ((dsh S w).2.length = 0), 0) else r = (false, 0)
theorem StR.no {g : Int} {l : List (List UInt8)} {w : List UInt8} (h : ¬ rasked g l w = 0) : StR g l w (false, rasked g l w) := by rw [StR, if_pos h]
theorem StR.ok {g : Int} {l : List (List UInt8)} {w : List UInt8} {S : RS} (h : ¬ ¬ rasked g l w = 0) (hw : wReduce w = w) (hS : SOk l S) {b : Bool} (hb : b = decide ((dsh S w).2.length = 0)) : StR g l w (b, 0) := by rw [StR, if_neg h, if_pos hw]; exact ⟨S, hS, by rw [hb]⟩
theorem StR.un {g : Int} {l : List (List UInt8)} {w : List UInt8} (h : ¬ ¬ rasked g l w = 0) (hw : ¬ wReduce w = w) : StR g l w (false, 0) := by rw [StR, if_neg h, if_neg hw]
/-- The words in the order of bytes. -/
def srt (d : List (List UInt8)) : List (List UInt8) := d.mergeSort fun x y => decide (x ≤ y)
theorem srt_perm (d : List (List UInt8)) : (srt d).Perm d := List.mergeSort_perm _ _
def badAt (d : List (List UInt8)) (i : Nat) : Prop := (d.getD (i - 1) []).length ≤ 6 * cmn (d.getD (i - 1) []) (d.getD i []) ∨ (d.getD i []).length ≤ 6 * cmn (d.getD (i - 1) []) (d.getD i [])
instance (d : List (List UInt8)) (i : Nat) : Decidable (badAt d i) := inferInstanceAs (Decidable (_ ∨ _))
def dverW (d : List (List UInt8)) : Bool := (List.range d.length).all fun i => decide (i = 0 ∨ ¬ badAt d i)
def dver (S : RS) : Bool := dverW (srt (S.list.map (·.w)))
theorem dverW_no {d : List (List UInt8)} {i : Nat} (h1 : 1 ≤ i) (hi : i < d.length) (h : badAt d i) : dverW d = false := by
  rw [dverW, List.all_eq_false]
  exact ⟨i, by simpa using hi, by rw [decide_eq_true_eq]; rintro (q | q); omega; exact q h⟩
theorem dverW_yes {d : List (List UInt8)} {i : Nat} (hi : d.length ≤ i) (h : ∀ j, 1 ≤ j → j < i → ¬ badAt d j) : dverW d = true := by
  rw [dverW, List.all_eq_true]
  intro j hj
  rw [decide_eq_true_eq]
  by_cases q : j = 0
  · exact .inl q
  · exact .inr (h j (by omega) (by have := List.mem_range.1 hj; omega))
def VeR (g : Int) (l : List (List UInt8)) (c : Nat) : Prop := if ¬ pcheck g l = 0 then c = pcheck g l else ∃ S, SOk l S ∧ c = if dver S = true then 0 else 230
theorem VeR.no {g : Int} {l : List (List UInt8)} (h : ¬ pcheck g l = 0) : VeR g l (pcheck g l) := by rw [VeR, if_pos h]
theorem VeR.ok {g : Int} {l : List (List UInt8)} {S : RS} {c : Nat} (h : ¬ ¬ pcheck g l = 0) (hS : SOk l S) (hc : c = if dver S = true then 0 else 230) : VeR g l c := by rw [VeR, if_neg h]; exact ⟨S, hS, hc⟩
def trOf (S : RS) (w : List UInt8) : Bool × List DCell × Nat := if dver S = true then (if (dsh S w).1 = [] then (if Heavy (dsh S w).2 then (false, [], 2) else (true, (dsh S w).2, 0)) else (false, [], 0)) else (false, [], 230)
def TrR (g : Int) (l : List (List UInt8)) (w : List UInt8) (r : Bool × List DCell × Nat) : Prop :=
  if ¬ rasked g l w = 0 then r = (false, [], rasked g l w) else ∃ S, SOk l S ∧ r = trOf S w
theorem TrR.no {g : Int} {l : List (List UInt8)} {w : List UInt8} (h : ¬ rasked g l w = 0) : TrR g l w (false, [], rasked g l w) := by rw [TrR, if_pos h]
theorem TrR.ok {g : Int} {l : List (List UInt8)} {w : List UInt8} {S : RS} {r : Bool × List DCell × Nat} (h : ¬ ¬ rasked g l w = 0) (hS : SOk l S) (hr : r = trOf S w) : TrR g l w r := by rw [TrR, if_neg h]; exact ⟨S, hS, hr⟩
section
variable {g : Int} {l : List (List UInt8)} {w : List UInt8} {S : RS}
theorem TrR.a (h : ¬ ¬ rasked g l w = 0) (hS : SOk l S) (hv : (!dver S) = true) : TrR g l w (false, [], 230) := TrR.ok h hS (by rw [trOf, if_neg (by intro q; rw [q] at hv; cases hv)])
theorem TrR.b (h : ¬ ¬ rasked g l w = 0) (hS : SOk l S) (hv : (!dver S) = false) (hd : ¬ (dsh S w).1 = []) : TrR g l w (false, [], 0) := TrR.ok h hS (by rw [trOf, if_pos (by simpa using hv), if_neg hd])
theorem TrR.c (h : ¬ ¬ rasked g l w = 0) (hS : SOk l S) (hv : (!dver S) = false) (hd : ¬ ¬ (dsh S w).1 = []) (hh : Heavy (dsh S w).2) : TrR g l w (false, [], 2) := TrR.ok h hS (by rw [trOf, if_pos (by simpa using hv), if_pos (Decidable.not_not.1 hd), if_pos hh])
theorem TrR.d (h : ¬ ¬ rasked g l w = 0) (hS : SOk l S) (hv : (!dver S) = false) (hd : ¬ ¬ (dsh S w).1 = []) (hh : ¬ Heavy (dsh S w).2) : TrR g l w (true, (dsh S w).2, 0) := TrR.ok h hS (by rw [trOf, if_pos (by simpa using hv), if_pos (Decidable.not_not.1 hd), if_neg hh])
end
end Go.Proofs.YtaccklloepfemaaDoor

namespace Go.Proofs.YtaccklloepfemaaDoor
open Go Go.RowKit V
set_option maxRecDepth 100000
set_option linter.unusedVariables false
set_option linter.unusedSimpArgs false
theorem fl46_0 : fldOf Tryd.prog 46 0 = some (9, 0) := by kernel_rfl
theorem fl46_1 : fldOf Tryd.prog 46 1 = some (3, 1) := by kernel_rfl
theorem fl46_2 : fldOf Tryd.prog 46 2 = some (30, 2) := by kernel_rfl
theorem inf9 : Tryd.prog.info? 9 = some Tryd.t9 := by kernel_rfl

theorem s_Sh (g : Int) (u : Value) (l : List (List UInt8)) (w : List UInt8) (A : AH) (hn : l.length ≤ 1000000) (hL : Lets A) (hw : w.length ≤ 100000) (hu : Slc A 1 u (strs l)) : RetA Tryd.prog 19 #[.agg #[num (g), u], str (w)] A (fun v A1 => ∃ W d c dv, v = .tuple #[.agg #[str W, num ((d.length : Nat) : Int), dv], num ((c : Nat) : Int)] ∧ A.le A1 ∧ A1.wf ∧ Fresh A A1 dv 3 (dcells d) ∧ ShR g l w (W, d, c)) := by
 refine enterA (e := [(0, .agg #[num (g), u]), (1, str (w))]) (args := [.agg #[num (g), u], str (w)]) Tryd.call19 Tryd.func19 rfl Tryd.results19 Tryd.ntmps19 rfl rfl rfl (fun wf => ?_)
 have le_ := AH.le.refl A
 refine Run.seq fun K1 h2 => .region <| .l rfl (fun _ _ hk3 _ => wbox wf rfl rfl fun A5 b4 nb6 => ?_)
 have le7 := le_.trans nb6.le
 refine hk3 _ _ <| .l rfl (fun _ _ hk8 _ => walloc nb6.wf z46 rfl fun A10 b9 nb11 => ?_)
 have ge_b9 := none_of wf (Nat.le_trans le7.n nb11.lo)
 have h12 := nb11.le.get _ _ nb6.get
 have le13 := le7.trans nb11.le
 refine hk8 _ _ <| .q rfl (qassign rfl) <| .nil <| h2 _ _ <| .seq fun K14 h15 => .seq fun K16 h17 => .region <| .q rfl (qloadAggAt ag24 sz24 rfl rfl h12 rfl) <| .q rfl (qmove rfl) <| .l rfl (fun _ _ hk18 _ => vcallF rfl (s_refused ((g)) u l w A10 (by omega) (hL.le le13) (by first | omega | (simp only [List.length_append, List.length_drop, List.length_take, inv_length]; omega)) (hu.le le13)) ?_)
 rintro v19 A20 ⟨rfl, leq21, wfq21⟩
 have h22 := leq21.get _ _ h12
 have h23 := leq21.get _ _ nb11.get
 have le24 := le13.trans leq21
 refine hk18 _ _ <| .q rfl (qassign rfl) <| .nil <| h17 _ _ <| .seq fun K25 h26 => .region <| .q rfl (qmove rfl) <| .q rfl (qneqN (b := 0) rfl rfl) <| .nil <| h26 _ _ ?_
 refine Run.if rfl (fun p27 => ?_) (fun p27 => ?_)
 ·
  refine Run.seq fun K28 h29 => .region <| .q rfl (qbuild rfl (buildV_struct u46 z46 pl46 rfl)) <| .q rfl (qmove rfl) <| .l rfl (fun _ _ hk30 _ => wstore (cs := [str ([]), num ((0 : Nat) : Int), .slice none 0 0]) (c' := [str ([]), num ((0 : Nat) : Int), .slice none 0 0]) wfq21 rfl rfl rfl rfl sz46 h23 (Nat.le_of_ble_eq_true rfl) rfl rfl fun A31 sb32 => ?_)
  have le34 := le_store le24 wf ge_b9 sb32.n sb32.keep
  refine hk30 _ _ <| .q rfl (qassign rfl) <| .nil <| h29 _ _ <| .ret ?_
  repeat first | with_reducible refine thenQ_ret ?_ | with_reducible refine blockQ_ret ?_
  exact retQ (resCell ag46 sz46 rfl sb32.get rfl (resTmp rfl resNil)) (⟨[], [], rasked ((g)) l w, _, rfl, le34, sb32.wf, Fresh.nil _ _ _, ShR.no ‹¬ rasked g l w = 0›⟩)
 ·
  refine Run.skip <| h15 _ _ <| .seq fun K35 h36 => .region <| .q rfl (qloadAggAt ag24 sz24 rfl rfl h22 rfl) <| .l rfl (fun _ _ hk37 _ => vcallF rfl (s_newRules ((g)) u l A20 (hL.le le24) (rasked_pres ‹¬ ¬ rasked g l w = 0›) (hu.le le24)) ?_)
  rintro v38 A39 ⟨brq40, Sq40, rfl, leq40, wfq40, hRq40, hSq40, hPq40, hWq40⟩
  have h42 := leq40.get _ _ h23
  have le43 := le24.trans leq40
  have hR := hRq40
  have hS := hSq40
  have hP := hPq40
  have hW := hWq40
  have hRlq40 := Rules.all hRq40
  have leRq40 := le43
  have hSOq40 : SOk l Sq40 := ⟨hSq40, hPq40, hWq40⟩
  refine hk37 _ _ <| .q rfl (qmove rfl) <| .l rfl (fun _ _ hk44 _ => vcallF rfl (s_dshort brq40 Sq40 w A39 (hRlq40.le (by first | exact AH.le.refl _ | assumption)) hSq40 (hL.le le43) (by have := (rasked_word ‹¬ ¬ rasked g l w = 0›).2; omega)) ?_)
  rintro v45 A46 ⟨dvq47, rfl, leq47, wfq47, frq47⟩
  have h49 := leq47.get _ _ h42
  have le50 := le43.trans leq47
  have fr51 := frq47.base le43
  have no53 := frq47.ne wfq40 h42
  refine hk44 _ _ <| .l rfl (fun _ _ hk54 _ => walloc wfq47 z46 rfl fun A56 b55 nb57 => ?_)
  have ne_b9_b55 := ne_new wfq47 h49 nb57.lo
  have no58 := fr51.own.ne_new wfq47 nb57.lo
  have ge_b55 := none_of wf (Nat.le_trans le50.n nb57.lo)
  have h60 := nb57.le.get _ _ h49
  have fr61 := fr51.le nb57.le
  have le62 := le50.trans nb57.le
  refine hk54 _ _ ?_
  obtain ⟨p64, l64, c64, q64, _⟩ := fr61.own.slice
  subst q64
  refine Ops.l rfl (fun _ _ hk63 _ => wstore (cs := [str ((dsh Sq40 w).1), num (((dsh Sq40 w).2.length : Nat) : Int), .slice p64 l64 c64]) (c' := [str ((dsh Sq40 w).1), num (((dsh Sq40 w).2.length : Nat) : Int), .slice p64 l64 c64]) nb57.wf rfl rfl rfl rfl sz46 nb57.get (Nat.le_of_ble_eq_true rfl) rfl rfl fun A65 sb66 => ?_)
  have h68 := sb66.keep _ _ ne_b9_b55 h60
  have fr69 := fr61.keep sb66.keep no58
  have le70 := le_store le62 wf ge_b55 sb66.n sb66.keep
  refine hk63 _ _ <| .nil <| h36 _ _ <| .seq fun K71 h72 => .seq fun K73 h74 => .region <| .q rfl (qfieldAddr fl46_2 sz30 (by decide) rfl) <| .q rfl (qloadAt ag30 rfl rfl sb66.get rfl) <| .l rfl (fun _ _ hk75 _ => vcallF rfl (s_heavy (.slice p64 l64 c64) ((dsh Sq40 w).2) A65 (dsh_small hSq40 (by have := (rasked_word ‹¬ ¬ rasked g l w = 0›).2; omega)).2.1 (Nat.le_trans (dsh_small hSq40 (by have := (rasked_word ‹¬ ¬ rasked g l w = 0›).2; omega)).2.2 (by decide)) fr69.slc) ?_)
  rintro v76 A77 ⟨rfl, leq78, wfq78⟩
  have h80 := leq78.get _ _ h68
  have h81 := leq78.get _ _ sb66.get
  have fr82 := fr69.le leq78
  have le83 := le70.trans leq78
  refine hk75 _ _ <| .nil <| h74 _ _ <| .if rfl (fun p84 => ?_) (fun p84 => ?_)
  ·
   refine Run.seq fun K85 h86 => .region <| .q rfl (qbuild rfl (buildV_struct u46 z46 pl46 rfl)) <| .l rfl (fun _ _ hk87 _ => wstore (cs := [str ([]), num ((0 : Nat) : Int), .slice none 0 0]) (c' := [str ([]), num ((0 : Nat) : Int), .slice none 0 0]) wfq78 rfl rfl rfl rfl sz46 h80 (Nat.le_of_ble_eq_true rfl) rfl rfl fun A88 sb89 => ?_)
   have le93 := le_store le83 wf ge_b9 sb89.n sb89.keep
   refine hk87 _ _ <| .q rfl (qassign rfl) <| .nil <| h86 _ _ <| .ret ?_
   repeat first | with_reducible refine thenQ_ret ?_ | with_reducible refine blockQ_ret ?_
   exact retQ (resCell ag46 sz46 rfl sb89.get rfl (resTmp rfl resNil)) (⟨[], [], 2, _, rfl, le93, sb89.wf, Fresh.nil _ _ _, ShR.heavy ‹¬ ¬ rasked g l w = 0› hSOq40 ‹1000000 < conjs _ ∨ 100000 < _›⟩)
  ·
   refine Run.skip <| h72 _ _ <| .seq fun K94 h95 => .region <| .q rfl (qloadAggAt ag46 sz46 rfl rfl h81 rfl) <| .l rfl (fun _ _ hk96 _ => wstore (cs := [str ((dsh Sq40 w).1), num (((dsh Sq40 w).2.length : Nat) : Int), .slice p64 l64 c64]) (c' := [str ((dsh Sq40 w).1), num (((dsh Sq40 w).2.length : Nat) : Int), .slice p64 l64 c64]) wfq78 rfl rfl rfl rfl sz46 h80 (Nat.le_of_ble_eq_true rfl) rfl rfl fun A97 sb98 => ?_)
   have fr101 := fr82.keep sb98.keep no53
   have le102 := le_store le83 wf ge_b9 sb98.n sb98.keep
   refine hk96 _ _ <| .q rfl (qassign rfl) <| .nil <| h95 _ _ <| .ret ?_
   repeat first | with_reducible refine thenQ_ret ?_ | with_reducible refine blockQ_ret ?_
   exact retQ (resCell ag46 sz46 rfl sb98.get rfl (resTmp rfl resNil)) (⟨(dsh Sq40 w).1, (dsh Sq40 w).2, 0, _, rfl, le102, sb98.wf, fr101, ShR.ok ‹¬ ¬ rasked g l w = 0› hSOq40 ‹¬ (1000000 < conjs _ ∨ 100000 < _)›⟩)

theorem s_St (g : Int) (u : Value) (l : List (List UInt8)) (w : List UInt8) (A : AH) (hn : l.length ≤ 1000000) (hL : Lets A) (hw : w.length ≤ 100000) (hu : Slc A 1 u (strs l)) : RetA Tryd.prog 17 #[.agg #[num (g), u], str (w)] A (fun v A1 => ∃ (b : Bool) (c : Nat), v = .tuple #[.bool b, num ((c : Nat) : Int)] ∧ A.le A1 ∧ A1.wf ∧ StR g l w (b, c)) := by
 refine enterA (e := [(0, .agg #[num (g), u]), (1, str (w))]) (args := [.agg #[num (g), u], str (w)]) Tryd.call17 Tryd.func17 rfl Tryd.results17 Tryd.ntmps17 rfl rfl rfl (fun wf => ?_)
 have le_ := AH.le.refl A
 refine Run.seq fun K1 h2 => .region <| .l rfl (fun _ _ hk3 _ => wbox wf rfl rfl fun A5 b4 nb6 => ?_)
 have le7 := le_.trans nb6.le
 refine hk3 _ _ <| .q rfl (qassign rfl) <| .q rfl (qassign rfl) <| .nil <| h2 _ _ <| .seq fun K8 h9 => .seq fun K10 h11 => .region <| .q rfl (qloadAggAt ag24 sz24 rfl rfl nb6.get rfl) <| .q rfl (qmove rfl) ?_
 refine Ops.l rfl (fun _ _ hk12 _ => vcallF rfl (s_refused ((g)) u l w A5 (by omega) (hL.le le7) (by first | omega | (simp only [List.length_append, List.length_drop, List.length_take, inv_length]; omega)) (hu.le le7)) ?_)
 rintro v13 A14 ⟨rfl, leq15, wfq15⟩
 have h16 := leq15.get _ _ nb6.get
 have le17 := le7.trans leq15
 refine hk12 _ _ <| .q rfl (qassign rfl) <| .nil <| h11 _ _ <| .seq fun K18 h19 => .region <| .q rfl (qmove rfl) <| .q rfl (qneqN (b := 0) rfl rfl) <| .nil <| h19 _ _ ?_
 refine Run.if rfl (fun p20 => ?_) (fun p20 => ?_)
 ·
  refine Run.seq fun K21 h22 => .region <| .q rfl (qmove rfl) <| .q rfl (qassign rfl) <| .q rfl (qassign rfl) <| .nil <| h22 _ _ <| .ret ?_
  repeat first | with_reducible refine thenQ_ret ?_ | with_reducible refine blockQ_ret ?_
  exact retQ rfl (⟨false, rasked ((g)) l w, rfl, le17, wfq15, StR.no ‹¬ rasked g l w = 0›⟩)
 ·
  refine Run.skip <| h9 _ _ <| .seq fun K23 h24 => .region <| .q rfl (qmove rfl) <| .l rfl (fun _ _ hk25 _ => vcallF rfl (s_Reduce w A14 (by first | omega | (simp only [List.length_append, List.length_drop, List.length_take, inv_length]; omega)) (hL.le le17)) ?_)
  rintro v26 A27 ⟨rfl, leq28, wfq28⟩
  have h29 := leq28.get _ _ h16
  have le30 := le17.trans leq28
  refine hk25 _ _ <| .q rfl (qmove rfl) <| .q rfl (qseql rfl rfl) <| .q rfl (qmove rfl) <| .part (t := 17) rfl (fun p31 => ?_) (fun p31 => ?_)
  ·
   refine Ops.on rfl rfl <| .q rfl (qloadAggAt ag24 sz24 rfl rfl h29 rfl) <| .on rfl rfl <| .l rfl (fun _ _ hk32 _ => vcallF rfl (s_newRules ((g)) u l A27 (hL.le le30) (rasked_pres ‹¬ ¬ rasked g l w = 0›) (hu.le le30)) ?_)
   rintro v33 A34 ⟨brq35, Sq35, rfl, leq35, wfq35, hRq35, hSq35, hPq35, hWq35⟩
   have le37 := le30.trans leq35
   have hR := hRq35
   have hS := hSq35
   have hP := hPq35
   have hW := hWq35
   have hRlq35 := Rules.all hRq35
   have leRq35 := le37
   have hSOq35 : SOk l Sq35 := ⟨hSq35, hPq35, hWq35⟩
   refine hk32 _ _ <| .on rfl rfl <| .q rfl (qmove rfl) <| .on rfl rfl <| .l rfl (fun _ _ hk38 _ => vcallF rfl (s_dshort brq35 Sq35 w A34 (hRlq35.le (by first | exact AH.le.refl _ | assumption)) hSq35 (hL.le le37) (by have := (rasked_word ‹¬ ¬ rasked g l w = 0›).2; omega)) ?_)
   rintro v39 A40 ⟨dvq41, rfl, leq41, wfq41, frq41⟩
   have le43 := le37.trans leq41
   refine hk38 _ _ <| .on rfl rfl <| .q rfl (qfield1 (cs := [str ((dsh Sq35 w).1), num (((dsh Sq35 w).2.length : Nat) : Int), dvq41]) fl46_1 ag3 rfl rfl) <| .on rfl rfl <| .q rfl (qeqlN (b := 0) rfl rfl) <| .q rfl (qpickT rfl rfl) <| .q rfl (qassign rfl) <| .q rfl (qassign rfl) <| .nil <| h24 _ _ ?_
   refine Run.ret ?_
   repeat first | with_reducible refine thenQ_ret ?_ | with_reducible refine blockQ_ret ?_
   exact retQ rfl (⟨decide ((dsh Sq35 w).2.length = 0), 0, rfl, le43, wfq41, StR.ok ‹¬ ¬ rasked g l w = 0› ‹wReduce w = w› hSOq35 rfl⟩)
  ·
   refine Ops.off rfl rfl rfl rfl <| .off rfl rfl rfl rfl <| .off rfl rfl rfl rfl <| .off rfl rfl rfl rfl <| .off rfl rfl rfl rfl <| .off rfl rfl rfl rfl <| .q rfl (qpickF rfl rfl) <| .q rfl (qassign rfl) <| .q rfl (qassign rfl) <| .nil ?_
   refine h24 _ _ <| .ret ?_
   repeat first | with_reducible refine thenQ_ret ?_ | with_reducible refine blockQ_ret ?_
   exact retQ rfl (⟨false, 0, rfl, le30, wfq28, StR.un ‹¬ ¬ rasked g l w = 0› ‹¬ wReduce w = w›⟩)

theorem s_sortS (d : List (List UInt8)) (lv : Value) (A0 A : AH) (le : A0.le A) (wf0 : A0.wf) (own : Fresh A0 A lv 1 (strs d)) (hl : d.length ≤ 1000000) :
    RetA Tryd.prog 52 #[lv] A (fun v A1 => v = .tuple #[] ∧ A0.le A1 ∧ A1.wf ∧ Fresh A0 A1 lv 1 (strs (srt d))) :=
  (sort_ret Tryd.sortS Tryd.call52 (by omega) le own).mono fun v A1 h => ⟨h.1, h.2.1, h.2.2.1, h.2.2.2.1⟩


theorem s_ver (br : Nat) (S : RS) (A : AH) (hR : Rules A br S) (hS : RSok S) : RetA Tryd.prog 28 #[.pointer (some ⟨br, 0, none⟩)] A (fun v A1 => v = .bool (dver S) ∧ A.le A1 ∧ A1.wf) := by
 refine enterA (e := [(0, .pointer (some ⟨br, 0, none⟩))]) (args := [.pointer (some ⟨br, 0, none⟩)]) Tryd.call28 Tryd.func28 rfl Tryd.results28 Tryd.ntmps28 rfl rfl rfl (fun wf => ?_)
 have le_ := AH.le.refl A
 obtain ⟨rwr, capr, lsv, nv, bl, hbr, hls, hnv, hN⟩ := hR
 have hsm := hS.small
 refine Run.seq fun K1 h2 => .region <| .q rfl (qassign rfl) <| .nil <| h2 _ _ <| .seq fun K3 h4 => .region <| .q rfl (qassign rfl) <| .nil <| h4 _ _ ?_
 refine Run.seq fun K5 h6 => .seq fun K7 h8 => .region <| .q rfl (qmove rfl) <| .q rfl (qnil rfl) <| .q rfl (qfieldAddr fl88_0 sz86 (by decide) rfl) <| .q rfl (qloadAt ag86 rfl rfl (le_.get _ _ hbr) rfl) <| .q rfl (qlenS (n := S.list.length) u86 rfl (hls.le le_) (by omega) (rcells_len _)) <| .q rfl (qmove rfl) <| .nil ?_
 refine h8 _ _ <| .block <| .loop (X := Nat × List (List UInt8) × Value) (fun ⟨k, ls, sv⟩ => [(3, sv), (11, lsv), (12, num ((S.list.length : Nat) : Int)), (13, num ((k : Nat) : Int))]) (fun ⟨k, ls, sv⟩ B => (k ≤ S.list.length ∧ ls = (S.list.map (·.w)).take k) ∧ A.le B ∧ Fresh A B sv 1 (strs ls)) (fun ⟨k, ls, sv⟩ => S.list.length - k) (⟨0, [], .slice none 0 0⟩) (EnvLe.cons rfl <| EnvLe.cons rfl <| EnvLe.cons rfl <| EnvLe.cons rfl <| EnvLe.nil _) (⟨⟨Nat.zero_le _, rfl⟩, le_, (Fresh.nil A A 1)⟩) ?_
 rintro ⟨k, ls, sv⟩ B10 ⟨⟨hk, hlq⟩, le9, fr_sv9⟩
 refine Run.wf fun wf11 => ?_
 have hlk : ls.length ≤ 30000 := by rw [hlq, List.length_take, List.length_map]; omega
 refine Run.seq fun K12 h13 => .region <| .q rfl (qlssN rfl rfl) <| .nil <| h13 _ _ <| .seq fun K14 h15 => .if rfl (fun p16 => ?_) (fun p16 => ?_)
 ·
  refine Run.skip <| h15 _ _ <| .seq fun K17 h18 => .block <| .seq fun K19 h20 => .region ?_
  obtain ⟨b21, f21, rw21, r21, rc21, n21, k21, e21, l21, g21, cl21, cs21⟩ := Slc.at (i := k) (hls.le le9) (by simp only [rcells_length]; omega) (by omega)
  refine Ops.q rfl (qindexS u86 sz80 rfl e21 rfl l21) <| .q rfl (qloadAggAt ag80 sz80 rfl rfl g21 (cl21.trans (congrArg some (rcells_at (by omega))))) <| .l rfl (fun _ _ hk22 _ => walloc wf11 z80 rfl fun A24 b23 nb25 => ?_)
  have no26 := fr_sv9.own.ne_new wf11 nb25.lo
  have ge_b23 := none_of wf (Nat.le_trans le9.n nb25.lo)
  have fr27 := fr_sv9.le nb25.le
  have le28 := le9.trans nb25.le
  refine hk22 _ _ <| .l rfl (fun _ _ hk29 _ => wstore (cs := [str ((S.list.getD k .zero).w), str ((S.list.getD k .zero).c), num (((S.list.getD k .zero).r : Nat) : Int), .bool ((S.list.getD k .zero).i)]) (c' := [str ((S.list.getD k .zero).w), str ((S.list.getD k .zero).c), num (((S.list.getD k .zero).r : Nat) : Int), .bool ((S.list.getD k .zero).i)]) nb25.wf rfl rfl rfl rfl sz80 nb25.get (Nat.le_of_ble_eq_true rfl) rfl rfl fun A30 sb31 => ?_)
  have fr32 := fr27.keep sb31.keep no26
  have le33 := le_store le28 wf ge_b23 sb31.n sb31.keep
  refine hk29 _ _ <| .nil <| h20 _ _ <| .region <| .q rfl (qmove rfl) <| .q rfl (qfieldAddr fl80_0 sz9 (by decide) rfl) <| .q rfl (qloadAt ag9 rfl rfl sb31.get rfl) <| .l rfl (fun _ _ hk34 _ => wbuildSlice (c := [str ((S.list.getD k .zero).w)]) sb31.wf rfl (buildSliceV_of u22 sz9 z9 rfl (by decide) (by decide) rfl) fun A36 b35 nb37 => ?_)
  have fr40 := fr32.le nb37.le
  have le41 := le33.trans nb37.le
  refine hk34 _ _ <| .l rfl (fun _ _ hk42 _ => wappend (ys := [str ((S.list.getD k .zero).w)]) rfl rfl u22 sz9 inf9 z9 rfl (by decide) u22 (fun _ h => by cases h) fr40.own (listOf_row (n := 1) nb37.get rfl) rfl rfl (by show (_ + _) * 16 ≤ _; simp only [strs_length, List.length_cons, List.length_nil]; (try simp only [List.length_append, List.length_cons, List.length_nil]); omega) (by simp only [strs_length, List.length_cons, List.length_nil]; (try simp only [List.length_append, List.length_cons, List.length_nil]); omega) fun A43 v44 ap45 => ?_)
  rw [show ([str ((S.list.getD k .zero).w)] : List Value) = strs [(S.list.getD k .zero).w] from rfl, strs_append] at ap45
  obtain ⟨fr48, le49⟩ := Fresh.grow fr40 le41 wf ap45
  refine hk42 _ _ <| .q rfl (qassign rfl) <| .nil <| h18 _ _ <| .region <| .q rfl (qaddN (b := 1) rfl rfl (by omega)) <| .q rfl (qmove rfl) <| .nil ?_
  exact ⟨⟨k + 1, ls ++ [(S.list.getD k .zero).w], v44⟩, EnvLe.cons rfl <| EnvLe.cons rfl <| EnvLe.cons rfl <| EnvLe.cons rfl <| EnvLe.nil _, rfl, ⟨⟨by omega, by rw [hlq, List.take_add_one, List.getElem?_map, List.getElem?_eq_getElem (by omega)]; simp [show k < S.list.length by omega]⟩, le49, fr48⟩, (by (try dsimp only); omega)⟩
 ·
  refine Run.exit <| h6 _ _ <| .seq fun K52 h53 => .region <| .q rfl (qmove rfl) ?_
  have hls2 : ls = S.list.map (·.w) := by rw [hlq, List.take_of_length_le (by rw [List.length_map]; omega)]
  have hpm := srt_perm ls
  have hpl : (srt ls).length = S.list.length := by rw [hpm.length_eq, hls2, List.length_map]
  have hwl : ∀ i, ((srt ls).getD i []).length ≤ 200 := getD_le fun r hr => by have := hpm.mem_iff.1 hr; rw [hls2] at this; obtain ⟨x, hx, rfl⟩ := List.mem_map.1 this; have := hS.most x hx; omega
  have le58 := le_hide (bs := [blk sv]) le9 (hoV fr_sv9.lo ho0)
  refine Ops.l rfl (fun _ _ hk54 _ => vcallF rfl (s_sortS ls sv (B10.hide [blk sv]) B10 (hide_le B10 [blk sv]) (hide_wf wf11) (fr_sv9.hide (by simp)) (by omega)) ?_)
  rintro v55 A56 ⟨rfl, leq57, wfq57, foq57_0⟩
  have fr59 := foq57_0.base le58
  have le60 := le58.trans leq57
  refine hk54 _ _ <| .nil <| h53 _ _ <| .seq fun K61 h62 => .seq fun K63 h64 => .region <| .q rfl (qassign rfl) <| .nil <| h64 _ _ <| .block ?_
  refine Run.loop (X := Nat) (fun i => [(3, sv), (6, num ((i : Nat) : Int))]) (fun i B => (1 ≤ i ∧ ∀ j, 1 ≤ j → j < i → ¬ badAt (srt ls) j) ∧ A.le B ∧ Fresh A B sv 1 (strs (srt ls))) (fun i => (srt ls).length - i) 1 (EnvLe.cons rfl <| EnvLe.cons rfl <| EnvLe.nil _) (⟨⟨Nat.le_refl _, fun j h1 h2 => by omega⟩, le60, fr59⟩) ?_
  rintro i B66 ⟨⟨hi, hgood⟩, le65, fk_oq57_065⟩
  refine Run.wf fun wf67 => ?_
  have hw1 := hwl (i - 1)
  have hw2 := hwl i
  have hcm := cmn_le ((srt ls).getD (i - 1) []) ((srt ls).getD i [])
  refine Run.seq fun K68 h69 => .seq fun K70 h71 => .region <| .q rfl (qmove rfl) <| .q rfl (qmove rfl) <| .q rfl (qlenS (n := (srt ls).length) u22 rfl fk_oq57_065.slc (by omega) (strs_len _)) <| .q rfl (qlssN rfl rfl) <| .nil <| h71 _ _ <| .if rfl (fun p72 => ?_) (fun p72 => ?_)
  ·
   refine Run.skip <| h69 _ _ <| .seq fun K73 h74 => .block <| .seq fun K75 h76 => .drawn [0, 1, 2, 3, 4, 5, 6, 7, 8, 9, 10, 11] mixed (by kernel_rfl) (by kernel_rfl) rfl <| .q rfl rfl rfl (qmove rfl) <| .q rfl rfl rfl (qmove rfl) <| .q rfl rfl rfl (qsubN (b := 1) rfl rfl (by omega)) ?_
   obtain ⟨b77, f77, rw77, r77, rc77, n77, k77, e77, l77, g77, cl77, cs77⟩ := Slc.at (i := i - 1) fk_oq57_065.slc (by simp only [strs_length]; omega) (by omega)
   refine DOps.q rfl rfl rfl (qindexS u22 sz9 rfl e77 rfl l77) <| .q rfl rfl rfl (qloadAt ag9 rfl rfl g77 ((elt0 cs77).trans (strs_get (by omega)))) <| .q rfl rfl rfl (qmove rfl) <| .q rfl rfl rfl (qmove rfl) ?_
   obtain ⟨b79, f79, rw79, r79, rc79, n79, k79, e79, l79, g79, cl79, cs79⟩ := Slc.at (i := i) fk_oq57_065.slc (by simp only [strs_length]; omega) (by omega)
   refine DOps.q rfl rfl rfl (qindexS u22 sz9 rfl e79 rfl l79) <| .q rfl rfl rfl (qloadAt ag9 rfl rfl g79 ((elt0 cs79).trans (strs_get (by omega)))) <| .l rfl rfl rfl (fun _ _ hk81 _ => vcallF rfl (s_common ((srt ls).getD (i - 1) []) ((srt ls).getD i []) B66 (by first | omega | (simp only [List.length_append, List.length_drop, List.length_take, inv_length]; omega)) (by first | omega | (simp only [List.length_append, List.length_drop, List.length_take, inv_length]; omega))) ?_)
   rintro v82 A83 ⟨rfl, rfl⟩
   refine hk81 _ _ (HeldNow.none (by kernel_rfl)) <| .q rfl rfl rfl (qmulN (a := 6) rfl rfl (by omega)) <| .q rfl rfl rfl (qassign rfl) <| .done <| h76 _ _ <| .seq fun K85 h86 => .region <| .q rfl (qmove rfl) <| .q rfl (qmove rfl) <| .q rfl (qmove rfl) ?_
   refine Ops.q rfl (qsubN (b := 1) rfl rfl (by omega)) ?_
   obtain ⟨b87, f87, rw87, r87, rc87, n87, k87, e87, l87, g87, cl87, cs87⟩ := Slc.at (i := i - 1) fk_oq57_065.slc (by simp only [strs_length]; omega) (by omega)
   refine Ops.q rfl (qindexS u22 sz9 rfl e87 rfl l87) <| .q rfl (qloadAt ag9 rfl rfl g87 ((elt0 cs87).trans (strs_get (by omega)))) <| .q rfl (qslen u9 rfl) <| .q rfl (qgeqN rfl rfl) <| .q rfl (qmove rfl) <| .part (t := 50) rfl (fun p88 => ?_) (fun p88 => ?_)
   ·
    refine Ops.off rfl rfl rfl rfl <| .off rfl rfl rfl rfl <| .off rfl rfl rfl rfl <| .off rfl rfl rfl rfl <| .off rfl rfl rfl rfl <| .off rfl rfl rfl rfl <| .off rfl rfl rfl rfl <| .q rfl (qpickT rfl rfl) <| .nil <| h86 _ _ ?_
    refine Run.cond_true rfl <| .seq fun K89 h90 => .region <| .q rfl (qassign rfl) <| .nil <| h90 _ _ <| .ret ?_
    repeat first | with_reducible refine thenQ_ret ?_ | with_reducible refine blockQ_ret ?_
    exact retQ rfl (⟨by first | (rw [dver, ← hls2, dverW_yes (by omega) hgood]; rfl) | (rw [dver, ← hls2, dverW_no hi (by omega) (by unfold badAt; omega)]; rfl), le65, wf67⟩)
   ·
    refine Ops.on rfl rfl <| .q rfl (qmove rfl) <| .on rfl rfl <| .q rfl (qmove rfl) <| .on rfl rfl <| .q rfl (qmove rfl) <| .on rfl rfl ?_
    obtain ⟨b91, f91, rw91, r91, rc91, n91, k91, e91, l91, g91, cl91, cs91⟩ := Slc.at (i := i) fk_oq57_065.slc (by simp only [strs_length]; omega) (by omega)
    refine Ops.q rfl (qindexS u22 sz9 rfl e91 rfl l91) <| .on rfl rfl <| .q rfl (qloadAt ag9 rfl rfl g91 ((elt0 cs91).trans (strs_get (by omega)))) <| .on rfl rfl <| .q rfl (qslen u9 rfl) <| .on rfl rfl <| .q rfl (qgeqN rfl rfl) <| .q rfl (qpickF rfl rfl) <| .nil <| h86 _ _ ?_
    refine Run.if rfl (fun p92 => ?_) (fun p92 => ?_)
    ·
     refine Run.seq fun K93 h94 => .region <| .q rfl (qassign rfl) <| .nil <| h94 _ _ <| .ret ?_
     repeat first | with_reducible refine thenQ_ret ?_ | with_reducible refine blockQ_ret ?_
     exact retQ rfl (⟨by first | (rw [dver, ← hls2, dverW_yes (by omega) hgood]; rfl) | (rw [dver, ← hls2, dverW_no hi (by omega) (by unfold badAt; omega)]; rfl), le65, wf67⟩)
    ·
     refine Run.skip <| h74 _ _ <| .region <| .q rfl (qmove rfl) <| .q rfl (qaddN (b := 1) rfl rfl (by omega)) <| .q rfl (qassign rfl) <| .nil ?_
     exact ⟨i + 1, EnvLe.cons rfl <| EnvLe.cons rfl <| EnvLe.nil _, rfl, ⟨⟨by omega, fun j h1 h2 => (Nat.lt_succ_iff_lt_or_eq.1 h2).elim (hgood j h1) (fun q => by subst q; unfold badAt; omega)⟩, le65, fk_oq57_065⟩, (by (try dsimp only); omega)⟩
  ·
   refine Run.exit <| h62 _ _ <| .seq fun K95 h96 => .region <| .q rfl (qassign rfl) <| .nil <| h96 _ _ <| .ret ?_
   repeat first | with_reducible refine thenQ_ret ?_ | with_reducible refine blockQ_ret ?_
   exact retQ rfl (⟨by first | (rw [dver, ← hls2, dverW_yes (by omega) hgood]; rfl) | (rw [dver, ← hls2, dverW_no hi (by omega) (by unfold badAt; omega)]; rfl), le65, wf67⟩)

theorem s_Ve (g : Int) (u : Value) (l : List (List UInt8)) (A : AH) (hn : l.length ≤ 1000000) (hL : Lets A) (hu : Slc A 1 u (strs l)) : RetA Tryd.prog 8 #[.agg #[num (g), u]] A (fun v A1 => ∃ (c : Nat), v = num ((c : Nat) : Int) ∧ A.le A1 ∧ A1.wf ∧ VeR g l c) := by
 refine enterA (e := [(0, .agg #[num (g), u])]) (args := [.agg #[num (g), u]]) Tryd.call8 Tryd.func8 rfl Tryd.results8 Tryd.ntmps8 rfl rfl rfl (fun wf => ?_)
 have le_ := AH.le.refl A
 refine Run.seq fun K1 h2 => .region <| .l rfl (fun _ _ hk3 _ => wbox wf rfl rfl fun A5 b4 nb6 => ?_)
 have le7 := le_.trans nb6.le
 refine hk3 _ _ <| .q rfl (qassign rfl) <| .nil <| h2 _ _ <| .seq fun K8 h9 => .seq fun K10 h11 => .region <| .q rfl (qloadAggAt ag24 sz24 rfl rfl nb6.get rfl) <| .l rfl (fun _ _ hk12 _ => vcallF rfl (s_pCheck ((g)) u l A5 (by omega) (hL.le le7) (hu.le le7)) ?_)
 rintro v13 A14 ⟨rfl, leq15, wfq15⟩
 have h16 := leq15.get _ _ nb6.get
 have le17 := le7.trans leq15
 refine hk12 _ _ <| .q rfl (qassign rfl) <| .nil <| h11 _ _ <| .seq fun K18 h19 => .region <| .q rfl (qmove rfl) <| .q rfl (qneqN (b := 0) rfl rfl) <| .nil <| h19 _ _ ?_
 refine Run.if rfl (fun p20 => ?_) (fun p20 => ?_)
 ·
  refine Run.seq fun K21 h22 => .region <| .q rfl (qmove rfl) <| .q rfl (qassign rfl) <| .nil <| h22 _ _ <| .ret ?_
  repeat first | with_reducible refine thenQ_ret ?_ | with_reducible refine blockQ_ret ?_
  exact retQ rfl (⟨pcheck ((g)) l, rfl, le17, wfq15, VeR.no ‹¬ pcheck g l = 0›⟩)
 ·
  refine Run.skip <| h9 _ _ <| .seq fun K23 h24 => .seq fun K25 h26 => .region <| .q rfl (qloadAggAt ag24 sz24 rfl rfl h16 rfl) <| .l rfl (fun _ _ hk27 _ => vcallF rfl (s_newRules ((g)) u l A14 (hL.le le17) (Decidable.not_not.1 ‹¬ ¬ pcheck g l = 0›) (hu.le le17)) ?_)
  rintro v28 A29 ⟨brq30, Sq30, rfl, leq30, wfq30, hRq30, hSq30, hPq30, hWq30⟩
  have le32 := le17.trans leq30
  have hR := hRq30
  have hS := hSq30
  have hP := hPq30
  have hW := hWq30
  have hRlq30 := Rules.all hRq30
  have leRq30 := le32
  have hSOq30 : SOk l Sq30 := ⟨hSq30, hPq30, hWq30⟩
  refine hk27 _ _ <| .l rfl (fun _ _ hk33 _ => vcallF rfl (s_ver brq30 Sq30 A29 (hRlq30.le (by first | exact AH.le.refl _ | assumption)) hSq30) ?_)
  rintro v34 A35 ⟨rfl, leq36, wfq36⟩
  have le38 := le32.trans leq36
  refine hk33 _ _ <| .q rfl (qnot rfl) <| .nil <| h26 _ _ <| .ifB rfl (fun p39 => ?_) (fun p39 => ?_)
  ·
   refine Run.seq fun K40 h41 => .region <| .q rfl (qassign rfl) <| .nil <| h41 _ _ <| .ret ?_
   repeat first | with_reducible refine thenQ_ret ?_ | with_reducible refine blockQ_ret ?_
   exact retQ rfl (⟨230, rfl, le38, wfq36, VeR.ok ‹¬ ¬ pcheck g l = 0› hSOq30 (by rw [if_neg (by have := ‹(!dver _) = true›; intro q; rw [q] at this; cases this)])⟩)
  ·
   refine Run.skip <| h24 _ _ <| .seq fun K42 h43 => .region <| .q rfl (qassign rfl) <| .nil <| h43 _ _ <| .ret ?_
   repeat first | with_reducible refine thenQ_ret ?_ | with_reducible refine blockQ_ret ?_
   exact retQ rfl (⟨0, rfl, le38, wfq36, VeR.ok ‹¬ ¬ pcheck g l = 0› hSOq30 (by rw [if_pos (by have := ‹(!dver _) = false›; simpa using this)])⟩)

theorem s_Tr (g : Int) (u : Value) (l : List (List UInt8)) (w : List UInt8) (A : AH) (hn : l.length ≤ 1000000) (hL : Lets A) (hw : w.length ≤ 100000) (hu : Slc A 1 u (strs l)) : RetA Tryd.prog 11 #[.agg #[num (g), u], str (w)] A (fun v A1 => ∃ (b : Bool) (d : List DCell) (c : Nat) (dv : Value), v = .tuple #[.bool b, dv, num ((c : Nat) : Int)] ∧ A.le A1 ∧ A1.wf ∧ Fresh A A1 dv 3 (dcells d) ∧ TrR g l w (b, d, c)) := by
 refine enterA (e := [(0, .agg #[num (g), u]), (1, str (w))]) (args := [.agg #[num (g), u], str (w)]) Tryd.call11 Tryd.func11 rfl Tryd.results11 Tryd.ntmps11 rfl rfl rfl (fun wf => ?_)
 have le_ := AH.le.refl A
 refine Run.seq fun K1 h2 => .region <| .l rfl (fun _ _ hk3 _ => wbox wf rfl rfl fun A5 b4 nb6 => ?_)
 have le7 := le_.trans nb6.le
 refine hk3 _ _ <| .q rfl (qassign rfl) <| .q rfl (qassign rfl) <| .q rfl (qassign rfl) <| .nil <| h2 _ _ <| .seq fun K8 h9 => .seq fun K10 h11 => .region <| .q rfl (qloadAggAt ag24 sz24 rfl rfl nb6.get rfl) ?_
 refine Ops.q rfl (qmove rfl) <| .l rfl (fun _ _ hk12 _ => vcallF rfl (s_refused ((g)) u l w A5 (by omega) (hL.le le7) (by first | omega | (simp only [List.length_append, List.length_drop, List.length_take, inv_length]; omega)) (hu.le le7)) ?_)
 rintro v13 A14 ⟨rfl, leq15, wfq15⟩
 have h16 := leq15.get _ _ nb6.get
 have le17 := le7.trans leq15
 refine hk12 _ _ <| .q rfl (qassign rfl) <| .nil <| h11 _ _ <| .seq fun K18 h19 => .region <| .q rfl (qmove rfl) <| .q rfl (qneqN (b := 0) rfl rfl) <| .nil <| h19 _ _ ?_
 refine Run.if rfl (fun p20 => ?_) (fun p20 => ?_)
 ·
  refine Run.seq fun K21 h22 => .region <| .q rfl (qmove rfl) <| .q rfl (qassign rfl) <| .q rfl (qassign rfl) <| .q rfl (qassign rfl) <| .nil <| h22 _ _ <| .ret ?_
  repeat first | with_reducible refine thenQ_ret ?_ | with_reducible refine blockQ_ret ?_
  exact retQ rfl (⟨false, [], rasked ((g)) l w, _, rfl, le17, wfq15, Fresh.nil _ _ _, TrR.no ‹¬ rasked g l w = 0›⟩)
 ·
  refine Run.skip <| h9 _ _ <| .seq fun K23 h24 => .region <| .q rfl (qloadAggAt ag24 sz24 rfl rfl h16 rfl) <| .l rfl (fun _ _ hk25 _ => vcallF rfl (s_newRules ((g)) u l A14 (hL.le le17) (rasked_pres ‹¬ ¬ rasked g l w = 0›) (hu.le le17)) ?_)
  rintro v26 A27 ⟨brq28, Sq28, rfl, leq28, wfq28, hRq28, hSq28, hPq28, hWq28⟩
  have le30 := le17.trans leq28
  have hR := hRq28
  have hS := hSq28
  have hP := hPq28
  have hW := hWq28
  have hRlq28 := Rules.all hRq28
  have leRq28 := le30
  have hSOq28 : SOk l Sq28 := ⟨hSq28, hPq28, hWq28⟩
  refine hk25 _ _ <| .q rfl (qassign rfl) <| .nil <| h24 _ _ <| .seq fun K31 h32 => .seq fun K33 h34 => .region <| .q rfl (qmove rfl) <| .l rfl (fun _ _ hk35 _ => vcallF rfl (s_ver brq28 Sq28 A27 (hRlq28.le (by first | exact AH.le.refl _ | assumption)) hSq28) ?_)
  rintro v36 A37 ⟨rfl, leq38, wfq38⟩
  have le40 := le30.trans leq38
  refine hk35 _ _ <| .q rfl (qnot rfl) <| .nil <| h34 _ _ <| .ifB rfl (fun p41 => ?_) (fun p41 => ?_)
  ·
   refine Run.seq fun K42 h43 => .region <| .q rfl (qassign rfl) <| .q rfl (qassign rfl) <| .q rfl (qassign rfl) <| .nil <| h43 _ _ <| .ret ?_
   repeat first | with_reducible refine thenQ_ret ?_ | with_reducible refine blockQ_ret ?_
   exact retQ rfl (⟨false, [], 230, _, rfl, le40, wfq38, Fresh.nil _ _ _, TrR.a ‹¬ ¬ rasked g l w = 0› hSOq28 ‹(!dver _) = true›⟩)
  ·
   refine Run.skip <| h32 _ _ <| .seq fun K44 h45 => .region <| .q rfl (qmove rfl) <| .q rfl (qmove rfl) <| .l rfl (fun _ _ hk46 _ => vcallF rfl (s_dshort brq28 Sq28 w A37 (hRlq28.le (by first | exact AH.le.refl _ | assumption)) hSq28 (hL.le le40) (by have := (rasked_word ‹¬ ¬ rasked g l w = 0›).2; omega)) ?_)
   rintro v47 A48 ⟨dvq49, rfl, leq49, wfq49, frq49⟩
   have le51 := le40.trans leq49
   have fr52 := frq49.base le40
   refine hk46 _ _ <| .l rfl (fun _ _ hk54 _ => walloc wfq49 z46 rfl fun A56 b55 nb57 => ?_)
   have no58 := fr52.own.ne_new wfq49 nb57.lo
   have ge_b55 := none_of wf (Nat.le_trans le51.n nb57.lo)
   have fr60 := fr52.le nb57.le
   have le61 := le51.trans nb57.le
   refine hk54 _ _ ?_
   obtain ⟨p63, l63, c63, q63, _⟩ := fr60.own.slice
   subst q63
   refine Ops.l rfl (fun _ _ hk62 _ => wstore (cs := [str ((dsh Sq28 w).1), num (((dsh Sq28 w).2.length : Nat) : Int), .slice p63 l63 c63]) (c' := [str ((dsh Sq28 w).1), num (((dsh Sq28 w).2.length : Nat) : Int), .slice p63 l63 c63]) nb57.wf rfl rfl rfl rfl sz46 nb57.get (Nat.le_of_ble_eq_true rfl) rfl rfl fun A64 sb65 => ?_)
   have fr67 := fr60.keep sb65.keep no58
   have le68 := le_store le61 wf ge_b55 sb65.n sb65.keep
   refine hk62 _ _ <| .nil <| h45 _ _ <| .seq fun K69 h70 => .seq fun K71 h72 => .region <| .q rfl (qfieldAddr fl46_0 sz9 (by decide) rfl) <| .q rfl (qloadAt ag9 rfl rfl sb65.get rfl) <| .q rfl (qsneq rfl rfl) <| .nil ?_
   refine h72 _ _ <| .if rfl (fun p73 => ?_) (fun p73 => ?_)
   ·
    refine Run.seq fun K74 h75 => .region <| .q rfl (qassign rfl) <| .q rfl (qassign rfl) <| .q rfl (qassign rfl) <| .nil <| h75 _ _ <| .ret ?_
    repeat first | with_reducible refine thenQ_ret ?_ | with_reducible refine blockQ_ret ?_
    exact retQ rfl (⟨false, [], 0, _, rfl, le68, sb65.wf, Fresh.nil _ _ _, TrR.b ‹¬ ¬ rasked g l w = 0› hSOq28 ‹(!dver _) = false› ‹¬ (dsh _ w).1 = []›⟩)
   ·
    refine Run.skip <| h70 _ _ <| .seq fun K76 h77 => .seq fun K78 h79 => .region <| .q rfl (qfieldAddr fl46_2 sz30 (by decide) rfl) <| .q rfl (qloadAt ag30 rfl rfl sb65.get rfl) <| .l rfl (fun _ _ hk80 _ => vcallF rfl (s_heavy (.slice p63 l63 c63) ((dsh Sq28 w).2) A64 (dsh_small hSq28 (by have := (rasked_word ‹¬ ¬ rasked g l w = 0›).2; omega)).2.1 (Nat.le_trans (dsh_small hSq28 (by have := (rasked_word ‹¬ ¬ rasked g l w = 0›).2; omega)).2.2 (by decide)) fr67.slc) ?_)
    rintro v81 A82 ⟨rfl, leq83, wfq83⟩
    have h85 := leq83.get _ _ sb65.get
    have fr86 := fr67.le leq83
    have le87 := le68.trans leq83
    refine hk80 _ _ <| .nil <| h79 _ _ <| .if rfl (fun p88 => ?_) (fun p88 => ?_)
    ·
     refine Run.seq fun K89 h90 => .region <| .q rfl (qassign rfl) <| .q rfl (qassign rfl) <| .q rfl (qassign rfl) <| .nil <| h90 _ _ <| .ret ?_
     repeat first | with_reducible refine thenQ_ret ?_ | with_reducible refine blockQ_ret ?_
     exact retQ rfl (⟨false, [], 2, _, rfl, le87, wfq83, Fresh.nil _ _ _, TrR.c ‹¬ ¬ rasked g l w = 0› hSOq28 ‹(!dver _) = false› ‹¬ ¬ (dsh _ w).1 = []› ‹1000000 < conjs _ ∨ 100000 < _›⟩)
    ·
     refine Run.skip <| h77 _ _ <| .seq fun K91 h92 => .drawn [0, 1, 2, 3, 4] mixed (by kernel_rfl) (by kernel_rfl) rfl <| .q rfl rfl rfl (qfieldAddr fl46_2 sz30 (by decide) rfl) <| .q rfl rfl rfl (qloadAt ag30 rfl rfl h85 rfl) <| .q rfl rfl rfl (qassign rfl) <| .q rfl rfl rfl (qassign rfl) <| .q rfl rfl rfl (qassign rfl) <| .done ?_
     refine h92 _ _ <| .ret ?_
     repeat first | with_reducible refine thenQ_ret ?_ | with_reducible refine blockQ_ret ?_
     exact retQ rfl (⟨true, (dsh Sq28 w).2, 0, _, rfl, le87, wfq83, fr86, TrR.d ‹¬ ¬ rasked g l w = 0› hSOq28 ‹(!dver _) = false› ‹¬ ¬ (dsh _ w).1 = []› ‹¬ (1000000 < conjs _ ∨ 100000 < _)›⟩)
end Go.Proofs.YtaccklloepfemaaDoor

namespace Go.Proofs.YtaccklloepfemaaDoor
set_option linter.unusedVariables false
set_option linter.unusedSimpArgs false
open Go Go.RowKit V

theorem rot_at {w : List UInt8} {p i : Nat} (hp : p < w.length) (hi : i < w.length) : (rot w p).getD i 0 = w.getD ((p + i) % w.length) 0 := by
  simp only [rot, List.getD_eq_getElem?_getD]
  by_cases h : p + i < w.length
  · rw [List.getElem?_append_left (by simp; omega), List.getElem?_drop, Nat.mod_eq_of_lt h]
  · rw [List.getElem?_append_right (by simp; omega), List.length_drop, List.getElem?_take_of_lt (by omega), Nat.mod_eq_sub_mod (by omega), Nat.mod_eq_of_lt (by omega)]
    congr 2; omega
theorem rot_end {w : List UInt8} {p i : Nat} (hi : w.length ≤ i) : (rot w p).getD i 0 = 0 ∧ decide (i < (rot w p).length) = false := by
  rw [rot_length]
  refine ⟨?_, decide_eq_false (by omega)⟩
  rw [List.getD_eq_getElem?_getD, List.getElem?_eq_none (by rw [rot_length]; exact hi)]; rfl
def turnA (w : List UInt8) (i n : Nat) : Int := if ((i + n : Nat) : Int) - ((w.length : Nat) : Int) > 0 then ((i + n : Nat) : Int) - ((w.length : Nat) : Int) else 0
def turnU (L : List Rot) (w : List UInt8) : Nat → Int
  | 0 => -1
  | i + 1 => if 0 < (longF L (rot w i)).2 then (if turnU L w i < 0 ∨ turnA w i (longF L (rot w i)).2 < turnU L w i then turnA w i (longF L (rot w i)).2 else turnU L w i) else turnU L w i
theorem turnU_a {L : List Rot} {w : List UInt8} {i : Nat} {c : Int} (hc : c = turnU L w i) (h : (longF L (rot w i)).2 > 0) (h2 : c < 0 ∨ turnA w i (longF L (rot w i)).2 < c) : turnA w i (longF L (rot w i)).2 = turnU L w (i + 1) := by
  subst hc; rw [turnU, if_pos h, if_pos h2]
theorem turnU_b {L : List Rot} {w : List UInt8} {i : Nat} {c : Int} (hc : c = turnU L w i) (h : (longF L (rot w i)).2 > 0) (h2 : ¬ c < 0) (h3 : ¬ turnA w i (longF L (rot w i)).2 < c) : c = turnU L w (i + 1) := by
  subst hc; rw [turnU, if_pos h, if_neg (fun q => q.elim h2 h3)]
theorem turnU_c {L : List Rot} {w : List UInt8} {i : Nat} {c : Int} (hc : c = turnU L w i) (h : ¬ (longF L (rot w i)).2 > 0) : c = turnU L w (i + 1) := by
  subst hc; rw [turnU, if_neg h]
def dturn (L : List Rot) (w : List UInt8) : Int := turnU L w w.length
theorem longU_le (l : List Rot) (s : List UInt8) : ∀ i, (longU l s i).2 ≤ i
  | 0 => Nat.le_refl _
  | i + 1 => by
    have := longU_le l s i
    simp only [longU, longStep]
    split
    · split
      · exact Nat.le_refl _
      · dsimp only; omega
    · omega
theorem longF_le (l : List Rot) (s : List UInt8) : (longF l s).2 ≤ s.length := longU_le l s _
theorem turnU_bound (L : List Rot) (w : List UInt8) : ∀ i, i ≤ w.length → -1 ≤ turnU L w i ∧ turnU L w i < w.length + 1 ∧ (0 ≤ turnU L w i → turnU L w i < w.length)
  | 0, _ => by simp only [turnU]; omega
  | i + 1, hi => by
    have h := turnU_bound L w i (by omega)
    have h2 := longF_le L (rot w i)
    rw [rot_length] at h2
    rw [turnU]
    split
    · split
      · unfold turnA; split <;> omega
      · exact h
    · exact h
/-- Two words, less what cancels between them. -/
def jn : Nat → List UInt8 → List UInt8 → List UInt8 × List UInt8
  | 0, x, y => (x, y)
  | f + 1, x, y => if ¬ x = [] ∧ ¬ y = [] ∧ x.getD (x.length - 1) 0 = y.getD 0 0 ^^^ 32 then jn f (x.take (x.length - 1)) (y.drop 1) else (x, y)
theorem jn_go {f : Nat} {x y : List UInt8} {R : List UInt8 × List UInt8} (hf : x.length < f) (h : ¬ x = [] ∧ ¬ y = [] ∧ x.getD (x.length - 1) 0 = y.getD 0 0 ^^^ 32) (e : jn f x y = R) : jn (f - 1) (x.take (x.length - 1)) (y.drop 1) = R := by
  cases f with
  | zero => omega
  | succ f => rw [jn, if_pos h] at e; exact e
theorem jn_stop {f : Nat} {x y : List UInt8} {R : List UInt8 × List UInt8} (h : ¬ (¬ x = [] ∧ ¬ y = [] ∧ x.getD (x.length - 1) 0 = y.getD 0 0 ^^^ 32)) (e : jn f x y = R) : R = (x, y) := by
  cases f with
  | zero => exact e.symm
  | succ f => rw [jn, if_neg h] at e; exact e.symm
def jnd (x y : List UInt8) : List UInt8 := (jn (x.length + 1) x y).1 ++ (jn (x.length + 1) x y).2
theorem ne_len {x : List UInt8} (h : ¬ x = []) : 0 < x.length := by
  cases x with
  | nil => exact absurd rfl h
  | cons a x => simp
end Go.Proofs.YtaccklloepfemaaDoor

namespace Go.Proofs.YtaccklloepfemaaDoor
set_option linter.unusedVariables false
set_option linter.unusedSimpArgs false
open Go Go.RowKit V

theorem longU_some {L : List Rot} {s : List UInt8} : ∀ i, i ≤ s.length → 0 < (longU L s i).2 → (longU L s i).2 ≤ i ∧ ∃ x ∈ L, s.take (longU L s i).2 <+: x.w ∧ x.w.length < 2 * (longU L s i).2
  | 0, _, h => by simp [longU] at h
  | i + 1, hi, h => by
    have ih := longU_some (L := L) (s := s) i (by omega)
    simp only [longU, longStep] at h ⊢
    by_cases hb : 0 ≤ bestOf L (s.take (i + 1))
    · rw [if_pos hb] at h ⊢
      by_cases hc : (longU L s i).1 < 0
      · rw [if_pos hc] at h ⊢
        obtain ⟨j, _, h2, h3, h4, _⟩ := bestOf_spec hb
        refine ⟨Nat.le_refl _, _, getD_mem (d := Rot.zero) h2, h3, ?_⟩
        rw [List.length_take] at h4
        show _ < 2 * (i + 1)
        omega
      · rw [if_neg hc] at h ⊢
        dsimp only at h ⊢
        obtain ⟨h1, h2⟩ := ih h
        exact ⟨by omega, h2⟩
    · rw [if_neg hb] at h ⊢
      obtain ⟨h1, h2⟩ := ih h
      exact ⟨by omega, h2⟩
theorem longF_some {L : List Rot} {s : List UInt8} (h : 0 < (longF L s).2) : (longF L s).2 ≤ s.length ∧ ∃ x ∈ L, s.take (longF L s).2 <+: x.w ∧ x.w.length < 2 * (longF L s).2 := longU_some s.length (Nat.le_refl _) h
theorem part_pos {L : List Rot} {s : List UInt8} {x : Rot} {n : Nat} (hx : x ∈ L) (hn : n ≤ s.length) (hp : s.take n <+: x.w) (hl : x.w.length < 2 * n) : 0 ≤ (longF L s).1 := by
  apply Classical.byContradiction
  intro q
  have h1 := longF_neg q x hx
  have h2 := (cmn_prefix s x.w n hn).1 hp
  omega
theorem drun_le {L : List Rot} {m : Nat} : ∀ (f : Nat) (l : List UInt8) (d : List DCell) (p : Nat), (drun L m f l d p).1.length ≤ l.length
  | 0, l, d, p => Nat.le_refl _
  | f + 1, l, d, p => by
    rw [drun]
    by_cases hp : p < l.length
    · rw [if_pos hp]
      by_cases h : 0 ≤ (longF L (l.drop p)).1
      · rw [if_pos h]
        exact Nat.le_trans (drun_le f _ _ _) (Nat.le_of_lt (repl_lt hp h))
      · rw [if_neg h]; exact drun_le f l d (p + 1)
    · rw [if_neg hp]; exact Nat.le_refl _
theorem drun_lt {L : List Rot} {m : Nat} : ∀ (f : Nat) (l : List UInt8) (d : List DCell) (p q : Nat), l.length - p < f → p ≤ q → q < l.length → 0 ≤ (longF L (l.drop q)).1 → (drun L m f l d p).1.length < l.length
  | 0, _, _, _, _, hf, _, _, _ => by omega
  | f + 1, l, d, p, q, hf, hpq, hq, h => by
    rw [drun, if_pos (by omega)]
    by_cases hp : 0 ≤ (longF L (l.drop p)).1
    · rw [if_pos hp]
      have hlt := repl_lt (show p < l.length by omega) hp
      refine Nat.lt_of_le_of_lt ?_ hlt
      exact drun_le f _ _ _
    · rw [if_neg hp]
      exact drun_lt f l d (p + 1) q (by omega) (by rcases Nat.lt_or_eq_of_le hpq with e | e; exact e; subst e; exact absurd h hp) hq h
theorem dsh_le (S : RS) (w : List UInt8) : (dsh S w).1.length ≤ (red w).length := drun_le _ _ _ _
theorem dsh_lt {S : RS} {w : List UInt8} {q : Nat} (hq : q < w.length) (h : 0 ≤ (longF S.list (w.drop q)).1) : (dsh S w).1.length < w.length := by
  have h1 := red_length w
  have h2 := dsh_le S w
  rcases Nat.lt_or_eq_of_le h1 with e | e
  · omega
  · have e2 : red w = w := (red_len_eq w []).2 (by simpa [red] using e)
    unfold dsh
    rw [e2]
    exact drun_lt _ _ _ 0 q (by unfold fuel; omega) (Nat.zero_le _) hq h
theorem turnU_mem {L : List Rot} {w : List UInt8} : ∀ i, i ≤ w.length → 0 ≤ turnU L w i → ∃ j, j < i ∧ 0 < (longF L (rot w j)).2 ∧ turnU L w i = turnA w j (longF L (rot w j)).2
  | 0, _, h => by simp [turnU] at h
  | i + 1, hi, h => by
    rw [turnU] at h ⊢
    by_cases hn : 0 < (longF L (rot w i)).2
    · rw [if_pos hn] at h ⊢
      split at h
      · rename_i hc
        rw [if_pos hc]
        exact ⟨i, by omega, hn, rfl⟩
      · rename_i hc
        rw [if_neg hc]
        obtain ⟨j, h1, h2⟩ := turnU_mem i (by omega) h
        exact ⟨j, by omega, h2⟩
    · rw [if_neg hn] at h ⊢
      obtain ⟨j, h1, h2⟩ := turnU_mem i (by omega) h
      exact ⟨j, by omega, h2⟩
/-- Where a turned word has its part. -/
theorem rot_part {w : List UInt8} {i k n : Nat} (hi : i < w.length) (hk : k ≤ i) (hn : i + n ≤ w.length + k) : ((rot w k).drop (i - k)).take n = (rot w i).take n := by
  have e1 : (rot w k).drop (i - k) = w.drop i ++ w.take k := by
    rw [rot, List.drop_append_of_le_length (by rw [List.length_drop]; omega), List.drop_drop, show k + (i - k) = i by omega]
  rw [e1, rot]
  have e2 : w.take i = w.take k ++ (w.take i).drop k := by
    have := (List.take_append_drop k (w.take i)).symm
    rw [List.take_take, Nat.min_eq_left hk] at this; exact this
  rw [e2, ← List.append_assoc, List.take_append_of_le_length (l₁ := w.drop i ++ w.take k)]
  simp; omega
theorem turn_lt {S : RS} {r : List UInt8} {k : Nat} (hz : ((k : Nat) : Int) = dturn S.list r) : k < r.length ∧ (dsh S (rot r k)).1.length < r.length := by
  have hb := turnU_bound S.list r r.length (Nat.le_refl _)
  unfold dturn at hz
  obtain ⟨j, hj, hn, e⟩ := turnU_mem r.length (Nat.le_refl _) (by omega : 0 ≤ turnU S.list r r.length)
  obtain ⟨h1, x, hx, h2, h3⟩ := longF_some hn
  rw [rot_length] at h1
  rw [e] at hz
  have hk : (k = 0 ∧ j + (longF S.list (rot r j)).2 ≤ r.length) ∨ k + r.length = j + (longF S.list (rot r j)).2 := by
    unfold turnA at hz
    split at hz <;> omega
  have hkj : k ≤ j := by omega
  have hp := rot_part (w := r) (i := j) (k := k) (n := (longF S.list (rot r j)).2) hj hkj (by omega)
  refine ⟨by omega, ?_⟩
  have hlt := dsh_lt (S := S) (w := rot r k) (q := j - k) (by rw [rot_length]; omega) (part_pos hx (by rw [List.length_drop, rot_length]; omega) (by rw [hp]; exact h2) h3)
  rw [rot_length] at hlt
  exact hlt

def cellJ (c1 : List UInt8) (c : DCell) : DCell := ⟨jnd c1 c.conj, c.rel, c.inv⟩
def fitsJ (c1 : List UInt8) (ds : List DCell) : Bool := ds.all fun c => decide ((jnd c1 c.conj).length ≤ 100000)
def cyF (S : RS) : Nat → List UInt8 → List UInt8 → List DCell → List UInt8 × List DCell × List UInt8 × Nat
  | 0, _, _, _ => ([], [], [], 2)
  | f + 1, r, cj, d =>
    if dturn S.list r < 0 then (if Heavy d then ([], [], [], 2) else (r, d, cj, 0))
    else if fitsJ (jnd cj (r.take (dturn S.list r).toNat)) (dsh S (rot r (dturn S.list r).toNat)).2 = false then ([], [], [], 2)
    else if (jnd cj (r.take (dturn S.list r).toNat)).length ≤ 100000 ∧ (jnd (jnd cj (r.take (dturn S.list r).toNat)) (wConj (dsh S (rot r (dturn S.list r).toNat)).1)).length ≤ 100000
      then cyF S f (wCore (dsh S (rot r (dturn S.list r).toNat)).1) (jnd (jnd cj (r.take (dturn S.list r).toNat)) (wConj (dsh S (rot r (dturn S.list r).toNat)).1)) (d ++ (dsh S (rot r (dturn S.list r).toNat)).2.map (cellJ (jnd cj (r.take (dturn S.list r).toNat))))
      else ([], [], [], 2)
section
variable {S : RS} {f k : Nat} {r cj : List UInt8} {d : List DCell} {R : List UInt8 × List DCell × List UInt8 × Nat}
theorem cyF_end (hf : 0 < f) (h : dturn S.list r < 0) (e : cyF S f r cj d = R) : R = if Heavy d then ([], [], [], 2) else (r, d, cj, 0) := by
  cases f with
  | zero => omega
  | succ f => rw [cyF, if_pos h] at e; exact e.symm
theorem fitsJ_no {c1 : List UInt8} {ds : List DCell} {j : Nat} (hj : j < ds.length) (h : ¬ (jnd c1 (ds.getD j .zero).conj).length ≤ 100000) : fitsJ c1 ds = false := by
  rw [fitsJ, List.all_eq_false]
  exact ⟨_, getD_mem hj, by rw [decide_eq_true_eq]; exact h⟩
theorem fitsJ_yes {c1 : List UInt8} {ds : List DCell} {k : Nat} (hk : ds.length ≤ k) (h : ∀ j, j < k → (jnd c1 (ds.getD j .zero).conj).length ≤ 100000) : fitsJ c1 ds = true := by
  rw [fitsJ, List.all_eq_true]
  intro c hc
  obtain ⟨j, hj, rfl⟩ := List.getElem_of_mem hc
  have := h j (by omega)
  rw [decide_eq_true_eq]
  simpa [hj] using this
theorem cyF_no1 (hz : ((k : Nat) : Int) = dturn S.list r) (hf : 0 < f) (e : cyF S f r cj d = R) (h : fitsJ (jnd cj (r.take k)) (dsh S (rot r k)).2 = false) : R = ([], [], [], 2) := by
  cases f with
  | zero => omega
  | succ f => rw [cyF, ← hz, if_neg (by omega), Int.toNat_natCast, if_pos h] at e; exact e.symm
theorem cyF_no2 (hz : ((k : Nat) : Int) = dturn S.list r) (hf : 0 < f) (e : cyF S f r cj d = R) (h0 : fitsJ (jnd cj (r.take k)) (dsh S (rot r k)).2 = true) (h : ¬ ((jnd cj (r.take k)).length ≤ 100000 ∧ (jnd (jnd cj (r.take k)) (wConj (dsh S (rot r k)).1)).length ≤ 100000)) : R = ([], [], [], 2) := by
  cases f with
  | zero => omega
  | succ f => rw [cyF, ← hz, if_neg (by omega), Int.toNat_natCast, if_neg (by rw [h0]; decide), if_neg h] at e; exact e.symm
theorem cyF_go (hz : ((k : Nat) : Int) = dturn S.list r) (hf : 0 < f) (e : cyF S f r cj d = R) (h0 : fitsJ (jnd cj (r.take k)) (dsh S (rot r k)).2 = true) (h : (jnd cj (r.take k)).length ≤ 100000 ∧ (jnd (jnd cj (r.take k)) (wConj (dsh S (rot r k)).1)).length ≤ 100000) :
    cyF S (f - 1) (wCore (dsh S (rot r k)).1) (jnd (jnd cj (r.take k)) (wConj (dsh S (rot r k)).1)) (d ++ (dsh S (rot r k)).2.map (cellJ (jnd cj (r.take k)))) = R := by
  cases f with
  | zero => omega
  | succ f => rw [cyF, ← hz, if_neg (by omega), Int.toNat_natCast, if_neg (by rw [h0]; decide), if_pos h] at e; exact e
end
def cyOf (S : RS) (w : List UInt8) : List UInt8 × List DCell × List UInt8 × Nat := cyF S ((wCore (dsh S w).1).length + 1) (wCore (dsh S w).1) (wConj (dsh S w).1) (dsh S w).2
def CyR (g : Int) (l : List (List UInt8)) (w : List UInt8) (r : List UInt8 × List DCell × List UInt8 × Nat) : Prop :=
  if ¬ rasked g l w = 0 then r = ([], [], [], rasked g l w) else ∃ S, SOk l S ∧ r = cyOf S w
theorem CyR.no {g : Int} {l : List (List UInt8)} {w : List UInt8} (h : ¬ rasked g l w = 0) : CyR g l w ([], [], [], rasked g l w) := by rw [CyR, if_pos h]
theorem CyR.ok {g : Int} {l : List (List UInt8)} {w : List UInt8} {S : RS} {r : List UInt8 × List DCell × List UInt8 × Nat} (h : ¬ ¬ rasked g l w = 0) (hS : SOk l S) (hr : cyOf S w = r) : CyR g l w r := by rw [CyR, if_neg h]; exact ⟨S, hS, hr.symm⟩
theorem jn_len : ∀ (f : Nat) (x y : List UInt8), (jn f x y).1.length + (jn f x y).2.length ≤ x.length + y.length
  | 0, x, y => Nat.le_refl _
  | f + 1, x, y => by
    rw [jn]; split
    · have := jn_len f (x.take (x.length - 1)) (y.drop 1)
      simp only [List.length_take, List.length_drop] at this; omega
    · exact Nat.le_refl _
theorem jnd_len (x y : List UInt8) : (jnd x y).length ≤ x.length + y.length := by rw [jnd, List.length_append]; exact jn_len _ _ _
theorem dsh_all {S : RS} (hS : RSok S) {w : List UInt8} (hw : w.length ≤ 6000) : (dsh S w).1.length ≤ w.length ∧ (dsh S w).2.length + (dsh S w).1.length ≤ w.length ∧ ∀ c ∈ (dsh S w).2, c.conj.length ≤ 7000 := by
  have hr := red_length w
  obtain ⟨h1, h2, h3⟩ := drun_small (m := S.most) (fun x hx => (hS.isw x hx).2.2) (fuel (red w).length) (red w) [] 0 (by omega)
  refine ⟨?_, ?_, fun c hc => (h3 c hc).elim (fun q => by cases q) id⟩
  · show (drun _ _ _ _ _ _).1.length ≤ _; omega
  · show (drun _ _ _ _ _ _).2.length + (drun _ _ _ _ _ _).1.length ≤ _
    simp only [List.length_nil] at h2; omega
theorem getD_conj {d : List DCell} {n : Nat} (h : ∀ c ∈ d, c.conj.length ≤ n) (k : Nat) : (d.getD k .zero).conj.length ≤ n := by
  by_cases q : k < d.length
  · exact h _ (getD_mem q)
  · rw [List.getD_eq_getElem?_getD, List.getElem?_eq_none (by omega)]; simp [DCell.zero]
theorem conj_step {d : List DCell} {ds : List DCell} {k : Nat} {c1 : List UInt8} (hk : k < ds.length) : d ++ (ds.take k).map (cellJ c1) ++ [cellJ c1 (ds.getD k .zero)] = d ++ (ds.take (k + 1)).map (cellJ c1) := by
  rw [List.append_assoc, List.take_add_one, List.getElem?_eq_getElem hk, List.map_append]
  simp [hk]
theorem V.Fresh.sep0 {A B : AH} {v u : Value} {size s2 : Nat} {xs ys : List Value} (h : Fresh A B v size xs) (hu : Own A u s2 ys) : Sep v u := fun c hv hc => by
  obtain ⟨x, hx⟩ := hu.blkget hc
  have := h.lo c hv
  rw [hx] at this; cases this
end Go.Proofs.YtaccklloepfemaaDoor

namespace Go.Proofs.YtaccklloepfemaaDoor
open Go Go.RowKit V
set_option maxRecDepth 100000
set_option linter.unusedVariables false
set_option linter.unusedSimpArgs false


theorem s_turn1 (i : Nat) (l : List UInt8) (p b1 b2 cap1 cap2 : Nat) (rw1 rw2 : Bool) (A : AH) (ht : p < l.length ∧ l.length ≤ 100000000 ∧ i ≤ l.length) (gb1 : A.get b1 = some (.row rw1 [str l] cap1)) (gb2 : A.get b2 = some (.row rw2 [num ((p : Nat) : Int)] cap2)) : RetA Tryd.prog 63 #[num ((i : Nat) : Int), .pointer (some ⟨b1, 0, none⟩), .pointer (some ⟨b2, 0, none⟩)] A (fun v A1 => v = .tuple #[byt ((rot l p).getD i 0), .bool (decide (i < (rot l p).length))] ∧ A = A1) := by
 refine enterA (e := [(0, num ((i : Nat) : Int)), (1, .pointer (some ⟨b1, 0, none⟩)), (2, .pointer (some ⟨b2, 0, none⟩))]) (args := [num ((i : Nat) : Int), .pointer (some ⟨b1, 0, none⟩), .pointer (some ⟨b2, 0, none⟩)]) Tryd.call63 Tryd.func63 rfl Tryd.results63 Tryd.ntmps63 rfl rfl rfl (fun wf => ?_)
 have le_ := AH.le.refl A
 have hmod := Nat.mod_lt (p + i) (show 0 < l.length by omega)
 refine Run.seq fun K1 h2 => .region <| .q rfl (qassign rfl) <| .q rfl (qassign rfl) <| .nil <| h2 _ _ <| .seq fun K3 h4 => .seq fun K5 h6 => .region <| .q rfl (qmove rfl) ?_
 refine Ops.q rfl (qloadAt ag9 rfl rfl (le_.get _ _ gb1) rfl) <| .q rfl (qslen u9 rfl) <| .q rfl (qgeqN rfl rfl) <| .nil <| h6 _ _ <| .if rfl (fun p7 => ?_) (fun p7 => ?_)
 ·
  refine Run.seq fun K8 h9 => .region <| .q rfl (qassign rfl) <| .q rfl (qassign rfl) <| .nil <| h9 _ _ <| .ret ?_
  repeat first | with_reducible refine thenQ_ret ?_ | with_reducible refine blockQ_ret ?_
  exact retQ rfl (⟨by first | (rw [(rot_end (w := l) (p := p) (i := i) (by omega)).1, (rot_end (w := l) (p := p) (i := i) (by omega)).2]; rfl) | (rw [rot_at (by omega) (by omega), rot_length, decide_eq_true (show i < l.length by omega)]; rfl), rfl⟩)
 ·
  refine Run.skip <| h4 _ _ <| .seq fun K10 h11 => .drawn [0, 1, 2, 3, 4, 5, 6, 7, 8, 9] mixed (by kernel_rfl) (by kernel_rfl) rfl <| .q rfl rfl rfl (qloadAt ag9 rfl rfl (le_.get _ _ gb1) rfl) <| .q rfl rfl rfl (qloadAt ag3 rfl rfl (le_.get _ _ gb2) rfl) <| .q rfl rfl rfl (qmove rfl) <| .q rfl rfl rfl (qaddN rfl rfl (by omega)) <| .q rfl rfl rfl (qloadAt ag9 rfl rfl (le_.get _ _ gb1) rfl) <| .q rfl rfl rfl (qslen u9 rfl) ?_
  refine DOps.q rfl rfl rfl (qremN rfl rfl (by omega)) <| .q rfl rfl rfl (qsix u9 rfl rfl (by omega)) <| .q rfl rfl rfl (qassign rfl) <| .q rfl rfl rfl (qassign rfl) <| .done <| h11 _ _ <| .ret ?_
  repeat first | with_reducible refine thenQ_ret ?_ | with_reducible refine blockQ_ret ?_
  exact retQ rfl (⟨by first | (rw [(rot_end (w := l) (p := p) (i := i) (by omega)).1, (rot_end (w := l) (p := p) (i := i) (by omega)).2]; rfl) | (rw [rot_at (by omega) (by omega), rot_length, decide_eq_true (show i < l.length by omega)]; rfl), rfl⟩)

theorem s_turn (br : Nat) (S : RS) (w : List UInt8) (A : AH) (hR : Rules A br S) (hS : RSok S) (hw : w.length ≤ 1000000) : RetA Tryd.prog 40 #[.pointer (some ⟨br, 0, none⟩), str (w)] A (fun v A1 => v = num (dturn S.list w) ∧ A.le A1 ∧ A1.wf) := by
 refine enterA (e := [(0, .pointer (some ⟨br, 0, none⟩)), (1, str (w))]) (args := [.pointer (some ⟨br, 0, none⟩), str (w)]) Tryd.call40 Tryd.func40 rfl Tryd.results40 Tryd.ntmps40 rfl rfl rfl (fun wf => ?_)
 have le_ := AH.le.refl A
 refine Run.seq fun K1 h2 => .region <| .l rfl (fun _ _ hk3 _ => wbox wf rfl rfl fun A5 b4 nb6 => ?_)
 have le7 := le_.trans nb6.le
 refine hk3 _ _ <| .q rfl (qassign rfl) <| .nil <| h2 _ _ <| .seq fun K8 h9 => .region <| .q rfl (qassign rfl) <| .nil <| h9 _ _ <| .seq fun K10 h11 => ?_
 refine Run.seq fun K12 h13 => .region <| .q rfl (qloadAt ag9 rfl rfl nb6.get rfl) <| .q rfl (qslen u9 rfl) <| .q rfl (qmove rfl) <| .nil <| h13 _ _ <| .block <| .loop (X := Nat × Int) (fun ⟨j, c⟩ => [(0, .pointer (some ⟨br, 0, none⟩)), (3, .pointer (some ⟨b4, 0, none⟩)), (5, num (c)), (11, num ((w.length : Nat) : Int)), (12, num ((j : Nat) : Int))]) (fun ⟨j, c⟩ B => (j ≤ w.length ∧ c = turnU S.list w j) ∧ A.le B ∧ B.get b4 = some (.row true [str (w)] 1)) (fun ⟨j, c⟩ => w.length - j) (⟨0, -1⟩) (EnvLe.cons rfl <| EnvLe.cons rfl <| EnvLe.cons rfl <| EnvLe.cons rfl <| EnvLe.cons rfl <| EnvLe.nil _) (⟨⟨Nat.zero_le _, rfl⟩, le7, nb6.get⟩) ?_
 rintro ⟨j, c⟩ B15 ⟨⟨hj, hc⟩, le14, hr_b414⟩
 refine Run.wf fun wf16 => ?_
 have hlf := longF_le S.list (rot w j)
 rw [rot_length] at hlf
 have htb := turnU_bound S.list w j hj
 rw [← hc] at htb
 refine Run.seq fun K17 h18 => .region <| .q rfl (qlssN rfl rfl) <| .nil <| h18 _ _ <| .seq fun K19 h20 => .if rfl (fun p21 => ?_) (fun p21 => ?_)
 ·
  refine Run.skip <| h20 _ _ <| .seq fun K22 h23 => .block <| .seq fun K24 h25 => .region <| .q rfl (qmove rfl) <| .l rfl (fun _ _ hk26 _ => walloc wf16 z3 rfl fun A28 b27 nb29 => ?_)
  have ne_b4_b27 := ne_new wf16 hr_b414 nb29.lo
  have ge_b27 := none_of wf (Nat.le_trans le14.n nb29.lo)
  have h30 := nb29.le.get _ _ hr_b414
  have le31 := le14.trans nb29.le
  refine hk26 _ _ <| .l rfl (fun _ _ hk32 _ => wstore (cs := [num ((j : Nat) : Int)]) (c' := [num ((j : Nat) : Int)]) nb29.wf rfl rfl rfl rfl sz3 nb29.get (Nat.le_of_ble_eq_true rfl) rfl rfl fun A33 sb34 => ?_)
  have h35 := sb34.keep _ _ ne_b4_b27 h30
  have le36 := le_store le31 wf ge_b27 sb34.n sb34.keep
  refine hk32 _ _ <| .nil <| h25 _ _ <| .seq fun K37 h38 => .region <| .q rfl (qmove rfl) <| .q rfl (qfunc rfl rfl) <| .l rfl (fun _ _ hk39 _ => vcallF rfl (s_long br S 63 #[.pointer (some ⟨b4, 0, none⟩), .pointer (some ⟨b27, 0, none⟩)] (rot w j) A33 (hR.le le36) hS (by rw [rot_length]; omega) (fun i B hi le wf => s_turn1 i w j b4 b27 _ _ _ _ B ⟨by omega, by omega, by rw [rot_length] at hi; exact hi⟩ (le.get _ _ h35) (le.get _ _ sb34.get))) ?_)
  rintro v40 A41 ⟨rfl, rfl⟩
  refine hk39 _ _ <| .q rfl (qmove rfl) <| .q rfl (qextract rfl rfl) <| .q rfl (qextract rfl rfl) <| .q rfl (qassign rfl) <| .q rfl (qassign rfl) <| .nil <| h38 _ _ <| .seq fun K43 h44 => .region ?_
  refine Ops.q rfl (qmove rfl) <| .q rfl (qgtrN (b := 0) rfl rfl) <| .nil <| h44 _ _ <| .if rfl (fun p45 => ?_) (fun p45 => ?_)
  ·
   refine Run.seq fun K46 h47 => .region <| .q rfl (qloadAt ag3 rfl rfl sb34.get rfl) <| .q rfl (qmove rfl) <| .q rfl (qaddN rfl rfl (by omega)) <| .q rfl (qloadAt ag9 rfl rfl h35 rfl) <| .q rfl (qslen u9 rfl) <| .q rfl (qsub rfl rfl (by omega)) <| .q rfl (qmax rfl rfl) <| .q rfl (qassign rfl) ?_
   refine Ops.nil <| h47 _ _ <| .seq fun K48 h49 => .region <| .q rfl (qmove rfl) <| .q rfl (qlss rfl rfl) <| .q rfl (qmove rfl) <| .part (t := 32) rfl (fun p50 => ?_) (fun p50 => ?_)
   ·
    refine Ops.off rfl rfl rfl rfl <| .off rfl rfl rfl rfl <| .off rfl rfl rfl rfl <| .q rfl (qpickT rfl rfl) <| .nil <| h49 _ _ <| .cond_true rfl <| .region <| .q rfl (qmove rfl) <| .q rfl (qassign rfl) ?_
    refine Ops.nil <| h23 _ _ <| .region <| .q rfl (qaddN (b := 1) rfl rfl (by omega)) <| .q rfl (qmove rfl) <| .nil ?_
    exact ⟨⟨j + 1, (if (((j + ((longF S.list (rot w j)).2) : Nat) : Int) - ((w.length : Nat) : Int)) > ((0 : Nat) : Int) then (((j + ((longF S.list (rot w j)).2) : Nat) : Int) - ((w.length : Nat) : Int)) else ((0 : Nat) : Int))⟩, EnvLe.cons rfl <| EnvLe.cons rfl <| EnvLe.cons rfl <| EnvLe.cons rfl <| EnvLe.cons rfl <| EnvLe.nil _, rfl, ⟨⟨by omega, by first | exact turnU_a hc ‹(longF S.list (rot w j)).2 > 0› (.inl ‹c < 0›) | exact turnU_a hc ‹(longF S.list (rot w j)).2 > 0› (.inr ‹_ < c›) | exact turnU_b hc ‹(longF S.list (rot w j)).2 > 0› ‹¬ c < 0› ‹¬ _ < c› | exact turnU_c hc ‹¬ (longF S.list (rot w j)).2 > 0›⟩, le36, h35⟩, (by (try dsimp only); omega)⟩
   ·
    refine Ops.on rfl rfl <| .q rfl (qmove rfl) <| .on rfl rfl <| .q rfl (qmove rfl) <| .on rfl rfl <| .q rfl (qlss rfl rfl) <| .q rfl (qpickF rfl rfl) <| .nil <| h49 _ _ <| .if rfl (fun p51 => ?_) (fun p51 => ?_)
    ·
     refine Run.region <| .q rfl (qmove rfl) <| .q rfl (qassign rfl) <| .nil <| h23 _ _ <| .region <| .q rfl (qaddN (b := 1) rfl rfl (by omega)) <| .q rfl (qmove rfl) <| .nil ?_
     exact ⟨⟨j + 1, (if (((j + ((longF S.list (rot w j)).2) : Nat) : Int) - ((w.length : Nat) : Int)) > ((0 : Nat) : Int) then (((j + ((longF S.list (rot w j)).2) : Nat) : Int) - ((w.length : Nat) : Int)) else ((0 : Nat) : Int))⟩, EnvLe.cons rfl <| EnvLe.cons rfl <| EnvLe.cons rfl <| EnvLe.cons rfl <| EnvLe.cons rfl <| EnvLe.nil _, rfl, ⟨⟨by omega, by first | exact turnU_a hc ‹(longF S.list (rot w j)).2 > 0› (.inl ‹c < 0›) | exact turnU_a hc ‹(longF S.list (rot w j)).2 > 0› (.inr ‹_ < c›) | exact turnU_b hc ‹(longF S.list (rot w j)).2 > 0› ‹¬ c < 0› ‹¬ _ < c› | exact turnU_c hc ‹¬ (longF S.list (rot w j)).2 > 0›⟩, le36, h35⟩, (by (try dsimp only); omega)⟩
    ·
     refine Run.skip <| h23 _ _ <| .region <| .q rfl (qaddN (b := 1) rfl rfl (by omega)) <| .q rfl (qmove rfl) <| .nil ?_
     exact ⟨⟨j + 1, (c)⟩, EnvLe.cons rfl <| EnvLe.cons rfl <| EnvLe.cons rfl <| EnvLe.cons rfl <| EnvLe.cons rfl <| EnvLe.nil _, rfl, ⟨⟨by omega, by first | exact turnU_a hc ‹(longF S.list (rot w j)).2 > 0› (.inl ‹c < 0›) | exact turnU_a hc ‹(longF S.list (rot w j)).2 > 0› (.inr ‹_ < c›) | exact turnU_b hc ‹(longF S.list (rot w j)).2 > 0› ‹¬ c < 0› ‹¬ _ < c› | exact turnU_c hc ‹¬ (longF S.list (rot w j)).2 > 0›⟩, le36, h35⟩, (by (try dsimp only); omega)⟩
  ·
   refine Run.skip <| h23 _ _ <| .region <| .q rfl (qaddN (b := 1) rfl rfl (by omega)) <| .q rfl (qmove rfl) <| .nil ?_
   exact ⟨⟨j + 1, (c)⟩, EnvLe.cons rfl <| EnvLe.cons rfl <| EnvLe.cons rfl <| EnvLe.cons rfl <| EnvLe.cons rfl <| EnvLe.nil _, rfl, ⟨⟨by omega, by first | exact turnU_a hc ‹(longF S.list (rot w j)).2 > 0› (.inl ‹c < 0›) | exact turnU_a hc ‹(longF S.list (rot w j)).2 > 0› (.inr ‹_ < c›) | exact turnU_b hc ‹(longF S.list (rot w j)).2 > 0› ‹¬ c < 0› ‹¬ _ < c› | exact turnU_c hc ‹¬ (longF S.list (rot w j)).2 > 0›⟩, le36, h35⟩, (by (try dsimp only); omega)⟩
 ·
  refine Run.exit <| h11 _ _ <| .seq fun K52 h53 => .region <| .q rfl (qmove rfl) <| .q rfl (qassign rfl) <| .nil <| h53 _ _ <| .ret ?_
  repeat first | with_reducible refine thenQ_ret ?_ | with_reducible refine blockQ_ret ?_
  exact retQ rfl (⟨by rw [hc, show j = w.length by omega]; rfl, le14, wf16⟩)

theorem s_joined (x y : List UInt8) (A : AH) (hx : x.length ≤ 1000000) (hy : y.length ≤ 1000000) : RetA Tryd.prog 41 #[str (x), str (y)] A (fun v A1 => v = .tuple #[str (jnd x y), .bool (decide ((jnd x y).length ≤ 100000))] ∧ A = A1) := by
 refine enterA (e := [(0, str (x)), (1, str (y))]) (args := [str (x), str (y)]) Tryd.call41 Tryd.func41 rfl Tryd.results41 Tryd.ntmps41 rfl rfl rfl (fun wf => ?_)
 have le_ := AH.le.refl A
 refine Run.seq fun K1 h2 => .region <| .q rfl (qassign rfl) <| .q rfl (qassign rfl) <| .nil <| h2 _ _ <| .seq fun K3 h4 => .block <| .loop (X := Nat × List UInt8 × List UInt8) (fun ⟨f, a, c⟩ => [(0, str (a)), (1, str (c))]) (fun ⟨f, a, c⟩ B => (jn f a c = jn (x.length + 1) x y ∧ a.length < f ∧ a.length ≤ x.length ∧ c.length ≤ y.length) ∧ A = B) (fun ⟨f, a, c⟩ => a.length) (⟨x.length + 1, x, y⟩) (EnvLe.cons rfl <| EnvLe.cons rfl <| EnvLe.nil _) (⟨⟨rfl, by omega, Nat.le_refl _, Nat.le_refl _⟩, rfl⟩) ?_
 rintro ⟨f, a, c⟩ B6 ⟨⟨hj, hf, ha, hcl⟩, rfl⟩
 have hne1 := fun q : ¬ a = [] => ne_len q
 have hne2 := fun q : ¬ c = [] => ne_len q
 refine Run.seq fun K7 h8 => .seq fun K9 h10 => .drawn [0, 1, 2, 3, 4, 5, 6, 7, 8, 9, 10, 11, 12, 13, 14, 15, 16] mixed (by kernel_rfl) (by kernel_rfl) rfl <| .q rfl rfl rfl (qmove rfl) <| .q rfl rfl rfl (qsneq rfl rfl) <| .q rfl rfl rfl (qmove rfl) <| .part (t := 8) rfl (fun p11 => ?_) (fun p11 => ?_)
 ·
  refine DOps.qOn rfl rfl rfl rfl rfl (qmove rfl) <| .qOn rfl rfl rfl rfl rfl (qsneq rfl rfl) <| .q rfl rfl rfl (qpickT rfl rfl) <| .q rfl rfl rfl (qmove rfl) <| .part (t := 12) rfl (fun p12 => ?_) (fun p12 => ?_)
  ·
   refine DOps.qOn rfl rfl rfl rfl rfl (qmove rfl) <| .qOn rfl rfl rfl rfl rfl (qmove rfl) <| .qOn rfl rfl rfl rfl rfl (qslen u9 rfl) <| .qOn rfl rfl rfl rfl rfl (qsubN (b := 1) rfl rfl (by first | omega | (have := hne1 ‹¬ a = []›; have := hne2 ‹¬ c = []›; omega))) <| .qOn rfl rfl rfl rfl rfl (qsix u9 rfl rfl (by (have := hne1 ‹¬ a = []›; have := hne2 ‹¬ c = []›; omega))) <| .qOn rfl rfl rfl rfl rfl (qmove rfl) <| .qOn rfl rfl rfl rfl rfl (qsix u9 rfl rfl (by (have := hne1 ‹¬ a = []›; have := hne2 ‹¬ c = []›; omega))) <| .qOn rfl rfl rfl rfl rfl (qxorB (d := 32) rfl rfl) <| .qOn rfl rfl rfl rfl rfl (qeqlB rfl rfl) <| .q rfl rfl rfl (qpickT rfl rfl) ?_
   refine DOps.done <| h10 _ _ <| .if rfl (fun p13 => ?_) (fun p13 => ?_)
   ·
    refine Run.skip <| h8 _ _ <| .block <| .drawn [0, 1, 2, 3, 4, 5, 6, 7, 8] mixed (by kernel_rfl) (by kernel_rfl) rfl <| .q rfl rfl rfl (qmove rfl) <| .q rfl rfl rfl (qmove rfl) <| .q rfl rfl rfl (qslen u9 rfl) <| .q rfl rfl rfl (qsubN (b := 1) rfl rfl (by first | omega | (have := hne1 ‹¬ a = []›; have := hne2 ‹¬ c = []›; omega))) <| .q rfl rfl rfl (qslHi u9 rfl rfl (by (have := hne1 ‹¬ a = []›; have := hne2 ‹¬ c = []›; omega))) <| .q rfl rfl rfl (qmove rfl) ?_
    refine DOps.q rfl rfl rfl (qslLo (i := 1) u9 rfl rfl (by (have := hne1 ‹¬ a = []›; have := hne2 ‹¬ c = []›; omega))) <| .q rfl rfl rfl (qassign rfl) <| .q rfl rfl rfl (qassign rfl) <| .done ?_
    exact ⟨⟨f - 1, a.take (a.length - 1), c.drop 1⟩, EnvLe.cons rfl <| EnvLe.cons rfl <| EnvLe.nil _, rfl, ⟨⟨jn_go hf ⟨‹¬ a = []›, ‹¬ c = []›, ‹_›⟩ hj, by have := hne1 ‹¬ a = []›; rw [List.length_take]; omega, by rw [List.length_take]; omega, by rw [List.length_drop]; omega⟩, rfl⟩, (by have := hne1 ‹¬ a = []›; try dsimp only; rw [List.length_take]; omega)⟩
   ·
    refine Run.exit <| h4 _ _ <| .seq fun K14 h15 => .region <| .q rfl (qmove rfl) <| .q rfl (qmove rfl) <| .q rfl (qsadd rfl rfl (by first | omega | (have := hne1 ‹¬ a = []›; have := hne2 ‹¬ c = []›; omega))) <| .q rfl (qmove rfl) <| .q rfl (qslen u9 rfl) <| .q rfl (qmove rfl) ?_
    refine Ops.q rfl (qslen u9 rfl) <| .q rfl (qaddN rfl rfl (by first | omega | (have := hne1 ‹¬ a = []›; have := hne2 ‹¬ c = []›; omega))) <| .q rfl (qleqN (b := 100000) rfl rfl) <| .q rfl (qassign rfl) <| .q rfl (qassign rfl) <| .nil <| h15 _ _ <| .ret ?_
    repeat first | with_reducible refine thenQ_ret ?_ | with_reducible refine blockQ_ret ?_
    exact retQ rfl (⟨by have hj2 := jn_stop (by rintro ⟨q1, q2, q3⟩; first | exact absurd q1 ‹¬ ¬ a = []› | exact absurd q2 ‹¬ ¬ c = []› | exact absurd q3 ‹_›) hj; rw [jnd, hj2, List.length_append]; rfl, rfl⟩)
  ·
   refine DOps.qOff rfl rfl rfl rfl rfl rfl <| .qOff rfl rfl rfl rfl rfl rfl <| .qOff rfl rfl rfl rfl rfl rfl <| .qOff rfl rfl rfl rfl rfl rfl <| .qOff rfl rfl rfl rfl rfl rfl <| .qOff rfl rfl rfl rfl rfl rfl <| .qOff rfl rfl rfl rfl rfl rfl <| .qOff rfl rfl rfl rfl rfl rfl <| .qOff rfl rfl rfl rfl rfl rfl <| .q rfl rfl rfl (qpickF rfl rfl) ?_
   refine DOps.done <| h10 _ _ <| .cond_false rfl <| .exit <| h4 _ _ <| .seq fun K16 h17 => .region <| .q rfl (qmove rfl) <| .q rfl (qmove rfl) <| .q rfl (qsadd rfl rfl (by first | omega | (have := hne1 ‹¬ a = []›; have := hne2 ‹¬ c = []›; omega))) ?_
   refine Ops.q rfl (qmove rfl) <| .q rfl (qslen u9 rfl) <| .q rfl (qmove rfl) <| .q rfl (qslen u9 rfl) <| .q rfl (qaddN rfl rfl (by first | omega | (have := hne1 ‹¬ a = []›; have := hne2 ‹¬ c = []›; omega))) <| .q rfl (qleqN (b := 100000) rfl rfl) <| .q rfl (qassign rfl) <| .q rfl (qassign rfl) <| .nil <| h17 _ _ ?_
   refine Run.ret ?_
   repeat first | with_reducible refine thenQ_ret ?_ | with_reducible refine blockQ_ret ?_
   exact retQ rfl (⟨by have hj2 := jn_stop (by rintro ⟨q1, q2, q3⟩; first | exact absurd q1 ‹¬ ¬ a = []› | exact absurd q2 ‹¬ ¬ c = []› | exact absurd q3 ‹_›) hj; rw [jnd, hj2, List.length_append]; rfl, rfl⟩)
 ·
  refine DOps.qOff rfl rfl rfl rfl rfl rfl <| .qOff rfl rfl rfl rfl rfl rfl <| .q rfl rfl rfl (qpickF rfl rfl) <| .q rfl rfl rfl (qmove rfl) <| .qOff rfl rfl rfl rfl rfl rfl <| .qOff rfl rfl rfl rfl rfl rfl <| .qOff rfl rfl rfl rfl rfl rfl <| .qOff rfl rfl rfl rfl rfl rfl <| .qOff rfl rfl rfl rfl rfl rfl <| .qOff rfl rfl rfl rfl rfl rfl ?_
  refine DOps.qOff rfl rfl rfl rfl rfl rfl <| .qOff rfl rfl rfl rfl rfl rfl <| .qOff rfl rfl rfl rfl rfl rfl <| .q rfl rfl rfl (qpickF rfl rfl) <| .done <| h10 _ _ <| .cond_false rfl <| .exit <| h4 _ _ <| .seq fun K18 h19 => ?_
  refine Run.region <| .q rfl (qmove rfl) <| .q rfl (qmove rfl) <| .q rfl (qsadd rfl rfl (by first | omega | (have := hne1 ‹¬ a = []›; have := hne2 ‹¬ c = []›; omega))) <| .q rfl (qmove rfl) <| .q rfl (qslen u9 rfl) <| .q rfl (qmove rfl) <| .q rfl (qslen u9 rfl) <| .q rfl (qaddN rfl rfl (by first | omega | (have := hne1 ‹¬ a = []›; have := hne2 ‹¬ c = []›; omega))) <| .q rfl (qleqN (b := 100000) rfl rfl) ?_
  refine Ops.q rfl (qassign rfl) <| .q rfl (qassign rfl) <| .nil <| h19 _ _ <| .ret ?_
  repeat first | with_reducible refine thenQ_ret ?_ | with_reducible refine blockQ_ret ?_
  exact retQ rfl (⟨by have hj2 := jn_stop (by rintro ⟨q1, q2, q3⟩; first | exact absurd q1 ‹¬ ¬ a = []› | exact absurd q2 ‹¬ ¬ c = []› | exact absurd q3 ‹_›) hj; rw [jnd, hj2, List.length_append]; rfl, rfl⟩)
end Go.Proofs.YtaccklloepfemaaDoor

namespace Go.Proofs.YtaccklloepfemaaDoor
set_option linter.unusedVariables false
set_option linter.unusedSimpArgs false
open Go Go.RowKit
namespace V
def canonP (ops : Array Oper) : Array Bool → List Nat → Nat → Nat → List Nat → List Nat → Bool
  | listed, [], i, j, C, D => (Region.ready .any ops listed == [i, j]) && canon ops (listed.setIfInBounds i true) C && canon ops (listed.setIfInBounds j true) D && (C.length == D.length)
  | listed, q :: Cq, i, j, C, D => match ops[q]? with
    | none => false
    | some o => quietOp o.op && (Region.ready .any ops listed).contains q && Region.free .any ops listed q && canonP ops (listed.setIfInBounds q true) Cq i j C D
section
variable {P : Program} {nt : Nat} {ops : Array Oper} {Q : Exit → Fr → AH → Prop} {f : Fr} {A : AH}
def DPair (P : Program) (nt : Nat) (ops : Array Oper) (Q : Exit → Fr → AH → Prop) (listed : Array Bool) (held : List (Nat × Held)) (Cq : List Nat) (i j : Nat) (C D : List Nat) (f : Fr) (A : AH) : Prop :=
  canonP ops listed Cq i j C D = true → Region.noSelect ops = true → ∀ a w, ActOk nt f a → View A w → heldS ops held listed w → Closed ops listed →
    ∀ (A₀ : AH) (w₀ : World), Step A₀ w₀ A w → wpAnyS P ops (PostQ nt Q A₀ w₀) (heldS ops held) (Cq.length + (C.length + 1)) listed a w
theorem DPair.quiet {listed : Array Bool} {held : List (Nat × Held)} {q i j : Nat} {Cq C D : List Nat} {o : Oper} {v : Value} {T : Held} (ho : ops[q]? = some o) (hq : quietOp o.op = true) (hd : ∀ t, o.dst = some t → t < nt)
    (hv : ∀ a w, ActOk nt f a → View A w → holds T w ∧ YieldsIf P ops (holds T) o v a)
    (h : DPair P nt ops Q (listed.setIfInBounds q true) ((q, T) :: held) Cq i j C D ⟨putE f.e o.dst v, f.ds⟩ A) : DPair P nt ops Q listed held (q :: Cq) i j C D f A := by
  intro hc hn a w ha hw hh hcl A₀ w₀ hs
  simp only [canonP, ho, Bool.and_eq_true] at hc
  obtain ⟨⟨⟨_, c1⟩, c2⟩, c3⟩ := hc
  obtain ⟨t1, t2⟩ := hv a w ha hw
  have hr : q ∈ Region.ready .any ops listed := by simpa using c1
  have hheld : heldS ops ((q, T) :: held) listed w := fun p hp hj => by
    rcases List.mem_cons.1 hp with rfl | hp
    · exact t1
    · exact hh p hp hj
  have H := h c3 hn _ w (ha.put o.dst v hd) hw ((heldS_quiet ho hq _ _).2 hheld) (closed_set hcl hr) A₀ w₀ hs
  have free := Region.free_spec ho c2
  have H' : wpAnyS P ops (PostQ nt Q A₀ w₀) (heldS ops ((q, T) :: held)) (Cq.length + (C.length + 1) + 1) listed a w :=
    wpAnyS_first (T := holds T) ho (Region.noSelect_spec hn) (fun c a w g => panic_put _ _ c a w g)
      (fun l w' hcl' hun hS => hS (q, T) (List.mem_cons_self ..) fun j hl ⟨oj, hoj, _⟩ => by
        cases e : anc ops q ops.size j with
        | false => rfl
        | true =>
          have := anc_listed hcl' ops.size j oj hoj (hcl' j oj hoj hl) e
          rw [getD_false hun] at this; cases this)
      (fun l w' => heldS_quiet ho hq l w') _ listed a w hcl (fun j oj hoj hne hun hno => free j oj hoj hne hun hno) hr t2 hheld H
  have weaken : ∀ (fuel : Nat) (l : Array Bool) (a : Act) (w : World), wpAnyS P ops (PostQ nt Q A₀ w₀) (heldS ops ((q, T) :: held)) fuel l a w → wpAnyS P ops (PostQ nt Q A₀ w₀) (heldS ops held) fuel l a w := by
    intro fuel
    induction fuel with
    | zero => intro l a w h; exact h
    | succ fuel ih => intro l a w h; exact ⟨h.1, fun j hj => wpOp_mono (fun a' w' h' => ⟨fun p hp => h'.1 p (List.mem_cons_of_mem _ hp), ih _ _ _ h'.2⟩) (h.2 j hj)⟩
  rw [List.length_cons, Nat.add_right_comm]
  exact weaken _ _ _ _ H'
/-- A loud operation's step, whatever else may come up. -/
theorem loud_step {listed : Array Bool} {held : List (Nat × Held)} {i : Nat} {C : List Nat} {o : Oper} {a : Act} {w : World} {A₀ : AH} {w₀ : World} (ho : ops[i]? = some o) (hq : quietOp o.op = false) (hd : ∀ t, o.dst = some t → t < nt) (hwn : ∀ a : Act, ActOk nt f a → Region.wanted o (yielded ops a.tmps) = true)
    (c2 : canon ops (listed.setIfInBounds i true) C = true) (hn : Region.noSelect ops = true) (ha : ActOk nt f a) (hw : View A w) (hcl : Closed ops listed) (hs : Step A₀ w₀ A w) (hr : i ∈ Region.ready .any ops listed)
    (h : ∀ (K : Value → AH → Prop) (Kp : List PanicEntry → AH → Prop),
      (∀ v A', (∀ w', View A' w' → ∀ p ∈ held, anc ops p.1 ops.size i = false → holds p.2 w') → DOps P nt ops Q (listed.setIfInBounds i true) (held.filter fun p => !anc ops p.1 ops.size i) C ⟨putE f.e o.dst v, f.ds⟩ A' → K v A') →
      (∀ ch A', Q (.panic ch) ⟨[], f.ds⟩ A' → Kp ch A') → opV P f.e A o K Kp) :
    wpOp P ops (PostQ nt Q A₀ w₀) i (fun a' w' => heldS ops held (listed.setIfInBounds i true) w' ∧ wpAnyS P ops (PostQ nt Q A₀ w₀) (heldS ops held) C.length (listed.setIfInBounds i true) a' w') a w := by
  have hlt : i < listed.size := by
    have := (mem_ready.1 hr).1
    rcases Nat.lt_or_ge i listed.size with h' | h'
    · exact h'
    · simp [Array.getElem?_eq_none h'] at this
  have hl : (listed.setIfInBounds i true).getD i false = true := by simp [hlt]
  unfold wpOp
  simp only [ho, hwn a ha, if_true]
  left
  have := opV_sound (o := o) (K := fun v A' => (∀ w', View A' w' → ∀ p ∈ held, anc ops p.1 ops.size i = false → holds p.2 w') ∧ DOps P nt ops Q (listed.setIfInBounds i true) (held.filter fun p => !anc ops p.1 ops.size i) C ⟨putE f.e o.dst v, f.ds⟩ A')
    (Kp := fun ch A' => Q (.panic ch) ⟨[], f.ds⟩ A') ha hw (h _ _ (fun v A' g1 g2 => ⟨g1, g2⟩) (fun ch A' g => g))
  unfold Oper.wp at this ⊢
  have up : ∀ r, o.upon P a (After A a w o fun v A' => (∀ w', View A' w' → ∀ p ∈ held, anc ops p.1 ops.size i = false → holds p.2 w') ∧ DOps P nt ops Q (listed.setIfInBounds i true) (held.filter fun p => !anc ops p.1 ops.size i) C ⟨putE f.e o.dst v, f.ds⟩ A') (Behind A a w fun ch A' => Q (.panic ch) ⟨[], f.ds⟩ A') r →
      o.upon P a (fun a' w' => heldS ops held (listed.setIfInBounds i true) w' ∧ wpAnyS P ops (PostQ nt Q A₀ w₀) (heldS ops held) C.length (listed.setIfInBounds i true) a' w') (PostQ nt Q A₀ w₀) r := by
    have next : ∀ a' w', (After A a w o fun v A' => (∀ w', View A' w' → ∀ p ∈ held, anc ops p.1 ops.size i = false → holds p.2 w') ∧ DOps P nt ops Q (listed.setIfInBounds i true) (held.filter fun p => !anc ops p.1 ops.size i) C ⟨putE f.e o.dst v, f.ds⟩ A') a' w' →
        heldS ops held (listed.setIfInBounds i true) w' ∧ wpAnyS P ops (PostQ nt Q A₀ w₀) (heldS ops held) C.length (listed.setIfInBounds i true) a' w' := by
      rintro a' w' ⟨v, A', rfl, hv', hs', g1, g2⟩
      have hlo : V.loud ops i := ⟨o, ho, hq⟩
      have hh' : heldS ops held (listed.setIfInBounds i true) w' := fun p hp hj => g1 w' hv' p hp (hj i hl hlo)
      refine ⟨hh', ?_⟩
      have H := g2 c2 hn _ w' (ha.put o.dst v hd) hv' (fun p hp hj => hh' p (List.mem_filter.1 hp).1 hj) (closed_set hcl hr) A₀ w₀ (hs.trans hs')
      refine wpAnyS_mono (x := i) (fun l w hx hS p hp hj => hS p (List.mem_filter.2 ⟨hp, ?_⟩) hj) _ _ _ _ hl H
      simp [hj i hx hlo]
    have pan : ∀ x a' w', Behind A a w (fun ch A' => Q (.panic ch) ⟨[], f.ds⟩ A') x a' w' → PostQ nt Q A₀ w₀ x a' w' := by
      rintro x a' w' ⟨ch, A', rfl, rfl, hv', hs', g⟩
      exact ⟨⟨[], f.ds⟩, A', ⟨ha.size, (fun _ _ q => by cases q), ha.ds⟩, hv', hs.trans hs', g, fun _ _ => rfl⟩
    intro r hr'
    cases r with
    | ok n w' =>
      cases n <;> simp only [Oper.upon] at hr' ⊢ <;> (try exact hr'.elim)
      case value v => exact next _ _ hr'
      case skip => exact next _ _ hr'
      case defer d => exact next _ _ hr'
      case enter f' args =>
        refine hr'.mono fun e w'' he => ?_
        cases e with
        | returned v => exact next _ _ he
        | panicked ch => exact pan _ _ _ he
        | outgrown => obtain ⟨a₁, w₁, ch, A', q, _⟩ := he; cases q
      case row row args => exact hr'.mono fun v w'' he => next _ _ he
    | halt x w' =>
      cases x <;> simp only [Oper.upon] at hr' ⊢ <;> (try exact hr'.elim)
      case panic v => exact pan _ _ _ hr'
  exact up _ this
variable {e : Env} {ds : List Deferred}
theorem DPair.q {listed : Array Bool} {held : List (Nat × Held)} {i j k d : Nat} {Cq C D : List Nat} {op : Op} {ty : TypeId} {ps : String} {af : Array Edge} {v : Value} {T : Held} (ho : ops[k]? = some { dst := some d, op := op, type := ty, pos := ps, after := af, guard := none }) (hq : quietOp op = true) (hd : Nat.blt d nt = true) (hv : quietV P e A op = some (v, T))
    (h : DPair P nt ops Q (listed.setIfInBounds k true) ((k, T) :: held) Cq i j C D ⟨(d, v) :: e, ds⟩ A) : DPair P nt ops Q listed held (k :: Cq) i j C D ⟨e, ds⟩ A :=
  DPair.quiet (f := ⟨e, ds⟩) (T := T) (v := v) ho hq (dstOk_spec (d := some d) hd) (fun a w ha hw => by
    have key := quietV_sound (P := P) (f := (⟨e, ds⟩ : Fr)) (o := { dst := some d, op := op, type := ty, pos := ps, after := af, guard := none }) hv ha hw
    exact ⟨key.1, .inl ⟨by simp [Region.wanted], key.2⟩⟩) h
theorem DPair.both {listed : Array Bool} {held : List (Nat × Held)} {i j : Nat} {C D : List Nat} {di dj : Option Nat} {opi opj : Op} {ti tj : TypeId} {pi pj : String} {afi afj : Array Edge}
    (hoi : ops[i]? = some { dst := di, op := opi, type := ti, pos := pi, after := afi, guard := none }) (hoj : ops[j]? = some { dst := dj, op := opj, type := tj, pos := pj, after := afj, guard := none }) (hqi : quietOp opi = false) (hqj : quietOp opj = false) (hdi : dstOk nt di = true) (hdj : dstOk nt dj = true)
    (hi : ∀ (K : Value → AH → Prop) (Kp : List PanicEntry → AH → Prop), (∀ v A', HeldNow ops held i A' → DOps P nt ops Q (listed.setIfInBounds i true) (held.filter fun p => !anc ops p.1 ops.size i) C ⟨putE e di v, ds⟩ A' → K v A') →
      (∀ ch A', Q (.panic ch) ⟨[], ds⟩ A' → Kp ch A') → opV P e A { dst := di, op := opi, type := ti, pos := pi, after := afi, guard := none } K Kp)
    (hj : ∀ (K : Value → AH → Prop) (Kp : List PanicEntry → AH → Prop), (∀ v A', HeldNow ops held j A' → DOps P nt ops Q (listed.setIfInBounds j true) (held.filter fun p => !anc ops p.1 ops.size j) D ⟨putE e dj v, ds⟩ A' → K v A') →
      (∀ ch A', Q (.panic ch) ⟨[], ds⟩ A' → Kp ch A') → opV P e A { dst := dj, op := opj, type := tj, pos := pj, after := afj, guard := none } K Kp) : DPair P nt ops Q listed held [] i j C D ⟨e, ds⟩ A := by
  intro hc hn a w ha hw hh hcl A₀ w₀ hs
  simp only [canonP, Bool.and_eq_true, beq_iff_eq] at hc
  obtain ⟨⟨⟨c1, c2⟩, c3⟩, c4⟩ := hc
  rw [List.length_nil, Nat.zero_add]
  refine ⟨fun h0 => (by rw [c1] at h0; cases h0), fun k hk => ?_⟩
  have hk' := hk
  rw [c1] at hk'
  simp only [List.mem_cons, List.not_mem_nil, or_false] at hk'
  rcases hk' with rfl | rfl
  · exact loud_step (C := C) hoi hqi (dstOk_spec hdi) (fun a _ => by simp [Region.wanted]) c2 hn ha hw hcl hs hk hi
  · rw [c4]; exact loud_step (C := D) hoj hqj (dstOk_spec hdj) (fun a _ => by simp [Region.wanted]) c3 hn ha hw hcl hs hk hj
theorem Run.drawnP {id : Nat} (Cq : List Nat) (i j : Nat) (C D : List Nat) (hm : P.follows .mixedOrders = true) (hc : canonP ops (Array.replicate ops.size false) Cq i j C D = true) (hn : Region.noSelect ops = true) (hl : Cq.length + (C.length + 1) = ops.size)
    (h : DPair P nt ops Q (Array.replicate ops.size false) [] Cq i j C D f A) : Run P nt (.region id ops true) Q f A := by
  intro a w ha hw
  obtain ⟨v1, s1⟩ := view_drawn hw
  refine wp_region_any hm (wpAny_of_S (S := heldS ops []) _ _ _ _ ?_)
  have key := h hc hn a _ ha v1 (fun p hp => by cases hp) (fun j o _ hj => by
    exfalso
    rcases Nat.lt_or_ge j ops.size with q | q
    · simp [q] at hj
    · simp [q] at hj) A w s1
  rw [hl] at key
  exact key
end
end V
end Go.Proofs.YtaccklloepfemaaDoor

namespace Go.Proofs.YtaccklloepfemaaDoor
open Go Go.RowKit V
set_option maxRecDepth 100000
set_option linter.unusedVariables false
set_option linter.unusedSimpArgs false


theorem s_turnz (br : Nat) (S : RS) (w : List UInt8) (A : AH) (hR : Rules A br S) (hS : RSok S) (hw : w.length ≤ 1000000) : RetA Tryd.prog 40 #[.pointer (some ⟨br, 0, none⟩), str w] A (fun v A1 => ∃ z : Int, v = num z ∧ A.le A1 ∧ A1.wf ∧ z = dturn S.list w) :=
  (s_turn br S w A hR hS hw).mono fun _ _ h => ⟨_, h.1, h.2.1, h.2.2, rfl⟩


theorem s_Cy (g : Int) (u : Value) (l : List (List UInt8)) (w : List UInt8) (A : AH) (hn : l.length ≤ 1000000) (hL : Lets A) (hw : w.length ≤ 100000) (hu : Slc A 1 u (strs l)) : RetA Tryd.prog 20 #[.agg #[num (g), u], str (w)] A (fun v A1 => ∃ W d cj c dv, v = .tuple #[.agg #[str W, num ((d.length : Nat) : Int), dv], str cj, num ((c : Nat) : Int)] ∧ A.le A1 ∧ A1.wf ∧ Fresh A A1 dv 3 (dcells d) ∧ CyR g l w (W, d, cj, c)) := by
 refine enterA (e := [(0, .agg #[num (g), u]), (1, str (w))]) (args := [.agg #[num (g), u], str (w)]) Tryd.call20 Tryd.func20 rfl Tryd.results20 Tryd.ntmps20 rfl rfl rfl (fun wf => ?_)
 have le_ := AH.le.refl A
 refine Run.seq fun K1 h2 => .region <| .l rfl (fun _ _ hk3 _ => wbox wf rfl rfl fun A5 b4 nb6 => ?_)
 have le7 := le_.trans nb6.le
 refine hk3 _ _ <| .l rfl (fun _ _ hk8 _ => walloc nb6.wf z46 rfl fun A10 b9 nb11 => ?_)
 have ge_b9 := none_of wf (Nat.le_trans le7.n nb11.lo)
 have h12 := nb11.le.get _ _ nb6.get
 have le13 := le7.trans nb11.le
 refine hk8 _ _ <| .q rfl (qassign rfl) <| .q rfl (qassign rfl) <| .nil <| h2 _ _ <| .seq fun K14 h15 => .seq fun K16 h17 => .region <| .q rfl (qloadAggAt ag24 sz24 rfl rfl h12 rfl) <| .q rfl (qmove rfl) ?_
 refine Ops.l rfl (fun _ _ hk18 _ => vcallF rfl (s_refused ((g)) u l w A10 (by omega) (hL.le le13) (by first | omega | (have := hd0.1; omega)) (hu.le le13)) ?_)
 rintro v19 A20 ⟨rfl, leq21, wfq21⟩
 have h22 := leq21.get _ _ h12
 have h23 := leq21.get _ _ nb11.get
 have le24 := le13.trans leq21
 refine hk18 _ _ <| .q rfl (qassign rfl) <| .nil <| h17 _ _ <| .seq fun K25 h26 => .region <| .q rfl (qmove rfl) <| .q rfl (qneqN (b := 0) rfl rfl) <| .nil <| h26 _ _ ?_
 refine Run.if rfl (fun p27 => ?_) (fun p27 => ?_)
 ·
  refine Run.seq fun K28 h29 => .region <| .q rfl (qbuild rfl (buildV_struct u46 z46 pl46 rfl)) <| .q rfl (qmove rfl) <| .l rfl (fun _ _ hk30 _ => wstore (cs := [str ([]), num ((0 : Nat) : Int), .slice none 0 0]) (c' := [str ([]), num ((0 : Nat) : Int), .slice none 0 0]) wfq21 rfl rfl rfl rfl sz46 h23 (Nat.le_of_ble_eq_true rfl) rfl rfl fun A31 sb32 => ?_)
  have le34 := le_store le24 wf ge_b9 sb32.n sb32.keep
  refine hk30 _ _ <| .q rfl (qassign rfl) <| .q rfl (qassign rfl) <| .nil <| h29 _ _ <| .ret ?_
  repeat first | with_reducible refine thenQ_ret ?_ | with_reducible refine blockQ_ret ?_
  exact retQ (resCell ag46 sz46 rfl sb32.get rfl (resTmp rfl (resTmp rfl resNil))) (⟨[], [], [], rasked ((g)) l w, _, rfl, le34, sb32.wf, Fresh.nil _ _ _, CyR.no ‹¬ rasked g l w = 0›⟩)
 ·
  refine Run.skip <| h15 _ _ <| .seq fun K35 h36 => .region <| .q rfl (qloadAggAt ag24 sz24 rfl rfl h22 rfl) <| .l rfl (fun _ _ hk37 _ => vcallF rfl (s_newRules ((g)) u l A20 (hL.le le24) (rasked_pres ‹¬ ¬ rasked g l w = 0›) (hu.le le24)) ?_)
  rintro v38 A39 ⟨brq40, Sq40, rfl, leq40, wfq40, hRq40, hSq40, hPq40, hWq40⟩
  have h42 := leq40.get _ _ h23
  have le43 := le24.trans leq40
  have hR := hRq40
  have hS := hSq40
  have hP := hPq40
  have hW := hWq40
  have hRlq40 := Rules.all hRq40
  have leRq40 := le43
  have hSOq40 : SOk l Sq40 := ⟨hSq40, hPq40, hWq40⟩
  have leC : A.le (A39.hide [some b9]) := le_hide le43 (hoB ge_b9 ho0)
  have wfC := hide_wf (bs := [some b9]) wfq40
  have leCA := hide_le A39 [some b9]
  have hRC := hRq40 [some b9] (fun b hb => by simp at hb; subst hb; exact ⟨_, h23⟩)
  refine hk37 _ _ <| .q rfl (qassign rfl) <| .nil <| h36 _ _ <| .seq fun K45 h46 => .region <| .q rfl (qmove rfl) <| .q rfl (qmove rfl) <| .l rfl (fun _ _ hk47 _ => vcallF rfl (s_dshort brq40 Sq40 w A39 (hRC.le leCA) hSq40 ((hL.le leC).le leCA) (by first | (have := (rasked_word ‹¬ ¬ rasked g l w = 0›).2; omega) | (rw [rot_length]; omega))) ?_)
  rintro v48 A49 ⟨dvq50, rfl, leq50, wfq50, frq50⟩
  have h51 := leq50.get _ _ h42
  have le52 := leCA.trans leq50
  have fr53 := frq50.base leCA
  have no54 := frq50.ne wfq40 h42
  refine hk47 _ _ <| .l rfl (fun _ _ hk55 _ => walloc wfq50 z46 rfl fun A57 b56 nb58 => ?_)
  have ne_b9_b56 := ne_new wfq50 h51 nb58.lo
  have no59 := fr53.own.ne_new wfq50 nb58.lo
  have ge_b56 := none_of wfC (Nat.le_trans le52.n nb58.lo)
  have h60 := nb58.le.get _ _ h51
  have fr61 := fr53.le nb58.le
  have le62 := le52.trans nb58.le
  refine hk55 _ _ ?_
  obtain ⟨p64, l64, c64, q64, _⟩ := fr61.own.slice
  subst q64
  refine Ops.l rfl (fun _ _ hk63 _ => wstore (cs := [str ((dsh Sq40 w).1), num (((dsh Sq40 w).2.length : Nat) : Int), .slice p64 l64 c64]) (c' := [str ((dsh Sq40 w).1), num (((dsh Sq40 w).2.length : Nat) : Int), .slice p64 l64 c64]) nb58.wf rfl rfl rfl rfl sz46 nb58.get (Nat.le_of_ble_eq_true rfl) rfl rfl fun A65 sb66 => ?_)
  have h67 := sb66.keep _ _ ne_b9_b56 h60
  have fr68 := fr61.keep sb66.keep no59
  have le69 := le_store le62 wfC ge_b56 sb66.n sb66.keep
  refine hk63 _ _ <| .nil ?_
  have hd0 := dsh_all hSq40 (w := w) (by have := (rasked_word ‹¬ ¬ rasked g l w = 0›).2; omega)
  have hw5 := (rasked_word ‹¬ ¬ rasked g l w = 0›).2
  refine h46 _ _ <| .seq fun K70 h71 => .region <| .q rfl (qfieldAddr fl46_0 sz9 (by decide) rfl) <| .q rfl (qloadAt ag9 rfl rfl sb66.get rfl) <| .l rfl (fun _ _ hk72 _ => vcallF rfl (s_Cyclic ((dsh Sq40 w).1) A65 (by first | omega | (have := hd0.1; omega)) ((hL.le leC).le le69)) ?_)
  rintro v73 A74 ⟨rfl, leq75, wfq75⟩
  have h76 := leq75.get _ _ h67
  have h77 := leq75.get _ _ sb66.get
  have fr78 := fr68.le leq75
  have le79 := le69.trans leq75
  refine hk72 _ _ <| .q rfl (qmove rfl) <| .q rfl (qextract rfl rfl) <| .q rfl (qextract rfl rfl) <| .q rfl (qassign rfl) <| .q rfl (qassign rfl) <| .nil <| h71 _ _ <| .block <| .loop (X := Nat × List UInt8 × List UInt8 × Nat × List DCell × Value) (fun ⟨f, r, cj, n, d, cv⟩ => [(4, .pointer (some ⟨b9, 0, none⟩)), (8, .pointer (some ⟨brq40, 0, none⟩)), (9, .pointer (some ⟨b56, 0, none⟩)), (10, str (r)), (11, str (cj))]) (fun ⟨f, r, cj, n, d, cv⟩ B => (cyF Sq40 f r cj d = cyOf Sq40 w ∧ r.length < f ∧ r.length ≤ 6000 ∧ d.length + r.length ≤ 12000 ∧ n = d.length ∧ cj.length ≤ 100000 ∧ ∀ c ∈ d, c.conj.length ≤ 100000) ∧ (A39.hide [some b9]).le B ∧ Fresh (A39.hide [some b9]) B cv 3 (dcells d) ∧ B.get b56 = some (.row true [str ((dsh Sq40 w).1), num ((n : Nat) : Int), cv] 3) ∧ B.get b9 = some (.row true [str ([]), num ((0 : Nat) : Int), .slice none 0 0] 3) ∧ V.blk cv ≠ some b56 ∧ V.blk cv ≠ some b9) (fun ⟨f, r, cj, n, d, cv⟩ => r.length) (⟨(wCore (dsh Sq40 w).1).length + 1, wCore (dsh Sq40 w).1, wConj (dsh Sq40 w).1, (dsh Sq40 w).2.length, (dsh Sq40 w).2, .slice p64 l64 c64⟩) (EnvLe.cons rfl <| EnvLe.cons rfl <| EnvLe.cons rfl <| EnvLe.cons rfl <| EnvLe.cons rfl <| EnvLe.nil _) (⟨⟨rfl, by omega, by have := wCore_length (dsh Sq40 w).1; omega, by have := wCore_length (dsh Sq40 w).1; omega, rfl, by have := wConj_length (dsh Sq40 w).1; omega, fun c hc => Nat.le_trans (hd0.2.2 c hc) (by decide)⟩, le79, fr78, h77, h76, no59, no54⟩) ?_
  rintro ⟨f, r, cj, n, d, cv⟩ B81 ⟨⟨hcy, hf, hr, hdr, hnd, hcj, hdc⟩, le80, fr_cv80, hr_b5680, hr_b980, no_cv_b5680, no_cv_b980⟩
  refine Run.wf fun wf82 => .block <| .seq fun K83 h84 => .region <| .q rfl (qmove rfl) <| .q rfl (qmove rfl) <| .l rfl (fun _ _ hk85 _ => vcallF rfl (s_turnz brq40 Sq40 r B81 (hRC.le le80) hSq40 (by omega)) ?_)
  rintro v86 A87 ⟨zq88, rfl, leq88, wfq88, hzq88⟩
  have h89 := leq88.get _ _ hr_b5680
  have h90 := leq88.get _ _ hr_b980
  have fr91 := fr_cv80.le leq88
  have le92 := le80.trans leq88
  have hz := hzq88
  refine hk85 _ _ <| .q rfl (qassign rfl) <| .nil <| h84 _ _ <| .seq fun K93 h94 => .seq fun K95 h96 => .region <| .q rfl (qmove rfl) <| .q rfl (qlss rfl rfl) <| .nil ?_
  refine h96 _ _ <| .if rfl (fun p97 => ?_) (fun p97 => ?_)
  ·
   refine Run.seq fun K98 h99 => .seq fun K100 h101 => .region <| .q rfl (qfieldAddr fl46_2 sz30 (by decide) rfl) <| .q rfl (qloadAt ag30 rfl rfl h89 rfl) <| .l rfl (fun _ _ hk102 _ => vcallF rfl (s_heavy cv d A87 (by omega) (by have h1 := conjs_le hdc; have : d.length * 100000 ≤ 12000 * 100000 := Nat.mul_le_mul_right _ (by omega); omega) fr91.slc) ?_)
   rintro v103 A104 ⟨rfl, leq105, wfq105⟩
   have h106 := leq105.get _ _ h89
   have h107 := leq105.get _ _ h90
   have fr108 := fr91.le leq105
   have le109 := le92.trans leq105
   refine hk102 _ _ <| .nil <| h101 _ _ <| .if rfl (fun p110 => ?_) (fun p110 => ?_)
   ·
    refine Run.seq fun K111 h112 => .region <| .q rfl (qbuild rfl (buildV_struct u46 z46 pl46 rfl)) <| .l rfl (fun _ _ hk113 _ => wstore (cs := [str ([]), num ((0 : Nat) : Int), .slice none 0 0]) (c' := [str ([]), num ((0 : Nat) : Int), .slice none 0 0]) wfq105 rfl rfl rfl rfl sz46 h107 (Nat.le_of_ble_eq_true rfl) rfl rfl fun A114 sb115 => ?_)
    have le118 := le_store le109 wfC (hide_none (by simp)) sb115.n sb115.keep
    refine hk113 _ _ <| .q rfl (qassign rfl) <| .q rfl (qassign rfl) <| .nil <| h112 _ _ <| .ret ?_
    repeat first | with_reducible refine thenQ_ret ?_ | with_reducible refine blockQ_ret ?_
    exact retQ (resCell ag46 sz46 rfl sb115.get rfl (resTmp rfl (resTmp rfl resNil))) (⟨[], [], [], 2, _, (by first | rfl | (rw [hnd]; rfl)), leC.trans le118, sb115.wf, Fresh.nil _ _ _, CyR.ok ‹¬ ¬ rasked g l w = 0› hSOq40 (by first | exact (cyF_end (by omega) (by omega) hcy).trans (if_pos ‹1000000 < conjs d ∨ 100000 < d.length›) | exact cyF_no1 hz (by omega) hcy (fitsJ_no (j := k) (by omega) (by omega)) | exact cyF_no2 hz (by omega) hcy (fitsJ_yes (by omega) hfit) (by omega))⟩)
   ·
    refine Run.skip <| h99 _ _ <| .seq fun K119 h120 => .region <| .q rfl (qmove rfl) <| .q rfl (qfieldAddr fl46_0 sz9 (by decide) rfl) <| .l rfl (fun _ _ hk121 _ => wstore (cs := [str (r)]) (c' := [str (r), num ((n : Nat) : Int), cv]) wfq105 rfl rfl rfl rfl sz9 h106 (Nat.le_of_ble_eq_true rfl) rfl rfl fun A122 sb123 => ?_)
    have h124 := sb123.keep _ _ ne_b9_b56 h107
    have fr125 := fr108.keep sb123.keep no_cv_b5680
    have le126 := le_store le109 wfC ge_b56 sb123.n sb123.keep
    refine hk121 _ _ <| .nil <| h120 _ _ <| .seq fun K127 h128 => .region <| .q rfl (qloadAggAt ag46 sz46 rfl rfl sb123.get rfl) <| .q rfl (qmove rfl) ?_
    obtain ⟨p130, l130, c130, q130, _⟩ := fr125.own.slice
    subst q130
    refine Ops.l rfl (fun _ _ hk129 _ => wstore (cs := [str (r), num ((n : Nat) : Int), .slice p130 l130 c130]) (c' := [str (r), num ((n : Nat) : Int), .slice p130 l130 c130]) sb123.wf rfl rfl rfl rfl sz46 h124 (Nat.le_of_ble_eq_true rfl) rfl rfl fun A131 sb132 => ?_)
    have fr134 := fr125.keep sb132.keep no_cv_b980
    have le135 := le_store le126 wfC (hide_none (by simp)) sb132.n sb132.keep
    refine hk129 _ _ <| .q rfl (qassign rfl) <| .q rfl (qassign rfl) <| .nil <| h128 _ _ <| .ret ?_
    repeat first | with_reducible refine thenQ_ret ?_ | with_reducible refine blockQ_ret ?_
    exact retQ (resCell ag46 sz46 rfl sb132.get rfl (resTmp rfl (resTmp rfl resNil))) (⟨r, d, cj, 0, _, (by first | rfl | (rw [hnd]; rfl)), leC.trans le135, sb132.wf, fr134.base leC, CyR.ok ‹¬ ¬ rasked g l w = 0› hSOq40 ((cyF_end (by omega) (by omega) hcy).trans (if_neg ‹¬ (1000000 < conjs d ∨ 100000 < d.length)›))⟩)
  ·
   refine Run.skip <| h94 _ _ <| .seq fun K136 h137 => .region <| .q rfl (qassign rfl) <| .q rfl (qassign rfl) <| .q rfl (qassign rfl) <| .nil ?_
   obtain ⟨kt, hkt⟩ : ∃ kt : Nat, zq88 = ((kt : Nat) : Int) := ⟨zq88.toNat, by omega⟩
   subst hkt
   have htl := turn_lt hz
   have hda := dsh_all hSq40 (w := rot r kt) (by rw [rot_length]; omega)
   rw [rot_length] at hda
   have hj1 := jnd_len cj (r.take kt)
   rw [List.length_take] at hj1
   have hj2 := jnd_len (jnd cj (r.take kt)) (wConj (dsh Sq40 (rot r kt)).1)
   have hwc := wConj_length (dsh Sq40 (rot r kt)).1
   have hwk := wCore_length (dsh Sq40 (rot r kt)).1
   refine h137 _ _ <| .seq fun K138 h139 => .region <| .q rfl (qmove rfl) <| .q rfl (qmove rfl) <| .q rfl (qmove rfl) <| .q rfl (qslHi u9 rfl rfl (by omega)) <| .l rfl (fun _ _ hk140 _ => vcallF rfl (s_joined cj (r.take kt) A87 (by first | omega | (rw [List.length_take]; omega)) (by first | omega | (rw [List.length_take]; omega))) ?_)
   rintro v141 A142 ⟨rfl, rfl⟩
   refine hk140 _ _ <| .q rfl (qmove rfl) <| .q rfl (qextract rfl rfl) <| .q rfl (qextract rfl rfl) <| .q rfl (qassign rfl) <| .q rfl (qassign rfl) <| .nil <| h139 _ _ <| .seq fun K144 h145 => .drawnP [0, 1, 2, 3, 4, 5, 6, 7] 8 9 [9, 10] [8, 10] mixed (by kernel_rfl) (by kernel_rfl) rfl ?_
   refine DPair.q rfl rfl rfl (qmove rfl) <| .q rfl rfl rfl (qmove rfl) <| .q rfl rfl rfl (qmove rfl) <| .q rfl rfl rfl (qslLo u9 rfl rfl (by omega)) <| .q rfl rfl rfl (qmove rfl) <| .q rfl rfl rfl (qmove rfl) <| .q rfl rfl rfl (qslHi u9 rfl rfl (by omega)) <| .q rfl rfl rfl (qsadd rfl rfl (by (try simp only [List.length_append, List.length_drop, List.length_take]); omega)) <| .both rfl rfl rfl rfl rfl rfl ?_ ?_
   ·
    refine fun _ _ hk146 _ => vcallF rfl (s_dshort brq40 Sq40 (rot r kt) A87 (hRC.le le92) hSq40 ((hL.le leC).le le92) (by first | (have := (rasked_word ‹¬ ¬ rasked g l w = 0›).2; omega) | (rw [rot_length]; omega))) ?_
    rintro v147 A148 ⟨dvq149, rfl, leq149, wfq149, frq149⟩
    have h150 := leq149.get _ _ h89
    have h151 := leq149.get _ _ h90
    have fr152 := fr91.le leq149
    have le153 := le92.trans leq149
    have fr154 := frq149.base le92
    have sp155 := frq149.sep0 fr91.own
    have no156 := frq149.ne wfq88 h89
    have no157 := frq149.ne wfq88 h90
    refine hk146 _ _ (HeldNow.none (by kernel_rfl)) <| .l rfl rfl rfl (fun _ _ hk158 _ => walloc wfq149 z46 rfl fun A160 b159 nb161 => ?_)
    have ne_b56_b159 := ne_new wfq149 h150 nb161.lo
    have ne_b9_b159 := ne_new wfq149 h151 nb161.lo
    have no162 := fr152.own.ne_new wfq149 nb161.lo
    have no163 := fr154.own.ne_new wfq149 nb161.lo
    have ge_b159 := none_of wfC (Nat.le_trans le153.n nb161.lo)
    have h164 := nb161.le.get _ _ h150
    have h165 := nb161.le.get _ _ h151
    have fr166 := fr152.le nb161.le
    have fr167 := fr154.le nb161.le
    have le168 := le153.trans nb161.le
    refine hk158 _ _ (HeldNow.none (by kernel_rfl)) ?_
    obtain ⟨p170, l170, c170, q170, _⟩ := fr167.own.slice
    subst q170
    refine DOps.l rfl rfl rfl (fun _ _ hk169 _ => wstore (cs := [str ((dsh Sq40 (rot r kt)).1), num (((dsh Sq40 (rot r kt)).2.length : Nat) : Int), .slice p170 l170 c170]) (c' := [str ((dsh Sq40 (rot r kt)).1), num (((dsh Sq40 (rot r kt)).2.length : Nat) : Int), .slice p170 l170 c170]) nb161.wf rfl rfl rfl rfl sz46 nb161.get (Nat.le_of_ble_eq_true rfl) rfl rfl fun A171 sb172 => ?_)
    have h173 := sb172.keep _ _ ne_b56_b159 h164
    have h174 := sb172.keep _ _ ne_b9_b159 h165
    have fr175 := fr166.keep sb172.keep no162
    have fr176 := fr167.keep sb172.keep no163
    have le177 := le_store le168 wfC ge_b159 sb172.n sb172.keep
    refine hk169 _ _ (HeldNow.none (by kernel_rfl)) <| .done <| h145 _ _ <| .seq fun K178 h179 => .seq fun K180 h181 => .region <| .q rfl (qfieldAddr fl46_2 sz30 (by decide) rfl) <| .q rfl (qloadAt ag30 rfl rfl sb172.get rfl) <| .q rfl (qlenS (n := ((dsh Sq40 (rot r kt)).2).length) u30 rfl fr176.slc (by omega) (dcells_len _)) <| .q rfl (qmove rfl) ?_
    refine Ops.nil <| h181 _ _ <| .block <| .loop (X := Nat × List DCell × Value) (fun ⟨k, e, ev⟩ => [(4, .pointer (some ⟨b9, 0, none⟩)), (8, .pointer (some ⟨brq40, 0, none⟩)), (9, .pointer (some ⟨b56, 0, none⟩)), (11, str (jnd cj (r.take kt))), (13, .bool (decide ((jnd cj (r.take kt)).length ≤ 100000))), (16, .pointer (some ⟨b159, 0, none⟩)), (70, .slice p170 l170 c170), (71, num ((((dsh Sq40 (rot r kt)).2).length : Nat) : Int)), (72, num ((k : Nat) : Int))]) (fun ⟨k, e, ev⟩ B => (k ≤ (dsh Sq40 (rot r kt)).2.length ∧ e = d ++ ((dsh Sq40 (rot r kt)).2.take k).map (cellJ (jnd cj (r.take kt))) ∧ ∀ j, j < k → (jnd (jnd cj (r.take kt)) ((dsh Sq40 (rot r kt)).2.getD j .zero).conj).length ≤ 100000) ∧ (A39.hide [some b9]).le B ∧ Fresh (A39.hide [some b9]) B ev 3 (dcells e) ∧ Fresh (A39.hide [some b9]) B (.slice p170 l170 c170) 3 (dcells ((dsh Sq40 (rot r kt)).2)) ∧ B.get b56 = some (.row true [str ((dsh Sq40 w).1), num ((n : Nat) : Int), ev] 3) ∧ B.get b9 = some (.row true [str ([]), num ((0 : Nat) : Int), .slice none 0 0] 3) ∧ B.get b159 = some (.row true [str ((dsh Sq40 (rot r kt)).1), num (((dsh Sq40 (rot r kt)).2.length : Nat) : Int), .slice p170 l170 c170] 3) ∧ V.blk ev ≠ some b56 ∧ V.blk (.slice p170 l170 c170) ≠ some b56 ∧ V.blk ev ≠ some b9 ∧ V.blk (.slice p170 l170 c170) ≠ some b9 ∧ V.blk ev ≠ some b159 ∧ V.blk (.slice p170 l170 c170) ≠ some b159 ∧ Sep ev (.slice p170 l170 c170)) (fun ⟨k, e, ev⟩ => (dsh Sq40 (rot r kt)).2.length - k) (⟨0, d, cv⟩) (EnvLe.cons rfl <| EnvLe.cons rfl <| EnvLe.cons rfl <| EnvLe.cons rfl <| EnvLe.cons rfl <| EnvLe.cons rfl <| EnvLe.cons rfl <| EnvLe.cons rfl <| EnvLe.cons rfl <| EnvLe.nil _) (⟨⟨Nat.zero_le _, (List.append_nil _).symm, fun j h => by omega⟩, le177, fr175, fr176, h173, h174, sb172.get, no_cv_b5680, no156, no_cv_b980, no157, no162, no163, (Sep.symm sp155)⟩) ?_
    rintro ⟨k, e, ev⟩ B183 ⟨⟨hk, he, hfit⟩, le182, fr_ev182, fk_oq149182, hr_b56182, hr_b9182, hr_b159182, no_ev_b56182, no_oq149_b56182, no_ev_b9182, no_oq149_b9182, no_ev_b159182, no_oq149_b159182, sq182_0_1⟩
    refine Run.wf fun wf184 => ?_
    have hel : e.length = d.length + k := by rw [he, List.length_append, List.length_map, List.length_take]; omega
    have hgc := getD_conj hda.2.2 k
    refine Run.seq fun K185 h186 => .region <| .q rfl (qlssN rfl rfl) <| .nil <| h186 _ _ <| .seq fun K187 h188 => .if rfl (fun p189 => ?_) (fun p189 => ?_)
    ·
     refine Run.skip <| h188 _ _ <| .seq fun K190 h191 => .block <| .seq fun K192 h193 => .region ?_
     obtain ⟨b194, f194, rw194, r194, rc194, n194, k194, e194, l194, g194, cl194, cs194⟩ := Slc.at (i := k) fk_oq149182.slc (by simp only [dcells_length]; omega) (by omega)
     refine Ops.q rfl (qindexS u30 sz71 rfl e194 rfl l194) <| .q rfl (qloadAggAt ag71 sz71 rfl rfl g194 (cl194.trans (congrArg some (dcells_at (by omega))))) <| .l rfl (fun _ _ hk195 _ => walloc wf184 z71 rfl fun A197 b196 nb198 => ?_)
     have ne_b56_b196 := ne_new wf184 hr_b56182 nb198.lo
     have ne_b9_b196 := ne_new wf184 hr_b9182 nb198.lo
     have ne_b159_b196 := ne_new wf184 hr_b159182 nb198.lo
     have no199 := fr_ev182.own.ne_new wf184 nb198.lo
     have no200 := fk_oq149182.own.ne_new wf184 nb198.lo
     have ge_b196 := none_of wfC (Nat.le_trans le182.n nb198.lo)
     have h201 := nb198.le.get _ _ hr_b56182
     have h202 := nb198.le.get _ _ hr_b9182
     have h203 := nb198.le.get _ _ hr_b159182
     have fr204 := fr_ev182.le nb198.le
     have fr205 := fk_oq149182.le nb198.le
     have le206 := le182.trans nb198.le
     refine hk195 _ _ <| .l rfl (fun _ _ hk207 _ => wstore (cs := [str ((((dsh Sq40 (rot r kt)).2).getD k .zero).conj), num ((((dsh Sq40 (rot r kt)).2).getD k .zero).rel), .bool ((((dsh Sq40 (rot r kt)).2).getD k .zero).inv)]) (c' := [str ((((dsh Sq40 (rot r kt)).2).getD k .zero).conj), num ((((dsh Sq40 (rot r kt)).2).getD k .zero).rel), .bool ((((dsh Sq40 (rot r kt)).2).getD k .zero).inv)]) nb198.wf rfl rfl rfl rfl sz71 nb198.get (Nat.le_of_ble_eq_true rfl) rfl rfl fun A208 sb209 => ?_)
     have h210 := sb209.keep _ _ ne_b56_b196 h201
     have h211 := sb209.keep _ _ ne_b9_b196 h202
     have h212 := sb209.keep _ _ ne_b159_b196 h203
     have fr213 := fr204.keep sb209.keep no199
     have fr214 := fr205.keep sb209.keep no200
     have le215 := le_store le206 wfC ge_b196 sb209.n sb209.keep
     refine hk207 _ _ <| .nil <| h193 _ _ <| .seq fun K216 h217 => .region <| .q rfl (qmove rfl) <| .q rfl (qfieldAddr fl71_0 sz9 (by decide) rfl) <| .q rfl (qloadAt ag9 rfl rfl sb209.get rfl) <| .l rfl (fun _ _ hk218 _ => vcallF rfl (s_joined (jnd cj (r.take kt)) ((((dsh Sq40 (rot r kt)).2).getD k .zero).conj) A208 (by first | omega | (rw [List.length_take]; omega)) (by first | omega | (rw [List.length_take]; omega))) ?_)
     rintro v219 A220 ⟨rfl, rfl⟩
     refine hk218 _ _ <| .q rfl (qmove rfl) <| .q rfl (qextract rfl rfl) <| .q rfl (qextract rfl rfl) <| .q rfl (qfieldAddr fl71_0 sz9 (by decide) rfl) <| .l rfl (fun _ _ hk222 _ => wstore (cs := [str (jnd (jnd cj (r.take kt)) ((((dsh Sq40 (rot r kt)).2).getD k .zero).conj))]) (c' := [str (jnd (jnd cj (r.take kt)) ((((dsh Sq40 (rot r kt)).2).getD k .zero).conj)), num ((((dsh Sq40 (rot r kt)).2).getD k .zero).rel), .bool ((((dsh Sq40 (rot r kt)).2).getD k .zero).inv)]) sb209.wf rfl rfl rfl rfl sz9 sb209.get (Nat.le_of_ble_eq_true rfl) rfl rfl fun A223 sb224 => ?_)
     have h225 := sb224.keep _ _ ne_b56_b196 h210
     have h226 := sb224.keep _ _ ne_b9_b196 h211
     have h227 := sb224.keep _ _ ne_b159_b196 h212
     have fr228 := fr213.keep sb224.keep no199
     have fr229 := fr214.keep sb224.keep no200
     have le230 := le_store le215 wfC ge_b196 sb224.n sb224.keep
     refine hk222 _ _ <| .q rfl (qassign rfl) <| .nil <| h217 _ _ <| .seq fun K231 h232 => .seq fun K233 h234 => .region <| .q rfl (qmove rfl) <| .q rfl (qnotP rfl) <| .nil ?_
     refine h234 _ _ <| .if rfl (fun p235 => ?_) (fun p235 => ?_)
     ·
      refine Run.seq fun K236 h237 => .region <| .q rfl (qbuild rfl (buildV_struct u46 z46 pl46 rfl)) <| .l rfl (fun _ _ hk238 _ => wstore (cs := [str ([]), num ((0 : Nat) : Int), .slice none 0 0]) (c' := [str ([]), num ((0 : Nat) : Int), .slice none 0 0]) sb224.wf rfl rfl rfl rfl sz46 h226 (Nat.le_of_ble_eq_true rfl) rfl rfl fun A239 sb240 => ?_)
      have le246 := le_store le230 wfC (hide_none (by simp)) sb240.n sb240.keep
      refine hk238 _ _ <| .q rfl (qassign rfl) <| .q rfl (qassign rfl) <| .nil <| h237 _ _ <| .ret ?_
      repeat first | with_reducible refine thenQ_ret ?_ | with_reducible refine blockQ_ret ?_
      exact retQ (resCell ag46 sz46 rfl sb240.get rfl (resTmp rfl (resTmp rfl resNil))) (⟨[], [], [], 2, _, (by first | rfl | (rw [hnd]; rfl)), leC.trans le246, sb240.wf, Fresh.nil _ _ _, CyR.ok ‹¬ ¬ rasked g l w = 0› hSOq40 (by first | exact (cyF_end (by omega) (by omega) hcy).trans (if_pos ‹1000000 < conjs d ∨ 100000 < d.length›) | exact cyF_no1 hz (by omega) hcy (fitsJ_no (j := k) (by omega) (by omega)) | exact cyF_no2 hz (by omega) hcy (fitsJ_yes (by omega) hfit) (by omega))⟩)
     ·
      refine Run.skip <| h232 _ _ <| .region <| .q rfl (qfieldAddr fl46_2 sz30 (by decide) rfl) <| .q rfl (qloadAt ag30 rfl rfl h225 rfl) <| .q rfl (qloadAggAt ag71 sz71 rfl rfl sb224.get rfl) <| .l rfl (fun _ _ hk247 _ => wbuildSlice (c := [str (jnd (jnd cj (r.take kt)) ((((dsh Sq40 (rot r kt)).2).getD k .zero).conj)), num ((((dsh Sq40 (rot r kt)).2).getD k .zero).rel), .bool ((((dsh Sq40 (rot r kt)).2).getD k .zero).inv)]) sb224.wf rfl (buildSliceV_of u30 sz71 z71 rfl (by decide) (by decide) rfl) fun A249 b248 nb250 => ?_)
      have h253 := nb250.le.get _ _ h225
      have h254 := nb250.le.get _ _ h226
      have h255 := nb250.le.get _ _ h227
      have fr257 := fr228.le nb250.le
      have fr258 := fr229.le nb250.le
      have le259 := le230.trans nb250.le
      refine hk247 _ _ <| .l rfl (fun _ _ hk260 _ => wappend (ys := [str (jnd (jnd cj (r.take kt)) ((((dsh Sq40 (rot r kt)).2).getD k .zero).conj)), num ((((dsh Sq40 (rot r kt)).2).getD k .zero).rel), .bool ((((dsh Sq40 (rot r kt)).2).getD k .zero).inv)]) rfl rfl u30 sz71 inf71 z71 rfl (by decide) u30 (fun _ h => by cases h) fr257.own (listOf_row (n := 1) nb250.get rfl) rfl rfl (by show (_ + _) * 32 ≤ _; simp only [dcells_length, List.length_cons, List.length_nil]; (try simp only [List.length_append, List.length_cons, List.length_nil]); omega) (by simp only [dcells_length, List.length_cons, List.length_nil]; (try simp only [List.length_append, List.length_cons, List.length_nil]); omega) fun A261 v262 ap263 => ?_)
      rw [show ([str (jnd (jnd cj (r.take kt)) ((((dsh Sq40 (rot r kt)).2).getD k .zero).conj)), num ((((dsh Sq40 (rot r kt)).2).getD k .zero).rel), .bool ((((dsh Sq40 (rot r kt)).2).getD k .zero).inv)] : List Value) = dcells [⟨jnd (jnd cj (r.take kt)) ((((dsh Sq40 (rot r kt)).2).getD k .zero).conj), (((dsh Sq40 (rot r kt)).2).getD k .zero).rel, (((dsh Sq40 (rot r kt)).2).getD k .zero).inv⟩] from rfl, dcells_append] at ap263
      obtain ⟨fr266, le267⟩ := Fresh.grow fr257 le259 wfC ap263
      have h268 := ap263.keep no_ev_b56182 h253
      have ne269 := ap263.ne no_ev_b56182 nb250.wf h253
      have h270 := ap263.keep no_ev_b9182 h254
      have ne271 := ap263.ne no_ev_b9182 nb250.wf h254
      have h272 := ap263.keep no_ev_b159182 h255
      have ne273 := ap263.ne no_ev_b159182 nb250.wf h255
      have sp277 := Sep.appd (show Sep ev (.slice p170 l170 c170) from sq182_0_1) fr258.own nb250.wf ap263
      have fr276 := fr258.appd ap263 sq182_0_1
      refine hk260 _ _ <| .q rfl (qfieldAddr fl46_2 sz30 (by decide) rfl) ?_
      obtain ⟨p279, l279, c279, q279, _⟩ := fr266.own.slice
      subst q279
      refine Ops.l rfl (fun _ _ hk278 _ => wstore (cs := [.slice p279 l279 c279]) (c' := [str ((dsh Sq40 w).1), num ((n : Nat) : Int), .slice p279 l279 c279]) ap263.wf rfl rfl rfl rfl sz30 h268 (Nat.le_of_ble_eq_true rfl) rfl rfl fun A280 sb281 => ?_)
      have h282 := sb281.keep _ _ ne_b9_b56 h270
      have h283 := sb281.keep _ _ ne_b56_b159.symm h272
      have fr285 := fr276.keep sb281.keep no_oq149_b56182
      have fr286 := fr266.keep sb281.keep ne269
      have le287 := le_store le267 wfC ge_b56 sb281.n sb281.keep
      refine hk278 _ _ <| .nil <| h191 _ _ <| .region <| .q rfl (qaddN (b := 1) rfl rfl (by omega)) <| .q rfl (qmove rfl) <| .nil ?_
      exact ⟨⟨k + 1, e ++ [⟨jnd (jnd cj (r.take kt)) ((((dsh Sq40 (rot r kt)).2).getD k .zero).conj), (((dsh Sq40 (rot r kt)).2).getD k .zero).rel, (((dsh Sq40 (rot r kt)).2).getD k .zero).inv⟩], .slice p279 l279 c279⟩, EnvLe.cons rfl <| EnvLe.cons rfl <| EnvLe.cons rfl <| EnvLe.cons rfl <| EnvLe.cons rfl <| EnvLe.cons rfl <| EnvLe.cons rfl <| EnvLe.cons rfl <| EnvLe.cons rfl <| EnvLe.nil _, rfl, ⟨⟨by omega, by rw [he]; exact conj_step (by omega), fun j h => (Nat.lt_succ_iff_lt_or_eq.1 h).elim (hfit j) (fun q => by subst q; omega)⟩, le287, fr286, fr285, sb281.get, h282, h283, ne269, no_oq149_b56182, ne271, no_oq149_b9182, ne273, no_oq149_b159182, sp277⟩, (by (try dsimp only); omega)⟩
    ·
     refine Run.exit <| h179 _ _ <| .seq fun K288 h289 => .region <| .q rfl (qfieldAddr fl46_1 sz3 (by decide) rfl) <| .q rfl (qloadAt ag3 rfl rfl hr_b56182 rfl) <| .q rfl (qfieldAddr fl46_1 sz3 (by decide) rfl) <| .q rfl (qloadAt ag3 rfl rfl hr_b159182 rfl) <| .q rfl (qaddN rfl rfl (by omega)) <| .q rfl (qfieldAddr fl46_1 sz3 (by decide) rfl) ?_
     refine Ops.l rfl (fun _ _ hk290 _ => wstore (cs := [num ((n + ((dsh Sq40 (rot r kt)).2.length) : Nat) : Int)]) (c' := [str ((dsh Sq40 w).1), num ((n + ((dsh Sq40 (rot r kt)).2.length) : Nat) : Int), ev]) wf184 rfl rfl rfl rfl sz3 hr_b56182 (Nat.le_of_ble_eq_true rfl) rfl rfl fun A291 sb292 => ?_)
     have h293 := sb292.keep _ _ ne_b9_b56 hr_b9182
     have h294 := sb292.keep _ _ ne_b56_b159.symm hr_b159182
     have fr295 := fr_ev182.keep sb292.keep no_ev_b56182
     have le297 := le_store le182 wfC ge_b56 sb292.n sb292.keep
     refine hk290 _ _ <| .nil <| h289 _ _ <| .seq fun K298 h299 => .region <| .q rfl (qfieldAddr fl46_0 sz9 (by decide) rfl) <| .q rfl (qloadAt ag9 rfl rfl h294 rfl) <| .l rfl (fun _ _ hk300 _ => vcallF rfl (s_Cyclic ((dsh Sq40 (rot r kt)).1) A291 (by first | omega | (have := hd0.1; omega)) ((hL.le leC).le le297)) ?_)
     rintro v301 A302 ⟨rfl, leq303, wfq303⟩
     have h304 := leq303.get _ _ sb292.get
     have h305 := leq303.get _ _ h293
     have fr307 := fr295.le leq303
     have le309 := le297.trans leq303
     refine hk300 _ _ <| .q rfl (qmove rfl) <| .q rfl (qextract rfl rfl) <| .q rfl (qextract rfl rfl) <| .q rfl (qassign rfl) <| .q rfl (qassign rfl) <| .nil <| h299 _ _ <| .seq fun K310 h311 => .region ?_
     refine Ops.q rfl (qmove rfl) <| .q rfl (qassign rfl) <| .nil <| h311 _ _ <| .seq fun K312 h313 => .region <| .q rfl (qmove rfl) <| .q rfl (qmove rfl) <| .l rfl (fun _ _ hk314 _ => vcallF rfl (s_joined (jnd cj (r.take kt)) (wConj ((dsh Sq40 (rot r kt)).1)) A302 (by first | omega | (rw [List.length_take]; omega)) (by first | omega | (rw [List.length_take]; omega))) ?_)
     rintro v315 A316 ⟨rfl, rfl⟩
     refine hk314 _ _ <| .q rfl (qmove rfl) <| .q rfl (qextract rfl rfl) <| .q rfl (qextract rfl rfl) <| .q rfl (qassign rfl) <| .q rfl (qassign rfl) <| .nil <| h313 _ _ <| .seq fun K318 h319 => .region ?_
     refine Ops.q rfl (qmove rfl) <| .q rfl (qnotP rfl) <| .q rfl (qmove rfl) <| .part (t := 115) rfl (fun p320 => ?_) (fun p320 => ?_)
     ·
      refine Ops.off rfl rfl rfl rfl <| .off rfl rfl rfl rfl <| .q rfl (qpickT rfl rfl) <| .nil <| h319 _ _ <| .cond_true rfl <| .seq fun K321 h322 => .region <| .q rfl (qbuild rfl (buildV_struct u46 z46 pl46 rfl)) <| .l rfl (fun _ _ hk323 _ => wstore (cs := [str ([]), num ((0 : Nat) : Int), .slice none 0 0]) (c' := [str ([]), num ((0 : Nat) : Int), .slice none 0 0]) wfq303 rfl rfl rfl rfl sz46 h305 (Nat.le_of_ble_eq_true rfl) rfl rfl fun A324 sb325 => ?_)
      have le330 := le_store le309 wfC (hide_none (by simp)) sb325.n sb325.keep
      refine hk323 _ _ <| .q rfl (qassign rfl) <| .q rfl (qassign rfl) <| .nil <| h322 _ _ <| .ret ?_
      repeat first | with_reducible refine thenQ_ret ?_ | with_reducible refine blockQ_ret ?_
      exact retQ (resCell ag46 sz46 rfl sb325.get rfl (resTmp rfl (resTmp rfl resNil))) (⟨[], [], [], 2, _, (by first | rfl | (rw [hnd]; rfl)), leC.trans le330, sb325.wf, Fresh.nil _ _ _, CyR.ok ‹¬ ¬ rasked g l w = 0› hSOq40 (by first | exact (cyF_end (by omega) (by omega) hcy).trans (if_pos ‹1000000 < conjs d ∨ 100000 < d.length›) | exact cyF_no1 hz (by omega) hcy (fitsJ_no (j := k) (by omega) (by omega)) | exact cyF_no2 hz (by omega) hcy (fitsJ_yes (by omega) hfit) (by omega))⟩)
     ·
      refine Ops.on rfl rfl <| .q rfl (qmove rfl) <| .on rfl rfl <| .q rfl (qnotP rfl) <| .q rfl (qpickF rfl rfl) <| .nil <| h319 _ _ <| .if rfl (fun p331 => ?_) (fun p331 => ?_)
      ·
       refine Run.seq fun K332 h333 => .region <| .q rfl (qbuild rfl (buildV_struct u46 z46 pl46 rfl)) <| .l rfl (fun _ _ hk334 _ => wstore (cs := [str ([]), num ((0 : Nat) : Int), .slice none 0 0]) (c' := [str ([]), num ((0 : Nat) : Int), .slice none 0 0]) wfq303 rfl rfl rfl rfl sz46 h305 (Nat.le_of_ble_eq_true rfl) rfl rfl fun A335 sb336 => ?_)
       have le341 := le_store le309 wfC (hide_none (by simp)) sb336.n sb336.keep
       refine hk334 _ _ <| .q rfl (qassign rfl) <| .q rfl (qassign rfl) <| .nil <| h333 _ _ <| .ret ?_
       repeat first | with_reducible refine thenQ_ret ?_ | with_reducible refine blockQ_ret ?_
       exact retQ (resCell ag46 sz46 rfl sb336.get rfl (resTmp rfl (resTmp rfl resNil))) (⟨[], [], [], 2, _, (by first | rfl | (rw [hnd]; rfl)), leC.trans le341, sb336.wf, Fresh.nil _ _ _, CyR.ok ‹¬ ¬ rasked g l w = 0› hSOq40 (by first | exact (cyF_end (by omega) (by omega) hcy).trans (if_pos ‹1000000 < conjs d ∨ 100000 < d.length›) | exact cyF_no1 hz (by omega) hcy (fitsJ_no (j := k) (by omega) (by omega)) | exact cyF_no2 hz (by omega) hcy (fitsJ_yes (by omega) hfit) (by omega))⟩)
      ·
       refine Run.skip ?_
       exact ⟨⟨f - 1, wCore ((dsh Sq40 (rot r kt)).1), jnd (jnd cj (r.take kt)) (wConj ((dsh Sq40 (rot r kt)).1)), n + ((dsh Sq40 (rot r kt)).2.length), e, ev⟩, EnvLe.cons rfl <| EnvLe.cons rfl <| EnvLe.cons rfl <| EnvLe.cons rfl <| EnvLe.cons rfl <| EnvLe.nil _, rfl, ⟨⟨by rw [he, List.take_of_length_le (l := (dsh Sq40 (rot r kt)).2) (by omega)]; exact cyF_go hz (by omega) hcy (fitsJ_yes (by omega) hfit) ⟨by omega, by omega⟩, by omega, by omega, by rw [he]; simp only [List.length_append, List.length_map, List.length_take]; omega, by rw [he]; simp only [List.length_append, List.length_map, List.length_take]; omega, by omega, fun c hc => by rw [he] at hc; rcases List.mem_append.1 hc with hc | hc; exact hdc c hc; obtain ⟨c2, hc2, rfl⟩ := List.mem_map.1 hc; obtain ⟨j, hj, rfl⟩ := List.getElem_of_mem hc2; rw [List.length_take] at hj; have := hfit j (by omega); simpa [show j < (dsh Sq40 (rot r kt)).2.length by omega, cellJ] using this⟩, le309, fr307, h304, h305, no_ev_b56182, no_ev_b9182⟩, (by (try dsimp only); omega)⟩
   ·
    refine fun _ _ hk342 _ => walloc wfq88 z46 rfl fun A344 b343 nb345 => ?_
    have ne_b56_b343 := ne_new wfq88 h89 nb345.lo
    have ne_b9_b343 := ne_new wfq88 h90 nb345.lo
    have no346 := fr91.own.ne_new wfq88 nb345.lo
    have ge_b343 := none_of wfC (Nat.le_trans le92.n nb345.lo)
    have h347 := nb345.le.get _ _ h89
    have h348 := nb345.le.get _ _ h90
    have fr349 := fr91.le nb345.le
    have le350 := le92.trans nb345.le
    refine hk342 _ _ (HeldNow.none (by kernel_rfl)) <| .l rfl rfl rfl (fun _ _ hk351 _ => vcallF rfl (s_dshort brq40 Sq40 (rot r kt) A344 (hRC.le le350) hSq40 ((hL.le leC).le le350) (by first | (have := (rasked_word ‹¬ ¬ rasked g l w = 0›).2; omega) | (rw [rot_length]; omega))) ?_)
    rintro v352 A353 ⟨dvq354, rfl, leq354, wfq354, frq354⟩
    have h355 := leq354.get _ _ h347
    have h356 := leq354.get _ _ h348
    have h357 := leq354.get _ _ nb345.get
    have fr358 := fr349.le leq354
    have le359 := le350.trans leq354
    have fr360 := frq354.base le350
    have sp361 := frq354.sep0 fr349.own
    have no362 := frq354.ne nb345.wf h347
    have no363 := frq354.ne nb345.wf h348
    have no364 := frq354.ne nb345.wf nb345.get
    refine hk351 _ _ (HeldNow.none (by kernel_rfl)) ?_
    obtain ⟨p366, l366, c366, q366, _⟩ := fr360.own.slice
    subst q366
    refine DOps.l rfl rfl rfl (fun _ _ hk365 _ => wstore (cs := [str ((dsh Sq40 (rot r kt)).1), num (((dsh Sq40 (rot r kt)).2.length : Nat) : Int), .slice p366 l366 c366]) (c' := [str ((dsh Sq40 (rot r kt)).1), num (((dsh Sq40 (rot r kt)).2.length : Nat) : Int), .slice p366 l366 c366]) wfq354 rfl rfl rfl rfl sz46 h357 (Nat.le_of_ble_eq_true rfl) rfl rfl fun A367 sb368 => ?_)
    have h369 := sb368.keep _ _ ne_b56_b343 h355
    have h370 := sb368.keep _ _ ne_b9_b343 h356
    have fr371 := fr358.keep sb368.keep no346
    have fr372 := fr360.keep sb368.keep no364
    have le373 := le_store le359 wfC ge_b343 sb368.n sb368.keep
    refine hk365 _ _ (HeldNow.none (by kernel_rfl)) <| .done <| h145 _ _ <| .seq fun K374 h375 => .seq fun K376 h377 => .region <| .q rfl (qfieldAddr fl46_2 sz30 (by decide) rfl) <| .q rfl (qloadAt ag30 rfl rfl sb368.get rfl) <| .q rfl (qlenS (n := ((dsh Sq40 (rot r kt)).2).length) u30 rfl fr372.slc (by omega) (dcells_len _)) <| .q rfl (qmove rfl) ?_
    refine Ops.nil <| h377 _ _ <| .block <| .loop (X := Nat × List DCell × Value) (fun ⟨k, e, ev⟩ => [(4, .pointer (some ⟨b9, 0, none⟩)), (8, .pointer (some ⟨brq40, 0, none⟩)), (9, .pointer (some ⟨b56, 0, none⟩)), (11, str (jnd cj (r.take kt))), (13, .bool (decide ((jnd cj (r.take kt)).length ≤ 100000))), (16, .pointer (some ⟨b343, 0, none⟩)), (70, .slice p366 l366 c366), (71, num ((((dsh Sq40 (rot r kt)).2).length : Nat) : Int)), (72, num ((k : Nat) : Int))]) (fun ⟨k, e, ev⟩ B => (k ≤ (dsh Sq40 (rot r kt)).2.length ∧ e = d ++ ((dsh Sq40 (rot r kt)).2.take k).map (cellJ (jnd cj (r.take kt))) ∧ ∀ j, j < k → (jnd (jnd cj (r.take kt)) ((dsh Sq40 (rot r kt)).2.getD j .zero).conj).length ≤ 100000) ∧ (A39.hide [some b9]).le B ∧ Fresh (A39.hide [some b9]) B ev 3 (dcells e) ∧ Fresh (A39.hide [some b9]) B (.slice p366 l366 c366) 3 (dcells ((dsh Sq40 (rot r kt)).2)) ∧ B.get b56 = some (.row true [str ((dsh Sq40 w).1), num ((n : Nat) : Int), ev] 3) ∧ B.get b9 = some (.row true [str ([]), num ((0 : Nat) : Int), .slice none 0 0] 3) ∧ B.get b343 = some (.row true [str ((dsh Sq40 (rot r kt)).1), num (((dsh Sq40 (rot r kt)).2.length : Nat) : Int), .slice p366 l366 c366] 3) ∧ V.blk ev ≠ some b56 ∧ V.blk (.slice p366 l366 c366) ≠ some b56 ∧ V.blk ev ≠ some b9 ∧ V.blk (.slice p366 l366 c366) ≠ some b9 ∧ V.blk ev ≠ some b343 ∧ V.blk (.slice p366 l366 c366) ≠ some b343 ∧ Sep ev (.slice p366 l366 c366)) (fun ⟨k, e, ev⟩ => (dsh Sq40 (rot r kt)).2.length - k) (⟨0, d, cv⟩) (EnvLe.cons rfl <| EnvLe.cons rfl <| EnvLe.cons rfl <| EnvLe.cons rfl <| EnvLe.cons rfl <| EnvLe.cons rfl <| EnvLe.cons rfl <| EnvLe.cons rfl <| EnvLe.cons rfl <| EnvLe.nil _) (⟨⟨Nat.zero_le _, (List.append_nil _).symm, fun j h => by omega⟩, le373, fr371, fr372, h369, h370, sb368.get, no_cv_b5680, no362, no_cv_b980, no363, no346, no364, (Sep.symm sp361)⟩) ?_
    rintro ⟨k, e, ev⟩ B379 ⟨⟨hk, he, hfit⟩, le378, fr_ev378, fk_oq354378, hr_b56378, hr_b9378, hr_b343378, no_ev_b56378, no_oq354_b56378, no_ev_b9378, no_oq354_b9378, no_ev_b343378, no_oq354_b343378, sq378_0_1⟩
    refine Run.wf fun wf380 => ?_
    have hel : e.length = d.length + k := by rw [he, List.length_append, List.length_map, List.length_take]; omega
    have hgc := getD_conj hda.2.2 k
    refine Run.seq fun K381 h382 => .region <| .q rfl (qlssN rfl rfl) <| .nil <| h382 _ _ <| .seq fun K383 h384 => .if rfl (fun p385 => ?_) (fun p385 => ?_)
    ·
     refine Run.skip <| h384 _ _ <| .seq fun K386 h387 => .block <| .seq fun K388 h389 => .region ?_
     obtain ⟨b390, f390, rw390, r390, rc390, n390, k390, e390, l390, g390, cl390, cs390⟩ := Slc.at (i := k) fk_oq354378.slc (by simp only [dcells_length]; omega) (by omega)
     refine Ops.q rfl (qindexS u30 sz71 rfl e390 rfl l390) <| .q rfl (qloadAggAt ag71 sz71 rfl rfl g390 (cl390.trans (congrArg some (dcells_at (by omega))))) <| .l rfl (fun _ _ hk391 _ => walloc wf380 z71 rfl fun A393 b392 nb394 => ?_)
     have ne_b56_b392 := ne_new wf380 hr_b56378 nb394.lo
     have ne_b9_b392 := ne_new wf380 hr_b9378 nb394.lo
     have ne_b343_b392 := ne_new wf380 hr_b343378 nb394.lo
     have no395 := fr_ev378.own.ne_new wf380 nb394.lo
     have no396 := fk_oq354378.own.ne_new wf380 nb394.lo
     have ge_b392 := none_of wfC (Nat.le_trans le378.n nb394.lo)
     have h397 := nb394.le.get _ _ hr_b56378
     have h398 := nb394.le.get _ _ hr_b9378
     have h399 := nb394.le.get _ _ hr_b343378
     have fr400 := fr_ev378.le nb394.le
     have fr401 := fk_oq354378.le nb394.le
     have le402 := le378.trans nb394.le
     refine hk391 _ _ <| .l rfl (fun _ _ hk403 _ => wstore (cs := [str ((((dsh Sq40 (rot r kt)).2).getD k .zero).conj), num ((((dsh Sq40 (rot r kt)).2).getD k .zero).rel), .bool ((((dsh Sq40 (rot r kt)).2).getD k .zero).inv)]) (c' := [str ((((dsh Sq40 (rot r kt)).2).getD k .zero).conj), num ((((dsh Sq40 (rot r kt)).2).getD k .zero).rel), .bool ((((dsh Sq40 (rot r kt)).2).getD k .zero).inv)]) nb394.wf rfl rfl rfl rfl sz71 nb394.get (Nat.le_of_ble_eq_true rfl) rfl rfl fun A404 sb405 => ?_)
     have h406 := sb405.keep _ _ ne_b56_b392 h397
     have h407 := sb405.keep _ _ ne_b9_b392 h398
     have h408 := sb405.keep _ _ ne_b343_b392 h399
     have fr409 := fr400.keep sb405.keep no395
     have fr410 := fr401.keep sb405.keep no396
     have le411 := le_store le402 wfC ge_b392 sb405.n sb405.keep
     refine hk403 _ _ <| .nil <| h389 _ _ <| .seq fun K412 h413 => .region <| .q rfl (qmove rfl) <| .q rfl (qfieldAddr fl71_0 sz9 (by decide) rfl) <| .q rfl (qloadAt ag9 rfl rfl sb405.get rfl) <| .l rfl (fun _ _ hk414 _ => vcallF rfl (s_joined (jnd cj (r.take kt)) ((((dsh Sq40 (rot r kt)).2).getD k .zero).conj) A404 (by first | omega | (rw [List.length_take]; omega)) (by first | omega | (rw [List.length_take]; omega))) ?_)
     rintro v415 A416 ⟨rfl, rfl⟩
     refine hk414 _ _ <| .q rfl (qmove rfl) <| .q rfl (qextract rfl rfl) <| .q rfl (qextract rfl rfl) <| .q rfl (qfieldAddr fl71_0 sz9 (by decide) rfl) <| .l rfl (fun _ _ hk418 _ => wstore (cs := [str (jnd (jnd cj (r.take kt)) ((((dsh Sq40 (rot r kt)).2).getD k .zero).conj))]) (c' := [str (jnd (jnd cj (r.take kt)) ((((dsh Sq40 (rot r kt)).2).getD k .zero).conj)), num ((((dsh Sq40 (rot r kt)).2).getD k .zero).rel), .bool ((((dsh Sq40 (rot r kt)).2).getD k .zero).inv)]) sb405.wf rfl rfl rfl rfl sz9 sb405.get (Nat.le_of_ble_eq_true rfl) rfl rfl fun A419 sb420 => ?_)
     have h421 := sb420.keep _ _ ne_b56_b392 h406
     have h422 := sb420.keep _ _ ne_b9_b392 h407
     have h423 := sb420.keep _ _ ne_b343_b392 h408
     have fr424 := fr409.keep sb420.keep no395
     have fr425 := fr410.keep sb420.keep no396
     have le426 := le_store le411 wfC ge_b392 sb420.n sb420.keep
     refine hk418 _ _ <| .q rfl (qassign rfl) <| .nil <| h413 _ _ <| .seq fun K427 h428 => .seq fun K429 h430 => .region <| .q rfl (qmove rfl) <| .q rfl (qnotP rfl) <| .nil ?_
     refine h430 _ _ <| .if rfl (fun p431 => ?_) (fun p431 => ?_)
     ·
      refine Run.seq fun K432 h433 => .region <| .q rfl (qbuild rfl (buildV_struct u46 z46 pl46 rfl)) <| .l rfl (fun _ _ hk434 _ => wstore (cs := [str ([]), num ((0 : Nat) : Int), .slice none 0 0]) (c' := [str ([]), num ((0 : Nat) : Int), .slice none 0 0]) sb420.wf rfl rfl rfl rfl sz46 h422 (Nat.le_of_ble_eq_true rfl) rfl rfl fun A435 sb436 => ?_)
      have le442 := le_store le426 wfC (hide_none (by simp)) sb436.n sb436.keep
      refine hk434 _ _ <| .q rfl (qassign rfl) <| .q rfl (qassign rfl) <| .nil <| h433 _ _ <| .ret ?_
      repeat first | with_reducible refine thenQ_ret ?_ | with_reducible refine blockQ_ret ?_
      exact retQ (resCell ag46 sz46 rfl sb436.get rfl (resTmp rfl (resTmp rfl resNil))) (⟨[], [], [], 2, _, (by first | rfl | (rw [hnd]; rfl)), leC.trans le442, sb436.wf, Fresh.nil _ _ _, CyR.ok ‹¬ ¬ rasked g l w = 0› hSOq40 (by first | exact (cyF_end (by omega) (by omega) hcy).trans (if_pos ‹1000000 < conjs d ∨ 100000 < d.length›) | exact cyF_no1 hz (by omega) hcy (fitsJ_no (j := k) (by omega) (by omega)) | exact cyF_no2 hz (by omega) hcy (fitsJ_yes (by omega) hfit) (by omega))⟩)
     ·
      refine Run.skip <| h428 _ _ <| .region <| .q rfl (qfieldAddr fl46_2 sz30 (by decide) rfl) <| .q rfl (qloadAt ag30 rfl rfl h421 rfl) <| .q rfl (qloadAggAt ag71 sz71 rfl rfl sb420.get rfl) <| .l rfl (fun _ _ hk443 _ => wbuildSlice (c := [str (jnd (jnd cj (r.take kt)) ((((dsh Sq40 (rot r kt)).2).getD k .zero).conj)), num ((((dsh Sq40 (rot r kt)).2).getD k .zero).rel), .bool ((((dsh Sq40 (rot r kt)).2).getD k .zero).inv)]) sb420.wf rfl (buildSliceV_of u30 sz71 z71 rfl (by decide) (by decide) rfl) fun A445 b444 nb446 => ?_)
      have h449 := nb446.le.get _ _ h421
      have h450 := nb446.le.get _ _ h422
      have h451 := nb446.le.get _ _ h423
      have fr453 := fr424.le nb446.le
      have fr454 := fr425.le nb446.le
      have le455 := le426.trans nb446.le
      refine hk443 _ _ <| .l rfl (fun _ _ hk456 _ => wappend (ys := [str (jnd (jnd cj (r.take kt)) ((((dsh Sq40 (rot r kt)).2).getD k .zero).conj)), num ((((dsh Sq40 (rot r kt)).2).getD k .zero).rel), .bool ((((dsh Sq40 (rot r kt)).2).getD k .zero).inv)]) rfl rfl u30 sz71 inf71 z71 rfl (by decide) u30 (fun _ h => by cases h) fr453.own (listOf_row (n := 1) nb446.get rfl) rfl rfl (by show (_ + _) * 32 ≤ _; simp only [dcells_length, List.length_cons, List.length_nil]; (try simp only [List.length_append, List.length_cons, List.length_nil]); omega) (by simp only [dcells_length, List.length_cons, List.length_nil]; (try simp only [List.length_append, List.length_cons, List.length_nil]); omega) fun A457 v458 ap459 => ?_)
      rw [show ([str (jnd (jnd cj (r.take kt)) ((((dsh Sq40 (rot r kt)).2).getD k .zero).conj)), num ((((dsh Sq40 (rot r kt)).2).getD k .zero).rel), .bool ((((dsh Sq40 (rot r kt)).2).getD k .zero).inv)] : List Value) = dcells [⟨jnd (jnd cj (r.take kt)) ((((dsh Sq40 (rot r kt)).2).getD k .zero).conj), (((dsh Sq40 (rot r kt)).2).getD k .zero).rel, (((dsh Sq40 (rot r kt)).2).getD k .zero).inv⟩] from rfl, dcells_append] at ap459
      obtain ⟨fr462, le463⟩ := Fresh.grow fr453 le455 wfC ap459
      have h464 := ap459.keep no_ev_b56378 h449
      have ne465 := ap459.ne no_ev_b56378 nb446.wf h449
      have h466 := ap459.keep no_ev_b9378 h450
      have ne467 := ap459.ne no_ev_b9378 nb446.wf h450
      have h468 := ap459.keep no_ev_b343378 h451
      have ne469 := ap459.ne no_ev_b343378 nb446.wf h451
      have sp473 := Sep.appd (show Sep ev (.slice p366 l366 c366) from sq378_0_1) fr454.own nb446.wf ap459
      have fr472 := fr454.appd ap459 sq378_0_1
      refine hk456 _ _ <| .q rfl (qfieldAddr fl46_2 sz30 (by decide) rfl) ?_
      obtain ⟨p475, l475, c475, q475, _⟩ := fr462.own.slice
      subst q475
      refine Ops.l rfl (fun _ _ hk474 _ => wstore (cs := [.slice p475 l475 c475]) (c' := [str ((dsh Sq40 w).1), num ((n : Nat) : Int), .slice p475 l475 c475]) ap459.wf rfl rfl rfl rfl sz30 h464 (Nat.le_of_ble_eq_true rfl) rfl rfl fun A476 sb477 => ?_)
      have h478 := sb477.keep _ _ ne_b9_b56 h466
      have h479 := sb477.keep _ _ ne_b56_b343.symm h468
      have fr481 := fr472.keep sb477.keep no_oq354_b56378
      have fr482 := fr462.keep sb477.keep ne465
      have le483 := le_store le463 wfC ge_b56 sb477.n sb477.keep
      refine hk474 _ _ <| .nil <| h387 _ _ <| .region <| .q rfl (qaddN (b := 1) rfl rfl (by omega)) <| .q rfl (qmove rfl) <| .nil ?_
      exact ⟨⟨k + 1, e ++ [⟨jnd (jnd cj (r.take kt)) ((((dsh Sq40 (rot r kt)).2).getD k .zero).conj), (((dsh Sq40 (rot r kt)).2).getD k .zero).rel, (((dsh Sq40 (rot r kt)).2).getD k .zero).inv⟩], .slice p475 l475 c475⟩, EnvLe.cons rfl <| EnvLe.cons rfl <| EnvLe.cons rfl <| EnvLe.cons rfl <| EnvLe.cons rfl <| EnvLe.cons rfl <| EnvLe.cons rfl <| EnvLe.cons rfl <| EnvLe.cons rfl <| EnvLe.nil _, rfl, ⟨⟨by omega, by rw [he]; exact conj_step (by omega), fun j h => (Nat.lt_succ_iff_lt_or_eq.1 h).elim (hfit j) (fun q => by subst q; omega)⟩, le483, fr482, fr481, sb477.get, h478, h479, ne465, no_oq354_b56378, ne467, no_oq354_b9378, ne469, no_oq354_b343378, sp473⟩, (by (try dsimp only); omega)⟩
    ·
     refine Run.exit <| h375 _ _ <| .seq fun K484 h485 => .region <| .q rfl (qfieldAddr fl46_1 sz3 (by decide) rfl) <| .q rfl (qloadAt ag3 rfl rfl hr_b56378 rfl) <| .q rfl (qfieldAddr fl46_1 sz3 (by decide) rfl) <| .q rfl (qloadAt ag3 rfl rfl hr_b343378 rfl) <| .q rfl (qaddN rfl rfl (by omega)) <| .q rfl (qfieldAddr fl46_1 sz3 (by decide) rfl) ?_
     refine Ops.l rfl (fun _ _ hk486 _ => wstore (cs := [num ((n + ((dsh Sq40 (rot r kt)).2.length) : Nat) : Int)]) (c' := [str ((dsh Sq40 w).1), num ((n + ((dsh Sq40 (rot r kt)).2.length) : Nat) : Int), ev]) wf380 rfl rfl rfl rfl sz3 hr_b56378 (Nat.le_of_ble_eq_true rfl) rfl rfl fun A487 sb488 => ?_)
     have h489 := sb488.keep _ _ ne_b9_b56 hr_b9378
     have h490 := sb488.keep _ _ ne_b56_b343.symm hr_b343378
     have fr491 := fr_ev378.keep sb488.keep no_ev_b56378
     have le493 := le_store le378 wfC ge_b56 sb488.n sb488.keep
     refine hk486 _ _ <| .nil <| h485 _ _ <| .seq fun K494 h495 => .region <| .q rfl (qfieldAddr fl46_0 sz9 (by decide) rfl) <| .q rfl (qloadAt ag9 rfl rfl h490 rfl) <| .l rfl (fun _ _ hk496 _ => vcallF rfl (s_Cyclic ((dsh Sq40 (rot r kt)).1) A487 (by first | omega | (have := hd0.1; omega)) ((hL.le leC).le le493)) ?_)
     rintro v497 A498 ⟨rfl, leq499, wfq499⟩
     have h500 := leq499.get _ _ sb488.get
     have h501 := leq499.get _ _ h489
     have fr503 := fr491.le leq499
     have le505 := le493.trans leq499
     refine hk496 _ _ <| .q rfl (qmove rfl) <| .q rfl (qextract rfl rfl) <| .q rfl (qextract rfl rfl) <| .q rfl (qassign rfl) <| .q rfl (qassign rfl) <| .nil <| h495 _ _ <| .seq fun K506 h507 => .region ?_
     refine Ops.q rfl (qmove rfl) <| .q rfl (qassign rfl) <| .nil <| h507 _ _ <| .seq fun K508 h509 => .region <| .q rfl (qmove rfl) <| .q rfl (qmove rfl) <| .l rfl (fun _ _ hk510 _ => vcallF rfl (s_joined (jnd cj (r.take kt)) (wConj ((dsh Sq40 (rot r kt)).1)) A498 (by first | omega | (rw [List.length_take]; omega)) (by first | omega | (rw [List.length_take]; omega))) ?_)
     rintro v511 A512 ⟨rfl, rfl⟩
     refine hk510 _ _ <| .q rfl (qmove rfl) <| .q rfl (qextract rfl rfl) <| .q rfl (qextract rfl rfl) <| .q rfl (qassign rfl) <| .q rfl (qassign rfl) <| .nil <| h509 _ _ <| .seq fun K514 h515 => .region ?_
     refine Ops.q rfl (qmove rfl) <| .q rfl (qnotP rfl) <| .q rfl (qmove rfl) <| .part (t := 115) rfl (fun p516 => ?_) (fun p516 => ?_)
     ·
      refine Ops.off rfl rfl rfl rfl <| .off rfl rfl rfl rfl <| .q rfl (qpickT rfl rfl) <| .nil <| h515 _ _ <| .cond_true rfl <| .seq fun K517 h518 => .region <| .q rfl (qbuild rfl (buildV_struct u46 z46 pl46 rfl)) <| .l rfl (fun _ _ hk519 _ => wstore (cs := [str ([]), num ((0 : Nat) : Int), .slice none 0 0]) (c' := [str ([]), num ((0 : Nat) : Int), .slice none 0 0]) wfq499 rfl rfl rfl rfl sz46 h501 (Nat.le_of_ble_eq_true rfl) rfl rfl fun A520 sb521 => ?_)
      have le526 := le_store le505 wfC (hide_none (by simp)) sb521.n sb521.keep
      refine hk519 _ _ <| .q rfl (qassign rfl) <| .q rfl (qassign rfl) <| .nil <| h518 _ _ <| .ret ?_
      repeat first | with_reducible refine thenQ_ret ?_ | with_reducible refine blockQ_ret ?_
      exact retQ (resCell ag46 sz46 rfl sb521.get rfl (resTmp rfl (resTmp rfl resNil))) (⟨[], [], [], 2, _, (by first | rfl | (rw [hnd]; rfl)), leC.trans le526, sb521.wf, Fresh.nil _ _ _, CyR.ok ‹¬ ¬ rasked g l w = 0› hSOq40 (by first | exact (cyF_end (by omega) (by omega) hcy).trans (if_pos ‹1000000 < conjs d ∨ 100000 < d.length›) | exact cyF_no1 hz (by omega) hcy (fitsJ_no (j := k) (by omega) (by omega)) | exact cyF_no2 hz (by omega) hcy (fitsJ_yes (by omega) hfit) (by omega))⟩)
     ·
      refine Ops.on rfl rfl <| .q rfl (qmove rfl) <| .on rfl rfl <| .q rfl (qnotP rfl) <| .q rfl (qpickF rfl rfl) <| .nil <| h515 _ _ <| .if rfl (fun p527 => ?_) (fun p527 => ?_)
      ·
       refine Run.seq fun K528 h529 => .region <| .q rfl (qbuild rfl (buildV_struct u46 z46 pl46 rfl)) <| .l rfl (fun _ _ hk530 _ => wstore (cs := [str ([]), num ((0 : Nat) : Int), .slice none 0 0]) (c' := [str ([]), num ((0 : Nat) : Int), .slice none 0 0]) wfq499 rfl rfl rfl rfl sz46 h501 (Nat.le_of_ble_eq_true rfl) rfl rfl fun A531 sb532 => ?_)
       have le537 := le_store le505 wfC (hide_none (by simp)) sb532.n sb532.keep
       refine hk530 _ _ <| .q rfl (qassign rfl) <| .q rfl (qassign rfl) <| .nil <| h529 _ _ <| .ret ?_
       repeat first | with_reducible refine thenQ_ret ?_ | with_reducible refine blockQ_ret ?_
       exact retQ (resCell ag46 sz46 rfl sb532.get rfl (resTmp rfl (resTmp rfl resNil))) (⟨[], [], [], 2, _, (by first | rfl | (rw [hnd]; rfl)), leC.trans le537, sb532.wf, Fresh.nil _ _ _, CyR.ok ‹¬ ¬ rasked g l w = 0› hSOq40 (by first | exact (cyF_end (by omega) (by omega) hcy).trans (if_pos ‹1000000 < conjs d ∨ 100000 < d.length›) | exact cyF_no1 hz (by omega) hcy (fitsJ_no (j := k) (by omega) (by omega)) | exact cyF_no2 hz (by omega) hcy (fitsJ_yes (by omega) hfit) (by omega))⟩)
      ·
       refine Run.skip ?_
       exact ⟨⟨f - 1, wCore ((dsh Sq40 (rot r kt)).1), jnd (jnd cj (r.take kt)) (wConj ((dsh Sq40 (rot r kt)).1)), n + ((dsh Sq40 (rot r kt)).2.length), e, ev⟩, EnvLe.cons rfl <| EnvLe.cons rfl <| EnvLe.cons rfl <| EnvLe.cons rfl <| EnvLe.cons rfl <| EnvLe.nil _, rfl, ⟨⟨by rw [he, List.take_of_length_le (l := (dsh Sq40 (rot r kt)).2) (by omega)]; exact cyF_go hz (by omega) hcy (fitsJ_yes (by omega) hfit) ⟨by omega, by omega⟩, by omega, by omega, by rw [he]; simp only [List.length_append, List.length_map, List.length_take]; omega, by rw [he]; simp only [List.length_append, List.length_map, List.length_take]; omega, by omega, fun c hc => by rw [he] at hc; rcases List.mem_append.1 hc with hc | hc; exact hdc c hc; obtain ⟨c2, hc2, rfl⟩ := List.mem_map.1 hc; obtain ⟨j, hj, rfl⟩ := List.getElem_of_mem hc2; rw [List.length_take] at hj; have := hfit j (by omega); simpa [show j < (dsh Sq40 (rot r kt)).2.length by omega, cellJ] using this⟩, le505, fr503, h500, h501, no_ev_b56378, no_ev_b9378⟩, (by (try dsimp only); omega)⟩
end Go.Proofs.YtaccklloepfemaaDoor
