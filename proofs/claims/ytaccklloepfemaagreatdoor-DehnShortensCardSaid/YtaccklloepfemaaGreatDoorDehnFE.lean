/- The contracts of the functions, one by one: what each comes to. -/
import Derived.Test.YtaccklloepfemaaGreatDoorDehnFD
namespace Go.Proofs.YtaccklloepfemaaGreatDoor
open Go Go.RowKit V
set_option maxRecDepth 100000
set_option linter.unusedVariables false
set_option linter.unusedSimpArgs false
theorem ag24 : aggOf Tryz.prog 24 = some true := by kernel_rfl
theorem ag29 : aggOf Tryz.prog 29 = some true := by kernel_rfl
theorem ag4 : aggOf Tryz.prog 4 = some false := by kernel_rfl
theorem ag60 : aggOf Tryz.prog 60 = some true := by kernel_rfl
theorem ag63 : aggOf Tryz.prog 63 = some true := by kernel_rfl
theorem fl60_0 : fldOf Tryz.prog 60 0 = some (22, 0) := by kernel_rfl
theorem fl63_0 : fldOf Tryz.prog 63 0 = some (3, 0) := by kernel_rfl
theorem fl63_1 : fldOf Tryz.prog 63 1 = some (3, 1) := by kernel_rfl
theorem fl63_2 : fldOf Tryz.prog 63 2 = some (9, 2) := by kernel_rfl
theorem fl63_3 : fldOf Tryz.prog 63 3 = some (4, 3) := by kernel_rfl
theorem pl29 : structPlaces Tryz.prog 29 = some [(0, 1), (1, 1), (2, 1)] := by kernel_rfl
theorem pl60 : structPlaces Tryz.prog 60 = some [(0, 1), (1, 1)] := by kernel_rfl
theorem pl63 : structPlaces Tryz.prog 63 = some [(0, 1), (1, 1), (2, 1), (3, 1)] := by kernel_rfl
theorem sz24 : szOf Tryz.prog 24 = some 2 := by kernel_rfl
theorem sz29 : szOf Tryz.prog 29 = some 3 := by kernel_rfl
theorem sz4 : szOf Tryz.prog 4 = some 1 := by kernel_rfl
theorem sz60 : szOf Tryz.prog 60 = some 2 := by kernel_rfl
theorem sz63 : szOf Tryz.prog 63 = some 4 := by kernel_rfl
theorem u29 : type_of% @Tryz.underlying29 := @Tryz.underlying29
theorem u60 : type_of% @Tryz.underlying60 := @Tryz.underlying60
theorem u63 : type_of% @Tryz.underlying63 := @Tryz.underlying63
theorem z29 : zeroOf Tryz.prog 29 = some (.agg #[.string ⟨⟨[]⟩⟩, .int .i64 0, .int .i64 0]) := by kernel_rfl
theorem z60 : zeroOf Tryz.prog 60 = some (.agg #[.slice none 0 0, .int .i64 0]) := by kernel_rfl
theorem z63 : zeroOf Tryz.prog 63 = some (.agg #[.int .i64 0, .int .i64 0, .string ⟨⟨[]⟩⟩, .bool false]) := by kernel_rfl

theorem s_Symm (g : Int) (u : Value) (l : List (List UInt8)) (A : AH) (hc : pcheck g l = 0) (hu : Slc A 1 u (strs l)) : RetA Tryz.prog 30 #[.agg #[num (g), u]] A (fun v A1 => ∃ s, v = .agg #[s, num ((0 : Nat) : Int)] ∧ A.le A1 ∧ A1.wf ∧ Fresh A A1 s 1 (strs (symm l)) ∧ (∀ x ∈ symm l, x.length ≤ 200) ∧ (symm l).length ≤ 30000) := by
 refine enterA (e := [(0, .agg #[num (g), u])]) (args := [.agg #[num (g), u]]) Tryz.call30 Tryz.func30 rfl Tryz.results30 Tryz.ntmps30 rfl rfl rfl (fun wf => ?_)
 have le_ := AH.le.refl A
 have hz := pcheck_zero hc
 have hll : ∀ k, k < l.length → (l.getD k []).length ≤ 200 := fun k q => (hz.2.2 _ (getD_mem q)).1
 refine Run.seq fun K1 h2 => ?_
 refine Run.region ?_
 refine Ops.l rfl (fun _ _ hk3 _ => wbox wf rfl rfl fun A5 b4 nb6 => ?_)
 have ge_b4 := none_of wf (Nat.le_trans le_.n nb6.lo)
 have le7 := le_.trans nb6.le
 refine hk3 _ _ ?_
 refine Ops.l rfl (fun _ _ hk8 _ => walloc nb6.wf z60 rfl fun A10 b9 nb11 => ?_)
 have ne_b4_b9 := ne_new nb6.wf nb6.get nb11.lo
 have ge_b9 := none_of wf (Nat.le_trans le7.n nb11.lo)
 have h12 := nb11.le.get _ _ nb6.get
 have le13 := le7.trans nb11.le
 refine hk8 _ _ ?_
 refine Ops.nil ?_
 refine h2 _ _ ?_
 refine Run.seq fun K14 h15 => ?_
 refine Run.region ?_
 refine Ops.q rfl (qloadAggAt ag24 sz24 rfl rfl h12 rfl) ?_
 refine Ops.l rfl (fun _ _ hk16 _ => vcallF rfl (s_RPCheck ((g)) u l A10 (by omega) (hu.le le13)) ?_)
 rintro v17 A18 ⟨rfl, leq19, wfq19⟩
 have h20 := leq19.get _ _ h12
 have h21 := leq19.get _ _ nb11.get
 have le22 := le13.trans leq19
 refine hk16 _ _ ?_
 refine Ops.q rfl (qassign rfl) ?_
 refine Ops.nil ?_
 refine h15 _ _ ?_
 refine Run.seq fun K23 h24 => ?_
 refine Run.seq fun K25 h26 => ?_
 refine Run.region ?_
 refine Ops.q rfl (qmove rfl) ?_
 refine Ops.q rfl (qneqN (b := 0) rfl rfl) ?_
 refine Ops.nil ?_
 refine h26 _ _ ?_
 refine Run.if rfl (fun p27 => ?_) (fun p27 => ?_)
 ·
  refine Run.seq fun K28 h29 => ?_
  refine Run.region ?_
  refine Ops.q rfl (qmove rfl) ?_
  refine Ops.q rfl (qbuild rfl (buildV_struct u60 z60 pl60 rfl)) ?_
  refine Ops.l rfl (fun _ _ hk30 _ => wstore (cs := [.slice none 0 0, num ((pcheck ((g)) l : Nat) : Int)]) (c' := [.slice none 0 0, num ((pcheck ((g)) l : Nat) : Int)]) wfq19 rfl rfl rfl rfl sz60 h21 (Nat.le_of_ble_eq_true rfl) rfl rfl fun A31 sb32 => ?_)
  have h33 := sb32.keep _ _ ne_b4_b9 h20
  have le34 := le_store le22 wf ge_b9 sb32.n sb32.keep
  refine hk30 _ _ ?_
  refine Ops.nil ?_
  refine h29 _ _ ?_
  refine Run.ret ?_
  exact absurd hc ‹_›
 ·
  refine Run.skip ?_
  refine h24 _ _ ?_
  refine Run.seq fun K35 h36 => ?_
  refine Run.region ?_
  refine Ops.q rfl (qassign rfl) ?_
  refine Ops.nil ?_
  refine h36 _ _ ?_
  refine Run.seq fun K37 h38 => ?_
  refine Run.seq fun K39 h40 => ?_
  refine Run.region ?_
  refine Ops.q rfl (qassign rfl) ?_
  refine Ops.nil ?_
  refine h40 _ _ ?_
  refine Run.block ?_
  refine Run.loop (X := Nat × List (List UInt8) × Value) (fun ⟨k, a, s⟩ => [(1, .pointer (some ⟨b4, 0, none⟩)), (2, .pointer (some ⟨b9, 0, none⟩)), (4, s), (5, num ((k : Nat) : Int))]) (fun ⟨k, a, s⟩ B => (k ≤ l.length ∧ (l.drop k).foldl symmStep a = symm l ∧ a.length ≤ 400 * k ∧ ∀ x ∈ a, x.length ≤ 200) ∧ A.le B ∧ Fresh A B s 1 (strs a) ∧ B.get b4 = some (.row true [num (g), u] 2) ∧ B.get b9 = some (.row true [.slice none 0 0, num ((0 : Nat) : Int)] 2) ∧ V.blk s ≠ some b4 ∧ V.blk s ≠ some b9) (fun ⟨k, a, s⟩ => l.length - k) (⟨0, [], .slice none 0 0⟩) (EnvLe.cons rfl <| EnvLe.cons rfl <| EnvLe.cons rfl <| EnvLe.cons rfl <| EnvLe.nil _) (⟨⟨Nat.zero_le _, rfl, Nat.le_refl _, fun x h => by cases h⟩, le22, (Fresh.nil A A18 1), h20, h21, (fun q => by cases q), (fun q => by cases q)⟩) ?_
  rintro ⟨k, a, s⟩ B42 ⟨⟨hk, hf, ha, hx⟩, le41, fr_s41, hr_b441, hr_b941, no_s_b441, no_s_b941⟩
  refine Run.wf fun wf43 => ?_
  have hlk := hll k
  have hcl := wCore_length (l.getD k [])
  have hiv : (wInverse (wCore (l.getD k []))).length = (wCore (l.getD k [])).length := by rw [wInv_core, inv_length]
  refine Run.seq fun K44 h45 => ?_
  refine Run.seq fun K46 h47 => ?_
  refine Run.region ?_
  refine Ops.q rfl (qmove rfl) ?_
  refine Ops.q rfl (qfieldAddr fl24_1 sz22 (by decide) rfl) ?_
  refine Ops.q rfl (qloadAt ag22 rfl rfl hr_b441 rfl) ?_
  refine Ops.q rfl (qlenS (n := l.length) u22 rfl (hu.le le41) (by omega) (strs_len _)) ?_
  refine Ops.q rfl (qlssN rfl rfl) ?_
  refine Ops.nil ?_
  refine h47 _ _ ?_
  refine Run.if rfl (fun p48 => ?_) (fun p48 => ?_)
  ·
   refine Run.skip ?_
   refine h45 _ _ ?_
   refine Run.seq fun K49 h50 => ?_
   refine Run.block ?_
   refine Run.seq fun K51 h52 => ?_
   refine Run.region ?_
   refine Ops.q rfl (qfieldAddr fl24_1 sz22 (by decide) rfl) ?_
   refine Ops.q rfl (qloadAt ag22 rfl rfl hr_b441 rfl) ?_
   refine Ops.q rfl (qmove rfl) ?_
   obtain ⟨b53, f53, rw53, r53, rc53, n53, k53, e53, l53, g53, cl53, cs53⟩ := Slc.at (i := k) (hu.le le41) (by simp only [strs_length]; omega) (by omega)
   refine Ops.q rfl (qindexS u22 sz9 rfl e53 rfl l53) ?_
   refine Ops.q rfl (qloadAt ag9 rfl rfl g53 ((elt0 cs53).trans (strs_get (by omega)))) ?_
   refine Ops.l rfl (fun _ _ hk54 _ => vcallF rfl (s_RCyclic (l.getD k []) B42 (by first | omega | (simp only [List.length_append, List.length_drop, List.length_take, inv_length]; omega))) ?_)
   rintro v55 A56 ⟨rfl, leq57, wfq57⟩
   have h58 := leq57.get _ _ hr_b441
   have h59 := leq57.get _ _ hr_b941
   have fr60 := fr_s41.le leq57
   have le61 := le41.trans leq57
   refine hk54 _ _ ?_
   refine Ops.q rfl (qmove rfl) ?_
   refine Ops.q rfl (qextract rfl rfl) ?_
   refine Ops.q rfl (qextract rfl rfl) ?_
   refine Ops.q rfl (qassign rfl) ?_
   refine Ops.q rfl (qassign rfl) ?_
   refine Ops.nil ?_
   refine h52 _ _ ?_
   refine Run.seq fun K62 h63 => ?_
   refine Run.region ?_
   refine Ops.q rfl (qmove rfl) ?_
   refine Ops.l rfl (fun _ _ hk64 _ => vcallF rfl (s_RInverse (wCore (l.getD k [])) A56 (by first | omega | (simp only [List.length_append, List.length_drop, List.length_take, inv_length]; omega))) ?_)
   rintro v65 A66 ⟨rfl, leq67, wfq67⟩
   have h68 := leq67.get _ _ h58
   have h69 := leq67.get _ _ h59
   have fr70 := fr60.le leq67
   have le71 := le61.trans leq67
   refine hk64 _ _ ?_
   refine Ops.q rfl (qassign rfl) ?_
   refine Ops.nil ?_
   refine h63 _ _ ?_
   refine Run.seq fun K72 h73 => ?_
   refine Run.region ?_
   refine Ops.q rfl (qassign rfl) ?_
   refine Ops.nil ?_
   refine h73 _ _ ?_
   refine Run.block ?_
   refine Run.loop (X := Nat × List (List UInt8) × Value) (fun ⟨j, b, s2⟩ => [(1, .pointer (some ⟨b4, 0, none⟩)), (2, .pointer (some ⟨b9, 0, none⟩)), (4, s2), (5, num ((k : Nat) : Int)), (6, str (wCore (l.getD k []))), (8, str (wInverse (wCore (l.getD k [])))), (9, num ((j : Nat) : Int))]) (fun ⟨j, b, s2⟩ B => (j ≤ (wCore (l.getD k [])).length ∧ ((List.range (wCore (l.getD k [])).length).drop j).foldl (symmOf (wCore (l.getD k []))) b = symmStep a (l.getD k []) ∧ b.length ≤ 400 * k + 2 * j ∧ ∀ x ∈ b, x.length ≤ 200) ∧ A.le B ∧ Fresh A B s2 1 (strs b) ∧ B.get b4 = some (.row true [num (g), u] 2) ∧ B.get b9 = some (.row true [.slice none 0 0, num ((0 : Nat) : Int)] 2) ∧ V.blk s2 ≠ some b4 ∧ V.blk s2 ≠ some b9) (fun ⟨j, b, s2⟩ => (wCore (l.getD k [])).length - j) (⟨0, a, s⟩) (EnvLe.cons rfl <| EnvLe.cons rfl <| EnvLe.cons rfl <| EnvLe.cons rfl <| EnvLe.cons rfl <| EnvLe.cons rfl <| EnvLe.cons rfl <| EnvLe.nil _) (⟨⟨Nat.zero_le _, rfl, by omega, hx⟩, le71, fr70, h68, h69, no_s_b441, no_s_b941⟩) ?_
   rintro ⟨j, b, s2⟩ B75 ⟨⟨hj, hf2, hb, hx2⟩, le74, fr_s274, hr_b474, hr_b974, no_s2_b474, no_s2_b974⟩
   refine Run.wf fun wf76 => ?_
   have hal := addw_len b (rot (wCore (l.getD k [])) j)
   have ham : ∀ x ∈ addw b (rot (wCore (l.getD k [])) j), x.length ≤ 200 := fun x q => (addw_mem q).elim (hx2 x) (fun q => by rw [q, rot_length]; omega)
   refine Run.seq fun K77 h78 => ?_
   refine Run.seq fun K79 h80 => ?_
   refine Run.region ?_
   refine Ops.q rfl (qmove rfl) ?_
   refine Ops.q rfl (qmove rfl) ?_
   refine Ops.q rfl (qslen u9 rfl) ?_
   refine Ops.q rfl (qlssN rfl rfl) ?_
   refine Ops.nil ?_
   refine h80 _ _ ?_
   refine Run.if rfl (fun p81 => ?_) (fun p81 => ?_)
   ·
    refine Run.skip ?_
    refine h78 _ _ ?_
    refine Run.seq fun K82 h83 => ?_
    refine Run.block ?_
    refine Run.seq fun K84 h85 => ?_
    refine Run.drawn [0, 1, 2, 3, 4, 5, 6, 7, 8, 9] mixed (by kernel_rfl) (by kernel_rfl) rfl ?_
    refine DOps.q rfl rfl rfl (qmove rfl) ?_
    refine DOps.q rfl rfl rfl (qmove rfl) ?_
    refine DOps.q rfl rfl rfl (qmove rfl) ?_
    refine DOps.q rfl rfl rfl (qslLo u9 rfl rfl (by omega)) ?_
    refine DOps.q rfl rfl rfl (qmove rfl) ?_
    refine DOps.q rfl rfl rfl (qmove rfl) ?_
    refine DOps.q rfl rfl rfl (qslHi u9 rfl rfl (by omega)) ?_
    refine DOps.q rfl rfl rfl (qsadd rfl rfl (by (try simp only [List.length_append, List.length_drop, List.length_take]); omega)) ?_
    refine DOps.l rfl rfl rfl (fun _ _ hk86 _ => vcallF rfl (s_added s2 b (((wCore (l.getD k [])).drop j) ++ ((wCore (l.getD k [])).take j)) B75 (by first | omega | exact Nat.le_trans hal (by omega)) (fun x q => by first | exact Nat.le_trans (hx2 x q) (by omega) | exact Nat.le_trans (ham x q) (by omega)) (by simp only [List.length_append, List.length_drop, List.length_take]; omega) fr_s274.slc) ?_)
    rintro v87 A88 ⟨leq89, wfq89, frq89⟩
    have h90 := leq89.get _ _ hr_b474
    have h91 := leq89.get _ _ hr_b974
    have fr92 := fr_s274.le leq89
    have le93 := le74.trans leq89
    have fr94 := frq89.base le74
    have no95 := frq89.ne wf76 hr_b474
    have no96 := frq89.ne wf76 hr_b974
    refine hk86 _ _ (HeldNow.none (by kernel_rfl)) ?_
    refine DOps.q rfl rfl rfl (qassign rfl) ?_
    refine DOps.done ?_
    refine h85 _ _ ?_
    refine Run.drawn [0, 1, 2, 3, 4, 5, 6, 7, 8, 9] mixed (by kernel_rfl) (by kernel_rfl) rfl ?_
    refine DOps.q rfl rfl rfl (qmove rfl) ?_
    refine DOps.q rfl rfl rfl (qmove rfl) ?_
    refine DOps.q rfl rfl rfl (qmove rfl) ?_
    refine DOps.q rfl rfl rfl (qslLo u9 rfl rfl (by omega)) ?_
    refine DOps.q rfl rfl rfl (qmove rfl) ?_
    refine DOps.q rfl rfl rfl (qmove rfl) ?_
    refine DOps.q rfl rfl rfl (qslHi u9 rfl rfl (by omega)) ?_
    refine DOps.q rfl rfl rfl (qsadd rfl rfl (by (try simp only [List.length_append, List.length_drop, List.length_take]); omega)) ?_
    refine DOps.l rfl rfl rfl (fun _ _ hk97 _ => vcallF rfl (s_added v87 (addw b (((wCore (l.getD k [])).drop j) ++ ((wCore (l.getD k [])).take j))) (((wInverse (wCore (l.getD k []))).drop j) ++ ((wInverse (wCore (l.getD k []))).take j)) A88 (by first | omega | exact Nat.le_trans hal (by omega)) (fun x q => by first | exact Nat.le_trans (hx2 x q) (by omega) | exact Nat.le_trans (ham x q) (by omega)) (by simp only [List.length_append, List.length_drop, List.length_take]; omega) fr94.slc) ?_)
    rintro v98 A99 ⟨leq100, wfq100, frq100⟩
    have h101 := leq100.get _ _ h90
    have h102 := leq100.get _ _ h91
    have fr103 := fr92.le leq100
    have fr104 := fr94.le leq100
    have le105 := le93.trans leq100
    have fr106 := frq100.base le93
    have no107 := frq100.ne wfq89 h90
    have no108 := frq100.ne wfq89 h91
    refine hk97 _ _ (HeldNow.none (by kernel_rfl)) ?_
    refine DOps.q rfl rfl rfl (qassign rfl) ?_
    refine DOps.done ?_
    refine h83 _ _ ?_
    refine Run.region ?_
    refine Ops.q rfl (qmove rfl) ?_
    refine Ops.q rfl (qaddN (b := 1) rfl rfl (by omega)) ?_
    refine Ops.q rfl (qassign rfl) ?_
    refine Ops.nil ?_
    exact ⟨⟨j + 1, addw (addw b (((wCore (l.getD k [])).drop j) ++ ((wCore (l.getD k [])).take j))) (((wInverse (wCore (l.getD k []))).drop j) ++ ((wInverse (wCore (l.getD k []))).take j)), v98⟩, EnvLe.cons rfl <| EnvLe.cons rfl <| EnvLe.cons rfl <| EnvLe.cons rfl <| EnvLe.cons rfl <| EnvLe.cons rfl <| EnvLe.cons rfl <| EnvLe.nil _, rfl, ⟨⟨by omega, range_fold (by omega) hf2, by have := symmOf_len b (wCore (l.getD k [])) j; exact Nat.le_trans this (by omega), symm_short (by omega) hx2⟩, le105, fr106, h101, h102, no107, no108⟩, (by (try dsimp only); omega)⟩
   ·
    refine Run.exit ?_
    refine h50 _ _ ?_
    refine Run.region ?_
    refine Ops.q rfl (qmove rfl) ?_
    refine Ops.q rfl (qaddN (b := 1) rfl rfl (by omega)) ?_
    refine Ops.q rfl (qassign rfl) ?_
    refine Ops.nil ?_
    exact ⟨⟨k + 1, b, s2⟩, EnvLe.cons rfl <| EnvLe.cons rfl <| EnvLe.cons rfl <| EnvLe.cons rfl <| EnvLe.nil _, rfl, ⟨⟨by omega, fold_step (d := []) (by omega) hf (by rw [List.drop_eq_nil_of_le (by simpa using Nat.le_of_not_lt ‹¬ j < (wCore (l.getD k [])).length›)] at hf2; exact hf2.symm), by omega, hx2⟩, le74, fr_s274, hr_b474, hr_b974, no_s2_b474, no_s2_b974⟩, (by (try dsimp only); omega)⟩
  ·
   refine Run.exit ?_
   refine h38 _ _ ?_
   refine Run.seq fun K109 h110 => ?_
   refine Run.region ?_
   refine Ops.q rfl (qmove rfl) ?_
   obtain ⟨p111, l111, c111, q111, _⟩ := fr_s41.own.slice
   subst q111
   refine Ops.q rfl (qbuild rfl (buildV_struct u60 z60 pl60 rfl)) ?_
   refine Ops.l rfl (fun _ _ hk112 _ => wstore (cs := [.slice p111 l111 c111, num ((0 : Nat) : Int)]) (c' := [.slice p111 l111 c111, num ((0 : Nat) : Int)]) wf43 rfl rfl rfl rfl sz60 hr_b941 (Nat.le_of_ble_eq_true rfl) rfl rfl fun A113 sb114 => ?_)
   have h115 := sb114.keep _ _ ne_b4_b9 hr_b441
   have fr116 := fr_s41.keep sb114.keep no_s_b941
   have le117 := le_store le41 wf ge_b9 sb114.n sb114.keep
   refine hk112 _ _ ?_
   refine Ops.nil ?_
   refine h110 _ _ ?_
   refine Run.ret ?_
   repeat first | with_reducible refine thenQ_ret ?_ | with_reducible refine blockQ_ret ?_
   exact retQ (resCell ag60 sz60 rfl sb114.get rfl resNil) (⟨_, rfl, le117, sb114.wf, fresh_eq fr116 (congrArg strs (by rw [dropL_end (by omega)] at hf; exact hf)), by rw [dropL_end (by omega)] at hf; rw [← hf]; exact hx, by rw [dropL_end (by omega)] at hf; rw [← hf]; show a.length ≤ _; omega⟩)

theorem s_IsDehn (g : Int) (u : Value) (l : List (List UInt8)) (A : AH) (hc : pcheck g l = 0) (hu : Slc A 1 u (strs l)) : RetA Tryz.prog 40 #[.agg #[num (g), u]] A (fun v A1 => v = .bool (isDehn (symm l)) ∧ A.le A1 ∧ A1.wf) := by
 refine enterA (e := [(0, .agg #[num (g), u])]) (args := [.agg #[num (g), u]]) Tryz.call40 Tryz.func40 rfl Tryz.results40 Tryz.ntmps40 rfl rfl rfl (fun wf => ?_)
 have le_ := AH.le.refl A
 refine Run.seq fun K1 h2 => ?_
 refine Run.region ?_
 refine Ops.l rfl (fun _ _ hk3 _ => wbox wf rfl rfl fun A5 b4 nb6 => ?_)
 have ge_b4 := none_of wf (Nat.le_trans le_.n nb6.lo)
 have le7 := le_.trans nb6.le
 refine hk3 _ _ ?_
 refine Ops.q rfl (qassign rfl) ?_
 refine Ops.nil ?_
 refine h2 _ _ ?_
 refine Run.seq fun K8 h9 => ?_
 refine Run.region ?_
 refine Ops.q rfl (qloadAggAt ag24 sz24 rfl rfl nb6.get rfl) ?_
 refine Ops.l rfl (fun _ _ hk10 _ => vcallF rfl (s_Symm ((g)) u l A5 hc (hu.le le7)) ?_)
 rintro v11 A12 ⟨sq13, rfl, leq13, wfq13, frq13, hsxq13, hslq13⟩
 have h14 := leq13.get _ _ nb6.get
 have le15 := le7.trans leq13
 have fr16 := frq13.base le7
 have no17 := frq13.ne nb6.wf nb6.get
 have hsx := hsxq13
 have hsl := hslq13
 refine hk10 _ _ ?_
 refine Ops.q rfl (qfield1 (cs := [sq13, num ((0 : Nat) : Int)]) fl60_0 ag22 rfl rfl) ?_
 refine Ops.q rfl (qassign rfl) ?_
 refine Ops.nil ?_
 refine h9 _ _ ?_
 refine Run.seq fun K18 h19 => ?_
 refine Run.seq fun K20 h21 => ?_
 refine Run.region ?_
 refine Ops.q rfl (qassign rfl) ?_
 refine Ops.nil ?_
 refine h21 _ _ ?_
 refine Run.block ?_
 refine Run.loop (X := Nat) (fun i => [(3, sq13), (4, num ((i : Nat) : Int))]) (fun i B => (i ≤ (symm l).length ∧ ∀ a, a < i → ∀ k, k < (symm l).length → ¬ (¬ a = k ∧ ((symm l).getD a []).length ≤ 6 * cmn ((symm l).getD a []) ((symm l).getD k []))) ∧ A12 = B) (fun i => (symm l).length - i) 0 (EnvLe.cons rfl <| EnvLe.cons rfl <| EnvLe.nil _) (⟨⟨Nat.zero_le _, fun a h => by omega⟩, rfl⟩) ?_
 rintro i B23 ⟨⟨hi, ho⟩, rfl⟩
 have hli : i < (symm l).length → ((symm l).getD i []).length ≤ 200 := fun q => hsx _ (getD_mem q)
 refine Run.seq fun K24 h25 => ?_
 refine Run.seq fun K26 h27 => ?_
 refine Run.region ?_
 refine Ops.q rfl (qmove rfl) ?_
 refine Ops.q rfl (qmove rfl) ?_
 refine Ops.q rfl (qlenS (n := (symm l).length) u22 rfl fr16.slc (by omega) (strs_len _)) ?_
 refine Ops.q rfl (qlssN rfl rfl) ?_
 refine Ops.nil ?_
 refine h27 _ _ ?_
 refine Run.if rfl (fun p28 => ?_) (fun p28 => ?_)
 ·
  refine Run.skip ?_
  refine h25 _ _ ?_
  refine Run.seq fun K29 h30 => ?_
  refine Run.block ?_
  refine Run.seq fun K31 h32 => ?_
  refine Run.region ?_
  refine Ops.q rfl (qassign rfl) ?_
  refine Ops.nil ?_
  refine h32 _ _ ?_
  refine Run.block ?_
  refine Run.loop (X := Nat) (fun k => [(3, sq13), (4, num ((i : Nat) : Int)), (5, num ((k : Nat) : Int))]) (fun k B => (k ≤ (symm l).length ∧ ∀ a, a < k → ¬ (¬ i = a ∧ ((symm l).getD i []).length ≤ 6 * cmn ((symm l).getD i []) ((symm l).getD a []))) ∧ A12 = B) (fun k => (symm l).length - k) 0 (EnvLe.cons rfl <| EnvLe.cons rfl <| EnvLe.cons rfl <| EnvLe.nil _) (⟨⟨Nat.zero_le _, fun a h => by omega⟩, rfl⟩) ?_
  rintro k B34 ⟨⟨hk, hq⟩, rfl⟩
  have hlk : k < (symm l).length → ((symm l).getD k []).length ≤ 200 := fun q => hsx _ (getD_mem q)
  have hcm := cmn_le ((symm l).getD i []) ((symm l).getD k [])
  refine Run.seq fun K35 h36 => ?_
  refine Run.seq fun K37 h38 => ?_
  refine Run.region ?_
  refine Ops.q rfl (qmove rfl) ?_
  refine Ops.q rfl (qmove rfl) ?_
  refine Ops.q rfl (qlenS (n := (symm l).length) u22 rfl fr16.slc (by omega) (strs_len _)) ?_
  refine Ops.q rfl (qlssN rfl rfl) ?_
  refine Ops.nil ?_
  refine h38 _ _ ?_
  refine Run.if rfl (fun p39 => ?_) (fun p39 => ?_)
  ·
   refine Run.skip ?_
   refine h36 _ _ ?_
   refine Run.seq fun K40 h41 => ?_
   refine Run.block ?_
   refine Run.join (fun f A1 => EnvLe [(41, .bool (decide (¬ i = k ∧ ((symm l).getD i []).length ≤ 6 * cmn ((symm l).getD i []) ((symm l).getD k [])))), (3, sq13), (4, num ((i : Nat) : Int)), (5, num ((k : Nat) : Int)), (15, num ((k : Nat) : Int)), (16, sq13), (17, num (((symm l).length : Nat) : Int)), (18, .bool (decide (k < (symm l).length)))] f.e ∧ f.ds = [] ∧ A12 = A1) ?_ ?_
   ·
    refine Run.drawn [0, 1, 2, 3, 4, 5, 6, 7, 8, 9, 10, 11, 14, 15, 16, 17, 18, 12, 13, 19, 20] mixed (by kernel_rfl) (by kernel_rfl) rfl ?_
    refine DOps.q rfl rfl rfl (qmove rfl) ?_
    refine DOps.q rfl rfl rfl (qmove rfl) ?_
    refine DOps.q rfl rfl rfl (qneqN rfl rfl) ?_
    refine DOps.q rfl rfl rfl (qmove rfl) ?_
    refine DOps.part (t := 24) rfl (fun p44 => ?_) (fun p44 => ?_)
    ·
     refine DOps.qOn rfl rfl rfl rfl rfl (qmove rfl) ?_
     refine DOps.qOn rfl rfl rfl rfl rfl (qmove rfl) ?_
     obtain ⟨b45, f45, rw45, r45, rc45, n45, k45, e45, l45, g45, cl45, cs45⟩ := Slc.at (i := i) fr16.slc (by simp only [strs_length]; omega) (by omega)
     refine DOps.qOn rfl rfl rfl rfl rfl (qindexS u22 sz9 rfl e45 rfl l45) ?_
     have hc46 := cellOf (off := f45 + i * 1) g45 ((elt0 cs45).trans (strs_get (by omega)))
     refine DOps.qOn rfl rfl rfl rfl rfl (qloadAt ag9 rfl rfl g45 ((elt0 cs45).trans (strs_get (by omega)))) ?_
     refine DOps.qOn rfl rfl rfl rfl rfl (qmove rfl) ?_
     refine DOps.qOn rfl rfl rfl rfl rfl (qmove rfl) ?_
     obtain ⟨b47, f47, rw47, r47, rc47, n47, k47, e47, l47, g47, cl47, cs47⟩ := Slc.at (i := k) fr16.slc (by simp only [strs_length]; omega) (by omega)
     refine DOps.qOn rfl rfl rfl rfl rfl (qindexS u22 sz9 rfl e47 rfl l47) ?_
     have hc48 := cellOf (off := f47 + k * 1) g47 ((elt0 cs47).trans (strs_get (by omega)))
     refine DOps.qOn rfl rfl rfl rfl rfl (qloadAt ag9 rfl rfl g47 ((elt0 cs47).trans (strs_get (by omega)))) ?_
     refine DOps.qOn rfl rfl rfl rfl rfl (qmove rfl) ?_
     refine DOps.qOn rfl rfl rfl rfl rfl (qmove rfl) ?_
     obtain ⟨b49, f49, rw49, r49, rc49, n49, k49, e49, l49, g49, cl49, cs49⟩ := Slc.at (i := i) fr16.slc (by simp only [strs_length]; omega) (by omega)
     refine DOps.qOn rfl rfl rfl rfl rfl (qindexS u22 sz9 rfl e49 rfl l49) ?_
     have hc50 := cellOf (off := f49 + i * 1) g49 ((elt0 cs49).trans (strs_get (by omega)))
     refine DOps.qOn rfl rfl rfl rfl rfl (qloadAt ag9 rfl rfl g49 ((elt0 cs49).trans (strs_get (by omega)))) ?_
     refine DOps.qOn rfl rfl rfl rfl rfl (qslen u9 rfl) ?_
     refine DOps.lOn rfl rfl rfl rfl rfl (fun _ _ hk51 _ => vcallF rfl (s_shared ((symm l).getD i []) ((symm l).getD k []) A12 (by first | (have := hli (by omega); omega) | (have := hlk (by omega); omega)) (by first | (have := hli (by omega); omega) | (have := hlk (by omega); omega))) ?_)
     rintro v52 A53 ⟨rfl, rfl⟩
     refine hk51 _ _ (HeldNow.list (L := [(⟨b49, f49 + i * 1, none⟩, str ((symm l).getD i []))]) (by kernel_rfl) (heldCons hc50 heldNil)) ?_
     refine DOps.qOn rfl rfl rfl rfl rfl (qmulN (a := 6) rfl rfl (by first | omega | (have := hli (by omega); omega))) ?_
     refine DOps.qOn rfl rfl rfl rfl rfl (qgeqN rfl rfl) ?_
     refine DOps.q rfl rfl rfl (qpickT rfl rfl) ?_
     refine DOps.done ?_
     exact ⟨EnvLe.cons (show some _ = some _ from congrArg (fun b => some (Value.bool b)) (show (decide (((symm l).getD i []).length ≤ 6 * (cmn ((symm l).getD i []) ((symm l).getD k [])))) = decide (¬ i = k ∧ ((symm l).getD i []).length ≤ 6 * cmn ((symm l).getD i []) ((symm l).getD k [])) from (by first | simp only [‹¬ i = k›, not_false_eq_true, true_and] | simp only [‹¬ ¬ i = k›, false_and, decide_false]))) <| EnvLe.cons rfl <| EnvLe.cons rfl <| EnvLe.cons rfl <| EnvLe.cons rfl <| EnvLe.cons rfl <| EnvLe.cons rfl <| EnvLe.cons rfl <| EnvLe.nil _, rfl, rfl⟩
    ·
     refine DOps.qOff rfl rfl rfl rfl rfl rfl ?_
     refine DOps.qOff rfl rfl rfl rfl rfl rfl ?_
     refine DOps.qOff rfl rfl rfl rfl rfl rfl ?_
     refine DOps.qOff rfl rfl rfl rfl rfl rfl ?_
     refine DOps.qOff rfl rfl rfl rfl rfl rfl ?_
     refine DOps.qOff rfl rfl rfl rfl rfl rfl ?_
     refine DOps.qOff rfl rfl rfl rfl rfl rfl ?_
     refine DOps.qOff rfl rfl rfl rfl rfl rfl ?_
     refine DOps.qOff rfl rfl rfl rfl rfl rfl ?_
     refine DOps.qOff rfl rfl rfl rfl rfl rfl ?_
     refine DOps.qOff rfl rfl rfl rfl rfl rfl ?_
     refine DOps.qOff rfl rfl rfl rfl rfl rfl ?_
     refine DOps.qOff rfl rfl rfl rfl rfl rfl ?_
     refine DOps.lOff rfl rfl rfl rfl rfl rfl ?_
     refine DOps.qOff rfl rfl rfl rfl rfl rfl ?_
     refine DOps.qOff rfl rfl rfl rfl rfl rfl ?_
     refine DOps.q rfl rfl rfl (qpickF rfl rfl) ?_
     refine DOps.done ?_
     exact ⟨EnvLe.cons (show some _ = some _ from congrArg (fun b => some (Value.bool b)) (show (false) = decide (¬ i = k ∧ ((symm l).getD i []).length ≤ 6 * cmn ((symm l).getD i []) ((symm l).getD k [])) from (by first | simp only [‹¬ i = k›, not_false_eq_true, true_and] | simp only [‹¬ ¬ i = k›, false_and, decide_false]))) <| EnvLe.cons rfl <| EnvLe.cons rfl <| EnvLe.cons rfl <| EnvLe.cons rfl <| EnvLe.cons rfl <| EnvLe.cons rfl <| EnvLe.cons rfl <| EnvLe.nil _, rfl, rfl⟩
   ·
    rintro ⟨fe, fd⟩ _ ⟨hE, rfl, rfl⟩
    refine Run.forget hE ?_
    refine Run.if rfl (fun p55 => ?_) (fun p55 => ?_)
    ·
     refine Run.seq fun K56 h57 => ?_
     refine Run.region ?_
     refine Ops.q rfl (qassign rfl) ?_
     refine Ops.nil ?_
     refine h57 _ _ ?_
     refine Run.ret ?_
     repeat first | with_reducible refine thenQ_ret ?_ | with_reducible refine blockQ_ret ?_
     exact retQ rfl (⟨by rw [isDehn_false (i := i) (k := k) (by omega) (by omega) ‹_ ∧ _›.1 ‹_ ∧ _›.2]; rfl, le15, wfq13⟩)
    ·
     refine Run.skip ?_
     refine h41 _ _ ?_
     refine Run.region ?_
     refine Ops.q rfl (qmove rfl) ?_
     refine Ops.q rfl (qaddN (b := 1) rfl rfl (by first | omega | (have := hli (by omega); omega))) ?_
     refine Ops.q rfl (qassign rfl) ?_
     refine Ops.nil ?_
     exact ⟨k + 1, EnvLe.cons rfl <| EnvLe.cons rfl <| EnvLe.cons rfl <| EnvLe.nil _, rfl, ⟨⟨by omega, fun a h => (Nat.lt_succ_iff_lt_or_eq.1 h).elim (hq a) (fun z => by subst z; assumption)⟩, rfl⟩, (by (try dsimp only); omega)⟩
  ·
   refine Run.exit ?_
   refine h30 _ _ ?_
   refine Run.region ?_
   refine Ops.q rfl (qmove rfl) ?_
   refine Ops.q rfl (qaddN (b := 1) rfl rfl (by first | omega | (have := hli (by omega); omega))) ?_
   refine Ops.q rfl (qassign rfl) ?_
   refine Ops.nil ?_
   exact ⟨i + 1, EnvLe.cons rfl <| EnvLe.cons rfl <| EnvLe.nil _, rfl, ⟨⟨by omega, fun a h => (Nat.lt_succ_iff_lt_or_eq.1 h).elim (ho a) (fun z => by subst z; exact fun k hk => hq k (by omega))⟩, rfl⟩, (by (try dsimp only); omega)⟩
 ·
  refine Run.exit ?_
  refine h19 _ _ ?_
  refine Run.seq fun K58 h59 => ?_
  refine Run.region ?_
  refine Ops.q rfl (qassign rfl) ?_
  refine Ops.nil ?_
  refine h59 _ _ ?_
  refine Run.ret ?_
  repeat first | with_reducible refine thenQ_ret ?_ | with_reducible refine blockQ_ret ?_
  exact retQ rfl (⟨by rw [isDehn_true (i := i) (by omega) ho]; rfl, le15, wfq13⟩)

theorem s_rlong (u : Value) (l : List (List UInt8)) (w : List UInt8) (A : AH) (hn : l.length ≤ 100000) (hl : ∀ x ∈ l, x.length ≤ 100000) (hw : w.length ≤ 100000) (hu : Slc A 1 u (strs l)) : RetA Tryz.prog 31 #[u, str (w)] A (fun v A1 => v = .agg #[num (((rlong l w).pa : Nat) : Int), num (((rlong l w).pn : Nat) : Int), str ((rlong l w).pb), .bool ((rlong l w).pi)] ∧ A.le A1 ∧ A1.wf) := by
 refine enterA (e := [(0, u), (1, str (w))]) (args := [u, str (w)]) Tryz.call31 Tryz.func31 rfl Tryz.results31 Tryz.ntmps31 rfl rfl rfl (fun wf => ?_)
 have le_ := AH.le.refl A
 refine Run.seq fun K1 h2 => ?_
 refine Run.region ?_
 refine Ops.l rfl (fun _ _ hk3 _ => walloc wf z63 rfl fun A5 b4 nb6 => ?_)
 have ge_b4 := none_of wf (Nat.le_trans le_.n nb6.lo)
 have le7 := le_.trans nb6.le
 refine hk3 _ _ ?_
 refine Ops.nil ?_
 refine h2 _ _ ?_
 refine Run.seq fun K8 h9 => ?_
 refine Run.seq fun K10 h11 => ?_
 refine Run.region ?_
 refine Ops.q rfl (qassign rfl) ?_
 refine Ops.nil ?_
 refine h11 _ _ ?_
 refine Run.block ?_
 refine Run.loop (X := Nat) (fun i => [(0, u), (1, str (w)), (4, .pointer (some ⟨b4, 0, none⟩)), (5, num ((i : Nat) : Int))]) (fun i B => (i ≤ w.length ∧ rlongFrom l w ((List.range w.length).drop i) = rlong l w) ∧ A.le B ∧ B.get b4 = some (.row true [num ((0 : Nat) : Int), num ((0 : Nat) : Int), str ([]), .bool (false)] 4)) (fun i => w.length - i) 0 (EnvLe.cons rfl <| EnvLe.cons rfl <| EnvLe.cons rfl <| EnvLe.cons rfl <| EnvLe.nil _) (⟨⟨Nat.zero_le _, rfl⟩, le7, nb6.get⟩) ?_
 rintro i B13 ⟨⟨hi, hf⟩, le12, hr_b412⟩
 refine Run.wf fun wf14 => ?_
 refine Run.seq fun K15 h16 => ?_
 refine Run.seq fun K17 h18 => ?_
 refine Run.region ?_
 refine Ops.q rfl (qmove rfl) ?_
 refine Ops.q rfl (qmove rfl) ?_
 refine Ops.q rfl (qslen u9 rfl) ?_
 refine Ops.q rfl (qlssN rfl rfl) ?_
 refine Ops.nil ?_
 refine h18 _ _ ?_
 refine Run.if rfl (fun p19 => ?_) (fun p19 => ?_)
 ·
  refine Run.skip ?_
  refine h16 _ _ ?_
  refine Run.seq fun K20 h21 => ?_
  refine Run.block ?_
  refine Run.seq fun K22 h23 => ?_
  refine Run.region ?_
  refine Ops.q rfl (qassign rfl) ?_
  refine Ops.nil ?_
  refine h23 _ _ ?_
  refine Run.block ?_
  refine Run.loop (X := Nat) (fun j => [(0, u), (1, str (w)), (4, .pointer (some ⟨b4, 0, none⟩)), (5, num ((i : Nat) : Int)), (6, num ((j : Nat) : Int))]) (fun j B => (j ≤ l.length ∧ ∀ k, k < j → partOf (w.drop i) (l.getD k []) = false) ∧ A.le B ∧ B.get b4 = some (.row true [num ((0 : Nat) : Int), num ((0 : Nat) : Int), str ([]), .bool (false)] 4)) (fun j => l.length - j) 0 (EnvLe.cons rfl <| EnvLe.cons rfl <| EnvLe.cons rfl <| EnvLe.cons rfl <| EnvLe.cons rfl <| EnvLe.nil _) (⟨⟨Nat.zero_le _, fun a h => by omega⟩, le12, hr_b412⟩) ?_
  rintro j B25 ⟨⟨hj, hq⟩, le24, hr_b424⟩
  refine Run.wf fun wf26 => ?_
  have hlk : j < l.length → (l.getD j []).length ≤ 100000 := fun q => hl _ (getD_mem q)
  have hcm := cmn_le (w.drop i) (l.getD j [])
  refine Run.seq fun K27 h28 => ?_
  refine Run.seq fun K29 h30 => ?_
  refine Run.region ?_
  refine Ops.q rfl (qmove rfl) ?_
  refine Ops.q rfl (qmove rfl) ?_
  refine Ops.q rfl (qlenS (n := l.length) u22 rfl (hu.le le24) (by omega) (strs_len _)) ?_
  refine Ops.q rfl (qlssN rfl rfl) ?_
  refine Ops.nil ?_
  refine h30 _ _ ?_
  refine Run.if rfl (fun p31 => ?_) (fun p31 => ?_)
  ·
   refine Run.skip ?_
   refine h28 _ _ ?_
   refine Run.seq fun K32 h33 => ?_
   refine Run.block ?_
   refine Run.seq fun K34 h35 => ?_
   refine Run.drawn [0, 1, 2, 3, 4, 5, 6, 7, 8] mixed (by kernel_rfl) (by kernel_rfl) rfl ?_
   refine DOps.q rfl rfl rfl (qmove rfl) ?_
   refine DOps.q rfl rfl rfl (qmove rfl) ?_
   refine DOps.q rfl rfl rfl (qslLo u9 rfl rfl (by omega)) ?_
   refine DOps.q rfl rfl rfl (qmove rfl) ?_
   refine DOps.q rfl rfl rfl (qmove rfl) ?_
   obtain ⟨b36, f36, rw36, r36, rc36, n36, k36, e36, l36, g36, cl36, cs36⟩ := Slc.at (i := j) (hu.le le24) (by simp only [strs_length]; omega) (by omega)
   refine DOps.q rfl rfl rfl (qindexS u22 sz9 rfl e36 rfl l36) ?_
   have hc37 := cellOf (off := f36 + j * 1) g36 ((elt0 cs36).trans (strs_get (by omega)))
   refine DOps.q rfl rfl rfl (qloadAt ag9 rfl rfl g36 ((elt0 cs36).trans (strs_get (by omega)))) ?_
   refine DOps.l rfl rfl rfl (fun _ _ hk38 _ => vcallF rfl (s_shared (w.drop i) (l.getD j []) B25 (by first | omega | (simp only [List.length_drop]; omega) | (have := hlk (by omega); omega) | (simp only [List.length_drop]; have := hlk (by omega); omega)) (by first | omega | (simp only [List.length_drop]; omega) | (have := hlk (by omega); omega) | (simp only [List.length_drop]; have := hlk (by omega); omega))) ?_)
   rintro v39 A40 ⟨rfl, rfl⟩
   refine hk38 _ _ (HeldNow.none (by kernel_rfl)) ?_
   refine DOps.q rfl rfl rfl (qassign rfl) ?_
   refine DOps.done ?_
   refine h35 _ _ ?_
   refine Run.seq fun K42 h43 => ?_
   refine Run.region ?_
   refine Ops.q rfl (qmove rfl) ?_
   refine Ops.q rfl (qmulN (a := 2) rfl rfl (by first | omega | (have := hlk (by omega); omega))) ?_
   refine Ops.q rfl (qmove rfl) ?_
   refine Ops.q rfl (qmove rfl) ?_
   obtain ⟨b44, f44, rw44, r44, rc44, n44, k44, e44, l44, g44, cl44, cs44⟩ := Slc.at (i := j) (hu.le le24) (by simp only [strs_length]; omega) (by omega)
   refine Ops.q rfl (qindexS u22 sz9 rfl e44 rfl l44) ?_
   refine Ops.q rfl (qloadAt ag9 rfl rfl g44 ((elt0 cs44).trans (strs_get (by omega)))) ?_
   refine Ops.q rfl (qslen u9 rfl) ?_
   refine Ops.q rfl (qgtrN rfl rfl) ?_
   refine Ops.nil ?_
   refine h43 _ _ ?_
   refine Run.if rfl (fun p45 => ?_) (fun p45 => ?_)
   ·
    refine Run.seq fun K46 h47 => ?_
    refine Run.region ?_
    refine Ops.q rfl (qmove rfl) ?_
    refine Ops.q rfl (qmove rfl) ?_
    refine Ops.q rfl (qmove rfl) ?_
    refine Ops.q rfl (qmove rfl) ?_
    obtain ⟨b48, f48, rw48, r48, rc48, n48, k48, e48, l48, g48, cl48, cs48⟩ := Slc.at (i := j) (hu.le le24) (by simp only [strs_length]; omega) (by omega)
    refine Ops.q rfl (qindexS u22 sz9 rfl e48 rfl l48) ?_
    refine Ops.q rfl (qloadAt ag9 rfl rfl g48 ((elt0 cs48).trans (strs_get (by omega)))) ?_
    refine Ops.q rfl (qmove rfl) ?_
    refine Ops.q rfl (qslLo u9 rfl rfl (by omega)) ?_
    refine Ops.l rfl (fun _ _ hk49 _ => vcallF rfl (s_RInverse ((l.getD j []).drop (cmn (w.drop i) (l.getD j []))) B25 (by first | omega | (simp only [List.length_drop]; omega) | (have := hlk (by omega); omega) | (simp only [List.length_drop]; have := hlk (by omega); omega))) ?_)
    rintro v50 A51 ⟨rfl, leq52, wfq52⟩
    have h53 := leq52.get _ _ hr_b424
    have le54 := le24.trans leq52
    refine hk49 _ _ ?_
    refine Ops.q rfl (qbuild rfl (buildV_struct u63 z63 pl63 rfl)) ?_
    refine Ops.l rfl (fun _ _ hk55 _ => wstore (cs := [num ((i : Nat) : Int), num ((cmn (w.drop i) (l.getD j []) : Nat) : Int), str (wInverse ((l.getD j []).drop (cmn (w.drop i) (l.getD j [])))), .bool (true)]) (c' := [num ((i : Nat) : Int), num ((cmn (w.drop i) (l.getD j []) : Nat) : Int), str (wInverse ((l.getD j []).drop (cmn (w.drop i) (l.getD j [])))), .bool (true)]) wfq52 rfl rfl rfl rfl sz63 h53 (Nat.le_of_ble_eq_true rfl) rfl rfl fun A56 sb57 => ?_)
    have le58 := le_store le54 wf ge_b4 sb57.n sb57.keep
    refine hk55 _ _ ?_
    refine Ops.nil ?_
    refine h47 _ _ ?_
    refine Run.ret ?_
    repeat first | with_reducible refine thenQ_ret ?_ | with_reducible refine blockQ_ret ?_
    exact retQ (resCell ag63 sz63 rfl sb57.get rfl resNil) (⟨by rw [rlong_here (by omega) hf (rlongAt_found (by omega) hq ‹_›)]; rfl, le58, sb57.wf⟩)
   ·
    refine Run.skip ?_
    refine h33 _ _ ?_
    refine Run.region ?_
    refine Ops.q rfl (qmove rfl) ?_
    refine Ops.q rfl (qaddN (b := 1) rfl rfl (by first | omega | (have := hlk (by omega); omega))) ?_
    refine Ops.q rfl (qassign rfl) ?_
    refine Ops.nil ?_
    exact ⟨j + 1, EnvLe.cons rfl <| EnvLe.cons rfl <| EnvLe.cons rfl <| EnvLe.cons rfl <| EnvLe.cons rfl <| EnvLe.nil _, rfl, ⟨⟨by omega, fun a h => (Nat.lt_succ_iff_lt_or_eq.1 h).elim (hq a) (fun z => by subst z; exact decide_eq_false ‹_›)⟩, le24, hr_b424⟩, (by (try dsimp only); omega)⟩
  ·
   refine Run.exit ?_
   refine h21 _ _ ?_
   refine Run.region ?_
   refine Ops.q rfl (qmove rfl) ?_
   refine Ops.q rfl (qaddN (b := 1) rfl rfl (by first | omega | (have := hlk (by omega); omega))) ?_
   refine Ops.q rfl (qassign rfl) ?_
   refine Ops.nil ?_
   exact ⟨i + 1, EnvLe.cons rfl <| EnvLe.cons rfl <| EnvLe.cons rfl <| EnvLe.cons rfl <| EnvLe.nil _, rfl, ⟨⟨by omega, rlong_next (by omega) hf (rlongAt_none (by omega) hq)⟩, le24, hr_b424⟩, (by (try dsimp only); omega)⟩
 ·
  refine Run.exit ?_
  refine h9 _ _ ?_
  refine Run.seq fun K59 h60 => ?_
  refine Run.region ?_
  refine Ops.q rfl (qbuild rfl (buildV_struct u63 z63 pl63 rfl)) ?_
  refine Ops.l rfl (fun _ _ hk61 _ => wstore (cs := [num ((0 : Nat) : Int), num ((0 : Nat) : Int), str ([]), .bool (false)]) (c' := [num ((0 : Nat) : Int), num ((0 : Nat) : Int), str ([]), .bool (false)]) wf14 rfl rfl rfl rfl sz63 hr_b412 (Nat.le_of_ble_eq_true rfl) rfl rfl fun A62 sb63 => ?_)
  have le64 := le_store le12 wf ge_b4 sb63.n sb63.keep
  refine hk61 _ _ ?_
  refine Ops.nil ?_
  refine h60 _ _ ?_
  refine Run.ret ?_
  repeat first | with_reducible refine thenQ_ret ?_ | with_reducible refine blockQ_ret ?_
  exact retQ (resCell ag63 sz63 rfl sb63.get rfl resNil) (⟨by rw [rlong_end (by omega) hf]; rfl, le64, sb63.wf⟩)

theorem s_rshorten (u : Value) (l : List (List UInt8)) (w : List UInt8) (A : AH) (hn : l.length ≤ 100000) (hl : ∀ x ∈ l, x.length ≤ 100000) (hw : w.length ≤ 100000) (hu : Slc A 1 u (strs l)) : RetA Tryz.prog 29 #[u, str (w)] A (fun v A1 => v = .agg #[str (rshorten l w).1, num (((rshorten l w).2 : Nat) : Int), num ((0 : Nat) : Int)] ∧ A.le A1 ∧ A1.wf) := by
 refine enterA (e := [(0, u), (1, str (w))]) (args := [u, str (w)]) Tryz.call29 Tryz.func29 rfl Tryz.results29 Tryz.ntmps29 rfl rfl rfl (fun wf => ?_)
 have le_ := AH.le.refl A
 have hrl := wReduce_length w
 refine Run.seq fun K1 h2 => ?_
 refine Run.region ?_
 refine Ops.l rfl (fun _ _ hk3 _ => walloc wf z29 rfl fun A5 b4 nb6 => ?_)
 have ge_b4 := none_of wf (Nat.le_trans le_.n nb6.lo)
 have le7 := le_.trans nb6.le
 refine hk3 _ _ ?_
 refine Ops.nil ?_
 refine h2 _ _ ?_
 refine Run.seq fun K8 h9 => ?_
 refine Run.region ?_
 refine Ops.q rfl (qmove rfl) ?_
 refine Ops.l rfl (fun _ _ hk10 _ => vcallF rfl (s_RReduce w A5 (by first | omega | (have := hle ‹_›; simp only [List.length_append, List.length_drop, List.length_take]; omega) | (have := hnx ‹_›; unfold rnext at this; omega))) ?_)
 rintro v11 A12 ⟨rfl, leq13, wfq13⟩
 have h14 := leq13.get _ _ nb6.get
 have le15 := le7.trans leq13
 refine hk10 _ _ ?_
 refine Ops.q rfl (qassign rfl) ?_
 refine Ops.nil ?_
 refine h9 _ _ ?_
 refine Run.seq fun K16 h17 => ?_
 refine Run.region ?_
 refine Ops.q rfl (qassign rfl) ?_
 refine Ops.nil ?_
 refine h17 _ _ ?_
 refine Run.seq fun K18 h19 => ?_
 refine Run.region ?_
 refine Ops.q rfl (qmove rfl) ?_
 refine Ops.q rfl (qmove rfl) ?_
 refine Ops.l rfl (fun _ _ hk20 _ => vcallF rfl (s_rlong u l (wReduce w) A12 hn hl (by first | omega | (have := hle ‹_›; simp only [List.length_append, List.length_drop, List.length_take]; omega) | (have := hnx ‹_›; unfold rnext at this; omega)) (hu.le le15)) ?_)
 rintro v21 A22 ⟨rfl, leq23, wfq23⟩
 have h24 := leq23.get _ _ h14
 have le25 := le15.trans leq23
 refine hk20 _ _ ?_
 refine Ops.l rfl (fun _ _ hk26 _ => walloc wfq23 z63 rfl fun A28 b27 nb29 => ?_)
 have ne_b4_b27 := ne_new wfq23 h24 nb29.lo
 have ge_b27 := none_of wf (Nat.le_trans le25.n nb29.lo)
 have h30 := nb29.le.get _ _ h24
 have le31 := le25.trans nb29.le
 refine hk26 _ _ ?_
 refine Ops.l rfl (fun _ _ hk32 _ => wstore (cs := [num (((rlong l (wReduce w)).pa : Nat) : Int), num (((rlong l (wReduce w)).pn : Nat) : Int), str ((rlong l (wReduce w)).pb), .bool ((rlong l (wReduce w)).pi)]) (c' := [num (((rlong l (wReduce w)).pa : Nat) : Int), num (((rlong l (wReduce w)).pn : Nat) : Int), str ((rlong l (wReduce w)).pb), .bool ((rlong l (wReduce w)).pi)]) nb29.wf rfl rfl rfl rfl sz63 nb29.get (Nat.le_of_ble_eq_true rfl) rfl rfl fun A33 sb34 => ?_)
 have h35 := sb34.keep _ _ ne_b4_b27 h30
 have le36 := le_store le31 wf ge_b27 sb34.n sb34.keep
 refine hk32 _ _ ?_
 refine Ops.nil ?_
 refine h19 _ _ ?_
 refine Run.seq fun K37 h38 => ?_
 refine Run.block ?_
 refine Run.loop (X := List UInt8 × Nat × Nat) (fun ⟨x, n, f⟩ => [(0, u), (1, str (x)), (4, .pointer (some ⟨b4, 0, none⟩)), (5, num ((n : Nat) : Int)), (6, .pointer (some ⟨b27, 0, none⟩))]) (fun ⟨x, n, f⟩ B => (x.length < f ∧ n + x.length ≤ 100000 ∧ rshort l f x n = rshorten l w) ∧ A.le B ∧ B.get b27 = some (.row true [num (((rlong l x).pa : Nat) : Int), num (((rlong l x).pn : Nat) : Int), str ((rlong l x).pb), .bool ((rlong l x).pi)] 4) ∧ B.get b4 = some (.row true [str ([]), num ((0 : Nat) : Int), num ((0 : Nat) : Int)] 3)) (fun ⟨x, n, f⟩ => x.length) (⟨wReduce w, 0, (wReduce w).length + 1⟩) (EnvLe.cons rfl <| EnvLe.cons rfl <| EnvLe.cons rfl <| EnvLe.cons rfl <| EnvLe.cons rfl <| EnvLe.nil _) (⟨⟨Nat.lt_succ_self _, by omega, rfl⟩, le36, sb34.get, h35⟩) ?_
 rintro ⟨x, n, f⟩ B40 ⟨⟨hx, hn2, hf⟩, le39, hr_b2739, hr_b439⟩
 refine Run.wf fun wf41 => ?_
 have hle := fun q : (rlong l x).pi = true => rlong_le q
 have hnx := fun q : (rlong l x).pi = true => rnext_length q
 refine Run.seq fun K42 h43 => ?_
 refine Run.seq fun K44 h45 => ?_
 refine Run.region ?_
 refine Ops.q rfl (qfieldAddr fl63_3 sz4 (by decide) rfl) ?_
 refine Ops.q rfl (qloadAt ag4 rfl rfl hr_b2739 rfl) ?_
 refine Ops.nil ?_
 refine h45 _ _ ?_
 refine Run.ifB rfl (fun p46 => ?_) (fun p46 => ?_)
 ·
  refine Run.skip ?_
  refine h43 _ _ ?_
  refine Run.block ?_
  refine Run.seq fun K47 h48 => ?_
  refine Run.drawn [0, 1, 2, 3, 4, 5, 6, 7, 8, 9, 10, 11, 12, 13, 14, 15, 16] mixed (by kernel_rfl) (by kernel_rfl) rfl ?_
  refine DOps.q rfl rfl rfl (qmove rfl) ?_
  refine DOps.q rfl rfl rfl (qfieldAddr fl63_0 sz3 (by decide) rfl) ?_
  have hc49 := cellOf (off := 0) hr_b2739 (show _ = some (num (((rlong l x).pa : Nat) : Int)) from rfl)
  refine DOps.q rfl rfl rfl (qloadAt ag3 rfl rfl hr_b2739 rfl) ?_
  refine DOps.q rfl rfl rfl (qslHi u9 rfl rfl (by have := hle ‹_›; omega)) ?_
  refine DOps.q rfl rfl rfl (qfieldAddr fl63_2 sz9 (by decide) rfl) ?_
  have hc50 := cellOf (off := 2) hr_b2739 (show _ = some (str ((rlong l x).pb)) from rfl)
  refine DOps.q rfl rfl rfl (qloadAt ag9 rfl rfl hr_b2739 rfl) ?_
  refine DOps.q rfl rfl rfl (qsadd rfl rfl (by first | omega | (have := hle ‹_›; (try simp only [List.length_append, List.length_drop, List.length_take]); omega))) ?_
  refine DOps.q rfl rfl rfl (qmove rfl) ?_
  refine DOps.q rfl rfl rfl (qfieldAddr fl63_0 sz3 (by decide) rfl) ?_
  have hc51 := cellOf (off := 0) hr_b2739 (show _ = some (num (((rlong l x).pa : Nat) : Int)) from rfl)
  refine DOps.q rfl rfl rfl (qloadAt ag3 rfl rfl hr_b2739 rfl) ?_
  refine DOps.q rfl rfl rfl (qfieldAddr fl63_1 sz3 (by decide) rfl) ?_
  have hc52 := cellOf (off := 1) hr_b2739 (show _ = some (num (((rlong l x).pn : Nat) : Int)) from rfl)
  refine DOps.q rfl rfl rfl (qloadAt ag3 rfl rfl hr_b2739 rfl) ?_
  refine DOps.q rfl rfl rfl (qaddN rfl rfl (by first | omega | (have := hle ‹_›; (try simp only [List.length_append, List.length_drop, List.length_take]); omega))) ?_
  refine DOps.q rfl rfl rfl (qslLo u9 rfl rfl (by have := hle ‹_›; omega)) ?_
  refine DOps.q rfl rfl rfl (qsadd rfl rfl (by first | omega | (have := hle ‹_›; (try simp only [List.length_append, List.length_drop, List.length_take]); omega))) ?_
  refine DOps.l rfl rfl rfl (fun _ _ hk53 _ => vcallF rfl (s_RReduce (((x.take ((rlong l x).pa)) ++ ((rlong l x).pb)) ++ (x.drop (((rlong l x).pa) + ((rlong l x).pn)))) B40 (by first | omega | (have := hle ‹_›; simp only [List.length_append, List.length_drop, List.length_take]; omega) | (have := hnx ‹_›; unfold rnext at this; omega))) ?_)
  rintro v54 A55 ⟨rfl, leq56, wfq56⟩
  have h57 := leq56.get _ _ hr_b2739
  have h58 := leq56.get _ _ hr_b439
  have hc59 := cell_le leq56 hc49
  have hc60 := cell_le leq56 hc50
  have hc61 := cell_le leq56 hc51
  have hc62 := cell_le leq56 hc52
  have le63 := le39.trans leq56
  refine hk53 _ _ (HeldNow.none (by kernel_rfl)) ?_
  refine DOps.q rfl rfl rfl (qassign rfl) ?_
  refine DOps.done ?_
  refine h48 _ _ ?_
  refine Run.seq fun K64 h65 => ?_
  refine Run.region ?_
  refine Ops.q rfl (qmove rfl) ?_
  refine Ops.q rfl (qaddN (b := 1) rfl rfl (by first | omega | (have := hle ‹_›; (try simp only [List.length_append, List.length_drop, List.length_take]); omega))) ?_
  refine Ops.q rfl (qassign rfl) ?_
  refine Ops.nil ?_
  refine h65 _ _ ?_
  refine Run.region ?_
  refine Ops.q rfl (qmove rfl) ?_
  refine Ops.q rfl (qmove rfl) ?_
  refine Ops.l rfl (fun _ _ hk66 _ => vcallF rfl (s_rlong u l (wReduce (((x.take ((rlong l x).pa)) ++ ((rlong l x).pb)) ++ (x.drop (((rlong l x).pa) + ((rlong l x).pn))))) A55 hn hl (by first | omega | (have := hle ‹_›; simp only [List.length_append, List.length_drop, List.length_take]; omega) | (have := hnx ‹_›; unfold rnext at this; omega)) (hu.le le63)) ?_)
  rintro v67 A68 ⟨rfl, leq69, wfq69⟩
  have h70 := leq69.get _ _ h57
  have h71 := leq69.get _ _ h58
  have le72 := le63.trans leq69
  refine hk66 _ _ ?_
  refine Ops.l rfl (fun _ _ hk73 _ => wstore (cs := [num (((rlong l (wReduce (((x.take ((rlong l x).pa)) ++ ((rlong l x).pb)) ++ (x.drop (((rlong l x).pa) + ((rlong l x).pn)))))).pa : Nat) : Int), num (((rlong l (wReduce (((x.take ((rlong l x).pa)) ++ ((rlong l x).pb)) ++ (x.drop (((rlong l x).pa) + ((rlong l x).pn)))))).pn : Nat) : Int), str ((rlong l (wReduce (((x.take ((rlong l x).pa)) ++ ((rlong l x).pb)) ++ (x.drop (((rlong l x).pa) + ((rlong l x).pn)))))).pb), .bool ((rlong l (wReduce (((x.take ((rlong l x).pa)) ++ ((rlong l x).pb)) ++ (x.drop (((rlong l x).pa) + ((rlong l x).pn)))))).pi)]) (c' := [num (((rlong l (wReduce (((x.take ((rlong l x).pa)) ++ ((rlong l x).pb)) ++ (x.drop (((rlong l x).pa) + ((rlong l x).pn)))))).pa : Nat) : Int), num (((rlong l (wReduce (((x.take ((rlong l x).pa)) ++ ((rlong l x).pb)) ++ (x.drop (((rlong l x).pa) + ((rlong l x).pn)))))).pn : Nat) : Int), str ((rlong l (wReduce (((x.take ((rlong l x).pa)) ++ ((rlong l x).pb)) ++ (x.drop (((rlong l x).pa) + ((rlong l x).pn)))))).pb), .bool ((rlong l (wReduce (((x.take ((rlong l x).pa)) ++ ((rlong l x).pb)) ++ (x.drop (((rlong l x).pa) + ((rlong l x).pn)))))).pi)]) wfq69 rfl rfl rfl rfl sz63 h70 (Nat.le_of_ble_eq_true rfl) rfl rfl fun A74 sb75 => ?_)
  have h76 := sb75.keep _ _ ne_b4_b27 h71
  have le77 := le_store le72 wf ge_b27 sb75.n sb75.keep
  refine hk73 _ _ ?_
  refine Ops.nil ?_
  exact ⟨⟨wReduce (((x.take ((rlong l x).pa)) ++ ((rlong l x).pb)) ++ (x.drop (((rlong l x).pa) + ((rlong l x).pn)))), n + 1, f - 1⟩, EnvLe.cons rfl <| EnvLe.cons rfl <| EnvLe.cons rfl <| EnvLe.cons rfl <| EnvLe.cons rfl <| EnvLe.nil _, rfl, ⟨⟨by have := hnx ‹_›; unfold rnext at this; omega, by have := hnx ‹_›; unfold rnext at this; omega, by rw [rshort_go hx ‹_›] at hf; exact hf⟩, le77, sb75.get, h76⟩, (by have := hnx ‹_›; unfold rnext at this; (try dsimp only); omega)⟩
 ·
  refine Run.exit ?_
  refine h38 _ _ ?_
  refine Run.seq fun K78 h79 => ?_
  refine Run.region ?_
  refine Ops.q rfl (qmove rfl) ?_
  refine Ops.q rfl (qmove rfl) ?_
  refine Ops.q rfl (qbuild rfl (buildV_struct u29 z29 pl29 rfl)) ?_
  refine Ops.l rfl (fun _ _ hk80 _ => wstore (cs := [str (x), num ((n : Nat) : Int), num ((0 : Nat) : Int)]) (c' := [str (x), num ((n : Nat) : Int), num ((0 : Nat) : Int)]) wf41 rfl rfl rfl rfl sz29 hr_b439 (Nat.le_of_ble_eq_true rfl) rfl rfl fun A81 sb82 => ?_)
  have h83 := sb82.keep _ _ ne_b4_b27.symm hr_b2739
  have le84 := le_store le39 wf ge_b4 sb82.n sb82.keep
  refine hk80 _ _ ?_
  refine Ops.nil ?_
  refine h79 _ _ ?_
  refine Run.ret ?_
  repeat first | with_reducible refine thenQ_ret ?_ | with_reducible refine blockQ_ret ?_
  exact retQ (resCell ag29 sz29 rfl sb82.get rfl resNil) (⟨by rw [rshort_stop ‹_›] at hf; rw [← hf]; rfl, le84, sb82.wf⟩)
end Go.Proofs.YtaccklloepfemaaGreatDoor
