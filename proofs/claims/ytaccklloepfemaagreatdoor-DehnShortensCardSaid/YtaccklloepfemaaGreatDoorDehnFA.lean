/- The contracts of the functions, one by one: what each comes to. -/
import Derived.Test.YtaccklloepfemaaGreatDoorDehnRef
import Derived.Test.YtaccklloepfemaaGreatDoorProg
import Derived.KernelRfl
namespace Go.Proofs.YtaccklloepfemaaGreatDoor
open Go Go.RowKit V
set_option maxRecDepth 100000
set_option linter.unusedVariables false
set_option linter.unusedSimpArgs false
theorem mixed : Tryz.prog.follows .mixedOrders = true := by kernel_rfl
theorem ag142 : aggOf Tryz.prog 142 = some true := by kernel_rfl
theorem ag3 : aggOf Tryz.prog 3 = some false := by kernel_rfl
theorem ag5 : aggOf Tryz.prog 5 = some false := by kernel_rfl
theorem ag9 : aggOf Tryz.prog 9 = some false := by kernel_rfl
theorem inf5 : Tryz.prog.info? 5 = some Tryz.t5 := by kernel_rfl
theorem sz142 : szOf Tryz.prog 142 = some 16 := by kernel_rfl
theorem sz5 : szOf Tryz.prog 5 = some 1 := by kernel_rfl
theorem sz9 : szOf Tryz.prog 9 = some 1 := by kernel_rfl
theorem u142 : type_of% @Tryz.underlying142 := @Tryz.underlying142
theorem u21 : type_of% @Tryz.underlying21 := @Tryz.underlying21
theorem u22 : type_of% @Tryz.underlying22 := @Tryz.underlying22
theorem u4 : type_of% @Tryz.underlying4 := @Tryz.underlying4
theorem u5 : type_of% @Tryz.underlying5 := @Tryz.underlying5
theorem u80 : type_of% @Tryz.underlying80 := @Tryz.underlying80
theorem u9 : type_of% @Tryz.underlying9 := @Tryz.underlying9
theorem z5 : zeroOf Tryz.prog 5 = some (.int .u8 0) := by kernel_rfl
theorem z9 : zeroOf Tryz.prog 9 = some (.string ⟨⟨[]⟩⟩) := by kernel_rfl

theorem s_other (c : UInt8) (A : AH) : RetA Tryz.prog 97 #[byt (c)] A (fun v A1 => v = byt (c ^^^ 32) ∧ A = A1) := by
 refine enterA (e := [(0, byt (c))]) (args := [byt (c)]) Tryz.call97 Tryz.func97 rfl Tryz.results97 Tryz.ntmps97 rfl rfl rfl (fun wf => ?_)
 have le_ := AH.le.refl A
 refine Run.seq fun K1 h2 => ?_
 refine Run.region ?_
 refine Ops.q rfl (qassign rfl) ?_
 refine Ops.nil ?_
 refine h2 _ _ ?_
 refine Run.seq fun K3 h4 => ?_
 refine Run.region ?_
 refine Ops.q rfl (qmove rfl) ?_
 refine Ops.q rfl (qxorB (d := 32) rfl rfl) ?_
 refine Ops.q rfl (qassign rfl) ?_
 refine Ops.nil ?_
 refine h4 _ _ ?_
 refine Run.ret ?_
 repeat first | with_reducible refine thenQ_ret ?_ | with_reducible refine blockQ_ret ?_
 exact retQ rfl (⟨rfl, rfl⟩)

theorem s_common (x y : List UInt8) (A : AH) (hx : x.length ≤ 1000000) (hy : y.length ≤ 1000000) : RetA Tryz.prog 70 #[str (x), str (y)] A (fun v A1 => v = num ((cmn x y : Nat) : Int) ∧ A = A1) := by
 refine enterA (e := [(0, str (x)), (1, str (y))]) (args := [str (x), str (y)]) Tryz.call70 Tryz.func70 rfl Tryz.results70 Tryz.ntmps70 rfl rfl rfl (fun wf => ?_)
 have le_ := AH.le.refl A
 refine Run.seq fun K1 h2 => ?_
 refine Run.region ?_
 refine Ops.q rfl (qassign rfl) ?_
 refine Ops.nil ?_
 refine h2 _ _ ?_
 refine Run.seq fun K3 h4 => ?_
 refine Run.region ?_
 refine Ops.q rfl (qassign rfl) ?_
 refine Ops.nil ?_
 refine h4 _ _ ?_
 refine Run.seq fun K5 h6 => ?_
 refine Run.block ?_
 refine Run.loop (X := Nat) (fun k => [(0, str (x)), (1, str (y)), (5, num ((k : Nat) : Int))]) (fun k B => (k ≤ cmn x y) ∧ A = B) (fun k => x.length - k) 0 (EnvLe.cons rfl <| EnvLe.cons rfl <| EnvLe.cons rfl <| EnvLe.nil _) (⟨Nat.zero_le _, rfl⟩) ?_
 rintro k B8 ⟨hk, rfl⟩
 have hl := cmn_le x y
 refine Run.seq fun K9 h10 => ?_
 refine Run.join (fun f A1 => EnvLe [(24, .bool (decide (k < x.length ∧ k < y.length ∧ x.getD k 0 = y.getD k 0))), (0, str (x)), (1, str (y)), (5, num ((k : Nat) : Int))] f.e ∧ f.ds = [] ∧ A = A1) ?_ ?_
 ·
  refine Run.drawn [0, 1, 2, 3, 4, 5, 6, 7, 8, 9, 10, 11, 12, 13, 14, 15, 16, 17, 18] mixed (by kernel_rfl) (by kernel_rfl) rfl ?_
  refine DOps.q rfl rfl rfl (qmove rfl) ?_
  refine DOps.q rfl rfl rfl (qmove rfl) ?_
  refine DOps.q rfl rfl rfl (qslen u9 rfl) ?_
  refine DOps.q rfl rfl rfl (qlssN rfl rfl) ?_
  refine DOps.q rfl rfl rfl (qmove rfl) ?_
  refine DOps.part (t := 10) rfl (fun p13 => ?_) (fun p13 => ?_)
  ·
   refine DOps.qOn rfl rfl rfl rfl rfl (qmove rfl) ?_
   refine DOps.qOn rfl rfl rfl rfl rfl (qmove rfl) ?_
   refine DOps.qOn rfl rfl rfl rfl rfl (qslen u9 rfl) ?_
   refine DOps.qOn rfl rfl rfl rfl rfl (qlssN rfl rfl) ?_
   refine DOps.q rfl rfl rfl (qpickT rfl rfl) ?_
   refine DOps.q rfl rfl rfl (qmove rfl) ?_
   refine DOps.part (t := 16) rfl (fun p14 => ?_) (fun p14 => ?_)
   ·
    refine DOps.qOn rfl rfl rfl rfl rfl (qmove rfl) ?_
    refine DOps.qOn rfl rfl rfl rfl rfl (qmove rfl) ?_
    refine DOps.qOn rfl rfl rfl rfl rfl (qsix u9 rfl rfl (by omega)) ?_
    refine DOps.qOn rfl rfl rfl rfl rfl (qmove rfl) ?_
    refine DOps.qOn rfl rfl rfl rfl rfl (qmove rfl) ?_
    refine DOps.qOn rfl rfl rfl rfl rfl (qsix u9 rfl rfl (by omega)) ?_
    refine DOps.qOn rfl rfl rfl rfl rfl (qeqlB rfl rfl) ?_
    refine DOps.q rfl rfl rfl (qpickT rfl rfl) ?_
    refine DOps.done ?_
    exact ⟨EnvLe.cons (show some _ = some _ from congrArg (fun b => some (Value.bool b)) (show (decide ((x.getD k 0) = (y.getD k 0))) = decide (k < x.length ∧ k < y.length ∧ x.getD k 0 = y.getD k 0) from (by simp [*]))) <| EnvLe.cons rfl <| EnvLe.cons rfl <| EnvLe.cons rfl <| EnvLe.nil _, rfl, rfl⟩
   ·
    refine DOps.qOff rfl rfl rfl rfl rfl rfl ?_
    refine DOps.qOff rfl rfl rfl rfl rfl rfl ?_
    refine DOps.qOff rfl rfl rfl rfl rfl rfl ?_
    refine DOps.qOff rfl rfl rfl rfl rfl rfl ?_
    refine DOps.qOff rfl rfl rfl rfl rfl rfl ?_
    refine DOps.qOff rfl rfl rfl rfl rfl rfl ?_
    refine DOps.qOff rfl rfl rfl rfl rfl rfl ?_
    refine DOps.q rfl rfl rfl (qpickF rfl rfl) ?_
    refine DOps.done ?_
    exact ⟨EnvLe.cons (show some _ = some _ from congrArg (fun b => some (Value.bool b)) (show (false) = decide (k < x.length ∧ k < y.length ∧ x.getD k 0 = y.getD k 0) from (by simp [*]))) <| EnvLe.cons rfl <| EnvLe.cons rfl <| EnvLe.cons rfl <| EnvLe.nil _, rfl, rfl⟩
  ·
   refine DOps.qOff rfl rfl rfl rfl rfl rfl ?_
   refine DOps.qOff rfl rfl rfl rfl rfl rfl ?_
   refine DOps.qOff rfl rfl rfl rfl rfl rfl ?_
   refine DOps.qOff rfl rfl rfl rfl rfl rfl ?_
   refine DOps.q rfl rfl rfl (qpickF rfl rfl) ?_
   refine DOps.q rfl rfl rfl (qmove rfl) ?_
   refine DOps.qOff rfl rfl rfl rfl rfl rfl ?_
   refine DOps.qOff rfl rfl rfl rfl rfl rfl ?_
   refine DOps.qOff rfl rfl rfl rfl rfl rfl ?_
   refine DOps.qOff rfl rfl rfl rfl rfl rfl ?_
   refine DOps.qOff rfl rfl rfl rfl rfl rfl ?_
   refine DOps.qOff rfl rfl rfl rfl rfl rfl ?_
   refine DOps.qOff rfl rfl rfl rfl rfl rfl ?_
   refine DOps.q rfl rfl rfl (qpickF rfl rfl) ?_
   refine DOps.done ?_
   exact ⟨EnvLe.cons (show some _ = some _ from congrArg (fun b => some (Value.bool b)) (show (false) = decide (k < x.length ∧ k < y.length ∧ x.getD k 0 = y.getD k 0) from (by simp [*]))) <| EnvLe.cons rfl <| EnvLe.cons rfl <| EnvLe.cons rfl <| EnvLe.nil _, rfl, rfl⟩
 ·
  rintro ⟨fe, fd⟩ _ ⟨hE, rfl, rfl⟩
  refine Run.forget hE ?_
  refine Run.if rfl (fun p15 => ?_) (fun p15 => ?_)
  ·
   refine Run.skip ?_
   refine h10 _ _ ?_
   refine Run.block ?_
   refine Run.region ?_
   refine Ops.q rfl (qmove rfl) ?_
   refine Ops.q rfl (qaddN (b := 1) rfl rfl (by omega)) ?_
   refine Ops.q rfl (qassign rfl) ?_
   refine Ops.nil ?_
   exact ⟨k + 1, EnvLe.cons rfl <| EnvLe.cons rfl <| EnvLe.cons rfl <| EnvLe.nil _, rfl, ⟨cmn_go hk (by assumption), rfl⟩, (by (try dsimp only); omega)⟩
  ·
   refine Run.exit ?_
   refine h6 _ _ ?_
   refine Run.seq fun K16 h17 => ?_
   refine Run.region ?_
   refine Ops.q rfl (qmove rfl) ?_
   refine Ops.q rfl (qassign rfl) ?_
   refine Ops.nil ?_
   refine h17 _ _ ?_
   refine Run.ret ?_
   repeat first | with_reducible refine thenQ_ret ?_ | with_reducible refine blockQ_ret ?_
   exact retQ rfl (⟨by rw [cmn_stop hk (by assumption)]; rfl, rfl⟩)

theorem s_shared (x y : List UInt8) (A : AH) (hx : x.length ≤ 1000000) (hy : y.length ≤ 1000000) : RetA Tryz.prog 54 #[str (x), str (y)] A (fun v A1 => v = num ((cmn x y : Nat) : Int) ∧ A = A1) := by
 refine enterA (e := [(0, str (x)), (1, str (y))]) (args := [str (x), str (y)]) Tryz.call54 Tryz.func54 rfl Tryz.results54 Tryz.ntmps54 rfl rfl rfl (fun wf => ?_)
 have le_ := AH.le.refl A
 refine Run.seq fun K1 h2 => ?_
 refine Run.region ?_
 refine Ops.q rfl (qassign rfl) ?_
 refine Ops.nil ?_
 refine h2 _ _ ?_
 refine Run.seq fun K3 h4 => ?_
 refine Run.region ?_
 refine Ops.q rfl (qassign rfl) ?_
 refine Ops.nil ?_
 refine h4 _ _ ?_
 refine Run.seq fun K5 h6 => ?_
 refine Run.block ?_
 refine Run.loop (X := Nat) (fun k => [(0, str (x)), (1, str (y)), (5, num ((k : Nat) : Int))]) (fun k B => (k ≤ cmn x y) ∧ A = B) (fun k => x.length - k) 0 (EnvLe.cons rfl <| EnvLe.cons rfl <| EnvLe.cons rfl <| EnvLe.nil _) (⟨Nat.zero_le _, rfl⟩) ?_
 rintro k B8 ⟨hk, rfl⟩
 have hl := cmn_le x y
 refine Run.seq fun K9 h10 => ?_
 refine Run.join (fun f A1 => EnvLe [(24, .bool (decide (k < x.length ∧ k < y.length ∧ x.getD k 0 = y.getD k 0))), (0, str (x)), (1, str (y)), (5, num ((k : Nat) : Int))] f.e ∧ f.ds = [] ∧ A = A1) ?_ ?_
 ·
  refine Run.drawn [0, 1, 2, 3, 4, 5, 6, 7, 8, 9, 10, 11, 12, 13, 14, 15, 16, 17, 18] mixed (by kernel_rfl) (by kernel_rfl) rfl ?_
  refine DOps.q rfl rfl rfl (qmove rfl) ?_
  refine DOps.q rfl rfl rfl (qmove rfl) ?_
  refine DOps.q rfl rfl rfl (qslen u9 rfl) ?_
  refine DOps.q rfl rfl rfl (qlssN rfl rfl) ?_
  refine DOps.q rfl rfl rfl (qmove rfl) ?_
  refine DOps.part (t := 10) rfl (fun p13 => ?_) (fun p13 => ?_)
  ·
   refine DOps.qOn rfl rfl rfl rfl rfl (qmove rfl) ?_
   refine DOps.qOn rfl rfl rfl rfl rfl (qmove rfl) ?_
   refine DOps.qOn rfl rfl rfl rfl rfl (qslen u9 rfl) ?_
   refine DOps.qOn rfl rfl rfl rfl rfl (qlssN rfl rfl) ?_
   refine DOps.q rfl rfl rfl (qpickT rfl rfl) ?_
   refine DOps.q rfl rfl rfl (qmove rfl) ?_
   refine DOps.part (t := 16) rfl (fun p14 => ?_) (fun p14 => ?_)
   ·
    refine DOps.qOn rfl rfl rfl rfl rfl (qmove rfl) ?_
    refine DOps.qOn rfl rfl rfl rfl rfl (qmove rfl) ?_
    refine DOps.qOn rfl rfl rfl rfl rfl (qsix u9 rfl rfl (by omega)) ?_
    refine DOps.qOn rfl rfl rfl rfl rfl (qmove rfl) ?_
    refine DOps.qOn rfl rfl rfl rfl rfl (qmove rfl) ?_
    refine DOps.qOn rfl rfl rfl rfl rfl (qsix u9 rfl rfl (by omega)) ?_
    refine DOps.qOn rfl rfl rfl rfl rfl (qeqlB rfl rfl) ?_
    refine DOps.q rfl rfl rfl (qpickT rfl rfl) ?_
    refine DOps.done ?_
    exact ⟨EnvLe.cons (show some _ = some _ from congrArg (fun b => some (Value.bool b)) (show (decide ((x.getD k 0) = (y.getD k 0))) = decide (k < x.length ∧ k < y.length ∧ x.getD k 0 = y.getD k 0) from (by simp [*]))) <| EnvLe.cons rfl <| EnvLe.cons rfl <| EnvLe.cons rfl <| EnvLe.nil _, rfl, rfl⟩
   ·
    refine DOps.qOff rfl rfl rfl rfl rfl rfl ?_
    refine DOps.qOff rfl rfl rfl rfl rfl rfl ?_
    refine DOps.qOff rfl rfl rfl rfl rfl rfl ?_
    refine DOps.qOff rfl rfl rfl rfl rfl rfl ?_
    refine DOps.qOff rfl rfl rfl rfl rfl rfl ?_
    refine DOps.qOff rfl rfl rfl rfl rfl rfl ?_
    refine DOps.qOff rfl rfl rfl rfl rfl rfl ?_
    refine DOps.q rfl rfl rfl (qpickF rfl rfl) ?_
    refine DOps.done ?_
    exact ⟨EnvLe.cons (show some _ = some _ from congrArg (fun b => some (Value.bool b)) (show (false) = decide (k < x.length ∧ k < y.length ∧ x.getD k 0 = y.getD k 0) from (by simp [*]))) <| EnvLe.cons rfl <| EnvLe.cons rfl <| EnvLe.cons rfl <| EnvLe.nil _, rfl, rfl⟩
  ·
   refine DOps.qOff rfl rfl rfl rfl rfl rfl ?_
   refine DOps.qOff rfl rfl rfl rfl rfl rfl ?_
   refine DOps.qOff rfl rfl rfl rfl rfl rfl ?_
   refine DOps.qOff rfl rfl rfl rfl rfl rfl ?_
   refine DOps.q rfl rfl rfl (qpickF rfl rfl) ?_
   refine DOps.q rfl rfl rfl (qmove rfl) ?_
   refine DOps.qOff rfl rfl rfl rfl rfl rfl ?_
   refine DOps.qOff rfl rfl rfl rfl rfl rfl ?_
   refine DOps.qOff rfl rfl rfl rfl rfl rfl ?_
   refine DOps.qOff rfl rfl rfl rfl rfl rfl ?_
   refine DOps.qOff rfl rfl rfl rfl rfl rfl ?_
   refine DOps.qOff rfl rfl rfl rfl rfl rfl ?_
   refine DOps.qOff rfl rfl rfl rfl rfl rfl ?_
   refine DOps.q rfl rfl rfl (qpickF rfl rfl) ?_
   refine DOps.done ?_
   exact ⟨EnvLe.cons (show some _ = some _ from congrArg (fun b => some (Value.bool b)) (show (false) = decide (k < x.length ∧ k < y.length ∧ x.getD k 0 = y.getD k 0) from (by simp [*]))) <| EnvLe.cons rfl <| EnvLe.cons rfl <| EnvLe.cons rfl <| EnvLe.nil _, rfl, rfl⟩
 ·
  rintro ⟨fe, fd⟩ _ ⟨hE, rfl, rfl⟩
  refine Run.forget hE ?_
  refine Run.if rfl (fun p15 => ?_) (fun p15 => ?_)
  ·
   refine Run.skip ?_
   refine h10 _ _ ?_
   refine Run.block ?_
   refine Run.region ?_
   refine Ops.q rfl (qmove rfl) ?_
   refine Ops.q rfl (qaddN (b := 1) rfl rfl (by omega)) ?_
   refine Ops.q rfl (qassign rfl) ?_
   refine Ops.nil ?_
   exact ⟨k + 1, EnvLe.cons rfl <| EnvLe.cons rfl <| EnvLe.cons rfl <| EnvLe.nil _, rfl, ⟨cmn_go hk (by assumption), rfl⟩, (by (try dsimp only); omega)⟩
  ·
   refine Run.exit ?_
   refine h6 _ _ ?_
   refine Run.seq fun K16 h17 => ?_
   refine Run.region ?_
   refine Ops.q rfl (qmove rfl) ?_
   refine Ops.q rfl (qassign rfl) ?_
   refine Ops.nil ?_
   refine h17 _ _ ?_
   refine Run.ret ?_
   repeat first | with_reducible refine thenQ_ret ?_ | with_reducible refine blockQ_ret ?_
   exact retQ rfl (⟨by rw [cmn_stop hk (by assumption)]; rfl, rfl⟩)

theorem s_Index (c : UInt8) (A : AH) (hL : Lets A) : RetA Tryz.prog 89 #[byt (c)] A (fun v A1 => v = num (ix c) ∧ A = A1) := by
 refine enterA (e := [(0, byt (c))]) (args := [byt (c)]) Tryz.call89 Tryz.func89 rfl Tryz.results89 Tryz.ntmps89 rfl rfl rfl (fun wf => ?_)
 have le_ := AH.le.refl A
 obtain ⟨rwL, capL, gL⟩ := hL
 refine Run.seq fun K1 h2 => ?_
 refine Run.region ?_
 refine Ops.q rfl (qassign rfl) ?_
 refine Ops.nil ?_
 refine h2 _ _ ?_
 refine Run.seq fun K3 h4 => ?_
 refine Run.seq fun K5 h6 => ?_
 refine Run.region ?_
 refine Ops.q rfl (qloadAggAt ag142 sz142 rfl rfl (le_.get _ _ gL) rfl) ?_
 refine Ops.q rfl (qmove rfl) ?_
 refine Ops.nil ?_
 refine h6 _ _ ?_
 refine Run.block ?_
 refine Run.loop (X := Nat) (fun k => [(0, byt (c)), (5, .agg #[byt (97), byt (65), byt (98), byt (66), byt (99), byt (67), byt (100), byt (68), byt (101), byt (69), byt (102), byt (70), byt (103), byt (71), byt (104), byt (72)]), (6, num ((k : Nat) : Int))]) (fun k B => (k ≤ 16 ∧ ∀ j, j < k → letters.getD j 0 ≠ c) ∧ A = B) (fun k => 16 - k) 0 (EnvLe.cons rfl <| EnvLe.cons rfl <| EnvLe.cons rfl <| EnvLe.nil _) (⟨⟨by omega, fun j h => by omega⟩, rfl⟩) ?_
 rintro k B8 ⟨⟨hk, hn⟩, rfl⟩
 refine Run.seq fun K9 h10 => ?_
 refine Run.region ?_
 refine Ops.q rfl (qlssN (b := 16) rfl rfl) ?_
 refine Ops.nil ?_
 refine h10 _ _ ?_
 refine Run.seq fun K11 h12 => ?_
 refine Run.if rfl (fun p13 => ?_) (fun p13 => ?_)
 ·
  refine Run.skip ?_
  refine h12 _ _ ?_
  refine Run.seq fun K14 h15 => ?_
  refine Run.block ?_
  refine Run.seq fun K16 h17 => ?_
  refine Run.region ?_
  refine Ops.q rfl (qmove rfl) ?_
  refine Ops.q rfl (qindexBy (l := letters) u142 sz5 ag5 rfl rfl (by omega) rfl) ?_
  refine Ops.q rfl (qassign rfl) ?_
  refine Ops.q rfl (qassign rfl) ?_
  refine Ops.nil ?_
  refine h17 _ _ ?_
  refine Run.seq fun K18 h19 => ?_
  refine Run.region ?_
  refine Ops.q rfl (qmove rfl) ?_
  refine Ops.q rfl (qmove rfl) ?_
  refine Ops.q rfl (qeqlB rfl rfl) ?_
  refine Ops.nil ?_
  refine h19 _ _ ?_
  refine Run.if rfl (fun p20 => ?_) (fun p20 => ?_)
  ·
   refine Run.seq fun K21 h22 => ?_
   refine Run.region ?_
   refine Ops.q rfl (qmove rfl) ?_
   refine Ops.q rfl (qassign rfl) ?_
   refine Ops.nil ?_
   refine h22 _ _ ?_
   refine Run.ret ?_
   repeat first | with_reducible refine thenQ_ret ?_ | with_reducible refine blockQ_ret ?_
   exact retQ rfl (⟨by rw [ix_found (by omega) hn (by assumption)]; rfl, rfl⟩)
  ·
   refine Run.skip ?_
   refine h15 _ _ ?_
   refine Run.region ?_
   refine Ops.q rfl (qaddN (b := 1) rfl rfl (by omega)) ?_
   refine Ops.q rfl (qmove rfl) ?_
   refine Ops.nil ?_
   exact ⟨k + 1, EnvLe.cons rfl <| EnvLe.cons rfl <| EnvLe.cons rfl <| EnvLe.nil _, rfl, ⟨⟨by omega, fun j h => (Nat.lt_succ_iff_lt_or_eq.1 h).elim (hn j) (fun q => by subst q; assumption)⟩, rfl⟩, (by (try dsimp only); omega)⟩
 ·
  refine Run.exit ?_
  refine h4 _ _ ?_
  refine Run.seq fun K23 h24 => ?_
  refine Run.region ?_
  refine Ops.q rfl (qassign rfl) ?_
  refine Ops.nil ?_
  refine h24 _ _ ?_
  refine Run.ret ?_
  repeat first | with_reducible refine thenQ_ret ?_ | with_reducible refine blockQ_ret ?_
  exact retQ rfl (⟨by rw [ix_none (fun j h => hn j (by omega))]; rfl, rfl⟩)

theorem s_check1 (r : Nat) (k : Int) (b cap : Nat) (rw : Bool) (A : AH) (hk : 1 ≤ k ∧ k ≤ 8) (hL : Lets A) (hb : A.get b = some (.row rw [num k] cap)) : RetA Tryz.prog 88 #[.int .i32 ((r : Nat) : Int), .pointer (some ⟨b, 0, none⟩)] A (fun v A1 => v = .bool (decide (127 < r) || !okc k (UInt8.ofNat r)) ∧ A = A1) := by
 refine enterA (e := [(0, .int .i32 ((r : Nat) : Int)), (1, .pointer (some ⟨b, 0, none⟩))]) (args := [.int .i32 ((r : Nat) : Int), .pointer (some ⟨b, 0, none⟩)]) Tryz.call88 Tryz.func88 rfl Tryz.results88 Tryz.ntmps88 rfl rfl rfl (fun wf => ?_)
 have le_ := AH.le.refl A
 refine Run.seq fun K1 h2 => ?_
 refine Run.region ?_
 refine Ops.q rfl (qassign rfl) ?_
 refine Ops.nil ?_
 refine h2 _ _ ?_
 refine Run.seq fun K3 h4 => ?_
 refine Run.drawn [0, 1, 2, 3, 4, 5, 6, 7, 8, 9, 10, 12, 13, 11, 14, 15, 16] mixed (by kernel_rfl) (by kernel_rfl) rfl ?_
 refine DOps.q rfl rfl rfl (qmove rfl) ?_
 refine DOps.q rfl rfl rfl (qgtrN (b := 127) rfl rfl) ?_
 refine DOps.q rfl rfl rfl (qmove rfl) ?_
 refine DOps.part (t := 6) rfl (fun p5 => ?_) (fun p5 => ?_)
 ·
  refine DOps.qOff rfl rfl rfl rfl rfl rfl ?_
  refine DOps.qOff rfl rfl rfl rfl rfl rfl ?_
  refine DOps.lOff rfl rfl rfl rfl rfl rfl ?_
  refine DOps.qOff rfl rfl rfl rfl rfl rfl ?_
  refine DOps.q rfl rfl rfl (qpickT rfl rfl) ?_
  refine DOps.q rfl rfl rfl (qmove rfl) ?_
  refine DOps.qOff rfl rfl rfl rfl rfl rfl ?_
  refine DOps.qOff rfl rfl rfl rfl rfl rfl ?_
  refine DOps.qOff rfl rfl rfl rfl rfl rfl ?_
  refine DOps.qOff rfl rfl rfl rfl rfl rfl ?_
  refine DOps.lOff rfl rfl rfl rfl rfl rfl ?_
  refine DOps.qOff rfl rfl rfl rfl rfl rfl ?_
  refine DOps.q rfl rfl rfl (qpickT rfl rfl) ?_
  refine DOps.q rfl rfl rfl (qassign rfl) ?_
  refine DOps.done ?_
  refine h4 _ _ ?_
  refine Run.ret ?_
  repeat first | with_reducible refine thenQ_ret ?_ | with_reducible refine blockQ_ret ?_
  exact retQ rfl (⟨by simp_all [okc, oneV, dle, dlt127], rfl⟩)
 ·
  refine DOps.qOn rfl rfl rfl rfl rfl (qmove rfl) ?_
  refine DOps.qOn rfl rfl rfl rfl rfl (qconv8 u21 u5 rfl) ?_
  refine DOps.lOn rfl rfl rfl rfl rfl (fun _ _ hk6 _ => vcallF rfl (s_Index (UInt8.ofNat (r)) A hL) ?_)
  rintro v7 A8 ⟨rfl, rfl⟩
  refine hk6 _ _ (HeldNow.none (by kernel_rfl)) ?_
  refine DOps.qOn rfl rfl rfl rfl rfl (qlss rfl rfl) ?_
  refine DOps.q rfl rfl rfl (qpickF rfl rfl) ?_
  refine DOps.q rfl rfl rfl (qmove rfl) ?_
  refine DOps.part (t := 12) rfl (fun p10 => ?_) (fun p10 => ?_)
  ·
   refine DOps.qOff rfl rfl rfl rfl rfl rfl ?_
   refine DOps.qOff rfl rfl rfl rfl rfl rfl ?_
   refine DOps.qOff rfl rfl rfl rfl rfl rfl ?_
   refine DOps.qOff rfl rfl rfl rfl rfl rfl ?_
   refine DOps.lOff rfl rfl rfl rfl rfl rfl ?_
   refine DOps.qOff rfl rfl rfl rfl rfl rfl ?_
   refine DOps.q rfl rfl rfl (qpickT rfl rfl) ?_
   refine DOps.q rfl rfl rfl (qassign rfl) ?_
   refine DOps.done ?_
   refine h4 _ _ ?_
   refine Run.ret ?_
   repeat first | with_reducible refine thenQ_ret ?_ | with_reducible refine blockQ_ret ?_
   exact retQ rfl (⟨by simp_all [okc, oneV, dle, dlt127], rfl⟩)
  ·
   refine DOps.qOn rfl rfl rfl rfl rfl (qmove rfl) ?_
   refine DOps.qOn rfl rfl rfl rfl rfl (qconv8 u21 u5 rfl) ?_
   have hc11 := cellOf (off := 0) (le_.get _ _ hb) (show _ = some (num (k)) from rfl)
   refine DOps.qOn rfl rfl rfl rfl rfl (qloadAt ag3 rfl rfl (le_.get _ _ hb) rfl) ?_
   refine DOps.qOn rfl rfl rfl rfl rfl (qmul rfl rfl (by omega)) ?_
   refine DOps.lOn rfl rfl rfl rfl rfl (fun _ _ hk12 _ => vcallF rfl (s_Index (UInt8.ofNat (r)) A hL) ?_)
   rintro v13 A14 ⟨rfl, rfl⟩
   refine hk12 _ _ (HeldNow.list (L := [(⟨b, 0, none⟩, num (k))]) (by kernel_rfl) (heldCons hc11 heldNil)) ?_
   refine DOps.qOn rfl rfl rfl rfl rfl (qgeq rfl rfl) ?_
   refine DOps.q rfl rfl rfl (qpickF rfl rfl) ?_
   refine DOps.q rfl rfl rfl (qassign rfl) ?_
   refine DOps.done ?_
   refine h4 _ _ ?_
   refine Run.ret ?_
   repeat first | with_reducible refine thenQ_ret ?_ | with_reducible refine blockQ_ret ?_
   exact retQ rfl (⟨by simp_all [okc, oneV, dle, dlt127], rfl⟩)

theorem s_indexFunc (g : Nat) (caps : Array Value) (q : Nat → Bool) (hq : ∀ r, 128 ≤ r → q r = true) (s : List UInt8) (A : AH) (hs : s.length ≤ 100000) (hf : ∀ r B, A.le B → B.wf → RetA Tryz.prog g (#[] ++ #[.int .i32 ((r : Nat) : Int)] ++ caps) B (fun v B1 => v = .bool (q r) ∧ B = B1)) : RetA Tryz.prog 123 #[str (s), .func (.func g) #[] caps, .bool (true)] A (fun v A1 => v = num (ifc q s) ∧ A.le A1 ∧ A1.wf) := by
 refine enterA (e := [(0, str (s)), (1, .func (.func g) #[] caps), (2, .bool (true))]) (args := [str (s), .func (.func g) #[] caps, .bool (true)]) Tryz.call123 Tryz.func123 rfl Tryz.results123 Tryz.ntmps123 rfl rfl rfl (fun wf => ?_)
 have le_ := AH.le.refl A
 refine Run.seq fun K1 h2 => ?_
 refine Run.region ?_
 refine Ops.q rfl (qassign rfl) ?_
 refine Ops.nil ?_
 refine h2 _ _ ?_
 refine Run.seq fun K3 h4 => ?_
 refine Run.seq fun K5 h6 => ?_
 refine Run.region ?_
 refine Ops.q rfl (qmove rfl) ?_
 refine Ops.l rfl (fun _ _ hk7 _ => wrangeS wf rfl u9 fun A9 b8 nb10 => ?_)
 have ge_b8 := none_of wf (Nat.le_trans le_.n nb10.lo)
 have le11 := le_.trans nb10.le
 refine hk7 _ _ ?_
 refine Ops.nil ?_
 refine h6 _ _ ?_
 refine Run.block ?_
 refine Run.loop (X := Nat) (fun k => [(1, .func (.func g) #[] caps), (2, .bool (true)), (10, .pointer (some ⟨b8, 0, none⟩))]) (fun k B => (k ≤ s.length ∧ ∀ j, j < k → q (s.getD j 0).toNat = false) ∧ A.le B ∧ B.get b8 = some (.obj true (.stringIter (bs s) (k)))) (fun k => s.length - k) 0 (EnvLe.cons rfl <| EnvLe.cons rfl <| EnvLe.cons rfl <| EnvLe.nil _) (⟨⟨by omega, fun j h => by omega⟩, le11, nb10.get⟩) ?_
 rintro k B13 ⟨⟨hk, hn⟩, le12, hr_b812⟩
 refine Run.wf fun wf14 => ?_
 refine Run.seq fun K15 h16 => ?_
 refine Run.region ?_
 refine Ops.l rfl (fun _ _ hk17 _ => wnextS wf14 rfl hr_b812 (fun p20 A18 sb19 => ?_) (fun p20 => ?_))
 ·
  by_cases hc21 : s.getD k 0 < 128
  ·
   rw [decode_lo p20 hc21] at sb19 ⊢
   have le22 := le_store le12 wf ge_b8 sb19.n sb19.keep
   refine hk17 _ _ ?_
   refine Ops.q rfl (qextract rfl rfl) ?_
   refine Ops.nil ?_
   refine h16 _ _ ?_
   refine Run.seq fun K23 h24 => ?_
   refine Run.cond_true rfl ?_
   refine Run.skip ?_
   refine h24 _ _ ?_
   refine Run.block ?_
   refine Run.seq fun K25 h26 => ?_
   refine Run.region ?_
   refine Ops.q rfl (qextract rfl rfl) ?_
   refine Ops.q rfl (qextract rfl rfl) ?_
   refine Ops.q rfl (qassign rfl) ?_
   refine Ops.q rfl (qassign rfl) ?_
   refine Ops.nil ?_
   refine h26 _ _ ?_
   refine Run.seq fun K27 h28 => ?_
   refine Run.region ?_
   refine Ops.q rfl (qmove rfl) ?_
   refine Ops.q rfl (qmove rfl) ?_
   refine Ops.l rfl (fun _ _ hk29 _ => vcall rfl rfl (hf ((s.getD k 0).toNat) A18 le22 sb19.wf) ?_)
   rintro v30 A31 ⟨rfl, rfl⟩
   refine hk29 _ _ ?_
   refine Ops.q rfl (qmove rfl) ?_
   refine Ops.q rfl (qbeql u4 rfl rfl) ?_
   refine Ops.nil ?_
   refine h28 _ _ ?_
   refine Run.ifB rfl (fun p33 => ?_) (fun p33 => ?_)
   ·
    refine Run.seq fun K34 h35 => ?_
    refine Run.region ?_
    refine Ops.q rfl (qmove rfl) ?_
    refine Ops.q rfl (qassign rfl) ?_
    refine Ops.nil ?_
    refine h35 _ _ ?_
    refine Run.ret ?_
    repeat first | with_reducible refine thenQ_ret ?_ | with_reducible refine blockQ_ret ?_
    exact retQ rfl (⟨by rw [ifc_found (by assumption) hn (by first | (simpa using ‹(q _ == true) = true›) | exact hq _ (u8_ge ‹_›))]; rfl, le22, sb19.wf⟩)
   ·
    refine Run.skip ?_
    exact ⟨k + 1, EnvLe.cons rfl <| EnvLe.cons rfl <| EnvLe.cons rfl <| EnvLe.nil _, rfl, ⟨(by first | exact ⟨by omega, fun j h => (Nat.lt_succ_iff_lt_or_eq.1 h).elim (hn j) (fun z => by subst z; simpa using ‹(q _ == true) = false›)⟩ | (exfalso; simp_all)), le22, sb19.get⟩, (by first | omega | (exfalso; simp_all))⟩
  ·
   have hrhc21 := decode_hi p20 hc21
   have hmhc21 := decode_max (bs s) k
   have hqT := hq _ hrhc21
   have le36 := le_store le12 wf ge_b8 sb19.n sb19.keep
   refine hk17 _ _ ?_
   refine Ops.q rfl (qextract rfl rfl) ?_
   refine Ops.nil ?_
   refine h16 _ _ ?_
   refine Run.seq fun K37 h38 => ?_
   refine Run.cond_true rfl ?_
   refine Run.skip ?_
   refine h38 _ _ ?_
   refine Run.block ?_
   refine Run.seq fun K39 h40 => ?_
   refine Run.region ?_
   refine Ops.q rfl (qextract rfl rfl) ?_
   refine Ops.q rfl (qextract rfl rfl) ?_
   refine Ops.q rfl (qassign rfl) ?_
   refine Ops.q rfl (qassign rfl) ?_
   refine Ops.nil ?_
   refine h40 _ _ ?_
   refine Run.seq fun K41 h42 => ?_
   refine Run.region ?_
   refine Ops.q rfl (qmove rfl) ?_
   refine Ops.q rfl (qmove rfl) ?_
   refine Ops.l rfl (fun _ _ hk43 _ => vcall rfl rfl (hf ((Utf8.decode (bs s) k).1) A18 le36 sb19.wf) ?_)
   rintro v44 A45 ⟨rfl, rfl⟩
   refine hk43 _ _ ?_
   refine Ops.q rfl (qmove rfl) ?_
   refine Ops.q rfl (qbeql u4 rfl rfl) ?_
   refine Ops.nil ?_
   refine h42 _ _ ?_
   refine Run.ifB rfl (fun p47 => ?_) (fun p47 => ?_)
   ·
    refine Run.seq fun K48 h49 => ?_
    refine Run.region ?_
    refine Ops.q rfl (qmove rfl) ?_
    refine Ops.q rfl (qassign rfl) ?_
    refine Ops.nil ?_
    refine h49 _ _ ?_
    refine Run.ret ?_
    repeat first | with_reducible refine thenQ_ret ?_ | with_reducible refine blockQ_ret ?_
    exact retQ rfl (⟨by rw [ifc_found (by assumption) hn (by first | (simpa using ‹(q _ == true) = true›) | exact hq _ (u8_ge ‹_›))]; rfl, le36, sb19.wf⟩)
   ·
    refine Run.skip ?_
    exact ⟨k + (Utf8.decode (bs s) k).2, EnvLe.cons rfl <| EnvLe.cons rfl <| EnvLe.cons rfl <| EnvLe.nil _, rfl, ⟨(by first | exact ⟨by omega, fun j h => (Nat.lt_succ_iff_lt_or_eq.1 h).elim (hn j) (fun z => by subst z; simpa using ‹(q _ == true) = false›)⟩ | (exfalso; simp_all)), le36, sb19.get⟩, (by first | omega | (exfalso; simp_all))⟩
 ·
  refine hk17 _ _ ?_
  refine Ops.q rfl (qextract rfl rfl) ?_
  refine Ops.nil ?_
  refine h16 _ _ ?_
  refine Run.seq fun K50 h51 => ?_
  refine Run.cond_false rfl ?_
  refine Run.exit ?_
  refine h4 _ _ ?_
  refine Run.seq fun K52 h53 => ?_
  refine Run.region ?_
  refine Ops.q rfl (qassign rfl) ?_
  refine Ops.nil ?_
  refine h53 _ _ ?_
  refine Run.ret ?_
  repeat first | with_reducible refine thenQ_ret ?_ | with_reducible refine blockQ_ret ?_
  exact retQ rfl (⟨by rw [ifc_none (fun j h => hn j (by omega))]; rfl, le12, wf14⟩)

theorem s_IndexFunc (g : Nat) (caps : Array Value) (q : Nat → Bool) (hq : ∀ r, 128 ≤ r → q r = true) (s : List UInt8) (A : AH) (hs : s.length ≤ 100000) (hf : ∀ r B, A.le B → B.wf → RetA Tryz.prog g (#[] ++ #[.int .i32 ((r : Nat) : Int)] ++ caps) B (fun v B1 => v = .bool (q r) ∧ B = B1)) : RetA Tryz.prog 101 #[str (s), .func (.func g) #[] caps] A (fun v A1 => v = num (ifc q s) ∧ A.le A1 ∧ A1.wf) := by
 refine enterA (e := [(0, str (s)), (1, .func (.func g) #[] caps)]) (args := [str (s), .func (.func g) #[] caps]) Tryz.call101 Tryz.func101 rfl Tryz.results101 Tryz.ntmps101 rfl rfl rfl (fun wf => ?_)
 have le_ := AH.le.refl A
 refine Run.seq fun K1 h2 => ?_
 refine Run.region ?_
 refine Ops.q rfl (qassign rfl) ?_
 refine Ops.nil ?_
 refine h2 _ _ ?_
 refine Run.seq fun K3 h4 => ?_
 refine Run.region ?_
 refine Ops.q rfl (qmove rfl) ?_
 refine Ops.q rfl (qmove rfl) ?_
 refine Ops.l rfl (fun _ _ hk5 _ => vcallF rfl (s_indexFunc g caps q hq s A hs (fun r B le wf => hf r B (le_.trans le) wf)) ?_)
 rintro v6 A7 ⟨rfl, leq8, wfq8⟩
 have le9 := le_.trans leq8
 refine hk5 _ _ ?_
 refine Ops.q rfl (qassign rfl) ?_
 refine Ops.nil ?_
 refine h4 _ _ ?_
 refine Run.ret ?_
 repeat first | with_reducible refine thenQ_ret ?_ | with_reducible refine blockQ_ret ?_
 exact retQ rfl (⟨rfl, le9, wfq8⟩)

theorem s_ContainsFunc (g : Nat) (caps : Array Value) (q : Nat → Bool) (hq : ∀ r, 128 ≤ r → q r = true) (s : List UInt8) (A : AH) (hs : s.length ≤ 100000) (hf : ∀ r B, A.le B → B.wf → RetA Tryz.prog g (#[] ++ #[.int .i32 ((r : Nat) : Int)] ++ caps) B (fun v B1 => v = .bool (q r) ∧ B = B1)) : RetA Tryz.prog 87 #[str (s), .func (.func g) #[] caps] A (fun v A1 => v = .bool (decide (0 ≤ ifc q s)) ∧ A.le A1 ∧ A1.wf) := by
 refine enterA (e := [(0, str (s)), (1, .func (.func g) #[] caps)]) (args := [str (s), .func (.func g) #[] caps]) Tryz.call87 Tryz.func87 rfl Tryz.results87 Tryz.ntmps87 rfl rfl rfl (fun wf => ?_)
 have le_ := AH.le.refl A
 refine Run.seq fun K1 h2 => ?_
 refine Run.region ?_
 refine Ops.q rfl (qassign rfl) ?_
 refine Ops.nil ?_
 refine h2 _ _ ?_
 refine Run.seq fun K3 h4 => ?_
 refine Run.region ?_
 refine Ops.q rfl (qmove rfl) ?_
 refine Ops.q rfl (qmove rfl) ?_
 refine Ops.l rfl (fun _ _ hk5 _ => vcallF rfl (s_IndexFunc g caps q hq s A hs (fun r B le wf => hf r B (le_.trans le) wf)) ?_)
 rintro v6 A7 ⟨rfl, leq8, wfq8⟩
 have le9 := le_.trans leq8
 refine hk5 _ _ ?_
 refine Ops.q rfl (qgeq rfl rfl) ?_
 refine Ops.q rfl (qassign rfl) ?_
 refine Ops.nil ?_
 refine h4 _ _ ?_
 refine Run.ret ?_
 repeat first | with_reducible refine thenQ_ret ?_ | with_reducible refine blockQ_ret ?_
 exact retQ rfl (⟨rfl, le9, wfq8⟩)

theorem s_wCheck (k : Int) (w : List UInt8) (A : AH) (hL : Lets A) : RetA Tryz.prog 55 #[num (k), str (w)] A (fun v A1 => v = num ((wcheck k w : Nat) : Int) ∧ A.le A1 ∧ A1.wf) := by
 refine enterA (e := [(0, num (k)), (1, str (w))]) (args := [num (k), str (w)]) Tryz.call55 Tryz.func55 rfl Tryz.results55 Tryz.ntmps55 rfl rfl rfl (fun wf => ?_)
 have le_ := AH.le.refl A
 refine Run.seq fun K1 h2 => ?_
 refine Run.region ?_
 refine Ops.l rfl (fun _ _ hk3 _ => wbox wf rfl rfl fun A5 b4 nb6 => ?_)
 have ge_b4 := none_of wf (Nat.le_trans le_.n nb6.lo)
 have le7 := le_.trans nb6.le
 refine hk3 _ _ ?_
 refine Ops.q rfl (qassign rfl) ?_
 refine Ops.nil ?_
 refine h2 _ _ ?_
 refine Run.seq fun K8 h9 => ?_
 refine Run.block ?_
 refine Run.seq fun K10 h11 => ?_
 refine Run.region ?_
 refine Ops.q rfl (qloadAt ag3 rfl rfl nb6.get rfl) ?_
 refine Ops.q rfl (qlss rfl rfl) ?_
 refine Ops.q rfl (qmove rfl) ?_
 refine Ops.part (t := 8) rfl (fun p12 => ?_) (fun p12 => ?_)
 ·
  refine Ops.off rfl rfl rfl rfl ?_
  refine Ops.off rfl rfl rfl rfl ?_
  refine Ops.q rfl (qpickT rfl rfl) ?_
  refine Ops.q rfl (qassign rfl) ?_
  refine Ops.nil ?_
  refine h11 _ _ ?_
  refine Run.cond_true rfl ?_
  refine Run.seq fun K13 h14 => ?_
  refine Run.region ?_
  refine Ops.q rfl (qassign rfl) ?_
  refine Ops.nil ?_
  refine h14 _ _ ?_
  refine Run.ret ?_
  repeat first | with_reducible refine thenQ_ret ?_ | with_reducible refine blockQ_ret ?_
  exact retQ rfl (⟨by first | (rw [wcheck, if_pos (by omega)]; rfl) | (rw [wcheck, if_neg (by omega), if_pos (by omega)]; rfl) | (rw [wcheck, if_neg (by omega), if_neg (by omega), if_neg (by rw [(contains_ok k w).1 ‹_›]; decide)]; rfl) | (rw [wcheck, if_neg (by omega), if_neg (by omega), if_pos (by have := mt (contains_ok k w).2 ‹_›; simpa using this)]; rfl), le7, nb6.wf⟩)
 ·
  refine Ops.on rfl rfl ?_
  refine Ops.q rfl (qloadAt ag3 rfl rfl nb6.get rfl) ?_
  refine Ops.on rfl rfl ?_
  refine Ops.q rfl (qgtr rfl rfl) ?_
  refine Ops.q rfl (qpickF rfl rfl) ?_
  refine Ops.q rfl (qassign rfl) ?_
  refine Ops.nil ?_
  refine h11 _ _ ?_
  refine Run.if rfl (fun p15 => ?_) (fun p15 => ?_)
  ·
   refine Run.seq fun K16 h17 => ?_
   refine Run.region ?_
   refine Ops.q rfl (qassign rfl) ?_
   refine Ops.nil ?_
   refine h17 _ _ ?_
   refine Run.ret ?_
   repeat first | with_reducible refine thenQ_ret ?_ | with_reducible refine blockQ_ret ?_
   exact retQ rfl (⟨by first | (rw [wcheck, if_pos (by omega)]; rfl) | (rw [wcheck, if_neg (by omega), if_pos (by omega)]; rfl) | (rw [wcheck, if_neg (by omega), if_neg (by omega), if_neg (by rw [(contains_ok k w).1 ‹_›]; decide)]; rfl) | (rw [wcheck, if_neg (by omega), if_neg (by omega), if_pos (by have := mt (contains_ok k w).2 ‹_›; simpa using this)]; rfl), le7, nb6.wf⟩)
  ·
   refine Run.seq fun K18 h19 => ?_
   refine Run.region ?_
   refine Ops.q rfl (qmove rfl) ?_
   refine Ops.q rfl (qslen u9 rfl) ?_
   refine Ops.q rfl (qgtrN (b := 100000) rfl rfl) ?_
   refine Ops.q rfl (qassign rfl) ?_
   refine Ops.nil ?_
   refine h19 _ _ ?_
   refine Run.if rfl (fun p20 => ?_) (fun p20 => ?_)
   ·
    refine Run.seq fun K21 h22 => ?_
    refine Run.region ?_
    refine Ops.q rfl (qassign rfl) ?_
    refine Ops.nil ?_
    refine h22 _ _ ?_
    refine Run.ret ?_
    repeat first | with_reducible refine thenQ_ret ?_ | with_reducible refine blockQ_ret ?_
    exact retQ rfl (⟨by first | (rw [wcheck, if_pos (by omega)]; rfl) | (rw [wcheck, if_neg (by omega), if_pos (by omega)]; rfl) | (rw [wcheck, if_neg (by omega), if_neg (by omega), if_neg (by rw [(contains_ok k w).1 ‹_›]; decide)]; rfl) | (rw [wcheck, if_neg (by omega), if_neg (by omega), if_pos (by have := mt (contains_ok k w).2 ‹_›; simpa using this)]; rfl), le7, nb6.wf⟩)
   ·
    refine Run.seq fun K23 h24 => ?_
    refine Run.region ?_
    refine Ops.q rfl (qmove rfl) ?_
    refine Ops.q rfl (qfunc rfl rfl) ?_
    refine Ops.l rfl (fun _ _ hk25 _ => vcallF rfl (s_ContainsFunc 88 #[.pointer (some ⟨b4, 0, none⟩)] (fun r => decide (127 < r) || !okc (k) (UInt8.ofNat r)) (fun r h => by simp; omega) w A5 (by omega) (fun r B le wf => s_check1 r (k) b4 _ _ B (by omega) ((hL.le le7).le le) (le.get _ _ nb6.get))) ?_)
    rintro v26 A27 ⟨rfl, leq28, wfq28⟩
    have h29 := leq28.get _ _ nb6.get
    have le30 := le7.trans leq28
    refine hk25 _ _ ?_
    refine Ops.q rfl (qassign rfl) ?_
    refine Ops.nil ?_
    refine h24 _ _ ?_
    refine Run.if rfl (fun p31 => ?_) (fun p31 => ?_)
    ·
     refine Run.seq fun K32 h33 => ?_
     refine Run.region ?_
     refine Ops.q rfl (qassign rfl) ?_
     refine Ops.nil ?_
     refine h33 _ _ ?_
     refine Run.ret ?_
     repeat first | with_reducible refine thenQ_ret ?_ | with_reducible refine blockQ_ret ?_
     exact retQ rfl (⟨by first | (rw [wcheck, if_pos (by omega)]; rfl) | (rw [wcheck, if_neg (by omega), if_pos (by omega)]; rfl) | (rw [wcheck, if_neg (by omega), if_neg (by omega), if_neg (by rw [(contains_ok k w).1 ‹_›]; decide)]; rfl) | (rw [wcheck, if_neg (by omega), if_neg (by omega), if_pos (by have := mt (contains_ok k w).2 ‹_›; simpa using this)]; rfl), le30, wfq28⟩)
    ·
     refine Run.skip ?_
     refine h9 _ _ ?_
     refine Run.seq fun K34 h35 => ?_
     refine Run.region ?_
     refine Ops.q rfl (qassign rfl) ?_
     refine Ops.nil ?_
     refine h35 _ _ ?_
     refine Run.ret ?_
     repeat first | with_reducible refine thenQ_ret ?_ | with_reducible refine blockQ_ret ?_
     exact retQ rfl (⟨by first | (rw [wcheck, if_pos (by omega)]; rfl) | (rw [wcheck, if_neg (by omega), if_pos (by omega)]; rfl) | (rw [wcheck, if_neg (by omega), if_neg (by omega), if_neg (by rw [(contains_ok k w).1 ‹_›]; decide)]; rfl) | (rw [wcheck, if_neg (by omega), if_neg (by omega), if_pos (by have := mt (contains_ok k w).2 ‹_›; simpa using this)]; rfl), le30, wfq28⟩)

theorem s_is (w : List UInt8) (A : AH) (hL : Lets A) : RetA Tryz.prog 63 #[str (w)] A (fun v A1 => v = .bool (isw w) ∧ A.le A1 ∧ A1.wf) := by
 refine enterA (e := [(0, str (w))]) (args := [str (w)]) Tryz.call63 Tryz.func63 rfl Tryz.results63 Tryz.ntmps63 rfl rfl rfl (fun wf => ?_)
 have le_ := AH.le.refl A
 refine Run.seq fun K1 h2 => ?_
 refine Run.region ?_
 refine Ops.q rfl (qassign rfl) ?_
 refine Ops.nil ?_
 refine h2 _ _ ?_
 refine Run.seq fun K3 h4 => ?_
 refine Run.region ?_
 refine Ops.q rfl (qmove rfl) ?_
 refine Ops.l rfl (fun _ _ hk5 _ => vcallF rfl (s_wCheck ((8 : Nat) : Int) w A hL) ?_)
 rintro v6 A7 ⟨rfl, leq8, wfq8⟩
 have le9 := le_.trans leq8
 refine hk5 _ _ ?_
 refine Ops.q rfl (qeqlN (b := 0) rfl rfl) ?_
 refine Ops.q rfl (qassign rfl) ?_
 refine Ops.nil ?_
 refine h4 _ _ ?_
 refine Run.ret ?_
 repeat first | with_reducible refine thenQ_ret ?_ | with_reducible refine blockQ_ret ?_
 exact retQ rfl (⟨by rw [← wcheck8d]; rfl, le9, wfq8⟩)

theorem s_inverse (w : List UInt8) (A : AH) (hw : w.length ≤ 1000000) : RetA Tryz.prog 90 #[str (w)] A (fun v A1 => v = str (inv w) ∧ A.le A1 ∧ A1.wf) := by
 refine enterA (e := [(0, str (w))]) (args := [str (w)]) Tryz.call90 Tryz.func90 rfl Tryz.results90 Tryz.ntmps90 rfl rfl rfl (fun wf => ?_)
 have le_ := AH.le.refl A
 refine Run.seq fun K1 h2 => ?_
 refine Run.region ?_
 refine Ops.q rfl (qassign rfl) ?_
 refine Ops.nil ?_
 refine h2 _ _ ?_
 refine Run.seq fun K3 h4 => ?_
 refine Run.region ?_
 refine Ops.q rfl (qmove rfl) ?_
 refine Ops.q rfl (qslen u9 rfl) ?_
 refine Ops.l rfl (fun _ _ hk5 _ => wmake1 (n := w.length) (k := w.length) wf le_ rfl rfl u80 sz5 z5 inf5 rfl (Nat.le_refl _) (by show 1 * _ ≤ _; omega) (by omega) fun A7 b6 nb8 fr9 => ?_)
 have h10 := nb8.get; rw [bytes_replicate] at h10 fr9
 have ge_b6 := none_of wf (Nat.le_trans le_.n nb8.lo)
 have le11 := le_.trans nb8.le
 refine hk5 _ _ ?_
 refine Ops.q rfl (qassign rfl) ?_
 refine Ops.nil ?_
 refine h4 _ _ ?_
 refine Run.seq fun K12 h13 => ?_
 refine Run.seq fun K14 h15 => ?_
 refine Run.region ?_
 refine Ops.q rfl (qmove rfl) ?_
 refine Ops.q rfl (qslen u9 rfl) ?_
 refine Ops.q rfl (qmove rfl) ?_
 refine Ops.nil ?_
 refine h15 _ _ ?_
 refine Run.block ?_
 refine Run.loop (X := Nat) (fun k => [(0, str (w)), (3, .slice (some ⟨b6, 0, none⟩) w.length w.length), (9, num ((w.length : Nat) : Int)), (10, num ((k : Nat) : Int))]) (fun k B => (k ≤ w.length) ∧ A.le B ∧ B.get b6 = some (.row true (byteCells (revbuf w k)) w.length)) (fun k => w.length - k) 0 (EnvLe.cons rfl <| EnvLe.cons rfl <| EnvLe.cons rfl <| EnvLe.cons rfl <| EnvLe.nil _) (⟨Nat.zero_le _, le11, (row_eq h10 (congrArg byteCells ((by first | exact revbuf_zero w | exact revbuf_set w (by omega)))))⟩) ?_
 rintro k B17 ⟨hk, le16, hr_b616⟩
 refine Run.wf fun wf18 => ?_
 have hrl := revbuf_length w hk
 refine Run.seq fun K19 h20 => ?_
 refine Run.region ?_
 refine Ops.q rfl (qlssN rfl rfl) ?_
 refine Ops.nil ?_
 refine h20 _ _ ?_
 refine Run.seq fun K21 h22 => ?_
 refine Run.if rfl (fun p23 => ?_) (fun p23 => ?_)
 ·
  refine Run.skip ?_
  refine h22 _ _ ?_
  refine Run.seq fun K24 h25 => ?_
  refine Run.block ?_
  refine Run.seq fun K26 h27 => ?_
  refine Run.region ?_
  refine Ops.q rfl (qmove rfl) ?_
  refine Ops.q rfl (qassign rfl) ?_
  refine Ops.nil ?_
  refine h27 _ _ ?_
  refine Run.region ?_
  refine Ops.q rfl (qmove rfl) ?_
  refine Ops.q rfl (qmove rfl) ?_
  refine Ops.q rfl (qslen u9 rfl) ?_
  refine Ops.q rfl (qsubN (b := 1) rfl rfl (by omega)) ?_
  refine Ops.q rfl (qmove rfl) ?_
  refine Ops.q rfl (qsubN rfl rfl (by omega)) ?_
  refine Ops.q rfl (qmove rfl) ?_
  refine Ops.q rfl (qmove rfl) ?_
  refine Ops.q rfl (qsix u9 rfl rfl (by omega)) ?_
  refine Ops.l rfl (fun _ _ hk28 _ => vcallF rfl (s_other (w.getD k 0) B17) ?_)
  rintro v29 A30 ⟨rfl, rfl⟩
  refine hk28 _ _ ?_
  refine Ops.q rfl (qindexS u80 sz5 rfl rfl rfl (by omega)) ?_
  refine Ops.l rfl (fun _ _ hk32 _ => wstore (off := ((w.length - 1) - k)) wf18 rfl (by simp) rfl rfl sz5 hr_b616 (by simp only [bytes_length, List.length_cons, List.length_nil]; omega) rfl (bytes_set _ _ _) fun A33 sb34 => ?_)
  have le35 := le_store le16 wf ge_b6 sb34.n sb34.keep
  refine hk32 _ _ ?_
  refine Ops.nil ?_
  refine h25 _ _ ?_
  refine Run.region ?_
  refine Ops.q rfl (qaddN (b := 1) rfl rfl (by omega)) ?_
  refine Ops.q rfl (qmove rfl) ?_
  refine Ops.nil ?_
  exact ⟨k + 1, EnvLe.cons rfl <| EnvLe.cons rfl <| EnvLe.cons rfl <| EnvLe.cons rfl <| EnvLe.nil _, rfl, ⟨(by omega), le35, (row_eq sb34.get (congrArg byteCells ((by first | exact revbuf_zero w | exact revbuf_set w (by omega)))))⟩, (by (try dsimp only); omega)⟩
 ·
  refine Run.exit ?_
  refine h13 _ _ ?_
  refine Run.seq fun K36 h37 => ?_
  refine Run.region ?_
  refine Ops.q rfl (qmove rfl) ?_
  refine Ops.l rfl (fun _ _ hk38 _ => wtoString (s := revbuf w k) rfl u80 u9 u5 (slc_row (n := w.length) hr_b616 (by simp only [bytes_length]; omega) (Nat.le_refl _)) ?_)
  refine hk38 _ _ ?_
  refine Ops.q rfl (qassign rfl) ?_
  refine Ops.nil ?_
  refine h37 _ _ ?_
  refine Run.ret ?_
  repeat first | with_reducible refine thenQ_ret ?_ | with_reducible refine blockQ_ret ?_
  exact retQ rfl (⟨by rw [revbuf_end w (by omega)]; rfl, le16, wf18⟩)

theorem s_reduce (u : Value) (l : List (List UInt8)) (r : List UInt8) (A : AH) (hr : red l.flatten = r) (hT : l.flatten.length ≤ 1000000) (hn : l.length ≤ 1000000) (hu : Slc A 1 u (strs l)) : RetA Tryz.prog 64 #[u] A (fun v A1 => v = str r ∧ A.le A1 ∧ A1.wf) := by
 refine enterA (e := [(0, u)]) (args := [u]) Tryz.call64 Tryz.func64 rfl Tryz.results64 Tryz.ntmps64 rfl rfl rfl (fun wf => ?_)
 have le_ := AH.le.refl A
 refine Run.seq fun K1 h2 => ?_
 refine Run.region ?_
 refine Ops.q rfl (qassign rfl) ?_
 refine Ops.nil ?_
 refine h2 _ _ ?_
 refine Run.seq fun K3 h4 => ?_
 refine Run.region ?_
 refine Ops.q rfl (qassign rfl) ?_
 refine Ops.nil ?_
 refine h4 _ _ ?_
 refine Run.seq fun K5 h6 => ?_
 refine Run.seq fun K7 h8 => ?_
 refine Run.region ?_
 refine Ops.q rfl (qmove rfl) ?_
 refine Ops.q rfl (qlenS (n := l.length) u22 rfl (hu.le le_) (by omega) (strs_len _)) ?_
 refine Ops.q rfl (qmove rfl) ?_
 refine Ops.nil ?_
 refine h8 _ _ ?_
 refine Run.block ?_
 refine Run.loop (X := Nat × List UInt8 × Value) (fun ⟨k, o, s⟩ => [(3, s), (8, u), (9, num ((l.length : Nat) : Int)), (10, num ((k : Nat) : Int))]) (fun ⟨k, o, s⟩ B => (k ≤ l.length ∧ (l.drop k).flatten.foldl push o = r ∧ o.length + (l.drop k).flatten.length ≤ 1000000) ∧ A.le B ∧ Fresh A B s 1 (byteCells o)) (fun ⟨k, o, s⟩ => l.length - k) (⟨0, [], .slice none 0 0⟩) (EnvLe.cons rfl <| EnvLe.cons rfl <| EnvLe.cons rfl <| EnvLe.cons rfl <| EnvLe.nil _) (⟨⟨Nat.zero_le _, by simpa [red] using hr, by simpa using hT⟩, le_, (Fresh.nil A A 1)⟩) ?_
 rintro ⟨k, o, s⟩ B10 ⟨⟨hk, h1, h2⟩, le9, fr_s9⟩
 refine Run.wf fun wf11 => ?_
 have hd := fun q : k < l.length => flat_drop q
 refine Run.seq fun K12 h13 => ?_
 refine Run.region ?_
 refine Ops.q rfl (qlssN rfl rfl) ?_
 refine Ops.nil ?_
 refine h13 _ _ ?_
 refine Run.seq fun K14 h15 => ?_
 refine Run.if rfl (fun p16 => ?_) (fun p16 => ?_)
 ·
  refine Run.skip ?_
  refine h15 _ _ ?_
  refine Run.seq fun K17 h18 => ?_
  refine Run.block ?_
  refine Run.seq fun K19 h20 => ?_
  refine Run.region ?_
  obtain ⟨b21, f21, rw21, r21, rc21, n21, k21, e21, l21, g21, cl21, cs21⟩ := Slc.at (i := k) (hu.le le9) (by simp only [strs_length]; omega) (by omega)
  refine Ops.q rfl (qindexS u22 sz9 rfl e21 rfl l21) ?_
  refine Ops.q rfl (qloadAt ag9 rfl rfl g21 ((elt0 cs21).trans (strs_get (by omega)))) ?_
  refine Ops.q rfl (qassign rfl) ?_
  refine Ops.nil ?_
  refine h20 _ _ ?_
  refine Run.seq fun K22 h23 => ?_
  refine Run.region ?_
  refine Ops.q rfl (qmove rfl) ?_
  refine Ops.q rfl (qslen u9 rfl) ?_
  refine Ops.q rfl (qmove rfl) ?_
  refine Ops.nil ?_
  refine h23 _ _ ?_
  refine Run.block ?_
  refine Run.loop (X := Nat × List UInt8 × Value) (fun ⟨i, o2, s2⟩ => [(3, s2), (5, str (l.getD k [])), (8, u), (9, num ((l.length : Nat) : Int)), (10, num ((k : Nat) : Int)), (15, num (((l.getD k []).length : Nat) : Int)), (16, num ((i : Nat) : Int))]) (fun ⟨i, o2, s2⟩ B => (i ≤ (l.getD k []).length ∧ ((l.getD k []).drop i).foldl push o2 = (l.getD k []).foldl push o ∧ o2.length ≤ o.length + i) ∧ A.le B ∧ Fresh A B s2 1 (byteCells o2)) (fun ⟨i, o2, s2⟩ => (l.getD k []).length - i) (⟨0, o, s⟩) (EnvLe.cons rfl <| EnvLe.cons rfl <| EnvLe.cons rfl <| EnvLe.cons rfl <| EnvLe.cons rfl <| EnvLe.cons rfl <| EnvLe.cons rfl <| EnvLe.nil _) (⟨⟨Nat.zero_le _, rfl, Nat.le_refl _⟩, le9, fr_s9⟩) ?_
  rintro ⟨i, o2, s2⟩ B25 ⟨⟨hi, h3, h4⟩, le24, fr_s224⟩
  refine Run.wf fun wf26 => ?_
  refine Run.seq fun K27 h28 => ?_
  refine Run.region ?_
  refine Ops.q rfl (qlssN rfl rfl) ?_
  refine Ops.nil ?_
  refine h28 _ _ ?_
  refine Run.seq fun K29 h30 => ?_
  refine Run.if rfl (fun p31 => ?_) (fun p31 => ?_)
  ·
   refine Run.skip ?_
   refine h30 _ _ ?_
   refine Run.seq fun K32 h33 => ?_
   refine Run.block ?_
   refine Run.seq fun K34 h35 => ?_
   refine Run.region ?_
   refine Ops.q rfl (qmove rfl) ?_
   refine Ops.q rfl (qassign rfl) ?_
   refine Ops.nil ?_
   refine h35 _ _ ?_
   refine Run.seq fun K36 h37 => ?_
   refine Run.region ?_
   refine Ops.q rfl (qmove rfl) ?_
   refine Ops.q rfl (qlenS (n := o2.length) u80 rfl fr_s224.slc (by omega) (bytes_len _)) ?_
   refine Ops.q rfl (qassign rfl) ?_
   refine Ops.nil ?_
   refine h37 _ _ ?_
   refine Run.join (fun f A1 => EnvLe [(34, .bool (decide (0 < o2.length ∧ o2.getD (o2.length - 1) 0 = (l.getD k []).getD i 0 ^^^ 32))), (3, s2), (5, str (l.getD k [])), (8, u), (9, num ((l.length : Nat) : Int)), (10, num ((k : Nat) : Int)), (15, num (((l.getD k []).length : Nat) : Int)), (16, num ((i : Nat) : Int)), (17, .bool (decide (i < (l.getD k []).length))), (18, num ((i : Nat) : Int)), (6, num ((i : Nat) : Int)), (19, s2), (20, num ((o2.length : Nat) : Int)), (7, num ((o2.length : Nat) : Int))] f.e ∧ f.ds = [] ∧ B25 = A1) ?_ ?_
   ·
    refine Run.drawn [0, 1, 2, 3, 4, 5, 6, 7, 8, 9, 10, 11, 12, 13] mixed (by kernel_rfl) (by kernel_rfl) rfl ?_
    refine DOps.q rfl rfl rfl (qmove rfl) ?_
    refine DOps.q rfl rfl rfl (qgtrN (b := 0) rfl rfl) ?_
    refine DOps.q rfl rfl rfl (qmove rfl) ?_
    refine DOps.part (t := 23) rfl (fun p40 => ?_) (fun p40 => ?_)
    ·
     refine DOps.qOn rfl rfl rfl rfl rfl (qmove rfl) ?_
     refine DOps.qOn rfl rfl rfl rfl rfl (qmove rfl) ?_
     refine DOps.qOn rfl rfl rfl rfl rfl (qsubN (b := 1) rfl rfl (by omega)) ?_
     obtain ⟨b41, f41, rw41, r41, rc41, n41, k41, e41, l41, g41, cl41, cs41⟩ := Slc.at (i := o2.length - 1) fr_s224.slc (by simp only [bytes_length]; omega) (by omega)
     refine DOps.qOn rfl rfl rfl rfl rfl (qindexS u80 sz5 rfl e41 rfl l41) ?_
     have hc42 := cellOf (off := f41 + (o2.length - 1) * 1) g41 ((elt0 cs41).trans (bytes_get (by omega)))
     refine DOps.qOn rfl rfl rfl rfl rfl (qloadAt ag5 rfl rfl g41 ((elt0 cs41).trans (bytes_get (by omega)))) ?_
     refine DOps.qOn rfl rfl rfl rfl rfl (qmove rfl) ?_
     refine DOps.qOn rfl rfl rfl rfl rfl (qmove rfl) ?_
     refine DOps.qOn rfl rfl rfl rfl rfl (qsix u9 rfl rfl (by omega)) ?_
     refine DOps.lOn rfl rfl rfl rfl rfl (fun _ _ hk43 _ => vcallF rfl (s_other ((l.getD k []).getD i 0) B25) ?_)
     rintro v44 A45 ⟨rfl, rfl⟩
     refine hk43 _ _ (HeldNow.list (L := [(⟨b41, f41 + (o2.length - 1) * 1, none⟩, byt (o2.getD (o2.length - 1) 0))]) (by kernel_rfl) (heldCons hc42 heldNil)) ?_
     refine DOps.qOn rfl rfl rfl rfl rfl (qeqlB rfl rfl) ?_
     refine DOps.q rfl rfl rfl (qpickT rfl rfl) ?_
     refine DOps.done ?_
     exact ⟨EnvLe.cons (show some _ = some _ from congrArg (fun b => some (Value.bool b)) (show (decide ((o2.getD (o2.length - 1) 0) = (((l.getD k []).getD i 0) ^^^ 32))) = decide (0 < o2.length ∧ o2.getD (o2.length - 1) 0 = (l.getD k []).getD i 0 ^^^ 32) from (by first | rfl | simp only [‹0 < _›, true_and] | simp only [‹¬ 0 < _›, false_and, decide_false]))) <| EnvLe.cons rfl <| EnvLe.cons rfl <| EnvLe.cons rfl <| EnvLe.cons rfl <| EnvLe.cons rfl <| EnvLe.cons rfl <| EnvLe.cons rfl <| EnvLe.cons rfl <| EnvLe.cons rfl <| EnvLe.cons rfl <| EnvLe.cons rfl <| EnvLe.cons rfl <| EnvLe.cons rfl <| EnvLe.nil _, rfl, rfl⟩
    ·
     refine DOps.qOff rfl rfl rfl rfl rfl rfl ?_
     refine DOps.qOff rfl rfl rfl rfl rfl rfl ?_
     refine DOps.qOff rfl rfl rfl rfl rfl rfl ?_
     refine DOps.qOff rfl rfl rfl rfl rfl rfl ?_
     refine DOps.qOff rfl rfl rfl rfl rfl rfl ?_
     refine DOps.qOff rfl rfl rfl rfl rfl rfl ?_
     refine DOps.qOff rfl rfl rfl rfl rfl rfl ?_
     refine DOps.qOff rfl rfl rfl rfl rfl rfl ?_
     refine DOps.lOff rfl rfl rfl rfl rfl rfl ?_
     refine DOps.qOff rfl rfl rfl rfl rfl rfl ?_
     refine DOps.q rfl rfl rfl (qpickF rfl rfl) ?_
     refine DOps.done ?_
     exact ⟨EnvLe.cons (show some _ = some _ from congrArg (fun b => some (Value.bool b)) (show (false) = decide (0 < o2.length ∧ o2.getD (o2.length - 1) 0 = (l.getD k []).getD i 0 ^^^ 32) from (by first | rfl | simp only [‹0 < _›, true_and] | simp only [‹¬ 0 < _›, false_and, decide_false]))) <| EnvLe.cons rfl <| EnvLe.cons rfl <| EnvLe.cons rfl <| EnvLe.cons rfl <| EnvLe.cons rfl <| EnvLe.cons rfl <| EnvLe.cons rfl <| EnvLe.cons rfl <| EnvLe.cons rfl <| EnvLe.cons rfl <| EnvLe.cons rfl <| EnvLe.cons rfl <| EnvLe.cons rfl <| EnvLe.nil _, rfl, rfl⟩
   ·
    rintro ⟨fe, fd⟩ _ ⟨hE, rfl, rfl⟩
    refine Run.forget hE ?_
    refine Run.if rfl (fun p47 => ?_) (fun p47 => ?_)
    ·
     refine Run.region ?_
     refine Ops.q rfl (qmove rfl) ?_
     refine Ops.q rfl (qmove rfl) ?_
     refine Ops.q rfl (qsubN (b := 1) rfl rfl (by omega)) ?_
     obtain ⟨b48, n48, c48, q48, m48, d48⟩ := fr_s224.nonnil (by intro q; have := congrArg List.length q; simp only [bytes_length, List.length_nil] at this; omega)
     subst q48
     rw [bytes_length, Nat.mul_one] at m48
     have fr49 := fr_s224.take (k := o2.length - 1) (by omega)
     rw [Nat.mul_one, bytes_take] at fr49
     refine Ops.q rfl (qsliceHi u80 sz5 rfl rfl (by omega)) ?_
     refine Ops.q rfl (qassign rfl) ?_
     refine Ops.nil ?_
     refine h33 _ _ ?_
     refine Run.region ?_
     refine Ops.q rfl (qaddN (b := 1) rfl rfl (by omega)) ?_
     refine Ops.q rfl (qmove rfl) ?_
     refine Ops.nil ?_
     exact ⟨⟨i + 1, o2.take (o2.length - 1), .slice (some ⟨b48, 0, none⟩) (o2.length - 1) c48⟩, EnvLe.cons rfl <| EnvLe.cons rfl <| EnvLe.cons rfl <| EnvLe.cons rfl <| EnvLe.cons rfl <| EnvLe.cons rfl <| EnvLe.cons rfl <| EnvLe.nil _, rfl, ⟨⟨by omega, by first | exact push_go (by assumption) h3 ‹_› | exact push_no (by assumption) h3 ‹_›, by simp only [List.length_append, List.length_take, List.length_cons, List.length_nil]; omega⟩, le24, fr49⟩, (by (try dsimp only); omega)⟩
    ·
     refine Run.region ?_
     refine Ops.q rfl (qmove rfl) ?_
     refine Ops.q rfl (qmove rfl) ?_
     refine Ops.q rfl (qmove rfl) ?_
     refine Ops.q rfl (qsix u9 rfl rfl (by omega)) ?_
     refine Ops.l rfl (fun _ _ hk50 _ => wbuildSlice (c := [byt ((l.getD k []).getD i 0)]) wf26 rfl (buildSliceV_of u80 sz5 z5 rfl (by decide) (by decide) rfl) fun A52 b51 nb53 => ?_)
     have no54 := fr_s224.own.ne_new wf26 nb53.lo
     have ge_b51 := none_of wf (Nat.le_trans le24.n nb53.lo)
     have fr55 := fr_s224.le nb53.le
     have le56 := le24.trans nb53.le
     refine hk50 _ _ ?_
     refine Ops.l rfl (fun _ _ hk57 _ => wappend (ys := [byt ((l.getD k []).getD i 0)]) rfl rfl u80 sz5 inf5 z5 rfl (by decide) u80 (fun _ h => by cases h) fr55.own (listOf_row (n := 1) nb53.get rfl) rfl rfl (by show (_ + _) * 1 ≤ _; simp only [bytes_length, List.length_cons, List.length_nil]; have := hd (by assumption); omega) (by simp only [bytes_length, List.length_cons, List.length_nil]; have := hd (by assumption); omega) fun A58 v59 ap60 => ?_)
     rw [show ([byt ((l.getD k []).getD i 0)] : List Value) = byteCells [(l.getD k []).getD i 0] from rfl, bytes_append] at ap60
     obtain ⟨fr63, le64⟩ := Fresh.grow fr55 le56 wf ap60
     refine hk57 _ _ ?_
     refine Ops.q rfl (qassign rfl) ?_
     refine Ops.nil ?_
     refine h33 _ _ ?_
     refine Run.region ?_
     refine Ops.q rfl (qaddN (b := 1) rfl rfl (by omega)) ?_
     refine Ops.q rfl (qmove rfl) ?_
     refine Ops.nil ?_
     exact ⟨⟨i + 1, o2 ++ [(l.getD k []).getD i 0], v59⟩, EnvLe.cons rfl <| EnvLe.cons rfl <| EnvLe.cons rfl <| EnvLe.cons rfl <| EnvLe.cons rfl <| EnvLe.cons rfl <| EnvLe.cons rfl <| EnvLe.nil _, rfl, ⟨⟨by omega, by first | exact push_go (by assumption) h3 ‹_› | exact push_no (by assumption) h3 ‹_›, by simp only [List.length_append, List.length_take, List.length_cons, List.length_nil]; omega⟩, le64, fr63⟩, (by (try dsimp only); omega)⟩
  ·
   refine Run.exit ?_
   refine h18 _ _ ?_
   refine Run.region ?_
   refine Ops.q rfl (qaddN (b := 1) rfl rfl (by omega)) ?_
   refine Ops.q rfl (qmove rfl) ?_
   refine Ops.nil ?_
   exact ⟨⟨k + 1, o2, s2⟩, EnvLe.cons rfl <| EnvLe.cons rfl <| EnvLe.cons rfl <| EnvLe.cons rfl <| EnvLe.nil _, rfl, ⟨⟨by omega, red_outer (by assumption) h1 (by rw [drop_end (by omega)] at h3; exact h3.symm), by omega⟩, le24, fr_s224⟩, (by (try dsimp only); omega)⟩
 ·
  refine Run.exit ?_
  refine h6 _ _ ?_
  refine Run.seq fun K65 h66 => ?_
  refine Run.region ?_
  refine Ops.q rfl (qmove rfl) ?_
  refine Ops.l rfl (fun _ _ hk67 _ => wtoString (s := o) rfl u80 u9 u5 fr_s9.slc ?_)
  refine hk67 _ _ ?_
  refine Ops.q rfl (qassign rfl) ?_
  refine Ops.nil ?_
  refine h66 _ _ ?_
  refine Run.ret ?_
  repeat first | with_reducible refine thenQ_ret ?_ | with_reducible refine blockQ_ret ?_
  exact retQ rfl (⟨by rw [dropL_end (by omega)] at h1; rw [← h1]; rfl, le9, wf11⟩)

theorem s_Reduce (w : List UInt8) (A : AH) (hw : w.length ≤ 1000000) (hL : Lets A) : RetA Tryz.prog 36 #[str (w)] A (fun v A1 => v = str (wReduce w) ∧ A.le A1 ∧ A1.wf) := by
 refine enterA (e := [(0, str (w))]) (args := [str (w)]) Tryz.call36 Tryz.func36 rfl Tryz.results36 Tryz.ntmps36 rfl rfl rfl (fun wf => ?_)
 have le_ := AH.le.refl A
 refine Run.seq fun K1 h2 => ?_
 refine Run.region ?_
 refine Ops.q rfl (qassign rfl) ?_
 refine Ops.nil ?_
 refine h2 _ _ ?_
 refine Run.seq fun K3 h4 => ?_
 refine Run.seq fun K5 h6 => ?_
 refine Run.region ?_
 refine Ops.q rfl (qmove rfl) ?_
 refine Ops.l rfl (fun _ _ hk7 _ => vcallF rfl (s_is w A hL) ?_)
 rintro v8 A9 ⟨rfl, leq10, wfq10⟩
 have le11 := le_.trans leq10
 refine hk7 _ _ ?_
 refine Ops.q rfl (qnot rfl) ?_
 refine Ops.nil ?_
 refine h6 _ _ ?_
 refine Run.ifB rfl (fun p12 => ?_) (fun p12 => ?_)
 ·
  refine Run.seq fun K13 h14 => ?_
  refine Run.region ?_
  refine Ops.q rfl (qassign rfl) ?_
  refine Ops.nil ?_
  refine h14 _ _ ?_
  refine Run.ret ?_
  repeat first | with_reducible refine thenQ_ret ?_ | with_reducible refine blockQ_ret ?_
  exact retQ rfl (⟨by unfold wReduce; first | (rw [if_pos (by simpa using ‹(!isw w) = false›)]; rfl) | (rw [if_neg (by simpa using ‹(!isw w) = true›)]; rfl), le11, wfq10⟩)
 ·
  refine Run.skip ?_
  refine h4 _ _ ?_
  refine Run.seq fun K15 h16 => ?_
  refine Run.region ?_
  refine Ops.q rfl (qmove rfl) ?_
  refine Ops.l rfl (fun _ _ hk17 _ => wbuildSlice (c := [str (w)]) wfq10 rfl (buildSliceV_of u22 sz9 z9 rfl (by decide) (by decide) rfl) fun A19 b18 nb20 => ?_)
  have ge_b18 := none_of wf (Nat.le_trans le11.n nb20.lo)
  have le21 := le11.trans nb20.le
  refine hk17 _ _ ?_
  refine Ops.l rfl (fun _ _ hk22 _ => vcallF rfl (s_reduce _ ([w]) (red w) A19 (by simp) (by simp; omega) (by simp) (slc_row (n := 1) nb20.get rfl (Nat.le_refl _))) ?_)
  rintro v23 A24 ⟨rfl, leq25, wfq25⟩
  have h26 := leq25.get _ _ nb20.get
  have le27 := le21.trans leq25
  refine hk22 _ _ ?_
  refine Ops.q rfl (qassign rfl) ?_
  refine Ops.nil ?_
  refine h16 _ _ ?_
  refine Run.ret ?_
  repeat first | with_reducible refine thenQ_ret ?_ | with_reducible refine blockQ_ret ?_
  exact retQ rfl (⟨by unfold wReduce; first | (rw [if_pos (by simpa using ‹(!isw w) = false›)]; rfl) | (rw [if_neg (by simpa using ‹(!isw w) = true›)]; rfl), le27, wfq25⟩)

theorem s_Inverse (w : List UInt8) (A : AH) (hw : w.length ≤ 1000000) (hL : Lets A) : RetA Tryz.prog 56 #[str (w)] A (fun v A1 => v = str (wInverse w) ∧ A.le A1 ∧ A1.wf) := by
 refine enterA (e := [(0, str (w))]) (args := [str (w)]) Tryz.call56 Tryz.func56 rfl Tryz.results56 Tryz.ntmps56 rfl rfl rfl (fun wf => ?_)
 have le_ := AH.le.refl A
 refine Run.seq fun K1 h2 => ?_
 refine Run.region ?_
 refine Ops.q rfl (qassign rfl) ?_
 refine Ops.nil ?_
 refine h2 _ _ ?_
 refine Run.seq fun K3 h4 => ?_
 refine Run.seq fun K5 h6 => ?_
 refine Run.region ?_
 refine Ops.q rfl (qmove rfl) ?_
 refine Ops.l rfl (fun _ _ hk7 _ => vcallF rfl (s_is w A hL) ?_)
 rintro v8 A9 ⟨rfl, leq10, wfq10⟩
 have le11 := le_.trans leq10
 refine hk7 _ _ ?_
 refine Ops.q rfl (qnot rfl) ?_
 refine Ops.nil ?_
 refine h6 _ _ ?_
 refine Run.ifB rfl (fun p12 => ?_) (fun p12 => ?_)
 ·
  refine Run.seq fun K13 h14 => ?_
  refine Run.region ?_
  refine Ops.q rfl (qassign rfl) ?_
  refine Ops.nil ?_
  refine h14 _ _ ?_
  refine Run.ret ?_
  repeat first | with_reducible refine thenQ_ret ?_ | with_reducible refine blockQ_ret ?_
  exact retQ rfl (⟨by unfold wInverse; first | (rw [if_pos (by simpa using ‹(!isw w) = false›)]; rfl) | (rw [if_neg (by simpa using ‹(!isw w) = true›)]; rfl), le11, wfq10⟩)
 ·
  refine Run.skip ?_
  refine h4 _ _ ?_
  refine Run.seq fun K15 h16 => ?_
  refine Run.region ?_
  refine Ops.q rfl (qmove rfl) ?_
  refine Ops.l rfl (fun _ _ hk17 _ => vcallF rfl (s_inverse w A9 (by first | omega | (simp only [List.length_append, List.length_drop, List.length_take, inv_length]; omega))) ?_)
  rintro v18 A19 ⟨rfl, leq20, wfq20⟩
  have le21 := le11.trans leq20
  refine hk17 _ _ ?_
  refine Ops.q rfl (qassign rfl) ?_
  refine Ops.nil ?_
  refine h16 _ _ ?_
  refine Run.ret ?_
  repeat first | with_reducible refine thenQ_ret ?_ | with_reducible refine blockQ_ret ?_
  exact retQ rfl (⟨by unfold wInverse; first | (rw [if_pos (by simpa using ‹(!isw w) = false›)]; rfl) | (rw [if_neg (by simpa using ‹(!isw w) = true›)]; rfl), le21, wfq20⟩)

theorem s_cyclic (w : List UInt8) (A : AH) (hw : w.length ≤ 1000000) : RetA Tryz.prog 77 #[str (w)] A (fun v A1 => v = .tuple #[str (core w), str (conj w)] ∧ A.le A1 ∧ A1.wf) := by
 refine enterA (e := [(0, str (w))]) (args := [str (w)]) Tryz.call77 Tryz.func77 rfl Tryz.results77 Tryz.ntmps77 rfl rfl rfl (fun wf => ?_)
 have le_ := AH.le.refl A
 refine Run.seq fun K1 h2 => ?_
 refine Run.region ?_
 refine Ops.q rfl (qassign rfl) ?_
 refine Ops.q rfl (qassign rfl) ?_
 refine Ops.nil ?_
 refine h2 _ _ ?_
 refine Run.seq fun K3 h4 => ?_
 refine Run.region ?_
 refine Ops.q rfl (qmove rfl) ?_
 refine Ops.l rfl (fun _ _ hk5 _ => wbuildSlice (c := [str (w)]) wf rfl (buildSliceV_of u22 sz9 z9 rfl (by decide) (by decide) rfl) fun A7 b6 nb8 => ?_)
 have ge_b6 := none_of wf (Nat.le_trans le_.n nb8.lo)
 have le9 := le_.trans nb8.le
 refine hk5 _ _ ?_
 refine Ops.l rfl (fun _ _ hk10 _ => vcallF rfl (s_reduce _ ([w]) (red w) A7 (by simp) (by simp; omega) (by simp) (slc_row (n := 1) nb8.get rfl (Nat.le_refl _))) ?_)
 rintro v11 A12 ⟨rfl, leq13, wfq13⟩
 have h14 := leq13.get _ _ nb8.get
 have le15 := le9.trans leq13
 refine hk10 _ _ ?_
 refine Ops.q rfl (qassign rfl) ?_
 refine Ops.nil ?_
 refine h4 _ _ ?_
 refine Run.seq fun K16 h17 => ?_
 refine Run.region ?_
 refine Ops.q rfl (qassign rfl) ?_
 refine Ops.nil ?_
 refine h17 _ _ ?_
 refine Run.seq fun K18 h19 => ?_
 refine Run.block ?_
 refine Run.loop (X := Nat) (fun n => [(2, str (red w)), (4, num ((n : Nat) : Int))]) (fun n B => (n ≤ cycN (red w)) ∧ A12 = B) (fun n => (red w).length - n) 0 (EnvLe.cons rfl <| EnvLe.cons rfl <| EnvLe.nil _) (⟨Nat.zero_le _, rfl⟩) ?_
 rintro n B21 ⟨hn, rfl⟩
 have hc := cycN_half (red w)
 have hrl := red_length w
 refine Run.seq fun K22 h23 => ?_
 refine Run.join (fun f A1 => EnvLe [(27, .bool (decide (2 * n + 2 ≤ (red w).length ∧ (red w).getD n 0 = (red w).getD ((red w).length - 1 - n) 0 ^^^ 32))), (2, str (red w)), (4, num ((n : Nat) : Int))] f.e ∧ f.ds = [] ∧ A12 = A1) ?_ ?_
 ·
  refine Run.drawn [0, 1, 2, 3, 4, 5, 6, 7, 8, 9, 10, 11, 12, 13, 14, 15, 16, 17, 18, 19] mixed (by kernel_rfl) (by kernel_rfl) rfl ?_
  refine DOps.q rfl rfl rfl (qmove rfl) ?_
  refine DOps.q rfl rfl rfl (qslen u9 rfl) ?_
  refine DOps.q rfl rfl rfl (qmove rfl) ?_
  refine DOps.q rfl rfl rfl (qmulN (a := 2) rfl rfl (by omega)) ?_
  refine DOps.q rfl rfl rfl (qsubN rfl rfl (by omega)) ?_
  refine DOps.q rfl rfl rfl (qgeqN (b := 2) rfl rfl) ?_
  refine DOps.q rfl rfl rfl (qmove rfl) ?_
  refine DOps.part (t := 14) rfl (fun p26 => ?_) (fun p26 => ?_)
  ·
   refine DOps.qOn rfl rfl rfl rfl rfl (qmove rfl) ?_
   refine DOps.qOn rfl rfl rfl rfl rfl (qmove rfl) ?_
   refine DOps.qOn rfl rfl rfl rfl rfl (qsix u9 rfl rfl (by omega)) ?_
   refine DOps.qOn rfl rfl rfl rfl rfl (qmove rfl) ?_
   refine DOps.qOn rfl rfl rfl rfl rfl (qmove rfl) ?_
   refine DOps.qOn rfl rfl rfl rfl rfl (qslen u9 rfl) ?_
   refine DOps.qOn rfl rfl rfl rfl rfl (qsubN (b := 1) rfl rfl (by omega)) ?_
   refine DOps.qOn rfl rfl rfl rfl rfl (qmove rfl) ?_
   refine DOps.qOn rfl rfl rfl rfl rfl (qsubN rfl rfl (by omega)) ?_
   refine DOps.qOn rfl rfl rfl rfl rfl (qsix u9 rfl rfl (by omega)) ?_
   refine DOps.lOn rfl rfl rfl rfl rfl (fun _ _ hk27 _ => vcallF rfl (s_other ((red w).getD ((((red w).length) - 1) - n) 0) A12) ?_)
   rintro v28 A29 ⟨rfl, rfl⟩
   refine hk27 _ _ (HeldNow.none (by kernel_rfl)) ?_
   refine DOps.qOn rfl rfl rfl rfl rfl (qeqlB rfl rfl) ?_
   refine DOps.q rfl rfl rfl (qpickT rfl rfl) ?_
   refine DOps.done ?_
   exact ⟨EnvLe.cons (show some _ = some _ from congrArg (fun b => some (Value.bool b)) (show (decide (((red w).getD n 0) = (((red w).getD ((((red w).length) - 1) - n) 0) ^^^ 32))) = decide (2 * n + 2 ≤ (red w).length ∧ (red w).getD n 0 = (red w).getD ((red w).length - 1 - n) 0 ^^^ 32) from (by first | simp only [show 2 * n + 2 ≤ (red w).length from by omega, true_and] | simp only [show ¬ 2 * n + 2 ≤ (red w).length from by omega, false_and, decide_false]))) <| EnvLe.cons rfl <| EnvLe.cons rfl <| EnvLe.nil _, rfl, rfl⟩
  ·
   refine DOps.qOff rfl rfl rfl rfl rfl rfl ?_
   refine DOps.qOff rfl rfl rfl rfl rfl rfl ?_
   refine DOps.qOff rfl rfl rfl rfl rfl rfl ?_
   refine DOps.qOff rfl rfl rfl rfl rfl rfl ?_
   refine DOps.qOff rfl rfl rfl rfl rfl rfl ?_
   refine DOps.qOff rfl rfl rfl rfl rfl rfl ?_
   refine DOps.qOff rfl rfl rfl rfl rfl rfl ?_
   refine DOps.qOff rfl rfl rfl rfl rfl rfl ?_
   refine DOps.qOff rfl rfl rfl rfl rfl rfl ?_
   refine DOps.qOff rfl rfl rfl rfl rfl rfl ?_
   refine DOps.lOff rfl rfl rfl rfl rfl rfl ?_
   refine DOps.qOff rfl rfl rfl rfl rfl rfl ?_
   refine DOps.q rfl rfl rfl (qpickF rfl rfl) ?_
   refine DOps.done ?_
   exact ⟨EnvLe.cons (show some _ = some _ from congrArg (fun b => some (Value.bool b)) (show (false) = decide (2 * n + 2 ≤ (red w).length ∧ (red w).getD n 0 = (red w).getD ((red w).length - 1 - n) 0 ^^^ 32) from (by first | simp only [show 2 * n + 2 ≤ (red w).length from by omega, true_and] | simp only [show ¬ 2 * n + 2 ≤ (red w).length from by omega, false_and, decide_false]))) <| EnvLe.cons rfl <| EnvLe.cons rfl <| EnvLe.nil _, rfl, rfl⟩
 ·
  rintro ⟨fe, fd⟩ _ ⟨hE, rfl, rfl⟩
  refine Run.forget hE ?_
  refine Run.if rfl (fun p31 => ?_) (fun p31 => ?_)
  ·
   refine Run.skip ?_
   refine h23 _ _ ?_
   refine Run.block ?_
   refine Run.region ?_
   refine Ops.q rfl (qmove rfl) ?_
   refine Ops.q rfl (qaddN (b := 1) rfl rfl (by omega)) ?_
   refine Ops.q rfl (qassign rfl) ?_
   refine Ops.nil ?_
   exact ⟨n + 1, EnvLe.cons rfl <| EnvLe.cons rfl <| EnvLe.nil _, rfl, ⟨(cycN_go hn ‹_›), rfl⟩, (by (try dsimp only); omega)⟩
  ·
   refine Run.exit ?_
   refine h19 _ _ ?_
   refine Run.seq fun K32 h33 => ?_
   refine Run.drawn [0, 1, 2, 3, 4, 5, 6, 7, 8, 9, 10, 11] mixed (by kernel_rfl) (by kernel_rfl) rfl ?_
   refine DOps.q rfl rfl rfl (qmove rfl) ?_
   refine DOps.q rfl rfl rfl (qmove rfl) ?_
   refine DOps.q rfl rfl rfl (qmove rfl) ?_
   refine DOps.q rfl rfl rfl (qslen u9 rfl) ?_
   refine DOps.q rfl rfl rfl (qmove rfl) ?_
   refine DOps.q rfl rfl rfl (qsubN rfl rfl (by omega)) ?_
   refine DOps.q rfl rfl rfl (qsl u9 rfl rfl rfl (by omega)) ?_
   refine DOps.q rfl rfl rfl (qmove rfl) ?_
   refine DOps.q rfl rfl rfl (qmove rfl) ?_
   refine DOps.q rfl rfl rfl (qslHi u9 rfl rfl (by omega)) ?_
   refine DOps.q rfl rfl rfl (qassign rfl) ?_
   refine DOps.q rfl rfl rfl (qassign rfl) ?_
   refine DOps.done ?_
   refine h33 _ _ ?_
   refine Run.ret ?_
   repeat first | with_reducible refine thenQ_ret ?_ | with_reducible refine blockQ_ret ?_
   exact retQ rfl (⟨by rw [cycN_stop hn ‹_›]; rfl, le15, wfq13⟩)

theorem s_Cyclic (w : List UInt8) (A : AH) (hw : w.length ≤ 1000000) (hL : Lets A) : RetA Tryz.prog 45 #[str (w)] A (fun v A1 => v = .tuple #[str (wCore w), str (wConj w)] ∧ A.le A1 ∧ A1.wf) := by
 refine enterA (e := [(0, str (w))]) (args := [str (w)]) Tryz.call45 Tryz.func45 rfl Tryz.results45 Tryz.ntmps45 rfl rfl rfl (fun wf => ?_)
 have le_ := AH.le.refl A
 refine Run.seq fun K1 h2 => ?_
 refine Run.region ?_
 refine Ops.q rfl (qassign rfl) ?_
 refine Ops.q rfl (qassign rfl) ?_
 refine Ops.nil ?_
 refine h2 _ _ ?_
 refine Run.seq fun K3 h4 => ?_
 refine Run.seq fun K5 h6 => ?_
 refine Run.region ?_
 refine Ops.q rfl (qmove rfl) ?_
 refine Ops.l rfl (fun _ _ hk7 _ => vcallF rfl (s_is w A hL) ?_)
 rintro v8 A9 ⟨rfl, leq10, wfq10⟩
 have le11 := le_.trans leq10
 refine hk7 _ _ ?_
 refine Ops.q rfl (qnot rfl) ?_
 refine Ops.nil ?_
 refine h6 _ _ ?_
 refine Run.ifB rfl (fun p12 => ?_) (fun p12 => ?_)
 ·
  refine Run.seq fun K13 h14 => ?_
  refine Run.region ?_
  refine Ops.q rfl (qassign rfl) ?_
  refine Ops.q rfl (qassign rfl) ?_
  refine Ops.nil ?_
  refine h14 _ _ ?_
  refine Run.ret ?_
  repeat first | with_reducible refine thenQ_ret ?_ | with_reducible refine blockQ_ret ?_
  exact retQ rfl (⟨by unfold wCore wConj; first | (rw [if_pos (by simpa using ‹(!isw w) = false›), if_pos (by simpa using ‹(!isw w) = false›)]; rfl) | (rw [if_neg (by simpa using ‹(!isw w) = true›), if_neg (by simpa using ‹(!isw w) = true›)]; rfl), le11, wfq10⟩)
 ·
  refine Run.skip ?_
  refine h4 _ _ ?_
  refine Run.seq fun K15 h16 => ?_
  refine Run.region ?_
  refine Ops.q rfl (qmove rfl) ?_
  refine Ops.l rfl (fun _ _ hk17 _ => vcallF rfl (s_cyclic w A9 (by first | omega | (simp only [List.length_append, List.length_drop, List.length_take, inv_length]; omega))) ?_)
  rintro v18 A19 ⟨rfl, leq20, wfq20⟩
  have le21 := le11.trans leq20
  refine hk17 _ _ ?_
  refine Ops.q rfl (qextract rfl rfl) ?_
  refine Ops.q rfl (qextract rfl rfl) ?_
  refine Ops.q rfl (qassign rfl) ?_
  refine Ops.q rfl (qassign rfl) ?_
  refine Ops.nil ?_
  refine h16 _ _ ?_
  refine Run.ret ?_
  repeat first | with_reducible refine thenQ_ret ?_ | with_reducible refine blockQ_ret ?_
  exact retQ rfl (⟨by unfold wCore wConj; first | (rw [if_pos (by simpa using ‹(!isw w) = false›), if_pos (by simpa using ‹(!isw w) = false›)]; rfl) | (rw [if_neg (by simpa using ‹(!isw w) = true›), if_neg (by simpa using ‹(!isw w) = true›)]; rfl), le21, wfq20⟩)

theorem s_compare (x y : List UInt8) (A : AH) (hx : x.length ≤ 1000000) (hy : y.length ≤ 1000000) (hL : Lets A) : RetA Tryz.prog 94 #[str (x), str (y)] A (fun v A1 => v = num (cmpw x y) ∧ A = A1) := by
 refine enterA (e := [(0, str (x)), (1, str (y))]) (args := [str (x), str (y)]) Tryz.call94 Tryz.func94 rfl Tryz.results94 Tryz.ntmps94 rfl rfl rfl (fun wf => ?_)
 have le_ := AH.le.refl A
 refine Run.seq fun K1 h2 => ?_
 refine Run.region ?_
 refine Ops.q rfl (qassign rfl) ?_
 refine Ops.nil ?_
 refine h2 _ _ ?_
 refine Run.seq fun K3 h4 => ?_
 refine Run.seq fun K5 h6 => ?_
 refine Run.region ?_
 refine Ops.q rfl (qmove rfl) ?_
 refine Ops.q rfl (qslen u9 rfl) ?_
 refine Ops.q rfl (qmove rfl) ?_
 refine Ops.q rfl (qslen u9 rfl) ?_
 refine Ops.q rfl (qneqN rfl rfl) ?_
 refine Ops.nil ?_
 refine h6 _ _ ?_
 refine Run.if rfl (fun p7 => ?_) (fun p7 => ?_)
 ·
  refine Run.seq fun K8 h9 => ?_
  refine Run.seq fun K10 h11 => ?_
  refine Run.region ?_
  refine Ops.q rfl (qmove rfl) ?_
  refine Ops.q rfl (qslen u9 rfl) ?_
  refine Ops.q rfl (qmove rfl) ?_
  refine Ops.q rfl (qslen u9 rfl) ?_
  refine Ops.q rfl (qlssN rfl rfl) ?_
  refine Ops.nil ?_
  refine h11 _ _ ?_
  refine Run.if rfl (fun p12 => ?_) (fun p12 => ?_)
  ·
   refine Run.seq fun K13 h14 => ?_
   refine Run.region ?_
   refine Ops.q rfl (qassign rfl) ?_
   refine Ops.nil ?_
   refine h14 _ _ ?_
   refine Run.ret ?_
   repeat first | with_reducible refine thenQ_ret ?_ | with_reducible refine blockQ_ret ?_
   exact retQ rfl (⟨by first | (rw [cmpl_end (by omega)] at hc; rw [← hc]; rfl) | (rw [cmpl_step (by omega) (by omega), if_pos ‹_›] at hc; rw [← hc]; rfl) | (rw [cmpl_step (by omega) (by omega), if_neg ‹_›, if_pos ‹_›] at hc; rw [← hc]; rfl) | simp_all [oneV, cmpw], rfl⟩)
  ·
   refine Run.skip ?_
   refine h9 _ _ ?_
   refine Run.seq fun K15 h16 => ?_
   refine Run.region ?_
   refine Ops.q rfl (qassign rfl) ?_
   refine Ops.nil ?_
   refine h16 _ _ ?_
   refine Run.ret ?_
   repeat first | with_reducible refine thenQ_ret ?_ | with_reducible refine blockQ_ret ?_
   exact retQ rfl (⟨by first | (rw [cmpl_end (by omega)] at hc; rw [← hc]; rfl) | (rw [cmpl_step (by omega) (by omega), if_pos ‹_›] at hc; rw [← hc]; rfl) | (rw [cmpl_step (by omega) (by omega), if_neg ‹_›, if_pos ‹_›] at hc; rw [← hc]; rfl) | simp_all [oneV, cmpw], rfl⟩)
 ·
  refine Run.skip ?_
  refine h4 _ _ ?_
  refine Run.seq fun K17 h18 => ?_
  refine Run.seq fun K19 h20 => ?_
  refine Run.region ?_
  refine Ops.q rfl (qmove rfl) ?_
  refine Ops.q rfl (qslen u9 rfl) ?_
  refine Ops.q rfl (qmove rfl) ?_
  refine Ops.nil ?_
  refine h20 _ _ ?_
  refine Run.block ?_
  refine Run.loop (X := Nat) (fun k => [(0, str (x)), (1, str (y)), (19, num ((x.length : Nat) : Int)), (20, num ((k : Nat) : Int))]) (fun k B => (k ≤ x.length ∧ cmpl (x.drop k) (y.drop k) = cmpw x y) ∧ A = B) (fun k => x.length - k) 0 (EnvLe.cons rfl <| EnvLe.cons rfl <| EnvLe.cons rfl <| EnvLe.cons rfl <| EnvLe.nil _) (⟨⟨Nat.zero_le _, (cmpw_eq ‹_›).symm⟩, rfl⟩) ?_
  rintro k B22 ⟨⟨hk, hc⟩, rfl⟩
  refine Run.seq fun K23 h24 => ?_
  refine Run.region ?_
  refine Ops.q rfl (qlssN rfl rfl) ?_
  refine Ops.nil ?_
  refine h24 _ _ ?_
  refine Run.seq fun K25 h26 => ?_
  refine Run.if rfl (fun p27 => ?_) (fun p27 => ?_)
  ·
   refine Run.skip ?_
   refine h26 _ _ ?_
   refine Run.seq fun K28 h29 => ?_
   refine Run.block ?_
   refine Run.seq fun K30 h31 => ?_
   refine Run.region ?_
   refine Ops.q rfl (qmove rfl) ?_
   refine Ops.q rfl (qassign rfl) ?_
   refine Ops.nil ?_
   refine h31 _ _ ?_
   refine Run.seq fun K32 h33 => ?_
   refine Run.drawn [0, 1, 2, 4, 5, 6, 3, 7, 8, 9] mixed (by kernel_rfl) (by kernel_rfl) rfl ?_
   refine DOps.q rfl rfl rfl (qmove rfl) ?_
   refine DOps.q rfl rfl rfl (qmove rfl) ?_
   refine DOps.q rfl rfl rfl (qsix u9 rfl rfl (by omega)) ?_
   refine DOps.q rfl rfl rfl (qmove rfl) ?_
   refine DOps.q rfl rfl rfl (qmove rfl) ?_
   refine DOps.q rfl rfl rfl (qsix u9 rfl rfl (by omega)) ?_
   refine DOps.l rfl rfl rfl (fun _ _ hk34 _ => vcallF rfl (s_Index (x.getD k 0) A hL) ?_)
   rintro v35 A36 ⟨rfl, rfl⟩
   refine hk34 _ _ (HeldNow.none (by kernel_rfl)) ?_
   refine DOps.l rfl rfl rfl (fun _ _ hk38 _ => vcallF rfl (s_Index (y.getD k 0) A hL) ?_)
   rintro v39 A40 ⟨rfl, rfl⟩
   refine hk38 _ _ (HeldNow.none (by kernel_rfl)) ?_
   refine DOps.q rfl rfl rfl (qassign rfl) ?_
   refine DOps.q rfl rfl rfl (qassign rfl) ?_
   refine DOps.done ?_
   refine h33 _ _ ?_
   refine Run.block ?_
   refine Run.seq fun K42 h43 => ?_
   refine Run.region ?_
   refine Ops.q rfl (qmove rfl) ?_
   refine Ops.q rfl (qmove rfl) ?_
   refine Ops.q rfl (qlss rfl rfl) ?_
   refine Ops.q rfl (qassign rfl) ?_
   refine Ops.nil ?_
   refine h43 _ _ ?_
   refine Run.if rfl (fun p44 => ?_) (fun p44 => ?_)
   ·
    refine Run.seq fun K45 h46 => ?_
    refine Run.region ?_
    refine Ops.q rfl (qassign rfl) ?_
    refine Ops.nil ?_
    refine h46 _ _ ?_
    refine Run.ret ?_
    repeat first | with_reducible refine thenQ_ret ?_ | with_reducible refine blockQ_ret ?_
    exact retQ rfl (⟨by first | (rw [cmpl_end (by omega)] at hc; rw [← hc]; rfl) | (rw [cmpl_step (by omega) (by omega), if_pos ‹_›] at hc; rw [← hc]; rfl) | (rw [cmpl_step (by omega) (by omega), if_neg ‹_›, if_pos ‹_›] at hc; rw [← hc]; rfl) | simp_all [oneV, cmpw], rfl⟩)
   ·
    refine Run.seq fun K47 h48 => ?_
    refine Run.region ?_
    refine Ops.q rfl (qmove rfl) ?_
    refine Ops.q rfl (qmove rfl) ?_
    refine Ops.q rfl (qgtr rfl rfl) ?_
    refine Ops.q rfl (qassign rfl) ?_
    refine Ops.nil ?_
    refine h48 _ _ ?_
    refine Run.if rfl (fun p49 => ?_) (fun p49 => ?_)
    ·
     refine Run.seq fun K50 h51 => ?_
     refine Run.region ?_
     refine Ops.q rfl (qassign rfl) ?_
     refine Ops.nil ?_
     refine h51 _ _ ?_
     refine Run.ret ?_
     repeat first | with_reducible refine thenQ_ret ?_ | with_reducible refine blockQ_ret ?_
     exact retQ rfl (⟨by first | (rw [cmpl_end (by omega)] at hc; rw [← hc]; rfl) | (rw [cmpl_step (by omega) (by omega), if_pos ‹_›] at hc; rw [← hc]; rfl) | (rw [cmpl_step (by omega) (by omega), if_neg ‹_›, if_pos ‹_›] at hc; rw [← hc]; rfl) | simp_all [oneV, cmpw], rfl⟩)
    ·
     refine Run.skip ?_
     refine h29 _ _ ?_
     refine Run.region ?_
     refine Ops.q rfl (qaddN (b := 1) rfl rfl (by omega)) ?_
     refine Ops.q rfl (qmove rfl) ?_
     refine Ops.nil ?_
     exact ⟨k + 1, EnvLe.cons rfl <| EnvLe.cons rfl <| EnvLe.cons rfl <| EnvLe.cons rfl <| EnvLe.nil _, rfl, ⟨⟨by omega, by rw [cmpl_step (by omega) (by omega), if_neg ‹_›, if_neg ‹_›] at hc; exact hc⟩, rfl⟩, (by (try dsimp only); omega)⟩
  ·
   refine Run.exit ?_
   refine h18 _ _ ?_
   refine Run.seq fun K52 h53 => ?_
   refine Run.region ?_
   refine Ops.q rfl (qassign rfl) ?_
   refine Ops.nil ?_
   refine h53 _ _ ?_
   refine Run.ret ?_
   repeat first | with_reducible refine thenQ_ret ?_ | with_reducible refine blockQ_ret ?_
   exact retQ rfl (⟨by first | (rw [cmpl_end (by omega)] at hc; rw [← hc]; rfl) | (rw [cmpl_step (by omega) (by omega), if_pos ‹_›] at hc; rw [← hc]; rfl) | (rw [cmpl_step (by omega) (by omega), if_neg ‹_›, if_pos ‹_›] at hc; rw [← hc]; rfl) | simp_all [oneV, cmpw], rfl⟩)

theorem s_Compare (x y : List UInt8) (A : AH) (hx : x.length ≤ 1000000) (hy : y.length ≤ 1000000) (hL : Lets A) : RetA Tryz.prog 60 #[str (x), str (y)] A (fun v A1 => v = num (wCompare x y) ∧ A.le A1 ∧ A1.wf) := by
 refine enterA (e := [(0, str (x)), (1, str (y))]) (args := [str (x), str (y)]) Tryz.call60 Tryz.func60 rfl Tryz.results60 Tryz.ntmps60 rfl rfl rfl (fun wf => ?_)
 have le_ := AH.le.refl A
 refine Run.seq fun K1 h2 => ?_
 refine Run.region ?_
 refine Ops.q rfl (qassign rfl) ?_
 refine Ops.nil ?_
 refine h2 _ _ ?_
 refine Run.seq fun K3 h4 => ?_
 refine Run.seq fun K5 h6 => ?_
 refine Run.region ?_
 refine Ops.q rfl (qmove rfl) ?_
 refine Ops.l rfl (fun _ _ hk7 _ => vcallF rfl (s_is x A hL) ?_)
 rintro v8 A9 ⟨rfl, leq10, wfq10⟩
 have le11 := le_.trans leq10
 refine hk7 _ _ ?_
 refine Ops.q rfl (qnot rfl) ?_
 refine Ops.q rfl (qmove rfl) ?_
 refine Ops.partB (t := 8) rfl (fun p12 => ?_) (fun p12 => ?_)
 ·
  refine Ops.off rfl rfl rfl rfl ?_
  refine Ops.off rfl rfl rfl rfl ?_
  refine Ops.off rfl rfl rfl rfl ?_
  refine Ops.q rfl (qpickT rfl rfl) ?_
  refine Ops.nil ?_
  refine h6 _ _ ?_
  refine Run.cond_true rfl ?_
  refine Run.seq fun K13 h14 => ?_
  refine Run.region ?_
  refine Ops.q rfl (qassign rfl) ?_
  refine Ops.nil ?_
  refine h14 _ _ ?_
  refine Run.ret ?_
  repeat first | with_reducible refine thenQ_ret ?_ | with_reducible refine blockQ_ret ?_
  exact retQ rfl (⟨by simp_all [oneV, wCompare], le11, wfq10⟩)
 ·
  refine Ops.on rfl rfl ?_
  refine Ops.q rfl (qmove rfl) ?_
  refine Ops.on rfl rfl ?_
  refine Ops.l rfl (fun _ _ hk15 _ => vcallF rfl (s_is y A9 (hL.le le11)) ?_)
  rintro v16 A17 ⟨rfl, leq18, wfq18⟩
  have le19 := le11.trans leq18
  refine hk15 _ _ ?_
  refine Ops.on rfl rfl ?_
  refine Ops.q rfl (qnot rfl) ?_
  refine Ops.q rfl (qpickF rfl rfl) ?_
  refine Ops.nil ?_
  refine h6 _ _ ?_
  refine Run.ifB rfl (fun p20 => ?_) (fun p20 => ?_)
  ·
   refine Run.seq fun K21 h22 => ?_
   refine Run.region ?_
   refine Ops.q rfl (qassign rfl) ?_
   refine Ops.nil ?_
   refine h22 _ _ ?_
   refine Run.ret ?_
   repeat first | with_reducible refine thenQ_ret ?_ | with_reducible refine blockQ_ret ?_
   exact retQ rfl (⟨by simp_all [oneV, wCompare], le19, wfq18⟩)
  ·
   refine Run.skip ?_
   refine h4 _ _ ?_
   refine Run.seq fun K23 h24 => ?_
   refine Run.region ?_
   refine Ops.q rfl (qmove rfl) ?_
   refine Ops.q rfl (qmove rfl) ?_
   refine Ops.l rfl (fun _ _ hk25 _ => vcallF rfl (s_compare x y A17 (by first | omega | (simp only [List.length_append, List.length_drop, List.length_take, inv_length]; omega)) (by first | omega | (simp only [List.length_append, List.length_drop, List.length_take, inv_length]; omega)) (hL.le le19)) ?_)
   rintro v26 A27 ⟨rfl, rfl⟩
   refine hk25 _ _ ?_
   refine Ops.q rfl (qassign rfl) ?_
   refine Ops.nil ?_
   refine h24 _ _ ?_
   refine Run.ret ?_
   repeat first | with_reducible refine thenQ_ret ?_ | with_reducible refine blockQ_ret ?_
   exact retQ rfl (⟨by simp_all [oneV, wCompare], le19, wfq18⟩)
end Go.Proofs.YtaccklloepfemaaGreatDoor
