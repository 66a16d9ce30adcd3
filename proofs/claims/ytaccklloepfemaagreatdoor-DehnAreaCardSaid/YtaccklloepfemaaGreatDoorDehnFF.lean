/- The contracts of the functions, one by one: what each comes to. -/
import Derived.Test.YtaccklloepfemaaGreatDoorDehnFE
namespace Go.Proofs.YtaccklloepfemaaGreatDoor
open Go Go.RowKit V
set_option maxRecDepth 100000
set_option linter.unusedVariables false
set_option linter.unusedSimpArgs false
theorem ag27 : aggOf Tryz.prog 27 = some false := by kernel_rfl
theorem ag32 : aggOf Tryz.prog 32 = some true := by kernel_rfl
theorem fl29_0 : fldOf Tryz.prog 29 0 = some (9, 0) := by kernel_rfl
theorem fl29_1 : fldOf Tryz.prog 29 1 = some (3, 1) := by kernel_rfl
theorem fl29_2 : fldOf Tryz.prog 29 2 = some (27, 2) := by kernel_rfl
theorem pl32 : structPlaces Tryz.prog 32 = some [(0, 1), (1, 1)] := by kernel_rfl
theorem sz27 : szOf Tryz.prog 27 = some 1 := by kernel_rfl
theorem sz32 : szOf Tryz.prog 32 = some 2 := by kernel_rfl
theorem u32 : type_of% @Tryz.underlying32 := @Tryz.underlying32
theorem z32 : zeroOf Tryz.prog 32 = some (.agg #[.bool false, .int .i64 0]) := by kernel_rfl

theorem s_R4Index (c : UInt8) (g : Int) (A : AH) (hg : 1 ≤ g ∧ g ≤ 8) : RetA Tryz.prog 85 #[byt (c), num (g)] A (fun v A1 => v = num (ix4 g c) ∧ A = A1) := by
 refine enterA (e := [(0, byt (c)), (1, num (g))]) (args := [byt (c), num (g)]) Tryz.call85 Tryz.func85 rfl Tryz.results85 Tryz.ntmps85 rfl rfl rfl (fun wf => ?_)
 have le_ := AH.le.refl A
 have hb1 := (c - 97).toNat_lt
 have hb2 := (c - 65).toNat_lt
 refine Run.seq fun K1 h2 => ?_
 refine Run.region ?_
 refine Ops.q rfl (qassign rfl) ?_
 refine Ops.nil ?_
 refine h2 _ _ ?_
 refine Run.seq fun K3 h4 => ?_
 refine Run.block ?_
 refine Run.seq fun K5 h6 => ?_
 refine Run.region ?_
 refine Ops.q rfl (qmove rfl) ?_
 refine Ops.q rfl (qgeqB (d := 97) rfl rfl) ?_
 refine Ops.q rfl (qmove rfl) ?_
 refine Ops.part (t := 8) rfl (fun p7 => ?_) (fun p7 => ?_)
 ·
  refine Ops.on rfl rfl ?_
  refine Ops.q rfl (qmove rfl) ?_
  refine Ops.on rfl rfl ?_
  refine Ops.q rfl (qsubB (d := 97) rfl rfl) ?_
  refine Ops.on rfl rfl ?_
  refine Ops.q rfl (qconvB u5 u3 rfl) ?_
  refine Ops.on rfl rfl ?_
  refine Ops.q rfl (qmove rfl) ?_
  refine Ops.on rfl rfl ?_
  refine Ops.q rfl (qlss rfl rfl) ?_
  refine Ops.q rfl (qpickT rfl rfl) ?_
  refine Ops.q rfl (qassign rfl) ?_
  refine Ops.nil ?_
  refine h6 _ _ ?_
  refine Run.if rfl (fun p8 => ?_) (fun p8 => ?_)
  ·
   refine Run.seq fun K9 h10 => ?_
   refine Run.region ?_
   refine Ops.q rfl (qmove rfl) ?_
   refine Ops.q rfl (qsubB (d := 97) rfl rfl) ?_
   refine Ops.q rfl (qconvB u5 u3 rfl) ?_
   refine Ops.q rfl (qmulN (a := 2) rfl rfl (by omega)) ?_
   refine Ops.q rfl (qassign rfl) ?_
   refine Ops.nil ?_
   refine h10 _ _ ?_
   refine Run.ret ?_
   repeat first | with_reducible refine thenQ_ret ?_ | with_reducible refine blockQ_ret ?_
   exact retQ rfl (⟨by first | (rw [← ix4_small hg ‹_› ‹_›]; rfl) | (rw [← ix4_big hg ‹_› ‹_›]; rfl) | (rw [ix4_no (fun h => by first | exact ‹¬ (97 : UInt8) ≤ c› h.1 | exact ‹¬ (((c - 97).toNat : Nat) : Int) < g› h.2) (fun h => by first | exact ‹¬ (65 : UInt8) ≤ c› h.1 | exact ‹¬ (((c - 65).toNat : Nat) : Int) < g› h.2)]; rfl), rfl⟩)
  ·
   refine Run.seq fun K11 h12 => ?_
   refine Run.region ?_
   refine Ops.q rfl (qmove rfl) ?_
   refine Ops.q rfl (qgeqB (d := 65) rfl rfl) ?_
   refine Ops.q rfl (qmove rfl) ?_
   refine Ops.part (t := 22) rfl (fun p13 => ?_) (fun p13 => ?_)
   ·
    refine Ops.on rfl rfl ?_
    refine Ops.q rfl (qmove rfl) ?_
    refine Ops.on rfl rfl ?_
    refine Ops.q rfl (qsubB (d := 65) rfl rfl) ?_
    refine Ops.on rfl rfl ?_
    refine Ops.q rfl (qconvB u5 u3 rfl) ?_
    refine Ops.on rfl rfl ?_
    refine Ops.q rfl (qmove rfl) ?_
    refine Ops.on rfl rfl ?_
    refine Ops.q rfl (qlss rfl rfl) ?_
    refine Ops.q rfl (qpickT rfl rfl) ?_
    refine Ops.q rfl (qassign rfl) ?_
    refine Ops.nil ?_
    refine h12 _ _ ?_
    refine Run.if rfl (fun p14 => ?_) (fun p14 => ?_)
    ·
     refine Run.seq fun K15 h16 => ?_
     refine Run.region ?_
     refine Ops.q rfl (qmove rfl) ?_
     refine Ops.q rfl (qsubB (d := 65) rfl rfl) ?_
     refine Ops.q rfl (qconvB u5 u3 rfl) ?_
     refine Ops.q rfl (qmulN (a := 2) rfl rfl (by omega)) ?_
     refine Ops.q rfl (qaddN (b := 1) rfl rfl (by omega)) ?_
     refine Ops.q rfl (qassign rfl) ?_
     refine Ops.nil ?_
     refine h16 _ _ ?_
     refine Run.ret ?_
     repeat first | with_reducible refine thenQ_ret ?_ | with_reducible refine blockQ_ret ?_
     exact retQ rfl (⟨by first | (rw [← ix4_small hg ‹_› ‹_›]; rfl) | (rw [← ix4_big hg ‹_› ‹_›]; rfl) | (rw [ix4_no (fun h => by first | exact ‹¬ (97 : UInt8) ≤ c› h.1 | exact ‹¬ (((c - 97).toNat : Nat) : Int) < g› h.2) (fun h => by first | exact ‹¬ (65 : UInt8) ≤ c› h.1 | exact ‹¬ (((c - 65).toNat : Nat) : Int) < g› h.2)]; rfl), rfl⟩)
    ·
     refine Run.skip ?_
     refine h4 _ _ ?_
     refine Run.seq fun K17 h18 => ?_
     refine Run.region ?_
     refine Ops.q rfl (qassign rfl) ?_
     refine Ops.nil ?_
     refine h18 _ _ ?_
     refine Run.ret ?_
     repeat first | with_reducible refine thenQ_ret ?_ | with_reducible refine blockQ_ret ?_
     exact retQ rfl (⟨by first | (rw [← ix4_small hg ‹_› ‹_›]; rfl) | (rw [← ix4_big hg ‹_› ‹_›]; rfl) | (rw [ix4_no (fun h => by first | exact ‹¬ (97 : UInt8) ≤ c› h.1 | exact ‹¬ (((c - 97).toNat : Nat) : Int) < g› h.2) (fun h => by first | exact ‹¬ (65 : UInt8) ≤ c› h.1 | exact ‹¬ (((c - 65).toNat : Nat) : Int) < g› h.2)]; rfl), rfl⟩)
   ·
    refine Ops.off rfl rfl rfl rfl ?_
    refine Ops.off rfl rfl rfl rfl ?_
    refine Ops.off rfl rfl rfl rfl ?_
    refine Ops.off rfl rfl rfl rfl ?_
    refine Ops.off rfl rfl rfl rfl ?_
    refine Ops.q rfl (qpickF rfl rfl) ?_
    refine Ops.q rfl (qassign rfl) ?_
    refine Ops.nil ?_
    refine h12 _ _ ?_
    refine Run.cond_false rfl ?_
    refine Run.skip ?_
    refine h4 _ _ ?_
    refine Run.seq fun K19 h20 => ?_
    refine Run.region ?_
    refine Ops.q rfl (qassign rfl) ?_
    refine Ops.nil ?_
    refine h20 _ _ ?_
    refine Run.ret ?_
    repeat first | with_reducible refine thenQ_ret ?_ | with_reducible refine blockQ_ret ?_
    exact retQ rfl (⟨by first | (rw [← ix4_small hg ‹_› ‹_›]; rfl) | (rw [← ix4_big hg ‹_› ‹_›]; rfl) | (rw [ix4_no (fun h => by first | exact ‹¬ (97 : UInt8) ≤ c› h.1 | exact ‹¬ (((c - 97).toNat : Nat) : Int) < g› h.2) (fun h => by first | exact ‹¬ (65 : UInt8) ≤ c› h.1 | exact ‹¬ (((c - 65).toNat : Nat) : Int) < g› h.2)]; rfl), rfl⟩)
 ·
  refine Ops.off rfl rfl rfl rfl ?_
  refine Ops.off rfl rfl rfl rfl ?_
  refine Ops.off rfl rfl rfl rfl ?_
  refine Ops.off rfl rfl rfl rfl ?_
  refine Ops.off rfl rfl rfl rfl ?_
  refine Ops.q rfl (qpickF rfl rfl) ?_
  refine Ops.q rfl (qassign rfl) ?_
  refine Ops.nil ?_
  refine h6 _ _ ?_
  refine Run.cond_false rfl ?_
  refine Run.seq fun K21 h22 => ?_
  refine Run.region ?_
  refine Ops.q rfl (qmove rfl) ?_
  refine Ops.q rfl (qgeqB (d := 65) rfl rfl) ?_
  refine Ops.q rfl (qmove rfl) ?_
  refine Ops.part (t := 22) rfl (fun p23 => ?_) (fun p23 => ?_)
  ·
   refine Ops.on rfl rfl ?_
   refine Ops.q rfl (qmove rfl) ?_
   refine Ops.on rfl rfl ?_
   refine Ops.q rfl (qsubB (d := 65) rfl rfl) ?_
   refine Ops.on rfl rfl ?_
   refine Ops.q rfl (qconvB u5 u3 rfl) ?_
   refine Ops.on rfl rfl ?_
   refine Ops.q rfl (qmove rfl) ?_
   refine Ops.on rfl rfl ?_
   refine Ops.q rfl (qlss rfl rfl) ?_
   refine Ops.q rfl (qpickT rfl rfl) ?_
   refine Ops.q rfl (qassign rfl) ?_
   refine Ops.nil ?_
   refine h22 _ _ ?_
   refine Run.if rfl (fun p24 => ?_) (fun p24 => ?_)
   ·
    refine Run.seq fun K25 h26 => ?_
    refine Run.region ?_
    refine Ops.q rfl (qmove rfl) ?_
    refine Ops.q rfl (qsubB (d := 65) rfl rfl) ?_
    refine Ops.q rfl (qconvB u5 u3 rfl) ?_
    refine Ops.q rfl (qmulN (a := 2) rfl rfl (by omega)) ?_
    refine Ops.q rfl (qaddN (b := 1) rfl rfl (by omega)) ?_
    refine Ops.q rfl (qassign rfl) ?_
    refine Ops.nil ?_
    refine h26 _ _ ?_
    refine Run.ret ?_
    repeat first | with_reducible refine thenQ_ret ?_ | with_reducible refine blockQ_ret ?_
    exact retQ rfl (⟨by first | (rw [← ix4_small hg ‹_› ‹_›]; rfl) | (rw [← ix4_big hg ‹_› ‹_›]; rfl) | (rw [ix4_no (fun h => by first | exact ‹¬ (97 : UInt8) ≤ c› h.1 | exact ‹¬ (((c - 97).toNat : Nat) : Int) < g› h.2) (fun h => by first | exact ‹¬ (65 : UInt8) ≤ c› h.1 | exact ‹¬ (((c - 65).toNat : Nat) : Int) < g› h.2)]; rfl), rfl⟩)
   ·
    refine Run.skip ?_
    refine h4 _ _ ?_
    refine Run.seq fun K27 h28 => ?_
    refine Run.region ?_
    refine Ops.q rfl (qassign rfl) ?_
    refine Ops.nil ?_
    refine h28 _ _ ?_
    refine Run.ret ?_
    repeat first | with_reducible refine thenQ_ret ?_ | with_reducible refine blockQ_ret ?_
    exact retQ rfl (⟨by first | (rw [← ix4_small hg ‹_› ‹_›]; rfl) | (rw [← ix4_big hg ‹_› ‹_›]; rfl) | (rw [ix4_no (fun h => by first | exact ‹¬ (97 : UInt8) ≤ c› h.1 | exact ‹¬ (((c - 97).toNat : Nat) : Int) < g› h.2) (fun h => by first | exact ‹¬ (65 : UInt8) ≤ c› h.1 | exact ‹¬ (((c - 65).toNat : Nat) : Int) < g› h.2)]; rfl), rfl⟩)
  ·
   refine Ops.off rfl rfl rfl rfl ?_
   refine Ops.off rfl rfl rfl rfl ?_
   refine Ops.off rfl rfl rfl rfl ?_
   refine Ops.off rfl rfl rfl rfl ?_
   refine Ops.off rfl rfl rfl rfl ?_
   refine Ops.q rfl (qpickF rfl rfl) ?_
   refine Ops.q rfl (qassign rfl) ?_
   refine Ops.nil ?_
   refine h22 _ _ ?_
   refine Run.cond_false rfl ?_
   refine Run.skip ?_
   refine h4 _ _ ?_
   refine Run.seq fun K29 h30 => ?_
   refine Run.region ?_
   refine Ops.q rfl (qassign rfl) ?_
   refine Ops.nil ?_
   refine h30 _ _ ?_
   refine Run.ret ?_
   repeat first | with_reducible refine thenQ_ret ?_ | with_reducible refine blockQ_ret ?_
   exact retQ rfl (⟨by first | (rw [← ix4_small hg ‹_› ‹_›]; rfl) | (rw [← ix4_big hg ‹_› ‹_›]; rfl) | (rw [ix4_no (fun h => by first | exact ‹¬ (97 : UInt8) ≤ c› h.1 | exact ‹¬ (((c - 97).toNat : Nat) : Int) < g› h.2) (fun h => by first | exact ‹¬ (65 : UInt8) ≤ c› h.1 | exact ‹¬ (((c - 65).toNat : Nat) : Int) < g› h.2)]; rfl), rfl⟩)

theorem s_R4IsWord (w : List UInt8) (g : Int) (A : AH) (hw : w.length ≤ 100000000) (hg : 1 ≤ g ∧ g ≤ 8) : RetA Tryz.prog 52 #[str (w), num (g)] A (fun v A1 => v = .bool (decide (wcheck g w = 0)) ∧ A = A1) := by
 refine enterA (e := [(0, str (w)), (1, num (g))]) (args := [str (w), num (g)]) Tryz.call52 Tryz.func52 rfl Tryz.results52 Tryz.ntmps52 rfl rfl rfl (fun wf => ?_)
 have le_ := AH.le.refl A
 refine Run.seq fun K1 h2 => ?_
 refine Run.region ?_
 refine Ops.q rfl (qassign rfl) ?_
 refine Ops.nil ?_
 refine h2 _ _ ?_
 refine Run.seq fun K3 h4 => ?_
 refine Run.seq fun K5 h6 => ?_
 refine Run.region ?_
 refine Ops.q rfl (qassign rfl) ?_
 refine Ops.nil ?_
 refine h6 _ _ ?_
 refine Run.block ?_
 refine Run.loop (X := Nat) (fun i => [(0, str (w)), (1, num (g)), (5, num ((i : Nat) : Int))]) (fun i B => (i ≤ w.length ∧ ∀ j, j < i → ¬ ix4 g (w.getD j 0) < 0) ∧ A = B) (fun i => w.length - i) 0 (EnvLe.cons rfl <| EnvLe.cons rfl <| EnvLe.cons rfl <| EnvLe.nil _) (⟨⟨Nat.zero_le _, fun j h => by omega⟩, rfl⟩) ?_
 rintro i B8 ⟨⟨hi, hn⟩, rfl⟩
 refine Run.seq fun K9 h10 => ?_
 refine Run.seq fun K11 h12 => ?_
 refine Run.region ?_
 refine Ops.q rfl (qmove rfl) ?_
 refine Ops.q rfl (qmove rfl) ?_
 refine Ops.q rfl (qslen u9 rfl) ?_
 refine Ops.q rfl (qlssN rfl rfl) ?_
 refine Ops.nil ?_
 refine h12 _ _ ?_
 refine Run.if rfl (fun p13 => ?_) (fun p13 => ?_)
 ·
  refine Run.skip ?_
  refine h10 _ _ ?_
  refine Run.seq fun K14 h15 => ?_
  refine Run.block ?_
  refine Run.seq fun K16 h17 => ?_
  refine Run.region ?_
  refine Ops.q rfl (qmove rfl) ?_
  refine Ops.q rfl (qmove rfl) ?_
  refine Ops.q rfl (qsix u9 rfl rfl (by omega)) ?_
  refine Ops.q rfl (qmove rfl) ?_
  refine Ops.l rfl (fun _ _ hk18 _ => vcallF rfl (s_R4Index (w.getD i 0) (g) A (by omega)) ?_)
  rintro v19 A20 ⟨rfl, rfl⟩
  refine hk18 _ _ ?_
  refine Ops.q rfl (qlss rfl rfl) ?_
  refine Ops.nil ?_
  refine h17 _ _ ?_
  refine Run.if rfl (fun p22 => ?_) (fun p22 => ?_)
  ·
   refine Run.seq fun K23 h24 => ?_
   refine Run.region ?_
   refine Ops.q rfl (qassign rfl) ?_
   refine Ops.nil ?_
   refine h24 _ _ ?_
   refine Run.ret ?_
   repeat first | with_reducible refine thenQ_ret ?_ | with_reducible refine blockQ_ret ?_
   exact retQ rfl (⟨by first | (rw [isword_good hg (by omega) hn]; rfl) | (rw [isword_bad hg (by omega) ‹_›]; rfl), rfl⟩)
  ·
   refine Run.skip ?_
   refine h15 _ _ ?_
   refine Run.region ?_
   refine Ops.q rfl (qmove rfl) ?_
   refine Ops.q rfl (qaddN (b := 1) rfl rfl (by omega)) ?_
   refine Ops.q rfl (qassign rfl) ?_
   refine Ops.nil ?_
   exact ⟨i + 1, EnvLe.cons rfl <| EnvLe.cons rfl <| EnvLe.cons rfl <| EnvLe.nil _, rfl, ⟨⟨by omega, fun j h => (Nat.lt_succ_iff_lt_or_eq.1 h).elim (hn j) (fun z => by subst z; assumption)⟩, rfl⟩, (by (try dsimp only); omega)⟩
 ·
  refine Run.exit ?_
  refine h4 _ _ ?_
  refine Run.seq fun K25 h26 => ?_
  refine Run.region ?_
  refine Ops.q rfl (qmove rfl) ?_
  refine Ops.q rfl (qslen u9 rfl) ?_
  refine Ops.q rfl (qleqN (b := 100000) rfl rfl) ?_
  refine Ops.q rfl (qassign rfl) ?_
  refine Ops.nil ?_
  refine h26 _ _ ?_
  refine Run.ret ?_
  repeat first | with_reducible refine thenQ_ret ?_ | with_reducible refine blockQ_ret ?_
  exact retQ rfl (⟨by first | (rw [isword_good hg (by omega) hn]; rfl) | (rw [isword_bad hg (by omega) ‹_›]; rfl), rfl⟩)

theorem s_asked (g : Int) (u : Value) (l : List (List UInt8)) (w : List UInt8) (A : AH) (hn : l.length ≤ 1000000) (hw : w.length ≤ 100000) (hu : Slc A 1 u (strs l)) : RetA Tryz.prog 28 #[.agg #[num (g), u], str (w)] A (fun v A1 => v = num ((rasked g l w : Nat) : Int) ∧ A.le A1 ∧ A1.wf) := by
 refine enterA (e := [(0, .agg #[num (g), u]), (1, str (w))]) (args := [.agg #[num (g), u], str (w)]) Tryz.call28 Tryz.func28 rfl Tryz.results28 Tryz.ntmps28 rfl rfl rfl (fun wf => ?_)
 have le_ := AH.le.refl A
 refine Run.seq fun K1 h2 => ?_
 refine Run.region ?_
 refine Ops.l rfl (fun _ _ hk3 _ => wbox wf rfl rfl fun A5 b4 nb6 => ?_)
 have ge_b4 := none_of wf (Nat.le_trans le_.n nb6.lo)
 have le7 := le_.trans nb6.le
 refine hk3 _ _ ?_
 refine Ops.q rfl (qassign rfl) ?_
 refine Ops.nil ?_
 refine h2 _ _ ?_
 refine Run.seq fun K8 h9 => ?_
 refine Run.region ?_
 refine Ops.q rfl (qloadAggAt ag24 sz24 rfl rfl nb6.get rfl) ?_
 refine Ops.l rfl (fun _ _ hk10 _ => vcallF rfl (s_RPCheck ((g)) u l A5 (by omega) (hu.le le7)) ?_)
 rintro v11 A12 ⟨rfl, leq13, wfq13⟩
 have h14 := leq13.get _ _ nb6.get
 have le15 := le7.trans leq13
 refine hk10 _ _ ?_
 refine Ops.q rfl (qassign rfl) ?_
 refine Ops.nil ?_
 refine h9 _ _ ?_
 refine Run.seq fun K16 h17 => ?_
 refine Run.seq fun K18 h19 => ?_
 refine Run.region ?_
 refine Ops.q rfl (qmove rfl) ?_
 refine Ops.q rfl (qneqN (b := 0) rfl rfl) ?_
 refine Ops.nil ?_
 refine h19 _ _ ?_
 refine Run.if rfl (fun p20 => ?_) (fun p20 => ?_)
 ·
  refine Run.seq fun K21 h22 => ?_
  refine Run.region ?_
  refine Ops.q rfl (qmove rfl) ?_
  refine Ops.q rfl (qassign rfl) ?_
  refine Ops.nil ?_
  refine h22 _ _ ?_
  refine Run.ret ?_
  repeat first | with_reducible refine thenQ_ret ?_ | with_reducible refine blockQ_ret ?_
  exact retQ rfl (⟨by first | (rw [rasked, if_pos ‹_›]; rfl) | (rw [rasked, if_neg ‹_›, if_pos ‹_›]; rfl) | (rw [rasked, if_neg ‹_›, if_neg ‹_›, if_pos ‹_›]; rfl) | (rw [rasked, if_neg ‹_›, if_neg ‹_›, if_neg ‹_›]; rfl), le15, wfq13⟩)
 ·
  refine Run.skip ?_
  refine h17 _ _ ?_
  refine Run.seq fun K23 h24 => ?_
  refine Run.seq fun K25 h26 => ?_
  refine Run.region ?_
  refine Ops.q rfl (qmove rfl) ?_
  refine Ops.q rfl (qfieldAddr fl24_0 sz3 (by decide) rfl) ?_
  refine Ops.q rfl (qloadAt ag3 rfl rfl h14 rfl) ?_
  refine Ops.l rfl (fun _ _ hk27 _ => vcallF rfl (s_R4IsWord w ((g)) A12 (by first | omega | (simp only [List.length_append, List.length_drop, List.length_take, inv_length]; omega)) (pcheck_zero (Decidable.not_not.1 ‹¬ ¬ pcheck g l = 0›)).1) ?_)
  rintro v28 A29 ⟨rfl, rfl⟩
  refine hk27 _ _ ?_
  refine Ops.q rfl (qnotP rfl) ?_
  refine Ops.nil ?_
  refine h26 _ _ ?_
  refine Run.if rfl (fun p31 => ?_) (fun p31 => ?_)
  ·
   refine Run.seq fun K32 h33 => ?_
   refine Run.region ?_
   refine Ops.q rfl (qassign rfl) ?_
   refine Ops.nil ?_
   refine h33 _ _ ?_
   refine Run.ret ?_
   repeat first | with_reducible refine thenQ_ret ?_ | with_reducible refine blockQ_ret ?_
   exact retQ rfl (⟨by first | (rw [rasked, if_pos ‹_›]; rfl) | (rw [rasked, if_neg ‹_›, if_pos ‹_›]; rfl) | (rw [rasked, if_neg ‹_›, if_neg ‹_›, if_pos ‹_›]; rfl) | (rw [rasked, if_neg ‹_›, if_neg ‹_›, if_neg ‹_›]; rfl), le15, wfq13⟩)
  ·
   refine Run.skip ?_
   refine h24 _ _ ?_
   refine Run.seq fun K34 h35 => ?_
   refine Run.seq fun K36 h37 => ?_
   refine Run.region ?_
   refine Ops.q rfl (qmove rfl) ?_
   refine Ops.q rfl (qslen u9 rfl) ?_
   refine Ops.q rfl (qgtrN (b := 5000) rfl rfl) ?_
   refine Ops.nil ?_
   refine h37 _ _ ?_
   refine Run.if rfl (fun p38 => ?_) (fun p38 => ?_)
   ·
    refine Run.seq fun K39 h40 => ?_
    refine Run.region ?_
    refine Ops.q rfl (qassign rfl) ?_
    refine Ops.nil ?_
    refine h40 _ _ ?_
    refine Run.ret ?_
    repeat first | with_reducible refine thenQ_ret ?_ | with_reducible refine blockQ_ret ?_
    exact retQ rfl (⟨by first | (rw [rasked, if_pos ‹_›]; rfl) | (rw [rasked, if_neg ‹_›, if_pos ‹_›]; rfl) | (rw [rasked, if_neg ‹_›, if_neg ‹_›, if_pos ‹_›]; rfl) | (rw [rasked, if_neg ‹_›, if_neg ‹_›, if_neg ‹_›]; rfl), le15, wfq13⟩)
   ·
    refine Run.skip ?_
    refine h35 _ _ ?_
    refine Run.seq fun K41 h42 => ?_
    refine Run.region ?_
    refine Ops.q rfl (qassign rfl) ?_
    refine Ops.nil ?_
    refine h42 _ _ ?_
    refine Run.ret ?_
    repeat first | with_reducible refine thenQ_ret ?_ | with_reducible refine blockQ_ret ?_
    exact retQ rfl (⟨by first | (rw [rasked, if_pos ‹_›]; rfl) | (rw [rasked, if_neg ‹_›, if_pos ‹_›]; rfl) | (rw [rasked, if_neg ‹_›, if_neg ‹_›, if_pos ‹_›]; rfl) | (rw [rasked, if_neg ‹_›, if_neg ‹_›, if_neg ‹_›]; rfl), le15, wfq13⟩)

theorem s_RShorten (g : Int) (u : Value) (l : List (List UInt8)) (w : List UInt8) (A : AH) (hn : l.length ≤ 1000000) (hw : w.length ≤ 100000) (hu : Slc A 1 u (strs l)) : RetA Tryz.prog 9 #[.agg #[num (g), u], str (w)] A (fun v A1 => v = .agg #[str (rS g l w).1, num (((rS g l w).2.1 : Nat) : Int), num (((rS g l w).2.2 : Nat) : Int)] ∧ A.le A1 ∧ A1.wf) := by
 refine enterA (e := [(0, .agg #[num (g), u]), (1, str (w))]) (args := [.agg #[num (g), u], str (w)]) Tryz.call9 Tryz.func9 rfl Tryz.results9 Tryz.ntmps9 rfl rfl rfl (fun wf => ?_)
 have le_ := AH.le.refl A
 refine Run.seq fun K1 h2 => ?_
 refine Run.region ?_
 refine Ops.l rfl (fun _ _ hk3 _ => wbox wf rfl rfl fun A5 b4 nb6 => ?_)
 have ge_b4 := none_of wf (Nat.le_trans le_.n nb6.lo)
 have le7 := le_.trans nb6.le
 refine hk3 _ _ ?_
 refine Ops.l rfl (fun _ _ hk8 _ => walloc nb6.wf z29 rfl fun A10 b9 nb11 => ?_)
 have ne_b4_b9 := ne_new nb6.wf nb6.get nb11.lo
 have ge_b9 := none_of wf (Nat.le_trans le7.n nb11.lo)
 have h12 := nb11.le.get _ _ nb6.get
 have le13 := le7.trans nb11.le
 refine hk8 _ _ ?_
 refine Ops.nil ?_
 refine h2 _ _ ?_
 refine Run.seq fun K14 h15 => ?_
 refine Run.region ?_
 refine Ops.q rfl (qloadAggAt ag24 sz24 rfl rfl h12 rfl) ?_
 refine Ops.q rfl (qmove rfl) ?_
 refine Ops.l rfl (fun _ _ hk16 _ => vcallF rfl (s_asked ((g)) u l w A10 (by omega) (by first | omega | (simp only [List.length_append, List.length_drop, List.length_take, inv_length]; omega)) (hu.le le13)) ?_)
 rintro v17 A18 ⟨rfl, leq19, wfq19⟩
 have h20 := leq19.get _ _ h12
 have h21 := leq19.get _ _ nb11.get
 have le22 := le13.trans leq19
 refine hk16 _ _ ?_
 refine Ops.q rfl (qassign rfl) ?_
 refine Ops.nil ?_
 refine h15 _ _ ?_
 refine Run.seq fun K23 h24 => ?_
 refine Run.seq fun K25 h26 => ?_
 refine Run.region ?_
 refine Ops.q rfl (qmove rfl) ?_
 refine Ops.q rfl (qneqN (b := 0) rfl rfl) ?_
 refine Ops.nil ?_
 refine h26 _ _ ?_
 refine Run.if rfl (fun p27 => ?_) (fun p27 => ?_)
 ·
  refine Run.seq fun K28 h29 => ?_
  refine Run.region ?_
  refine Ops.q rfl (qmove rfl) ?_
  refine Ops.q rfl (qbuild rfl (buildV_struct u29 z29 pl29 rfl)) ?_
  refine Ops.l rfl (fun _ _ hk30 _ => wstore (cs := [str ([]), num ((0 : Nat) : Int), num ((rasked ((g)) l w : Nat) : Int)]) (c' := [str ([]), num ((0 : Nat) : Int), num ((rasked ((g)) l w : Nat) : Int)]) wfq19 rfl rfl rfl rfl sz29 h21 (Nat.le_of_ble_eq_true rfl) rfl rfl fun A31 sb32 => ?_)
  have h33 := sb32.keep _ _ ne_b4_b9 h20
  have le34 := le_store le22 wf ge_b9 sb32.n sb32.keep
  refine hk30 _ _ ?_
  refine Ops.nil ?_
  refine h29 _ _ ?_
  refine Run.ret ?_
  repeat first | with_reducible refine thenQ_ret ?_ | with_reducible refine blockQ_ret ?_
  exact retQ (resCell ag29 sz29 rfl sb32.get rfl resNil) (⟨by first | (rw [rS, if_pos ‹_›]; rfl) | (rw [rS, if_neg ‹_›]; rfl), le34, sb32.wf⟩)
 ·
  refine Run.skip ?_
  refine h24 _ _ ?_
  refine Run.seq fun K35 h36 => ?_
  refine Run.region ?_
  refine Ops.q rfl (qloadAggAt ag24 sz24 rfl rfl h20 rfl) ?_
  refine Ops.l rfl (fun _ _ hk37 _ => vcallF rfl (s_Symm ((g)) u l A18 (rasked_pres ‹¬ ¬ rasked g l w = 0›) (hu.le le22)) ?_)
  rintro v38 A39 ⟨sq40, rfl, leq40, wfq40, frq40, hsxq40, hslq40⟩
  have h41 := leq40.get _ _ h20
  have h42 := leq40.get _ _ h21
  have le43 := le22.trans leq40
  have fr44 := frq40.base le22
  have no45 := frq40.ne wfq19 h20
  have no46 := frq40.ne wfq19 h21
  have hsx := hsxq40
  have hsl := hslq40
  refine hk37 _ _ ?_
  refine Ops.q rfl (qfield1 (cs := [sq40, num ((0 : Nat) : Int)]) fl60_0 ag22 rfl rfl) ?_
  refine Ops.q rfl (qmove rfl) ?_
  refine Ops.l rfl (fun _ _ hk47 _ => vcallF rfl (s_rshorten sq40 (symm l) w A39 (by omega) (fun x q => Nat.le_trans (hsx x q) (by omega)) (by first | omega | (simp only [List.length_append, List.length_drop, List.length_take, inv_length]; omega)) fr44.slc) ?_)
  rintro v48 A49 ⟨rfl, leq50, wfq50⟩
  have h51 := leq50.get _ _ h41
  have h52 := leq50.get _ _ h42
  have fr53 := fr44.le leq50
  have le54 := le43.trans leq50
  refine hk47 _ _ ?_
  refine Ops.l rfl (fun _ _ hk55 _ => wstore (cs := [str ((rshorten (symm l) w).1), num (((rshorten (symm l) w).2 : Nat) : Int), num ((0 : Nat) : Int)]) (c' := [str ((rshorten (symm l) w).1), num (((rshorten (symm l) w).2 : Nat) : Int), num ((0 : Nat) : Int)]) wfq50 rfl rfl rfl rfl sz29 h52 (Nat.le_of_ble_eq_true rfl) rfl rfl fun A56 sb57 => ?_)
  have h58 := sb57.keep _ _ ne_b4_b9 h51
  have fr59 := fr53.keep sb57.keep no46
  have le60 := le_store le54 wf ge_b9 sb57.n sb57.keep
  refine hk55 _ _ ?_
  refine Ops.nil ?_
  refine h36 _ _ ?_
  refine Run.ret ?_
  repeat first | with_reducible refine thenQ_ret ?_ | with_reducible refine blockQ_ret ?_
  exact retQ (resCell ag29 sz29 rfl sb57.get rfl resNil) (⟨by first | (rw [rS, if_pos ‹_›]; rfl) | (rw [rS, if_neg ‹_›]; rfl), le60, sb57.wf⟩)

theorem s_RStuck (g : Int) (u : Value) (l : List (List UInt8)) (w : List UInt8) (A : AH) (hn : l.length ≤ 1000000) (hw : w.length ≤ 100000) (hu : Slc A 1 u (strs l)) : RetA Tryz.prog 10 #[.agg #[num (g), u], str (w)] A (fun v A1 => v = .agg #[.bool (rStuck g l w).1, num (((rStuck g l w).2 : Nat) : Int)] ∧ A.le A1 ∧ A1.wf) := by
 refine enterA (e := [(0, .agg #[num (g), u]), (1, str (w))]) (args := [.agg #[num (g), u], str (w)]) Tryz.call10 Tryz.func10 rfl Tryz.results10 Tryz.ntmps10 rfl rfl rfl (fun wf => ?_)
 have le_ := AH.le.refl A
 refine Run.seq fun K1 h2 => ?_
 refine Run.region ?_
 refine Ops.l rfl (fun _ _ hk3 _ => wbox wf rfl rfl fun A5 b4 nb6 => ?_)
 have ge_b4 := none_of wf (Nat.le_trans le_.n nb6.lo)
 have le7 := le_.trans nb6.le
 refine hk3 _ _ ?_
 refine Ops.l rfl (fun _ _ hk8 _ => walloc nb6.wf z32 rfl fun A10 b9 nb11 => ?_)
 have ne_b4_b9 := ne_new nb6.wf nb6.get nb11.lo
 have ge_b9 := none_of wf (Nat.le_trans le7.n nb11.lo)
 have h12 := nb11.le.get _ _ nb6.get
 have le13 := le7.trans nb11.le
 refine hk8 _ _ ?_
 refine Ops.nil ?_
 refine h2 _ _ ?_
 refine Run.seq fun K14 h15 => ?_
 refine Run.region ?_
 refine Ops.q rfl (qloadAggAt ag24 sz24 rfl rfl h12 rfl) ?_
 refine Ops.q rfl (qmove rfl) ?_
 refine Ops.l rfl (fun _ _ hk16 _ => vcallF rfl (s_asked ((g)) u l w A10 (by omega) (by first | omega | (simp only [List.length_append, List.length_drop, List.length_take, inv_length]; omega)) (hu.le le13)) ?_)
 rintro v17 A18 ⟨rfl, leq19, wfq19⟩
 have h20 := leq19.get _ _ h12
 have h21 := leq19.get _ _ nb11.get
 have le22 := le13.trans leq19
 refine hk16 _ _ ?_
 refine Ops.q rfl (qassign rfl) ?_
 refine Ops.nil ?_
 refine h15 _ _ ?_
 refine Run.seq fun K23 h24 => ?_
 refine Run.seq fun K25 h26 => ?_
 refine Run.region ?_
 refine Ops.q rfl (qmove rfl) ?_
 refine Ops.q rfl (qneqN (b := 0) rfl rfl) ?_
 refine Ops.nil ?_
 refine h26 _ _ ?_
 refine Run.if rfl (fun p27 => ?_) (fun p27 => ?_)
 ·
  refine Run.seq fun K28 h29 => ?_
  refine Run.region ?_
  refine Ops.q rfl (qmove rfl) ?_
  refine Ops.q rfl (qbuild rfl (buildV_struct u32 z32 pl32 rfl)) ?_
  refine Ops.l rfl (fun _ _ hk30 _ => wstore (cs := [.bool (false), num ((rasked ((g)) l w : Nat) : Int)]) (c' := [.bool (false), num ((rasked ((g)) l w : Nat) : Int)]) wfq19 rfl rfl rfl rfl sz32 h21 (Nat.le_of_ble_eq_true rfl) rfl rfl fun A31 sb32 => ?_)
  have h33 := sb32.keep _ _ ne_b4_b9 h20
  have le34 := le_store le22 wf ge_b9 sb32.n sb32.keep
  refine hk30 _ _ ?_
  refine Ops.nil ?_
  refine h29 _ _ ?_
  refine Run.ret ?_
  repeat first | with_reducible refine thenQ_ret ?_ | with_reducible refine blockQ_ret ?_
  exact retQ (resCell ag32 sz32 rfl sb32.get rfl resNil) (⟨by first | (rw [rStuck, if_pos ‹_›]; rfl) | (rw [rStuck, if_neg ‹_›, decide_eq_true ‹wReduce w = w›, Bool.true_and]; rfl) | (rw [rStuck, if_neg ‹_›, decide_eq_false ‹¬ wReduce w = w›, Bool.false_and]; rfl), le34, sb32.wf⟩)
 ·
  refine Run.skip ?_
  refine h24 _ _ ?_
  refine Run.seq fun K35 h36 => ?_
  refine Run.region ?_
  refine Ops.q rfl (qmove rfl) ?_
  refine Ops.l rfl (fun _ _ hk37 _ => vcallF rfl (s_RReduce w A18 (by first | omega | (simp only [List.length_append, List.length_drop, List.length_take, inv_length]; omega))) ?_)
  rintro v38 A39 ⟨rfl, leq40, wfq40⟩
  have h41 := leq40.get _ _ h20
  have h42 := leq40.get _ _ h21
  have le43 := le22.trans leq40
  refine hk37 _ _ ?_
  refine Ops.q rfl (qmove rfl) ?_
  refine Ops.q rfl (qseql rfl rfl) ?_
  refine Ops.q rfl (qmove rfl) ?_
  refine Ops.part (t := 17) rfl (fun p44 => ?_) (fun p44 => ?_)
  ·
   refine Ops.on rfl rfl ?_
   refine Ops.q rfl (qloadAggAt ag24 sz24 rfl rfl h41 rfl) ?_
   refine Ops.on rfl rfl ?_
   refine Ops.l rfl (fun _ _ hk45 _ => vcallF rfl (s_Symm ((g)) u l A39 (rasked_pres ‹¬ ¬ rasked g l w = 0›) (hu.le le43)) ?_)
   rintro v46 A47 ⟨sq48, rfl, leq48, wfq48, frq48, hsxq48, hslq48⟩
   have h49 := leq48.get _ _ h41
   have h50 := leq48.get _ _ h42
   have le51 := le43.trans leq48
   have fr52 := frq48.base le43
   have no53 := frq48.ne wfq40 h41
   have no54 := frq48.ne wfq40 h42
   have hsx := hsxq48
   have hsl := hslq48
   refine hk45 _ _ ?_
   refine Ops.on rfl rfl ?_
   refine Ops.q rfl (qfield1 (cs := [sq48, num ((0 : Nat) : Int)]) fl60_0 ag22 rfl rfl) ?_
   refine Ops.on rfl rfl ?_
   refine Ops.q rfl (qmove rfl) ?_
   refine Ops.on rfl rfl ?_
   refine Ops.l rfl (fun _ _ hk55 _ => vcallF rfl (s_rlong sq48 (symm l) w A47 (by omega) (fun x q => Nat.le_trans (hsx x q) (by omega)) (by first | omega | (simp only [List.length_append, List.length_drop, List.length_take, inv_length]; omega)) fr52.slc) ?_)
   rintro v56 A57 ⟨rfl, leq58, wfq58⟩
   have h59 := leq58.get _ _ h49
   have h60 := leq58.get _ _ h50
   have fr61 := fr52.le leq58
   have le62 := le51.trans leq58
   refine hk55 _ _ ?_
   refine Ops.on rfl rfl ?_
   refine Ops.q rfl (qfield1 (cs := [num (((rlong (symm l) w).pa : Nat) : Int), num (((rlong (symm l) w).pn : Nat) : Int), str ((rlong (symm l) w).pb), .bool ((rlong (symm l) w).pi)]) fl63_3 ag4 rfl rfl) ?_
   refine Ops.on rfl rfl ?_
   refine Ops.q rfl (qnot rfl) ?_
   refine Ops.q rfl (qpickT rfl rfl) ?_
   refine Ops.q rfl (qbuild rfl (buildV_struct u32 z32 pl32 rfl)) ?_
   refine Ops.l rfl (fun _ _ hk63 _ => wstore (cs := [.bool (!((rlong (symm l) w).pi)), num ((0 : Nat) : Int)]) (c' := [.bool (!((rlong (symm l) w).pi)), num ((0 : Nat) : Int)]) wfq58 rfl rfl rfl rfl sz32 h60 (Nat.le_of_ble_eq_true rfl) rfl rfl fun A64 sb65 => ?_)
   have h66 := sb65.keep _ _ ne_b4_b9 h59
   have fr67 := fr61.keep sb65.keep no54
   have le68 := le_store le62 wf ge_b9 sb65.n sb65.keep
   refine hk63 _ _ ?_
   refine Ops.nil ?_
   refine h36 _ _ ?_
   refine Run.ret ?_
   repeat first | with_reducible refine thenQ_ret ?_ | with_reducible refine blockQ_ret ?_
   exact retQ (resCell ag32 sz32 rfl sb65.get rfl resNil) (⟨by first | (rw [rStuck, if_pos ‹_›]; rfl) | (rw [rStuck, if_neg ‹_›, decide_eq_true ‹wReduce w = w›, Bool.true_and]; rfl) | (rw [rStuck, if_neg ‹_›, decide_eq_false ‹¬ wReduce w = w›, Bool.false_and]; rfl), le68, sb65.wf⟩)
  ·
   refine Ops.off rfl rfl rfl rfl ?_
   refine Ops.off rfl rfl rfl rfl ?_
   refine Ops.off rfl rfl rfl rfl ?_
   refine Ops.off rfl rfl rfl rfl ?_
   refine Ops.off rfl rfl rfl rfl ?_
   refine Ops.off rfl rfl rfl rfl ?_
   refine Ops.off rfl rfl rfl rfl ?_
   refine Ops.q rfl (qpickF rfl rfl) ?_
   refine Ops.q rfl (qbuild rfl (buildV_struct u32 z32 pl32 rfl)) ?_
   refine Ops.l rfl (fun _ _ hk69 _ => wstore (cs := [.bool (false), num ((0 : Nat) : Int)]) (c' := [.bool (false), num ((0 : Nat) : Int)]) wfq40 rfl rfl rfl rfl sz32 h42 (Nat.le_of_ble_eq_true rfl) rfl rfl fun A70 sb71 => ?_)
   have h72 := sb71.keep _ _ ne_b4_b9 h41
   have le73 := le_store le43 wf ge_b9 sb71.n sb71.keep
   refine hk69 _ _ ?_
   refine Ops.nil ?_
   refine h36 _ _ ?_
   refine Run.ret ?_
   repeat first | with_reducible refine thenQ_ret ?_ | with_reducible refine blockQ_ret ?_
   exact retQ (resCell ag32 sz32 rfl sb71.get rfl resNil) (⟨by first | (rw [rStuck, if_pos ‹_›]; rfl) | (rw [rStuck, if_neg ‹_›, decide_eq_true ‹wReduce w = w›, Bool.true_and]; rfl) | (rw [rStuck, if_neg ‹_›, decide_eq_false ‹¬ wReduce w = w›, Bool.false_and]; rfl), le73, sb71.wf⟩)

theorem s_RVerified (g : Int) (u : Value) (l : List (List UInt8)) (A : AH) (hn : l.length ≤ 1000000) (hu : Slc A 1 u (strs l)) : RetA Tryz.prog 14 #[.agg #[num (g), u]] A (fun v A1 => v = num ((rVerified g l : Nat) : Int) ∧ A.le A1 ∧ A1.wf) := by
 refine enterA (e := [(0, .agg #[num (g), u])]) (args := [.agg #[num (g), u]]) Tryz.call14 Tryz.func14 rfl Tryz.results14 Tryz.ntmps14 rfl rfl rfl (fun wf => ?_)
 have le_ := AH.le.refl A
 refine Run.seq fun K1 h2 => ?_
 refine Run.region ?_
 refine Ops.l rfl (fun _ _ hk3 _ => wbox wf rfl rfl fun A5 b4 nb6 => ?_)
 have ge_b4 := none_of wf (Nat.le_trans le_.n nb6.lo)
 have le7 := le_.trans nb6.le
 refine hk3 _ _ ?_
 refine Ops.q rfl (qassign rfl) ?_
 refine Ops.nil ?_
 refine h2 _ _ ?_
 refine Run.seq fun K8 h9 => ?_
 refine Run.region ?_
 refine Ops.q rfl (qloadAggAt ag24 sz24 rfl rfl nb6.get rfl) ?_
 refine Ops.l rfl (fun _ _ hk10 _ => vcallF rfl (s_RPCheck ((g)) u l A5 (by omega) (hu.le le7)) ?_)
 rintro v11 A12 ⟨rfl, leq13, wfq13⟩
 have h14 := leq13.get _ _ nb6.get
 have le15 := le7.trans leq13
 refine hk10 _ _ ?_
 refine Ops.q rfl (qassign rfl) ?_
 refine Ops.nil ?_
 refine h9 _ _ ?_
 refine Run.seq fun K16 h17 => ?_
 refine Run.seq fun K18 h19 => ?_
 refine Run.region ?_
 refine Ops.q rfl (qmove rfl) ?_
 refine Ops.q rfl (qneqN (b := 0) rfl rfl) ?_
 refine Ops.nil ?_
 refine h19 _ _ ?_
 refine Run.if rfl (fun p20 => ?_) (fun p20 => ?_)
 ·
  refine Run.seq fun K21 h22 => ?_
  refine Run.region ?_
  refine Ops.q rfl (qmove rfl) ?_
  refine Ops.q rfl (qassign rfl) ?_
  refine Ops.nil ?_
  refine h22 _ _ ?_
  refine Run.ret ?_
  repeat first | with_reducible refine thenQ_ret ?_ | with_reducible refine blockQ_ret ?_
  exact retQ rfl (⟨by first | (rw [rVerified, if_pos ‹_›]; rfl) | (rw [rVerified, if_neg ‹_›, if_neg (by simpa using ‹(!isDehn (symm l)) = true›)]; rfl) | (rw [rVerified, if_neg ‹_›, if_pos (by simpa using ‹(!isDehn (symm l)) = false›)]; rfl), le15, wfq13⟩)
 ·
  refine Run.skip ?_
  refine h17 _ _ ?_
  refine Run.seq fun K23 h24 => ?_
  refine Run.seq fun K25 h26 => ?_
  refine Run.region ?_
  refine Ops.q rfl (qloadAggAt ag24 sz24 rfl rfl h14 rfl) ?_
  refine Ops.l rfl (fun _ _ hk27 _ => vcallF rfl (s_IsDehn ((g)) u l A12 (Decidable.not_not.1 ‹_›) (hu.le le15)) ?_)
  rintro v28 A29 ⟨rfl, leq30, wfq30⟩
  have h31 := leq30.get _ _ h14
  have le32 := le15.trans leq30
  refine hk27 _ _ ?_
  refine Ops.q rfl (qnot rfl) ?_
  refine Ops.nil ?_
  refine h26 _ _ ?_
  refine Run.ifB rfl (fun p33 => ?_) (fun p33 => ?_)
  ·
   refine Run.seq fun K34 h35 => ?_
   refine Run.region ?_
   refine Ops.q rfl (qassign rfl) ?_
   refine Ops.nil ?_
   refine h35 _ _ ?_
   refine Run.ret ?_
   repeat first | with_reducible refine thenQ_ret ?_ | with_reducible refine blockQ_ret ?_
   exact retQ rfl (⟨by first | (rw [rVerified, if_pos ‹_›]; rfl) | (rw [rVerified, if_neg ‹_›, if_neg (by simpa using ‹(!isDehn (symm l)) = true›)]; rfl) | (rw [rVerified, if_neg ‹_›, if_pos (by simpa using ‹(!isDehn (symm l)) = false›)]; rfl), le32, wfq30⟩)
  ·
   refine Run.skip ?_
   refine h24 _ _ ?_
   refine Run.seq fun K36 h37 => ?_
   refine Run.region ?_
   refine Ops.q rfl (qassign rfl) ?_
   refine Ops.nil ?_
   refine h37 _ _ ?_
   refine Run.ret ?_
   repeat first | with_reducible refine thenQ_ret ?_ | with_reducible refine blockQ_ret ?_
   exact retQ rfl (⟨by first | (rw [rVerified, if_pos ‹_›]; rfl) | (rw [rVerified, if_neg ‹_›, if_neg (by simpa using ‹(!isDehn (symm l)) = true›)]; rfl) | (rw [rVerified, if_neg ‹_›, if_pos (by simpa using ‹(!isDehn (symm l)) = false›)]; rfl), le32, wfq30⟩)

theorem s_RTrivial (g : Int) (u : Value) (l : List (List UInt8)) (w : List UInt8) (A : AH) (hn : l.length ≤ 1000000) (hw : w.length ≤ 100000) (hu : Slc A 1 u (strs l)) : RetA Tryz.prog 15 #[.agg #[num (g), u], str (w)] A (fun v A1 => v = .agg #[.bool (rTrivial g l w).1, num (((rTrivial g l w).2 : Nat) : Int)] ∧ A.le A1 ∧ A1.wf) := by
 refine enterA (e := [(0, .agg #[num (g), u]), (1, str (w))]) (args := [.agg #[num (g), u], str (w)]) Tryz.call15 Tryz.func15 rfl Tryz.results15 Tryz.ntmps15 rfl rfl rfl (fun wf => ?_)
 have le_ := AH.le.refl A
 refine Run.seq fun K1 h2 => ?_
 refine Run.region ?_
 refine Ops.l rfl (fun _ _ hk3 _ => wbox wf rfl rfl fun A5 b4 nb6 => ?_)
 have ge_b4 := none_of wf (Nat.le_trans le_.n nb6.lo)
 have le7 := le_.trans nb6.le
 refine hk3 _ _ ?_
 refine Ops.l rfl (fun _ _ hk8 _ => walloc nb6.wf z32 rfl fun A10 b9 nb11 => ?_)
 have ne_b4_b9 := ne_new nb6.wf nb6.get nb11.lo
 have ge_b9 := none_of wf (Nat.le_trans le7.n nb11.lo)
 have h12 := nb11.le.get _ _ nb6.get
 have le13 := le7.trans nb11.le
 refine hk8 _ _ ?_
 refine Ops.nil ?_
 refine h2 _ _ ?_
 refine Run.seq fun K14 h15 => ?_
 refine Run.region ?_
 refine Ops.q rfl (qloadAggAt ag24 sz24 rfl rfl h12 rfl) ?_
 refine Ops.q rfl (qmove rfl) ?_
 refine Ops.l rfl (fun _ _ hk16 _ => vcallF rfl (s_RShorten ((g)) u l w A10 (by omega) (by first | omega | (simp only [List.length_append, List.length_drop, List.length_take, inv_length]; omega)) (hu.le le13)) ?_)
 rintro v17 A18 ⟨rfl, leq19, wfq19⟩
 have h20 := leq19.get _ _ h12
 have h21 := leq19.get _ _ nb11.get
 have le22 := le13.trans leq19
 refine hk16 _ _ ?_
 refine Ops.l rfl (fun _ _ hk23 _ => walloc wfq19 z29 rfl fun A25 b24 nb26 => ?_)
 have ne_b4_b24 := ne_new wfq19 h20 nb26.lo
 have ne_b9_b24 := ne_new wfq19 h21 nb26.lo
 have ge_b24 := none_of wf (Nat.le_trans le22.n nb26.lo)
 have h27 := nb26.le.get _ _ h20
 have h28 := nb26.le.get _ _ h21
 have le29 := le22.trans nb26.le
 refine hk23 _ _ ?_
 refine Ops.l rfl (fun _ _ hk30 _ => wstore (cs := [str ((rS ((g)) l w).1), num (((rS ((g)) l w).2.1 : Nat) : Int), num (((rS ((g)) l w).2.2 : Nat) : Int)]) (c' := [str ((rS ((g)) l w).1), num (((rS ((g)) l w).2.1 : Nat) : Int), num (((rS ((g)) l w).2.2 : Nat) : Int)]) nb26.wf rfl rfl rfl rfl sz29 nb26.get (Nat.le_of_ble_eq_true rfl) rfl rfl fun A31 sb32 => ?_)
 have h33 := sb32.keep _ _ ne_b4_b24 h27
 have h34 := sb32.keep _ _ ne_b9_b24 h28
 have le35 := le_store le29 wf ge_b24 sb32.n sb32.keep
 refine hk30 _ _ ?_
 refine Ops.nil ?_
 refine h15 _ _ ?_
 refine Run.seq fun K36 h37 => ?_
 refine Run.seq fun K38 h39 => ?_
 refine Run.region ?_
 refine Ops.q rfl (qfieldAddr fl29_2 sz27 (by decide) rfl) ?_
 refine Ops.q rfl (qloadAt ag27 rfl rfl sb32.get rfl) ?_
 refine Ops.q rfl (qneqN (b := 0) rfl rfl) ?_
 refine Ops.nil ?_
 refine h39 _ _ ?_
 refine Run.if rfl (fun p40 => ?_) (fun p40 => ?_)
 ·
  refine Run.seq fun K41 h42 => ?_
  refine Run.region ?_
  refine Ops.q rfl (qfieldAddr fl29_2 sz27 (by decide) rfl) ?_
  refine Ops.q rfl (qloadAt ag27 rfl rfl sb32.get rfl) ?_
  refine Ops.q rfl (qbuild rfl (buildV_struct u32 z32 pl32 rfl)) ?_
  refine Ops.l rfl (fun _ _ hk43 _ => wstore (cs := [.bool (false), num (((rS ((g)) l w).2.2 : Nat) : Int)]) (c' := [.bool (false), num (((rS ((g)) l w).2.2 : Nat) : Int)]) sb32.wf rfl rfl rfl rfl sz32 h34 (Nat.le_of_ble_eq_true rfl) rfl rfl fun A44 sb45 => ?_)
  have h46 := sb45.keep _ _ ne_b4_b9 h33
  have h47 := sb45.keep _ _ ne_b9_b24.symm sb32.get
  have le48 := le_store le35 wf ge_b9 sb45.n sb45.keep
  refine hk43 _ _ ?_
  refine Ops.nil ?_
  refine h42 _ _ ?_
  refine Run.ret ?_
  repeat first | with_reducible refine thenQ_ret ?_ | with_reducible refine blockQ_ret ?_
  exact retQ (resCell ag32 sz32 rfl sb45.get rfl resNil) (⟨by first | (rw [rTrivial, if_pos ‹_›]; rfl) | (rw [rTrivial, if_neg ‹_›, if_neg (by simpa using ‹(!isDehn (symm l)) = true›)]; rfl) | (rw [rTrivial, if_neg ‹_›, if_pos (by simpa using ‹(!isDehn (symm l)) = false›)]; rfl), le48, sb45.wf⟩)
 ·
  refine Run.skip ?_
  refine h37 _ _ ?_
  refine Run.seq fun K49 h50 => ?_
  refine Run.seq fun K51 h52 => ?_
  refine Run.region ?_
  refine Ops.q rfl (qloadAggAt ag24 sz24 rfl rfl h33 rfl) ?_
  refine Ops.l rfl (fun _ _ hk53 _ => vcallF rfl (s_IsDehn ((g)) u l A31 (rasked_pres (rS_err ‹¬ ¬ (rS g l w).2.2 = 0›)) (hu.le le35)) ?_)
  rintro v54 A55 ⟨rfl, leq56, wfq56⟩
  have h57 := leq56.get _ _ h33
  have h58 := leq56.get _ _ h34
  have h59 := leq56.get _ _ sb32.get
  have le60 := le35.trans leq56
  refine hk53 _ _ ?_
  refine Ops.q rfl (qnot rfl) ?_
  refine Ops.nil ?_
  refine h52 _ _ ?_
  refine Run.ifB rfl (fun p61 => ?_) (fun p61 => ?_)
  ·
   refine Run.seq fun K62 h63 => ?_
   refine Run.region ?_
   refine Ops.q rfl (qbuild rfl (buildV_struct u32 z32 pl32 rfl)) ?_
   refine Ops.l rfl (fun _ _ hk64 _ => wstore (cs := [.bool (false), num ((230 : Nat) : Int)]) (c' := [.bool (false), num ((230 : Nat) : Int)]) wfq56 rfl rfl rfl rfl sz32 h58 (Nat.le_of_ble_eq_true rfl) rfl rfl fun A65 sb66 => ?_)
   have h67 := sb66.keep _ _ ne_b4_b9 h57
   have h68 := sb66.keep _ _ ne_b9_b24.symm h59
   have le69 := le_store le60 wf ge_b9 sb66.n sb66.keep
   refine hk64 _ _ ?_
   refine Ops.nil ?_
   refine h63 _ _ ?_
   refine Run.ret ?_
   repeat first | with_reducible refine thenQ_ret ?_ | with_reducible refine blockQ_ret ?_
   exact retQ (resCell ag32 sz32 rfl sb66.get rfl resNil) (⟨by first | (rw [rTrivial, if_pos ‹_›]; rfl) | (rw [rTrivial, if_neg ‹_›, if_neg (by simpa using ‹(!isDehn (symm l)) = true›)]; rfl) | (rw [rTrivial, if_neg ‹_›, if_pos (by simpa using ‹(!isDehn (symm l)) = false›)]; rfl), le69, sb66.wf⟩)
  ·
   refine Run.skip ?_
   refine h50 _ _ ?_
   refine Run.seq fun K70 h71 => ?_
   refine Run.region ?_
   refine Ops.q rfl (qfieldAddr fl29_0 sz9 (by decide) rfl) ?_
   refine Ops.q rfl (qloadAt ag9 rfl rfl h59 rfl) ?_
   refine Ops.q rfl (qseql rfl rfl) ?_
   refine Ops.q rfl (qbuild rfl (buildV_struct u32 z32 pl32 rfl)) ?_
   refine Ops.l rfl (fun _ _ hk72 _ => wstore (cs := [.bool (decide ((rS ((g)) l w).1 = [])), num ((0 : Nat) : Int)]) (c' := [.bool (decide ((rS ((g)) l w).1 = [])), num ((0 : Nat) : Int)]) wfq56 rfl rfl rfl rfl sz32 h58 (Nat.le_of_ble_eq_true rfl) rfl rfl fun A73 sb74 => ?_)
   have h75 := sb74.keep _ _ ne_b4_b9 h57
   have h76 := sb74.keep _ _ ne_b9_b24.symm h59
   have le77 := le_store le60 wf ge_b9 sb74.n sb74.keep
   refine hk72 _ _ ?_
   refine Ops.nil ?_
   refine h71 _ _ ?_
   refine Run.ret ?_
   repeat first | with_reducible refine thenQ_ret ?_ | with_reducible refine blockQ_ret ?_
   exact retQ (resCell ag32 sz32 rfl sb74.get rfl resNil) (⟨by first | (rw [rTrivial, if_pos ‹_›]; rfl) | (rw [rTrivial, if_neg ‹_›, if_neg (by simpa using ‹(!isDehn (symm l)) = true›)]; rfl) | (rw [rTrivial, if_neg ‹_›, if_pos (by simpa using ‹(!isDehn (symm l)) = false›)]; rfl), le77, sb74.wf⟩)

theorem s_RCyc (g : Int) (u : Value) (l : List (List UInt8)) (w : List UInt8) (A : AH) (hn : l.length ≤ 1000000) (hw : w.length ≤ 100000) (hu : Slc A 1 u (strs l)) : RetA Tryz.prog 18 #[.agg #[num (g), u], str (w)] A (fun v A1 => v = .agg #[str (rCyclic g l w).1, num (((rCyclic g l w).2.1 : Nat) : Int), num (((rCyclic g l w).2.2 : Nat) : Int)] ∧ A.le A1 ∧ A1.wf) := by
 refine enterA (e := [(0, .agg #[num (g), u]), (1, str (w))]) (args := [.agg #[num (g), u], str (w)]) Tryz.call18 Tryz.func18 rfl Tryz.results18 Tryz.ntmps18 rfl rfl rfl (fun wf => ?_)
 have le_ := AH.le.refl A
 have hsle := rS_le g l w
 have hcl0 := wCore_length (rS g l w).1
 refine Run.seq fun K1 h2 => ?_
 refine Run.region ?_
 refine Ops.l rfl (fun _ _ hk3 _ => wbox wf rfl rfl fun A5 b4 nb6 => ?_)
 have ge_b4 := none_of wf (Nat.le_trans le_.n nb6.lo)
 have le7 := le_.trans nb6.le
 refine hk3 _ _ ?_
 refine Ops.l rfl (fun _ _ hk8 _ => walloc nb6.wf z29 rfl fun A10 b9 nb11 => ?_)
 have ne_b4_b9 := ne_new nb6.wf nb6.get nb11.lo
 have ge_b9 := none_of wf (Nat.le_trans le7.n nb11.lo)
 have h12 := nb11.le.get _ _ nb6.get
 have le13 := le7.trans nb11.le
 refine hk8 _ _ ?_
 refine Ops.nil ?_
 refine h2 _ _ ?_
 refine Run.seq fun K14 h15 => ?_
 refine Run.region ?_
 refine Ops.q rfl (qloadAggAt ag24 sz24 rfl rfl h12 rfl) ?_
 refine Ops.q rfl (qmove rfl) ?_
 refine Ops.l rfl (fun _ _ hk16 _ => vcallF rfl (s_RShorten ((g)) u l w A10 (by omega) (by first | omega | (simp only [List.length_append, List.length_drop, List.length_take]; omega) | (have := (rshorten_le (symm l) (rot c i)).1; rw [rot_length] at this; exact Nat.le_trans this (by omega))) (hu.le le13)) ?_)
 rintro v17 A18 ⟨rfl, leq19, wfq19⟩
 have h20 := leq19.get _ _ h12
 have h21 := leq19.get _ _ nb11.get
 have le22 := le13.trans leq19
 refine hk16 _ _ ?_
 refine Ops.l rfl (fun _ _ hk23 _ => walloc wfq19 z29 rfl fun A25 b24 nb26 => ?_)
 have ne_b4_b24 := ne_new wfq19 h20 nb26.lo
 have ne_b9_b24 := ne_new wfq19 h21 nb26.lo
 have ge_b24 := none_of wf (Nat.le_trans le22.n nb26.lo)
 have h27 := nb26.le.get _ _ h20
 have h28 := nb26.le.get _ _ h21
 have le29 := le22.trans nb26.le
 refine hk23 _ _ ?_
 refine Ops.l rfl (fun _ _ hk30 _ => wstore (cs := [str ((rS ((g)) l w).1), num (((rS ((g)) l w).2.1 : Nat) : Int), num (((rS ((g)) l w).2.2 : Nat) : Int)]) (c' := [str ((rS ((g)) l w).1), num (((rS ((g)) l w).2.1 : Nat) : Int), num (((rS ((g)) l w).2.2 : Nat) : Int)]) nb26.wf rfl rfl rfl rfl sz29 nb26.get (Nat.le_of_ble_eq_true rfl) rfl rfl fun A31 sb32 => ?_)
 have h33 := sb32.keep _ _ ne_b4_b24 h27
 have h34 := sb32.keep _ _ ne_b9_b24 h28
 have le35 := le_store le29 wf ge_b24 sb32.n sb32.keep
 refine hk30 _ _ ?_
 refine Ops.nil ?_
 refine h15 _ _ ?_
 refine Run.seq fun K36 h37 => ?_
 refine Run.seq fun K38 h39 => ?_
 refine Run.region ?_
 refine Ops.q rfl (qfieldAddr fl29_2 sz27 (by decide) rfl) ?_
 refine Ops.q rfl (qloadAt ag27 rfl rfl sb32.get rfl) ?_
 refine Ops.q rfl (qneqN (b := 0) rfl rfl) ?_
 refine Ops.nil ?_
 refine h39 _ _ ?_
 refine Run.if rfl (fun p40 => ?_) (fun p40 => ?_)
 ·
  refine Run.seq fun K41 h42 => ?_
  refine Run.region ?_
  refine Ops.q rfl (qloadAggAt ag29 sz29 rfl rfl sb32.get rfl) ?_
  refine Ops.l rfl (fun _ _ hk43 _ => wstore (cs := [str ((rS ((g)) l w).1), num (((rS ((g)) l w).2.1 : Nat) : Int), num (((rS ((g)) l w).2.2 : Nat) : Int)]) (c' := [str ((rS ((g)) l w).1), num (((rS ((g)) l w).2.1 : Nat) : Int), num (((rS ((g)) l w).2.2 : Nat) : Int)]) sb32.wf rfl rfl rfl rfl sz29 h34 (Nat.le_of_ble_eq_true rfl) rfl rfl fun A44 sb45 => ?_)
  have h46 := sb45.keep _ _ ne_b4_b9 h33
  have h47 := sb45.keep _ _ ne_b9_b24.symm sb32.get
  have le48 := le_store le35 wf ge_b9 sb45.n sb45.keep
  refine hk43 _ _ ?_
  refine Ops.nil ?_
  refine h42 _ _ ?_
  refine Run.ret ?_
  repeat first | with_reducible refine thenQ_ret ?_ | with_reducible refine blockQ_ret ?_
  exact retQ (resCell ag29 sz29 rfl sb45.get rfl resNil) (⟨by first | (rw [rCyclic, if_pos ‹_›]; rfl) | (rw [rCyclic, if_neg ‹_›]; dsimp only; rw [← hf, rcyc_stop (rcycAt_none (by omega) hq)]; rfl), le48, sb45.wf⟩)
 ·
  refine Run.skip ?_
  refine h37 _ _ ?_
  refine Run.seq fun K49 h50 => ?_
  refine Run.region ?_
  refine Ops.q rfl (qloadAggAt ag24 sz24 rfl rfl h33 rfl) ?_
  refine Ops.l rfl (fun _ _ hk51 _ => vcallF rfl (s_Symm ((g)) u l A31 (rasked_pres (rS_err ‹¬ ¬ (rS g l w).2.2 = 0›)) (hu.le le35)) ?_)
  rintro v52 A53 ⟨sq54, rfl, leq54, wfq54, frq54, hsxq54, hslq54⟩
  have h55 := leq54.get _ _ h33
  have h56 := leq54.get _ _ h34
  have h57 := leq54.get _ _ sb32.get
  have le58 := le35.trans leq54
  have fr59 := frq54.base le35
  have no60 := frq54.ne sb32.wf h33
  have no61 := frq54.ne sb32.wf h34
  have no62 := frq54.ne sb32.wf sb32.get
  have hsx := hsxq54
  have hsl := hslq54
  refine hk51 _ _ ?_
  refine Ops.q rfl (qfield1 (cs := [sq54, num ((0 : Nat) : Int)]) fl60_0 ag22 rfl rfl) ?_
  refine Ops.q rfl (qassign rfl) ?_
  refine Ops.nil ?_
  refine h50 _ _ ?_
  refine Run.seq fun K63 h64 => ?_
  refine Run.region ?_
  refine Ops.q rfl (qfieldAddr fl29_0 sz9 (by decide) rfl) ?_
  refine Ops.q rfl (qloadAt ag9 rfl rfl h57 rfl) ?_
  refine Ops.l rfl (fun _ _ hk65 _ => vcallF rfl (s_RCyclic ((rS ((g)) l w).1) A53 (by first | omega | (simp only [List.length_append, List.length_drop, List.length_take]; omega) | (have := (rshorten_le (symm l) (rot c i)).1; rw [rot_length] at this; exact Nat.le_trans this (by omega)))) ?_)
  rintro v66 A67 ⟨rfl, leq68, wfq68⟩
  have h69 := leq68.get _ _ h55
  have h70 := leq68.get _ _ h56
  have h71 := leq68.get _ _ h57
  have fr72 := fr59.le leq68
  have le73 := le58.trans leq68
  refine hk65 _ _ ?_
  refine Ops.q rfl (qmove rfl) ?_
  refine Ops.q rfl (qextract rfl rfl) ?_
  refine Ops.q rfl (qextract rfl rfl) ?_
  refine Ops.q rfl (qassign rfl) ?_
  refine Ops.q rfl (qassign rfl) ?_
  refine Ops.nil ?_
  refine h64 _ _ ?_
  refine Run.seq fun K74 h75 => ?_
  refine Run.region ?_
  refine Ops.q rfl (qfieldAddr fl29_1 sz3 (by decide) rfl) ?_
  refine Ops.q rfl (qloadAt ag3 rfl rfl h71 rfl) ?_
  refine Ops.q rfl (qassign rfl) ?_
  refine Ops.nil ?_
  refine h75 _ _ ?_
  refine Run.seq fun K76 h77 => ?_
  refine Run.seq fun K78 h79 => ?_
  refine Run.region ?_
  refine Ops.q rfl (qassign rfl) ?_
  refine Ops.nil ?_
  refine h79 _ _ ?_
  refine Run.block ?_
  refine Run.loop (X := List UInt8 × Nat × Nat × Nat) (fun ⟨c, n, f, i⟩ => [(4, .pointer (some ⟨b9, 0, none⟩)), (6, sq54), (7, str (c)), (9, num ((n : Nat) : Int)), (10, num ((i : Nat) : Int))]) (fun ⟨c, n, f, i⟩ B => (c.length < f ∧ c.length ≤ 100000 ∧ n + c.length ≤ 200000 ∧ i ≤ c.length ∧ (∀ j, j < i → (rlong (symm l) (rot c j)).pi = false) ∧ rcyc (symm l) f c n = rcyc (symm l) ((wCore (rS g l w).1).length + 1) (wCore (rS g l w).1) (rS g l w).2.1) ∧ A.le B ∧ Fresh A B sq54 1 (strs (symm l)) ∧ B.get b9 = some (.row true [str ([]), num ((0 : Nat) : Int), num ((0 : Nat) : Int)] 3) ∧ V.blk sq54 ≠ some b9) (fun ⟨c, n, f, i⟩ => 100001 * c.length + (c.length - i)) (⟨wCore (rS g l w).1, (rS g l w).2.1, (wCore (rS g l w).1).length + 1, 0⟩) (EnvLe.cons rfl <| EnvLe.cons rfl <| EnvLe.cons rfl <| EnvLe.cons rfl <| EnvLe.cons (congrArg (fun z : Int => some (num z)) (by omega)) <| EnvLe.nil _) (⟨⟨Nat.lt_succ_self _, by omega, by omega, Nat.zero_le _, fun j h => by omega, rfl⟩, le73, fr72, h70, no61⟩) ?_
  rintro ⟨c, n, f, i⟩ B81 ⟨⟨hcf, hcl, hn2, hi, hq, hf⟩, le80, fk_oq5480, hr_b980, no_oq54_b980⟩
  refine Run.wf fun wf82 => ?_
  have hrl := rot_length c i
  have hlt := fun q : (rlong (symm l) (rot c i)).pi = true => rshorten_lt q
  have hcc := wCore_length (rshorten (symm l) (rot c i)).1
  refine Run.seq fun K83 h84 => ?_
  refine Run.seq fun K85 h86 => ?_
  refine Run.region ?_
  refine Ops.q rfl (qmove rfl) ?_
  refine Ops.q rfl (qmove rfl) ?_
  refine Ops.q rfl (qslen u9 rfl) ?_
  refine Ops.q rfl (qlssN rfl rfl) ?_
  refine Ops.nil ?_
  refine h86 _ _ ?_
  refine Run.if rfl (fun p87 => ?_) (fun p87 => ?_)
  ·
   refine Run.skip ?_
   refine h84 _ _ ?_
   refine Run.seq fun K88 h89 => ?_
   refine Run.block ?_
   refine Run.seq fun K90 h91 => ?_
   refine Run.drawn [0, 1, 2, 3, 4, 5, 6, 7] mixed (by kernel_rfl) (by kernel_rfl) rfl ?_
   refine DOps.q rfl rfl rfl (qmove rfl) ?_
   refine DOps.q rfl rfl rfl (qmove rfl) ?_
   refine DOps.q rfl rfl rfl (qslLo u9 rfl rfl (by omega)) ?_
   refine DOps.q rfl rfl rfl (qmove rfl) ?_
   refine DOps.q rfl rfl rfl (qmove rfl) ?_
   refine DOps.q rfl rfl rfl (qslHi u9 rfl rfl (by omega)) ?_
   refine DOps.q rfl rfl rfl (qsadd rfl rfl (by (try simp only [List.length_append, List.length_drop, List.length_take]); omega)) ?_
   refine DOps.q rfl rfl rfl (qassign rfl) ?_
   refine DOps.done ?_
   refine h91 _ _ ?_
   refine Run.seq fun K92 h93 => ?_
   refine Run.seq fun K94 h95 => ?_
   refine Run.region ?_
   refine Ops.q rfl (qmove rfl) ?_
   refine Ops.q rfl (qmove rfl) ?_
   refine Ops.l rfl (fun _ _ hk96 _ => vcallF rfl (s_rlong sq54 (symm l) ((c.drop i) ++ (c.take i)) B81 (by omega) (fun x q => Nat.le_trans (hsx x q) (by omega)) (by first | omega | (simp only [List.length_append, List.length_drop, List.length_take]; omega) | (have := (rshorten_le (symm l) (rot c i)).1; rw [rot_length] at this; exact Nat.le_trans this (by omega))) fk_oq5480.slc) ?_)
   rintro v97 A98 ⟨rfl, leq99, wfq99⟩
   have h100 := leq99.get _ _ hr_b980
   have fr101 := fk_oq5480.le leq99
   have le102 := le80.trans leq99
   refine hk96 _ _ ?_
   refine Ops.q rfl (qfield1 (cs := [num (((rlong (symm l) ((c.drop i) ++ (c.take i))).pa : Nat) : Int), num (((rlong (symm l) ((c.drop i) ++ (c.take i))).pn : Nat) : Int), str ((rlong (symm l) ((c.drop i) ++ (c.take i))).pb), .bool ((rlong (symm l) ((c.drop i) ++ (c.take i))).pi)]) fl63_3 ag4 rfl rfl) ?_
   refine Ops.q rfl (qnot rfl) ?_
   refine Ops.nil ?_
   refine h95 _ _ ?_
   refine Run.ifB rfl (fun p103 => ?_) (fun p103 => ?_)
   ·
    refine Run.exit ?_
    refine h89 _ _ ?_
    refine Run.region ?_
    refine Ops.q rfl (qmove rfl) ?_
    refine Ops.q rfl (qaddN (b := 1) rfl rfl (by omega)) ?_
    refine Ops.q rfl (qassign rfl) ?_
    refine Ops.nil ?_
    exact ⟨⟨c, n, f, i + 1⟩, EnvLe.cons rfl <| EnvLe.cons rfl <| EnvLe.cons rfl <| EnvLe.cons rfl <| EnvLe.cons (congrArg (fun z : Int => some (num z)) (by omega)) <| EnvLe.nil _, rfl, ⟨⟨hcf, hcl, hn2, by omega, fun j h => (Nat.lt_succ_iff_lt_or_eq.1 h).elim (hq j) (fun z => by subst z; simpa using ‹(!(rlong (symm l) _).pi) = true›), hf⟩, le102, fr101, h100, no_oq54_b980⟩, (by (try dsimp only); first | omega | (have h1 := hlt (by simpa using ‹(!(rlong (symm l) _).pi) = false›); have h2 : (wCore (rshorten (symm l) (List.drop i c ++ List.take i c)).1).length ≤ _ := hcc; omega))⟩
   ·
    refine Run.skip ?_
    refine h93 _ _ ?_
    refine Run.seq fun K104 h105 => ?_
    refine Run.region ?_
    refine Ops.q rfl (qmove rfl) ?_
    refine Ops.q rfl (qmove rfl) ?_
    refine Ops.l rfl (fun _ _ hk106 _ => vcallF rfl (s_rshorten sq54 (symm l) ((c.drop i) ++ (c.take i)) A98 (by omega) (fun x q => Nat.le_trans (hsx x q) (by omega)) (by first | omega | (simp only [List.length_append, List.length_drop, List.length_take]; omega) | (have := (rshorten_le (symm l) (rot c i)).1; rw [rot_length] at this; exact Nat.le_trans this (by omega))) fr101.slc) ?_)
    rintro v107 A108 ⟨rfl, leq109, wfq109⟩
    have h110 := leq109.get _ _ h100
    have fr111 := fr101.le leq109
    have le112 := le102.trans leq109
    refine hk106 _ _ ?_
    refine Ops.l rfl (fun _ _ hk113 _ => walloc wfq109 z29 rfl fun A115 b114 nb116 => ?_)
    have ne_b9_b114 := ne_new wfq109 h110 nb116.lo
    have no117 := fr111.own.ne_new wfq109 nb116.lo
    have ge_b114 := none_of wf (Nat.le_trans le112.n nb116.lo)
    have h118 := nb116.le.get _ _ h110
    have fr119 := fr111.le nb116.le
    have le120 := le112.trans nb116.le
    refine hk113 _ _ ?_
    refine Ops.l rfl (fun _ _ hk121 _ => wstore (cs := [str ((rshorten (symm l) ((c.drop i) ++ (c.take i))).1), num (((rshorten (symm l) ((c.drop i) ++ (c.take i))).2 : Nat) : Int), num ((0 : Nat) : Int)]) (c' := [str ((rshorten (symm l) ((c.drop i) ++ (c.take i))).1), num (((rshorten (symm l) ((c.drop i) ++ (c.take i))).2 : Nat) : Int), num ((0 : Nat) : Int)]) nb116.wf rfl rfl rfl rfl sz29 nb116.get (Nat.le_of_ble_eq_true rfl) rfl rfl fun A122 sb123 => ?_)
    have h124 := sb123.keep _ _ ne_b9_b114 h118
    have fr125 := fr119.keep sb123.keep no117
    have le126 := le_store le120 wf ge_b114 sb123.n sb123.keep
    refine hk121 _ _ ?_
    refine Ops.nil ?_
    refine h105 _ _ ?_
    refine Run.seq fun K127 h128 => ?_
    refine Run.region ?_
    refine Ops.q rfl (qmove rfl) ?_
    refine Ops.q rfl (qfieldAddr fl29_1 sz3 (by decide) rfl) ?_
    refine Ops.q rfl (qloadAt ag3 rfl rfl sb123.get rfl) ?_
    refine Ops.q rfl (qaddN rfl rfl (by have h1 := hlt (by simpa using ‹(!(rlong (symm l) _).pi) = false›); have h2 : (rshorten (symm l) (List.drop i c ++ List.take i c)).2 + _ ≤ _ := h1.2; omega)) ?_
    refine Ops.q rfl (qassign rfl) ?_
    refine Ops.nil ?_
    refine h128 _ _ ?_
    refine Run.seq fun K129 h130 => ?_
    refine Run.region ?_
    refine Ops.q rfl (qfieldAddr fl29_0 sz9 (by decide) rfl) ?_
    refine Ops.q rfl (qloadAt ag9 rfl rfl sb123.get rfl) ?_
    refine Ops.l rfl (fun _ _ hk131 _ => vcallF rfl (s_RCyclic ((rshorten (symm l) ((c.drop i) ++ (c.take i))).1) A122 (by first | omega | (simp only [List.length_append, List.length_drop, List.length_take]; omega) | (have := (rshorten_le (symm l) (rot c i)).1; rw [rot_length] at this; exact Nat.le_trans this (by omega)))) ?_)
    rintro v132 A133 ⟨rfl, leq134, wfq134⟩
    have h135 := leq134.get _ _ h124
    have h136 := leq134.get _ _ sb123.get
    have fr137 := fr125.le leq134
    have le138 := le126.trans leq134
    refine hk131 _ _ ?_
    refine Ops.q rfl (qmove rfl) ?_
    refine Ops.q rfl (qextract rfl rfl) ?_
    refine Ops.q rfl (qextract rfl rfl) ?_
    refine Ops.q rfl (qassign rfl) ?_
    refine Ops.nil ?_
    refine h130 _ _ ?_
    refine Run.region ?_
    refine Ops.q rfl (qassign rfl) ?_
    refine Ops.nil ?_
    refine h89 _ _ ?_
    refine Run.region ?_
    refine Ops.q rfl (qmove rfl) ?_
    refine Ops.q rfl (qadd rfl rfl (by omega)) ?_
    refine Ops.q rfl (qassign rfl) ?_
    refine Ops.nil ?_
    exact ⟨⟨wCore ((rshorten (symm l) ((c.drop i) ++ (c.take i))).1), n + ((rshorten (symm l) ((c.drop i) ++ (c.take i))).2), f - 1, 0⟩, EnvLe.cons rfl <| EnvLe.cons rfl <| EnvLe.cons rfl <| EnvLe.cons rfl <| EnvLe.cons (congrArg (fun z : Int => some (num z)) (by omega)) <| EnvLe.nil _, rfl, ⟨(by have hp : (rlong (symm l) (rot c i)).pi = true := (by simpa using ‹(!(rlong (symm l) _).pi) = false›); have h1 := hlt hp; exact ⟨Nat.lt_of_le_of_lt hcc (by omega), Nat.le_trans hcc (by omega), Nat.le_trans (Nat.add_le_add_left hcc _) (by show n + (rshorten (symm l) (rot c i)).2 + (rshorten (symm l) (rot c i)).1.length ≤ 200000; omega), Nat.zero_le _, fun j h => absurd h (Nat.not_lt_zero _), by rw [rcyc_go hcf (rcycAt_found (by omega) hq hp)] at hf; exact hf⟩), le138, fr137, h135, no_oq54_b980⟩, (by (try dsimp only); first | omega | (have h1 := hlt (by simpa using ‹(!(rlong (symm l) _).pi) = false›); have h2 : (wCore (rshorten (symm l) (List.drop i c ++ List.take i c)).1).length ≤ _ := hcc; omega))⟩
  ·
   refine Run.exit ?_
   refine h77 _ _ ?_
   refine Run.seq fun K139 h140 => ?_
   refine Run.region ?_
   refine Ops.q rfl (qmove rfl) ?_
   refine Ops.q rfl (qmove rfl) ?_
   refine Ops.q rfl (qbuild rfl (buildV_struct u29 z29 pl29 rfl)) ?_
   refine Ops.l rfl (fun _ _ hk141 _ => wstore (cs := [str (c), num ((n : Nat) : Int), num ((0 : Nat) : Int)]) (c' := [str (c), num ((n : Nat) : Int), num ((0 : Nat) : Int)]) wf82 rfl rfl rfl rfl sz29 hr_b980 (Nat.le_of_ble_eq_true rfl) rfl rfl fun A142 sb143 => ?_)
   have fr144 := fk_oq5480.keep sb143.keep no_oq54_b980
   have le145 := le_store le80 wf ge_b9 sb143.n sb143.keep
   refine hk141 _ _ ?_
   refine Ops.nil ?_
   refine h140 _ _ ?_
   refine Run.ret ?_
   repeat first | with_reducible refine thenQ_ret ?_ | with_reducible refine blockQ_ret ?_
   exact retQ (resCell ag29 sz29 rfl sb143.get rfl resNil) (⟨by first | (rw [rCyclic, if_pos ‹_›]; rfl) | (rw [rCyclic, if_neg ‹_›]; dsimp only; rw [← hf, rcyc_stop (rcycAt_none (by omega) hq)]; rfl), le145, sb143.wf⟩)
end Go.Proofs.YtaccklloepfemaaGreatDoor
