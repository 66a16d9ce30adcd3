/- The contracts of the functions, one by one: what each comes to. -/
import Derived.Test.YtaccklloepfemaaGreatDoorDehnFB
namespace Go.Proofs.YtaccklloepfemaaGreatDoor
open Go Go.RowKit V
set_option maxRecDepth 100000
set_option linter.unusedVariables false
set_option linter.unusedSimpArgs false
theorem u3 : type_of% @Tryz.underlying3 := @Tryz.underlying3

theorem s_RIndex (c : UInt8) (A : AH) : RetA Tryz.prog 82 #[byt (c)] A (fun v A1 => v = num (ix c) ∧ A = A1) := by
 refine enterA (e := [(0, byt (c))]) (args := [byt (c)]) Tryz.call82 Tryz.func82 rfl Tryz.results82 Tryz.ntmps82 rfl rfl rfl (fun wf => ?_)
 have le_ := AH.le.refl A
 have hb1 := (c - 97).toNat_lt
 have hb2 := (c - 65).toNat_lt
 refine Run.seq fun K1 h2 => ?_
 refine Run.region ?_
 refine Ops.q rfl (qassign rfl) ?_
 refine Ops.nil ?_
 refine h2 _ _ ?_
 refine Run.seq fun K3 h4 => ?_
 refine Run.seq fun K5 h6 => ?_
 refine Run.region ?_
 refine Ops.q rfl (qmove rfl) ?_
 refine Ops.q rfl (qgeqB (d := 97) rfl rfl) ?_
 refine Ops.q rfl (qmove rfl) ?_
 refine Ops.part (t := 5) rfl (fun p7 => ?_) (fun p7 => ?_)
 ·
  refine Ops.on rfl rfl ?_
  refine Ops.q rfl (qmove rfl) ?_
  refine Ops.on rfl rfl ?_
  refine Ops.q rfl (qlssB (d := 105) rfl rfl) ?_
  refine Ops.q rfl (qpickT rfl rfl) ?_
  refine Ops.nil ?_
  refine h6 _ _ ?_
  refine Run.if rfl (fun p8 => ?_) (fun p8 => ?_)
  ·
   refine Run.seq fun K9 h10 => ?_
   refine Run.region ?_
   refine Ops.q rfl (qmove rfl) ?_
   refine Ops.q rfl (qsubB (d := 97) rfl rfl) ?_
   refine Ops.q rfl (qconvB u5 u3 rfl) ?_
   refine Ops.q rfl (qmulN (a := 2) rfl rfl (by omega)) ?_
   refine Ops.q rfl (qassign rfl) ?_
   refine Ops.nil ?_
   refine h10 _ _ ?_
   refine Run.ret ?_
   repeat first | with_reducible refine thenQ_ret ?_ | with_reducible refine blockQ_ret ?_
   exact retQ rfl (⟨by first | (rw [← idx_small c ‹_› ‹_›]; rfl) | (rw [← idx_big c ‹_› ‹_›]; rfl) | (rw [idx_no c (fun h => by simp_all) (fun h => by simp_all)]; rfl), rfl⟩)
  ·
   refine Run.skip ?_
   refine h4 _ _ ?_
   refine Run.seq fun K11 h12 => ?_
   refine Run.seq fun K13 h14 => ?_
   refine Run.region ?_
   refine Ops.q rfl (qmove rfl) ?_
   refine Ops.q rfl (qgeqB (d := 65) rfl rfl) ?_
   refine Ops.q rfl (qmove rfl) ?_
   refine Ops.part (t := 15) rfl (fun p15 => ?_) (fun p15 => ?_)
   ·
    refine Ops.on rfl rfl ?_
    refine Ops.q rfl (qmove rfl) ?_
    refine Ops.on rfl rfl ?_
    refine Ops.q rfl (qlssB (d := 73) rfl rfl) ?_
    refine Ops.q rfl (qpickT rfl rfl) ?_
    refine Ops.nil ?_
    refine h14 _ _ ?_
    refine Run.if rfl (fun p16 => ?_) (fun p16 => ?_)
    ·
     refine Run.seq fun K17 h18 => ?_
     refine Run.region ?_
     refine Ops.q rfl (qmove rfl) ?_
     refine Ops.q rfl (qsubB (d := 65) rfl rfl) ?_
     refine Ops.q rfl (qconvB u5 u3 rfl) ?_
     refine Ops.q rfl (qmulN (a := 2) rfl rfl (by omega)) ?_
     refine Ops.q rfl (qaddN (b := 1) rfl rfl (by omega)) ?_
     refine Ops.q rfl (qassign rfl) ?_
     refine Ops.nil ?_
     refine h18 _ _ ?_
     refine Run.ret ?_
     repeat first | with_reducible refine thenQ_ret ?_ | with_reducible refine blockQ_ret ?_
     exact retQ rfl (⟨by first | (rw [← idx_small c ‹_› ‹_›]; rfl) | (rw [← idx_big c ‹_› ‹_›]; rfl) | (rw [idx_no c (fun h => by simp_all) (fun h => by simp_all)]; rfl), rfl⟩)
    ·
     refine Run.skip ?_
     refine h12 _ _ ?_
     refine Run.seq fun K19 h20 => ?_
     refine Run.region ?_
     refine Ops.q rfl (qassign rfl) ?_
     refine Ops.nil ?_
     refine h20 _ _ ?_
     refine Run.ret ?_
     repeat first | with_reducible refine thenQ_ret ?_ | with_reducible refine blockQ_ret ?_
     exact retQ rfl (⟨by first | (rw [← idx_small c ‹_› ‹_›]; rfl) | (rw [← idx_big c ‹_› ‹_›]; rfl) | (rw [idx_no c (fun h => by simp_all) (fun h => by simp_all)]; rfl), rfl⟩)
   ·
    refine Ops.off rfl rfl rfl rfl ?_
    refine Ops.off rfl rfl rfl rfl ?_
    refine Ops.q rfl (qpickF rfl rfl) ?_
    refine Ops.nil ?_
    refine h14 _ _ ?_
    refine Run.cond_false rfl ?_
    refine Run.skip ?_
    refine h12 _ _ ?_
    refine Run.seq fun K21 h22 => ?_
    refine Run.region ?_
    refine Ops.q rfl (qassign rfl) ?_
    refine Ops.nil ?_
    refine h22 _ _ ?_
    refine Run.ret ?_
    repeat first | with_reducible refine thenQ_ret ?_ | with_reducible refine blockQ_ret ?_
    exact retQ rfl (⟨by first | (rw [← idx_small c ‹_› ‹_›]; rfl) | (rw [← idx_big c ‹_› ‹_›]; rfl) | (rw [idx_no c (fun h => by simp_all) (fun h => by simp_all)]; rfl), rfl⟩)
 ·
  refine Ops.off rfl rfl rfl rfl ?_
  refine Ops.off rfl rfl rfl rfl ?_
  refine Ops.q rfl (qpickF rfl rfl) ?_
  refine Ops.nil ?_
  refine h6 _ _ ?_
  refine Run.cond_false rfl ?_
  refine Run.skip ?_
  refine h4 _ _ ?_
  refine Run.seq fun K23 h24 => ?_
  refine Run.seq fun K25 h26 => ?_
  refine Run.region ?_
  refine Ops.q rfl (qmove rfl) ?_
  refine Ops.q rfl (qgeqB (d := 65) rfl rfl) ?_
  refine Ops.q rfl (qmove rfl) ?_
  refine Ops.part (t := 15) rfl (fun p27 => ?_) (fun p27 => ?_)
  ·
   refine Ops.on rfl rfl ?_
   refine Ops.q rfl (qmove rfl) ?_
   refine Ops.on rfl rfl ?_
   refine Ops.q rfl (qlssB (d := 73) rfl rfl) ?_
   refine Ops.q rfl (qpickT rfl rfl) ?_
   refine Ops.nil ?_
   refine h26 _ _ ?_
   refine Run.if rfl (fun p28 => ?_) (fun p28 => ?_)
   ·
    refine Run.seq fun K29 h30 => ?_
    refine Run.region ?_
    refine Ops.q rfl (qmove rfl) ?_
    refine Ops.q rfl (qsubB (d := 65) rfl rfl) ?_
    refine Ops.q rfl (qconvB u5 u3 rfl) ?_
    refine Ops.q rfl (qmulN (a := 2) rfl rfl (by omega)) ?_
    refine Ops.q rfl (qaddN (b := 1) rfl rfl (by omega)) ?_
    refine Ops.q rfl (qassign rfl) ?_
    refine Ops.nil ?_
    refine h30 _ _ ?_
    refine Run.ret ?_
    repeat first | with_reducible refine thenQ_ret ?_ | with_reducible refine blockQ_ret ?_
    exact retQ rfl (⟨by first | (rw [← idx_small c ‹_› ‹_›]; rfl) | (rw [← idx_big c ‹_› ‹_›]; rfl) | (rw [idx_no c (fun h => by simp_all) (fun h => by simp_all)]; rfl), rfl⟩)
   ·
    refine Run.skip ?_
    refine h24 _ _ ?_
    refine Run.seq fun K31 h32 => ?_
    refine Run.region ?_
    refine Ops.q rfl (qassign rfl) ?_
    refine Ops.nil ?_
    refine h32 _ _ ?_
    refine Run.ret ?_
    repeat first | with_reducible refine thenQ_ret ?_ | with_reducible refine blockQ_ret ?_
    exact retQ rfl (⟨by first | (rw [← idx_small c ‹_› ‹_›]; rfl) | (rw [← idx_big c ‹_› ‹_›]; rfl) | (rw [idx_no c (fun h => by simp_all) (fun h => by simp_all)]; rfl), rfl⟩)
  ·
   refine Ops.off rfl rfl rfl rfl ?_
   refine Ops.off rfl rfl rfl rfl ?_
   refine Ops.q rfl (qpickF rfl rfl) ?_
   refine Ops.nil ?_
   refine h26 _ _ ?_
   refine Run.cond_false rfl ?_
   refine Run.skip ?_
   refine h24 _ _ ?_
   refine Run.seq fun K33 h34 => ?_
   refine Run.region ?_
   refine Ops.q rfl (qassign rfl) ?_
   refine Ops.nil ?_
   refine h34 _ _ ?_
   refine Run.ret ?_
   repeat first | with_reducible refine thenQ_ret ?_ | with_reducible refine blockQ_ret ?_
   exact retQ rfl (⟨by first | (rw [← idx_small c ‹_› ‹_›]; rfl) | (rw [← idx_big c ‹_› ‹_›]; rfl) | (rw [idx_no c (fun h => by simp_all) (fun h => by simp_all)]; rfl), rfl⟩)

theorem s_RLetter (i : Nat) (A : AH) (hi : i < 16) : RetA Tryz.prog 81 #[num ((i : Nat) : Int)] A (fun v A1 => v = byt (letters.getD i 0) ∧ A = A1) := by
 refine enterA (e := [(0, num ((i : Nat) : Int))]) (args := [num ((i : Nat) : Int)]) Tryz.call81 Tryz.func81 rfl Tryz.results81 Tryz.ntmps81 rfl rfl rfl (fun wf => ?_)
 have le_ := AH.le.refl A
 refine Run.seq fun K1 h2 => ?_
 refine Run.region ?_
 refine Ops.q rfl (qassign rfl) ?_
 refine Ops.nil ?_
 refine h2 _ _ ?_
 refine Run.seq fun K3 h4 => ?_
 refine Run.seq fun K5 h6 => ?_
 refine Run.region ?_
 refine Ops.q rfl (qmove rfl) ?_
 refine Ops.q rfl (qlssN (b := 0) rfl rfl) ?_
 refine Ops.q rfl (qmove rfl) ?_
 refine Ops.part (t := 5) rfl (fun p7 => ?_) (fun p7 => ?_)
 ·
  refine Ops.off rfl rfl rfl rfl ?_
  refine Ops.off rfl rfl rfl rfl ?_
  refine Ops.q rfl (qpickT rfl rfl) ?_
  refine Ops.nil ?_
  refine h6 _ _ ?_
  refine Run.cond_true rfl ?_
  refine Run.seq fun K8 h9 => ?_
  refine Run.region ?_
  refine Ops.q rfl (qassign rfl) ?_
  refine Ops.nil ?_
  refine h9 _ _ ?_
  refine Run.ret ?_
  repeat first | with_reducible refine thenQ_ret ?_ | with_reducible refine blockQ_ret ?_
  exact retQ rfl (⟨by first | (exfalso; omega) | (rw [← ltr_even ⟨i, hi⟩ (by assumption)]; rfl) | (rw [← ltr_odd ⟨i, hi⟩ (by assumption)]; rfl), rfl⟩)
 ·
  refine Ops.on rfl rfl ?_
  refine Ops.q rfl (qmove rfl) ?_
  refine Ops.on rfl rfl ?_
  refine Ops.q rfl (qgeqN (b := 16) rfl rfl) ?_
  refine Ops.q rfl (qpickF rfl rfl) ?_
  refine Ops.nil ?_
  refine h6 _ _ ?_
  refine Run.if rfl (fun p10 => ?_) (fun p10 => ?_)
  ·
   refine Run.seq fun K11 h12 => ?_
   refine Run.region ?_
   refine Ops.q rfl (qassign rfl) ?_
   refine Ops.nil ?_
   refine h12 _ _ ?_
   refine Run.ret ?_
   repeat first | with_reducible refine thenQ_ret ?_ | with_reducible refine blockQ_ret ?_
   exact retQ rfl (⟨by first | (exfalso; omega) | (rw [← ltr_even ⟨i, hi⟩ (by assumption)]; rfl) | (rw [← ltr_odd ⟨i, hi⟩ (by assumption)]; rfl), rfl⟩)
  ·
   refine Run.skip ?_
   refine h4 _ _ ?_
   refine Run.seq fun K13 h14 => ?_
   refine Run.seq fun K15 h16 => ?_
   refine Run.region ?_
   refine Ops.q rfl (qmove rfl) ?_
   refine Ops.q rfl (qremN (b := 2) rfl rfl (by omega)) ?_
   refine Ops.q rfl (qeqlN (b := 0) rfl rfl) ?_
   refine Ops.nil ?_
   refine h16 _ _ ?_
   refine Run.if rfl (fun p17 => ?_) (fun p17 => ?_)
   ·
    refine Run.seq fun K18 h19 => ?_
    refine Run.region ?_
    refine Ops.q rfl (qmove rfl) ?_
    refine Ops.q rfl (qquoN (b := 2) rfl rfl (by omega)) ?_
    refine Ops.q rfl (qconv8 u3 u5 rfl) ?_
    refine Ops.q rfl (qaddB (c := 97) rfl rfl) ?_
    refine Ops.q rfl (qassign rfl) ?_
    refine Ops.nil ?_
    refine h19 _ _ ?_
    refine Run.ret ?_
    repeat first | with_reducible refine thenQ_ret ?_ | with_reducible refine blockQ_ret ?_
    exact retQ rfl (⟨by first | (exfalso; omega) | (rw [← ltr_even ⟨i, hi⟩ (by assumption)]; rfl) | (rw [← ltr_odd ⟨i, hi⟩ (by assumption)]; rfl), rfl⟩)
   ·
    refine Run.skip ?_
    refine h14 _ _ ?_
    refine Run.seq fun K20 h21 => ?_
    refine Run.region ?_
    refine Ops.q rfl (qmove rfl) ?_
    refine Ops.q rfl (qquoN (b := 2) rfl rfl (by omega)) ?_
    refine Ops.q rfl (qconv8 u3 u5 rfl) ?_
    refine Ops.q rfl (qaddB (c := 65) rfl rfl) ?_
    refine Ops.q rfl (qassign rfl) ?_
    refine Ops.nil ?_
    refine h21 _ _ ?_
    refine Run.ret ?_
    repeat first | with_reducible refine thenQ_ret ?_ | with_reducible refine blockQ_ret ?_
    exact retQ rfl (⟨by first | (exfalso; omega) | (rw [← ltr_even ⟨i, hi⟩ (by assumption)]; rfl) | (rw [← ltr_odd ⟨i, hi⟩ (by assumption)]; rfl), rfl⟩)

theorem s_ROther (c : UInt8) (A : AH) (hc : 0 ≤ ix c) : RetA Tryz.prog 49 #[byt (c)] A (fun v A1 => v = byt (c ^^^ 32) ∧ A = A1) := by
 refine enterA (e := [(0, byt (c))]) (args := [byt (c)]) Tryz.call49 Tryz.func49 rfl Tryz.results49 Tryz.ntmps49 rfl rfl rfl (fun wf => ?_)
 have le_ := AH.le.refl A
 refine Run.seq fun K1 h2 => ?_
 refine Run.region ?_
 refine Ops.q rfl (qassign rfl) ?_
 refine Ops.nil ?_
 refine h2 _ _ ?_
 refine Run.seq fun K3 h4 => ?_
 refine Run.region ?_
 refine Ops.q rfl (qmove rfl) ?_
 refine Ops.l rfl (fun _ _ hk5 _ => vcallF rfl (s_RIndex c A) ?_)
 rintro v6 A7 ⟨rfl, rfl⟩
 refine hk5 _ _ ?_
 refine Ops.q rfl (qint (by decide) (by decide) rfl rfl (ix_xor c hc)) ?_
 refine Ops.l rfl (fun _ _ hk9 _ => vcallF rfl (s_RLetter (ixn (c ^^^ 32)) A (ixn_lt _)) ?_)
 rintro v10 A11 ⟨rfl, rfl⟩
 refine hk9 _ _ ?_
 refine Ops.q rfl (qassign rfl) ?_
 refine Ops.nil ?_
 refine h4 _ _ ?_
 refine Run.ret ?_
 repeat first | with_reducible refine thenQ_ret ?_ | with_reducible refine blockQ_ret ?_
 exact retQ rfl (⟨by rw [ltr_ixn _ (ix_flip c hc)]; rfl, rfl⟩)

theorem s_RCheck (k : Int) (w : List UInt8) (A : AH) : RetA Tryz.prog 80 #[num (k), str (w)] A (fun v A1 => v = num ((wcheck k w : Nat) : Int) ∧ A = A1) := by
 refine enterA (e := [(0, num (k)), (1, str (w))]) (args := [num (k), str (w)]) Tryz.call80 Tryz.func80 rfl Tryz.results80 Tryz.ntmps80 rfl rfl rfl (fun wf => ?_)
 have le_ := AH.le.refl A
 refine Run.seq fun K1 h2 => ?_
 refine Run.region ?_
 refine Ops.q rfl (qassign rfl) ?_
 refine Ops.nil ?_
 refine h2 _ _ ?_
 refine Run.seq fun K3 h4 => ?_
 refine Run.seq fun K5 h6 => ?_
 refine Run.region ?_
 refine Ops.q rfl (qmove rfl) ?_
 refine Ops.q rfl (qlss rfl rfl) ?_
 refine Ops.q rfl (qmove rfl) ?_
 refine Ops.part (t := 9) rfl (fun p7 => ?_) (fun p7 => ?_)
 ·
  refine Ops.off rfl rfl rfl rfl ?_
  refine Ops.off rfl rfl rfl rfl ?_
  refine Ops.q rfl (qpickT rfl rfl) ?_
  refine Ops.nil ?_
  refine h6 _ _ ?_
  refine Run.cond_true rfl ?_
  refine Run.seq fun K8 h9 => ?_
  refine Run.region ?_
  refine Ops.q rfl (qassign rfl) ?_
  refine Ops.nil ?_
  refine h9 _ _ ?_
  refine Run.ret ?_
  repeat first | with_reducible refine thenQ_ret ?_ | with_reducible refine blockQ_ret ?_
  exact retQ rfl (⟨by first | (rw [wcheck, if_pos (by omega)]; rfl) | (rw [wcheck, if_neg (by omega), if_pos (by omega)]; rfl) | (rw [wcheck_bad (i := i) (by omega) (by omega) (by omega) (by omega)]; rfl) | (rw [wcheck_good (i := i) (by omega) (by omega) (by omega) hn]; rfl), rfl⟩)
 ·
  refine Ops.on rfl rfl ?_
  refine Ops.q rfl (qmove rfl) ?_
  refine Ops.on rfl rfl ?_
  refine Ops.q rfl (qgtr rfl rfl) ?_
  refine Ops.q rfl (qpickF rfl rfl) ?_
  refine Ops.nil ?_
  refine h6 _ _ ?_
  refine Run.if rfl (fun p10 => ?_) (fun p10 => ?_)
  ·
   refine Run.seq fun K11 h12 => ?_
   refine Run.region ?_
   refine Ops.q rfl (qassign rfl) ?_
   refine Ops.nil ?_
   refine h12 _ _ ?_
   refine Run.ret ?_
   repeat first | with_reducible refine thenQ_ret ?_ | with_reducible refine blockQ_ret ?_
   exact retQ rfl (⟨by first | (rw [wcheck, if_pos (by omega)]; rfl) | (rw [wcheck, if_neg (by omega), if_pos (by omega)]; rfl) | (rw [wcheck_bad (i := i) (by omega) (by omega) (by omega) (by omega)]; rfl) | (rw [wcheck_good (i := i) (by omega) (by omega) (by omega) hn]; rfl), rfl⟩)
  ·
   refine Run.skip ?_
   refine h4 _ _ ?_
   refine Run.seq fun K13 h14 => ?_
   refine Run.seq fun K15 h16 => ?_
   refine Run.region ?_
   refine Ops.q rfl (qmove rfl) ?_
   refine Ops.q rfl (qslen u9 rfl) ?_
   refine Ops.q rfl (qgtrN (b := 100000) rfl rfl) ?_
   refine Ops.nil ?_
   refine h16 _ _ ?_
   refine Run.if rfl (fun p17 => ?_) (fun p17 => ?_)
   ·
    refine Run.seq fun K18 h19 => ?_
    refine Run.region ?_
    refine Ops.q rfl (qassign rfl) ?_
    refine Ops.nil ?_
    refine h19 _ _ ?_
    refine Run.ret ?_
    repeat first | with_reducible refine thenQ_ret ?_ | with_reducible refine blockQ_ret ?_
    exact retQ rfl (⟨by first | (rw [wcheck, if_pos (by omega)]; rfl) | (rw [wcheck, if_neg (by omega), if_pos (by omega)]; rfl) | (rw [wcheck_bad (i := i) (by omega) (by omega) (by omega) (by omega)]; rfl) | (rw [wcheck_good (i := i) (by omega) (by omega) (by omega) hn]; rfl), rfl⟩)
   ·
    refine Run.skip ?_
    refine h14 _ _ ?_
    refine Run.seq fun K20 h21 => ?_
    refine Run.seq fun K22 h23 => ?_
    refine Run.region ?_
    refine Ops.q rfl (qassign rfl) ?_
    refine Ops.nil ?_
    refine h23 _ _ ?_
    refine Run.block ?_
    refine Run.loop (X := Nat) (fun i => [(0, num (k)), (1, str (w)), (5, num ((i : Nat) : Int))]) (fun i B => (i ≤ w.length ∧ ∀ j, j < i → 0 ≤ ix (w.getD j 0) ∧ ix (w.getD j 0) < 2 * k) ∧ A = B) (fun i => w.length - i) 0 (EnvLe.cons rfl <| EnvLe.cons rfl <| EnvLe.cons rfl <| EnvLe.nil _) (⟨⟨by omega, fun j h => by omega⟩, rfl⟩) ?_
    rintro i B25 ⟨⟨hi, hn⟩, rfl⟩
    refine Run.seq fun K26 h27 => ?_
    refine Run.seq fun K28 h29 => ?_
    refine Run.region ?_
    refine Ops.q rfl (qmove rfl) ?_
    refine Ops.q rfl (qmove rfl) ?_
    refine Ops.q rfl (qslen u9 rfl) ?_
    refine Ops.q rfl (qlssN rfl rfl) ?_
    refine Ops.nil ?_
    refine h29 _ _ ?_
    refine Run.if rfl (fun p30 => ?_) (fun p30 => ?_)
    ·
     refine Run.skip ?_
     refine h27 _ _ ?_
     refine Run.seq fun K31 h32 => ?_
     refine Run.block ?_
     refine Run.seq fun K33 h34 => ?_
     refine Run.region ?_
     refine Ops.q rfl (qmove rfl) ?_
     refine Ops.q rfl (qmove rfl) ?_
     refine Ops.q rfl (qsix u9 rfl rfl (by omega)) ?_
     refine Ops.l rfl (fun _ _ hk35 _ => vcallF rfl (s_RIndex (w.getD i 0) A) ?_)
     rintro v36 A37 ⟨rfl, rfl⟩
     refine hk35 _ _ ?_
     refine Ops.q rfl (qassign rfl) ?_
     refine Ops.nil ?_
     refine h34 _ _ ?_
     refine Run.seq fun K39 h40 => ?_
     refine Run.region ?_
     refine Ops.q rfl (qmove rfl) ?_
     refine Ops.q rfl (qlss rfl rfl) ?_
     refine Ops.q rfl (qmove rfl) ?_
     refine Ops.part (t := 28) rfl (fun p41 => ?_) (fun p41 => ?_)
     ·
      refine Ops.off rfl rfl rfl rfl ?_
      refine Ops.off rfl rfl rfl rfl ?_
      refine Ops.off rfl rfl rfl rfl ?_
      refine Ops.off rfl rfl rfl rfl ?_
      refine Ops.q rfl (qpickT rfl rfl) ?_
      refine Ops.nil ?_
      refine h40 _ _ ?_
      refine Run.cond_true rfl ?_
      refine Run.seq fun K42 h43 => ?_
      refine Run.region ?_
      refine Ops.q rfl (qassign rfl) ?_
      refine Ops.nil ?_
      refine h43 _ _ ?_
      refine Run.ret ?_
      repeat first | with_reducible refine thenQ_ret ?_ | with_reducible refine blockQ_ret ?_
      exact retQ rfl (⟨by first | (rw [wcheck, if_pos (by omega)]; rfl) | (rw [wcheck, if_neg (by omega), if_pos (by omega)]; rfl) | (rw [wcheck_bad (i := i) (by omega) (by omega) (by omega) (by omega)]; rfl) | (rw [wcheck_good (i := i) (by omega) (by omega) (by omega) hn]; rfl), rfl⟩)
     ·
      refine Ops.on rfl rfl ?_
      refine Ops.q rfl (qmove rfl) ?_
      refine Ops.on rfl rfl ?_
      refine Ops.q rfl (qmove rfl) ?_
      refine Ops.on rfl rfl ?_
      refine Ops.q rfl (qmul rfl rfl (by omega)) ?_
      refine Ops.on rfl rfl ?_
      refine Ops.q rfl (qgeq rfl rfl) ?_
      refine Ops.q rfl (qpickF rfl rfl) ?_
      refine Ops.nil ?_
      refine h40 _ _ ?_
      refine Run.if rfl (fun p44 => ?_) (fun p44 => ?_)
      ·
       refine Run.seq fun K45 h46 => ?_
       refine Run.region ?_
       refine Ops.q rfl (qassign rfl) ?_
       refine Ops.nil ?_
       refine h46 _ _ ?_
       refine Run.ret ?_
       repeat first | with_reducible refine thenQ_ret ?_ | with_reducible refine blockQ_ret ?_
       exact retQ rfl (⟨by first | (rw [wcheck, if_pos (by omega)]; rfl) | (rw [wcheck, if_neg (by omega), if_pos (by omega)]; rfl) | (rw [wcheck_bad (i := i) (by omega) (by omega) (by omega) (by omega)]; rfl) | (rw [wcheck_good (i := i) (by omega) (by omega) (by omega) hn]; rfl), rfl⟩)
      ·
       refine Run.skip ?_
       refine h32 _ _ ?_
       refine Run.region ?_
       refine Ops.q rfl (qmove rfl) ?_
       refine Ops.q rfl (qaddN (b := 1) rfl rfl (by omega)) ?_
       refine Ops.q rfl (qassign rfl) ?_
       refine Ops.nil ?_
       exact ⟨i + 1, EnvLe.cons rfl <| EnvLe.cons rfl <| EnvLe.cons rfl <| EnvLe.nil _, rfl, ⟨⟨by omega, fun j h => (Nat.lt_succ_iff_lt_or_eq.1 h).elim (hn j) (fun z => by subst z; omega)⟩, rfl⟩, (by (try dsimp only); omega)⟩
    ·
     refine Run.exit ?_
     refine h21 _ _ ?_
     refine Run.seq fun K47 h48 => ?_
     refine Run.region ?_
     refine Ops.q rfl (qassign rfl) ?_
     refine Ops.nil ?_
     refine h48 _ _ ?_
     refine Run.ret ?_
     repeat first | with_reducible refine thenQ_ret ?_ | with_reducible refine blockQ_ret ?_
     exact retQ rfl (⟨by first | (rw [wcheck, if_pos (by omega)]; rfl) | (rw [wcheck, if_neg (by omega), if_pos (by omega)]; rfl) | (rw [wcheck_bad (i := i) (by omega) (by omega) (by omega) (by omega)]; rfl) | (rw [wcheck_good (i := i) (by omega) (by omega) (by omega) hn]; rfl), rfl⟩)

theorem s_RIs (w : List UInt8) (A : AH) : RetA Tryz.prog 48 #[str (w)] A (fun v A1 => v = .bool (isw w) ∧ A = A1) := by
 refine enterA (e := [(0, str (w))]) (args := [str (w)]) Tryz.call48 Tryz.func48 rfl Tryz.results48 Tryz.ntmps48 rfl rfl rfl (fun wf => ?_)
 have le_ := AH.le.refl A
 refine Run.seq fun K1 h2 => ?_
 refine Run.region ?_
 refine Ops.q rfl (qassign rfl) ?_
 refine Ops.nil ?_
 refine h2 _ _ ?_
 refine Run.seq fun K3 h4 => ?_
 refine Run.region ?_
 refine Ops.q rfl (qmove rfl) ?_
 refine Ops.l rfl (fun _ _ hk5 _ => vcallF rfl (s_RCheck ((8 : Nat) : Int) w A) ?_)
 rintro v6 A7 ⟨rfl, rfl⟩
 refine hk5 _ _ ?_
 refine Ops.q rfl (qeqlN (b := 0) rfl rfl) ?_
 refine Ops.q rfl (qassign rfl) ?_
 refine Ops.nil ?_
 refine h4 _ _ ?_
 refine Run.ret ?_
 repeat first | with_reducible refine thenQ_ret ?_ | with_reducible refine blockQ_ret ?_
 exact retQ rfl (⟨by rw [← wcheck8d]; rfl, rfl⟩)

theorem s_RInverse (w : List UInt8) (A : AH) (hw : w.length ≤ 1000000) : RetA Tryz.prog 21 #[str (w)] A (fun v A1 => v = str (wInverse w) ∧ A.le A1 ∧ A1.wf) := by
 refine enterA (e := [(0, str (w))]) (args := [str (w)]) Tryz.call21 Tryz.func21 rfl Tryz.results21 Tryz.ntmps21 rfl rfl rfl (fun wf => ?_)
 have le_ := AH.le.refl A
 refine Run.seq fun K1 h2 => ?_
 refine Run.region ?_
 refine Ops.q rfl (qassign rfl) ?_
 refine Ops.nil ?_
 refine h2 _ _ ?_
 refine Run.seq fun K3 h4 => ?_
 refine Run.seq fun K5 h6 => ?_
 refine Run.region ?_
 refine Ops.q rfl (qmove rfl) ?_
 refine Ops.l rfl (fun _ _ hk7 _ => vcallF rfl (s_RIs w A) ?_)
 rintro v8 A9 ⟨rfl, rfl⟩
 refine hk7 _ _ ?_
 refine Ops.q rfl (qnot rfl) ?_
 refine Ops.nil ?_
 refine h6 _ _ ?_
 refine Run.ifB rfl (fun p11 => ?_) (fun p11 => ?_)
 ·
  refine Run.seq fun K12 h13 => ?_
  refine Run.region ?_
  refine Ops.q rfl (qassign rfl) ?_
  refine Ops.nil ?_
  refine h13 _ _ ?_
  refine Run.ret ?_
  repeat first | with_reducible refine thenQ_ret ?_ | with_reducible refine blockQ_ret ?_
  exact retQ rfl (⟨by unfold wInverse; first | (rw [if_neg (by simpa using ‹(!isw w) = true›)]; rfl) | (rw [if_pos (by simpa using ‹(!isw w) = false›), ho, show j = 0 by omega]; rfl), le_, wf⟩)
 ·
  refine Run.skip ?_
  refine h4 _ _ ?_
  refine Run.seq fun K14 h15 => ?_
  refine Run.region ?_
  refine Ops.q rfl (qassign rfl) ?_
  refine Ops.nil ?_
  refine h15 _ _ ?_
  refine Run.seq fun K16 h17 => ?_
  refine Run.seq fun K18 h19 => ?_
  refine Run.region ?_
  refine Ops.q rfl (qmove rfl) ?_
  refine Ops.q rfl (qslen u9 rfl) ?_
  refine Ops.q rfl (qsub rfl rfl (by omega)) ?_
  refine Ops.q rfl (qassign rfl) ?_
  refine Ops.nil ?_
  refine h19 _ _ ?_
  refine Run.block ?_
  refine Run.loop (X := Nat × List UInt8 × Value) (fun ⟨j, o, s⟩ => [(0, str (w)), (3, s), (4, num ((j : Int) - 1))]) (fun ⟨j, o, s⟩ B => (j ≤ w.length ∧ o = ((w.drop j).map (· ^^^ 32)).reverse) ∧ A.le B ∧ Fresh A B s 1 (byteCells o)) (fun ⟨j, o, s⟩ => j) (⟨w.length, [], .slice none 0 0⟩) (EnvLe.cons rfl <| EnvLe.cons rfl <| EnvLe.cons (congrArg (fun z : Int => some (num z)) (by omega)) <| EnvLe.nil _) (⟨⟨Nat.le_refl _, by simp⟩, le_, (Fresh.nil A A 1)⟩) ?_
  rintro ⟨j, o, s⟩ B21 ⟨⟨hj, ho⟩, le20, fr_s20⟩
  refine Run.wf fun wf22 => ?_
  have hlo : o.length = w.length - j := by rw [ho]; simp
  have hk := okl_is (w := w) (by simpa using ‹(!isw w) = false›)
  have htn : ((j : Int) - 1).toNat = j - 1 := by omega
  refine Run.seq fun K23 h24 => ?_
  refine Run.seq fun K25 h26 => ?_
  refine Run.region ?_
  refine Ops.q rfl (qmove rfl) ?_
  refine Ops.q rfl (qgeq rfl rfl) ?_
  refine Ops.nil ?_
  refine h26 _ _ ?_
  refine Run.if rfl (fun p27 => ?_) (fun p27 => ?_)
  ·
   refine Run.skip ?_
   refine h24 _ _ ?_
   refine Run.seq fun K28 h29 => ?_
   refine Run.block ?_
   refine Run.region ?_
   refine Ops.q rfl (qmove rfl) ?_
   refine Ops.q rfl (qmove rfl) ?_
   refine Ops.q rfl (qmove rfl) ?_
   refine Ops.q rfl (qsix u9 rfl (natI (by omega)) (by omega)) ?_
   refine Ops.l rfl (fun _ _ hk30 _ => vcallF rfl (s_ROther (w.getD ((j : Int) - 1).toNat 0) B21 (okl_get hk (by omega))) ?_)
   rintro v31 A32 ⟨rfl, rfl⟩
   refine hk30 _ _ ?_
   refine Ops.l rfl (fun _ _ hk34 _ => wbuildSlice (c := [byt ((w.getD ((j : Int) - 1).toNat 0) ^^^ 32)]) wf22 rfl (buildSliceV_of u80 sz5 z5 rfl (by decide) (by decide) rfl) fun A36 b35 nb37 => ?_)
   have no38 := fr_s20.own.ne_new wf22 nb37.lo
   have ge_b35 := none_of wf (Nat.le_trans le20.n nb37.lo)
   have fr39 := fr_s20.le nb37.le
   have le40 := le20.trans nb37.le
   refine hk34 _ _ ?_
   refine Ops.l rfl (fun _ _ hk41 _ => wappend (ys := [byt ((w.getD ((j : Int) - 1).toNat 0) ^^^ 32)]) rfl rfl u80 sz5 inf5 z5 rfl (by decide) u80 (fun _ h => by cases h) fr39.own (listOf_row (n := 1) nb37.get rfl) rfl rfl (by show (_ + _) * 1 ≤ _; simp only [bytes_length, List.length_cons, List.length_nil]; (try simp only [List.length_append, List.length_cons, List.length_nil]); omega) (by simp only [bytes_length, List.length_cons, List.length_nil]; (try simp only [List.length_append, List.length_cons, List.length_nil]); omega) fun A42 v43 ap44 => ?_)
   rw [show ([byt ((w.getD ((j : Int) - 1).toNat 0) ^^^ 32)] : List Value) = byteCells [(w.getD ((j : Int) - 1).toNat 0) ^^^ 32] from rfl, bytes_append] at ap44
   obtain ⟨fr47, le48⟩ := Fresh.grow fr39 le40 wf ap44
   refine hk41 _ _ ?_
   refine Ops.q rfl (qassign rfl) ?_
   refine Ops.nil ?_
   refine h29 _ _ ?_
   refine Run.region ?_
   refine Ops.q rfl (qmove rfl) ?_
   refine Ops.q rfl (qsub rfl rfl (by omega)) ?_
   refine Ops.q rfl (qassign rfl) ?_
   refine Ops.nil ?_
   exact ⟨⟨j - 1, o ++ [(w.getD ((j : Int) - 1).toNat 0) ^^^ 32], v43⟩, EnvLe.cons rfl <| EnvLe.cons rfl <| EnvLe.cons (congrArg (fun z : Int => some (num z)) (by omega)) <| EnvLe.nil _, rfl, ⟨⟨by omega, by rw [ho, htn]; exact inv_step (by omega) hj⟩, le48, fr47⟩, (by (try dsimp only); omega)⟩
  ·
   refine Run.exit ?_
   refine h17 _ _ ?_
   refine Run.seq fun K49 h50 => ?_
   refine Run.region ?_
   refine Ops.q rfl (qmove rfl) ?_
   refine Ops.l rfl (fun _ _ hk51 _ => wtoString (s := o) rfl u80 u9 u5 fr_s20.slc ?_)
   refine hk51 _ _ ?_
   refine Ops.q rfl (qassign rfl) ?_
   refine Ops.nil ?_
   refine h50 _ _ ?_
   refine Run.ret ?_
   repeat first | with_reducible refine thenQ_ret ?_ | with_reducible refine blockQ_ret ?_
   exact retQ rfl (⟨by unfold wInverse; first | (rw [if_neg (by simpa using ‹(!isw w) = true›)]; rfl) | (rw [if_pos (by simpa using ‹(!isw w) = false›), ho, show j = 0 by omega]; rfl), le20, wf22⟩)

theorem s_RReduce (w : List UInt8) (A : AH) (hw : w.length ≤ 1000000) : RetA Tryz.prog 20 #[str (w)] A (fun v A1 => v = str (wReduce w) ∧ A.le A1 ∧ A1.wf) := by
 refine enterA (e := [(0, str (w))]) (args := [str (w)]) Tryz.call20 Tryz.func20 rfl Tryz.results20 Tryz.ntmps20 rfl rfl rfl (fun wf => ?_)
 have le_ := AH.le.refl A
 refine Run.seq fun K1 h2 => ?_
 refine Run.region ?_
 refine Ops.q rfl (qassign rfl) ?_
 refine Ops.nil ?_
 refine h2 _ _ ?_
 refine Run.seq fun K3 h4 => ?_
 refine Run.seq fun K5 h6 => ?_
 refine Run.region ?_
 refine Ops.q rfl (qmove rfl) ?_
 refine Ops.l rfl (fun _ _ hk7 _ => vcallF rfl (s_RIs w A) ?_)
 rintro v8 A9 ⟨rfl, rfl⟩
 refine hk7 _ _ ?_
 refine Ops.q rfl (qnot rfl) ?_
 refine Ops.nil ?_
 refine h6 _ _ ?_
 refine Run.ifB rfl (fun p11 => ?_) (fun p11 => ?_)
 ·
  refine Run.seq fun K12 h13 => ?_
  refine Run.region ?_
  refine Ops.q rfl (qassign rfl) ?_
  refine Ops.nil ?_
  refine h13 _ _ ?_
  refine Run.ret ?_
  repeat first | with_reducible refine thenQ_ret ?_ | with_reducible refine blockQ_ret ?_
  exact retQ rfl (⟨by unfold wReduce; first | (rw [if_neg (by simpa using ‹(!isw w) = true›)]; rfl) | (rw [if_pos (by simpa using ‹(!isw w) = false›), ← h3, drop_end (by omega)]; rfl), le_, wf⟩)
 ·
  refine Run.skip ?_
  refine h4 _ _ ?_
  refine Run.seq fun K14 h15 => ?_
  refine Run.region ?_
  refine Ops.q rfl (qassign rfl) ?_
  refine Ops.nil ?_
  refine h15 _ _ ?_
  refine Run.seq fun K16 h17 => ?_
  refine Run.seq fun K18 h19 => ?_
  refine Run.region ?_
  refine Ops.q rfl (qassign rfl) ?_
  refine Ops.nil ?_
  refine h19 _ _ ?_
  refine Run.block ?_
  refine Run.loop (X := Nat × List UInt8 × Value) (fun ⟨i, o, s⟩ => [(0, str (w)), (3, s), (4, num ((i : Nat) : Int))]) (fun ⟨i, o, s⟩ B => (i ≤ w.length ∧ (w.drop i).foldl push o = red w ∧ o.length ≤ i) ∧ A.le B ∧ Fresh A B s 1 (byteCells o)) (fun ⟨i, o, s⟩ => w.length - i) (⟨0, [], .slice none 0 0⟩) (EnvLe.cons rfl <| EnvLe.cons rfl <| EnvLe.cons rfl <| EnvLe.nil _) (⟨⟨Nat.zero_le _, rfl, Nat.le_refl _⟩, le_, (Fresh.nil A A 1)⟩) ?_
  rintro ⟨i, o, s⟩ B21 ⟨⟨hi, h3, h4⟩, le20, fr_s20⟩
  refine Run.wf fun wf22 => ?_
  have hk := okl_is (w := w) (by simpa using ‹(!isw w) = false›)
  refine Run.seq fun K23 h24 => ?_
  refine Run.seq fun K25 h26 => ?_
  refine Run.region ?_
  refine Ops.q rfl (qmove rfl) ?_
  refine Ops.q rfl (qmove rfl) ?_
  refine Ops.q rfl (qslen u9 rfl) ?_
  refine Ops.q rfl (qlssN rfl rfl) ?_
  refine Ops.nil ?_
  refine h26 _ _ ?_
  refine Run.if rfl (fun p27 => ?_) (fun p27 => ?_)
  ·
   refine Run.skip ?_
   refine h24 _ _ ?_
   refine Run.seq fun K28 h29 => ?_
   refine Run.block ?_
   refine Run.seq fun K30 h31 => ?_
   refine Run.region ?_
   refine Ops.q rfl (qmove rfl) ?_
   refine Ops.q rfl (qlenS (n := o.length) u80 rfl fr_s20.slc (by omega) (bytes_len _)) ?_
   refine Ops.q rfl (qassign rfl) ?_
   refine Ops.nil ?_
   refine h31 _ _ ?_
   refine Run.join (fun f A1 => EnvLe [(30, .bool (decide (0 < o.length ∧ o.getD (o.length - 1) 0 = w.getD i 0 ^^^ 32))), (0, str (w)), (3, s), (4, num ((i : Nat) : Int)), (9, num ((i : Nat) : Int)), (10, str (w)), (11, num ((w.length : Nat) : Int)), (12, .bool (decide (i < w.length))), (15, s), (16, num ((o.length : Nat) : Int)), (5, num ((o.length : Nat) : Int))] f.e ∧ f.ds = [] ∧ B21 = A1) ?_ ?_
   ·
    refine Run.drawn [0, 1, 2, 3, 4, 5, 6, 7, 8, 9, 10, 11, 12, 13] mixed (by kernel_rfl) (by kernel_rfl) rfl ?_
    refine DOps.q rfl rfl rfl (qmove rfl) ?_
    refine DOps.q rfl rfl rfl (qgtrN (b := 0) rfl rfl) ?_
    refine DOps.q rfl rfl rfl (qmove rfl) ?_
    refine DOps.part (t := 19) rfl (fun p34 => ?_) (fun p34 => ?_)
    ·
     refine DOps.qOn rfl rfl rfl rfl rfl (qmove rfl) ?_
     refine DOps.qOn rfl rfl rfl rfl rfl (qmove rfl) ?_
     refine DOps.qOn rfl rfl rfl rfl rfl (qsubN (b := 1) rfl rfl (by omega)) ?_
     obtain ⟨b35, f35, rw35, r35, rc35, n35, k35, e35, l35, g35, cl35, cs35⟩ := Slc.at (i := o.length - 1) fr_s20.slc (by simp only [bytes_length]; omega) (by omega)
     refine DOps.qOn rfl rfl rfl rfl rfl (qindexS u80 sz5 rfl e35 rfl l35) ?_
     have hc36 := cellOf (off := f35 + (o.length - 1) * 1) g35 ((elt0 cs35).trans (bytes_get (by omega)))
     refine DOps.qOn rfl rfl rfl rfl rfl (qloadAt ag5 rfl rfl g35 ((elt0 cs35).trans (bytes_get (by omega)))) ?_
     refine DOps.qOn rfl rfl rfl rfl rfl (qmove rfl) ?_
     refine DOps.qOn rfl rfl rfl rfl rfl (qmove rfl) ?_
     refine DOps.qOn rfl rfl rfl rfl rfl (qsix u9 rfl rfl (by omega)) ?_
     refine DOps.lOn rfl rfl rfl rfl rfl (fun _ _ hk37 _ => vcallF rfl (s_ROther (w.getD i 0) B21 (okl_get hk (by omega))) ?_)
     rintro v38 A39 ⟨rfl, rfl⟩
     refine hk37 _ _ (HeldNow.list (L := [(⟨b35, f35 + (o.length - 1) * 1, none⟩, byt (o.getD (o.length - 1) 0))]) (by kernel_rfl) (heldCons hc36 heldNil)) ?_
     refine DOps.qOn rfl rfl rfl rfl rfl (qeqlB rfl rfl) ?_
     refine DOps.q rfl rfl rfl (qpickT rfl rfl) ?_
     refine DOps.done ?_
     exact ⟨EnvLe.cons (show some _ = some _ from congrArg (fun b => some (Value.bool b)) (show (decide ((o.getD (o.length - 1) 0) = ((w.getD i 0) ^^^ 32))) = decide (0 < o.length ∧ o.getD (o.length - 1) 0 = w.getD i 0 ^^^ 32) from (by first | rfl | simp only [‹0 < _›, true_and] | simp only [‹¬ 0 < _›, false_and, decide_false]))) <| EnvLe.cons rfl <| EnvLe.cons rfl <| EnvLe.cons rfl <| EnvLe.cons rfl <| EnvLe.cons rfl <| EnvLe.cons rfl <| EnvLe.cons rfl <| EnvLe.cons rfl <| EnvLe.cons rfl <| EnvLe.cons rfl <| EnvLe.nil _, rfl, rfl⟩
    ·
     refine DOps.qOff rfl rfl rfl rfl rfl rfl ?_
     refine DOps.qOff rfl rfl rfl rfl rfl rfl ?_
     refine DOps.qOff rfl rfl rfl rfl rfl rfl ?_
     refine DOps.qOff rfl rfl rfl rfl rfl rfl ?_
     refine DOps.qOff rfl rfl rfl rfl rfl rfl ?_
     refine DOps.qOff rfl rfl rfl rfl rfl rfl ?_
     refine DOps.qOff rfl rfl rfl rfl rfl rfl ?_
     refine DOps.qOff rfl rfl rfl rfl rfl rfl ?_
     refine DOps.lOff rfl rfl rfl rfl rfl rfl ?_
     refine DOps.qOff rfl rfl rfl rfl rfl rfl ?_
     refine DOps.q rfl rfl rfl (qpickF rfl rfl) ?_
     refine DOps.done ?_
     exact ⟨EnvLe.cons (show some _ = some _ from congrArg (fun b => some (Value.bool b)) (show (false) = decide (0 < o.length ∧ o.getD (o.length - 1) 0 = w.getD i 0 ^^^ 32) from (by first | rfl | simp only [‹0 < _›, true_and] | simp only [‹¬ 0 < _›, false_and, decide_false]))) <| EnvLe.cons rfl <| EnvLe.cons rfl <| EnvLe.cons rfl <| EnvLe.cons rfl <| EnvLe.cons rfl <| EnvLe.cons rfl <| EnvLe.cons rfl <| EnvLe.cons rfl <| EnvLe.cons rfl <| EnvLe.cons rfl <| EnvLe.nil _, rfl, rfl⟩
   ·
    rintro ⟨fe, fd⟩ _ ⟨hE, rfl, rfl⟩
    refine Run.forget hE ?_
    refine Run.if rfl (fun p41 => ?_) (fun p41 => ?_)
    ·
     refine Run.region ?_
     refine Ops.q rfl (qmove rfl) ?_
     refine Ops.q rfl (qmove rfl) ?_
     refine Ops.q rfl (qsubN (b := 1) rfl rfl (by omega)) ?_
     obtain ⟨b42, n42, c42, q42, m42, d42⟩ := fr_s20.nonnil (by intro q; have := congrArg List.length q; simp only [bytes_length, List.length_nil] at this; omega)
     subst q42
     rw [bytes_length, Nat.mul_one] at m42
     have fr43 := fr_s20.take (k := o.length - 1) (by omega)
     rw [Nat.mul_one, bytes_take] at fr43
     refine Ops.q rfl (qsliceHi u80 sz5 rfl rfl (by omega)) ?_
     refine Ops.q rfl (qassign rfl) ?_
     refine Ops.nil ?_
     refine h29 _ _ ?_
     refine Run.region ?_
     refine Ops.q rfl (qmove rfl) ?_
     refine Ops.q rfl (qaddN (b := 1) rfl rfl (by omega)) ?_
     refine Ops.q rfl (qassign rfl) ?_
     refine Ops.nil ?_
     exact ⟨⟨i + 1, o.take (o.length - 1), .slice (some ⟨b42, 0, none⟩) (o.length - 1) c42⟩, EnvLe.cons rfl <| EnvLe.cons rfl <| EnvLe.cons rfl <| EnvLe.nil _, rfl, ⟨⟨by omega, by first | exact push_go (by assumption) h3 ‹_› | exact push_no (by assumption) h3 ‹_›, by simp only [List.length_append, List.length_take, List.length_cons, List.length_nil]; omega⟩, le20, fr43⟩, (by (try dsimp only); omega)⟩
    ·
     refine Run.region ?_
     refine Ops.q rfl (qmove rfl) ?_
     refine Ops.q rfl (qmove rfl) ?_
     refine Ops.q rfl (qmove rfl) ?_
     refine Ops.q rfl (qsix u9 rfl rfl (by omega)) ?_
     refine Ops.l rfl (fun _ _ hk44 _ => wbuildSlice (c := [byt (w.getD i 0)]) wf22 rfl (buildSliceV_of u80 sz5 z5 rfl (by decide) (by decide) rfl) fun A46 b45 nb47 => ?_)
     have no48 := fr_s20.own.ne_new wf22 nb47.lo
     have ge_b45 := none_of wf (Nat.le_trans le20.n nb47.lo)
     have fr49 := fr_s20.le nb47.le
     have le50 := le20.trans nb47.le
     refine hk44 _ _ ?_
     refine Ops.l rfl (fun _ _ hk51 _ => wappend (ys := [byt (w.getD i 0)]) rfl rfl u80 sz5 inf5 z5 rfl (by decide) u80 (fun _ h => by cases h) fr49.own (listOf_row (n := 1) nb47.get rfl) rfl rfl (by show (_ + _) * 1 ≤ _; simp only [bytes_length, List.length_cons, List.length_nil]; (try simp only [List.length_append, List.length_cons, List.length_nil]); omega) (by simp only [bytes_length, List.length_cons, List.length_nil]; (try simp only [List.length_append, List.length_cons, List.length_nil]); omega) fun A52 v53 ap54 => ?_)
     rw [show ([byt (w.getD i 0)] : List Value) = byteCells [w.getD i 0] from rfl, bytes_append] at ap54
     obtain ⟨fr57, le58⟩ := Fresh.grow fr49 le50 wf ap54
     refine hk51 _ _ ?_
     refine Ops.q rfl (qassign rfl) ?_
     refine Ops.nil ?_
     refine h29 _ _ ?_
     refine Run.region ?_
     refine Ops.q rfl (qmove rfl) ?_
     refine Ops.q rfl (qaddN (b := 1) rfl rfl (by omega)) ?_
     refine Ops.q rfl (qassign rfl) ?_
     refine Ops.nil ?_
     exact ⟨⟨i + 1, o ++ [w.getD i 0], v53⟩, EnvLe.cons rfl <| EnvLe.cons rfl <| EnvLe.cons rfl <| EnvLe.nil _, rfl, ⟨⟨by omega, by first | exact push_go (by assumption) h3 ‹_› | exact push_no (by assumption) h3 ‹_›, by simp only [List.length_append, List.length_take, List.length_cons, List.length_nil]; omega⟩, le58, fr57⟩, (by (try dsimp only); omega)⟩
  ·
   refine Run.exit ?_
   refine h17 _ _ ?_
   refine Run.seq fun K59 h60 => ?_
   refine Run.region ?_
   refine Ops.q rfl (qmove rfl) ?_
   refine Ops.l rfl (fun _ _ hk61 _ => wtoString (s := o) rfl u80 u9 u5 fr_s20.slc ?_)
   refine hk61 _ _ ?_
   refine Ops.q rfl (qassign rfl) ?_
   refine Ops.nil ?_
   refine h60 _ _ ?_
   refine Run.ret ?_
   repeat first | with_reducible refine thenQ_ret ?_ | with_reducible refine blockQ_ret ?_
   exact retQ rfl (⟨by unfold wReduce; first | (rw [if_neg (by simpa using ‹(!isw w) = true›)]; rfl) | (rw [if_pos (by simpa using ‹(!isw w) = false›), ← h3, drop_end (by omega)]; rfl), le20, wf22⟩)
end Go.Proofs.YtaccklloepfemaaGreatDoor
