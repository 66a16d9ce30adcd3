/- The contracts of the functions, one by one: what each comes to. -/
import Derived.Test.YtaccklloepfemaaGreatDoorDehnFC
namespace Go.Proofs.YtaccklloepfemaaGreatDoor
open Go Go.RowKit V
set_option maxRecDepth 100000
set_option linter.unusedVariables false
set_option linter.unusedSimpArgs false
theorem inf9 : Tryz.prog.info? 9 = some Tryz.t9 := by kernel_rfl

theorem s_RReduceOf (w : List UInt8) (A : AH) (hw : w.length ≤ 1000000) (h : isw w = true) : RetA Tryz.prog 20 #[str w] A (fun v A1 => v = str (red w) ∧ A.le A1 ∧ A1.wf) := by
  have := s_RReduce w A hw
  rwa [wReduce_of h] at this

theorem s_RCyclic (w : List UInt8) (A : AH) (hw : w.length ≤ 1000000) : RetA Tryz.prog 44 #[str (w)] A (fun v A1 => v = .tuple #[str (wCore w), str (wConj w)] ∧ A.le A1 ∧ A1.wf) := by
 refine enterA (e := [(0, str (w))]) (args := [str (w)]) Tryz.call44 Tryz.func44 rfl Tryz.results44 Tryz.ntmps44 rfl rfl rfl (fun wf => ?_)
 have le_ := AH.le.refl A
 refine Run.seq fun K1 h2 => ?_
 refine Run.region ?_
 refine Ops.q rfl (qassign rfl) ?_
 refine Ops.q rfl (qassign rfl) ?_
 refine Ops.nil ?_
 refine h2 _ _ ?_
 refine Run.seq fun K3 h4 => ?_
 refine Run.seq fun K5 h6 => ?_
 refine Run.region ?_
 refine Ops.q rfl (qmove rfl) ?_
 refine Ops.l rfl (fun _ _ hk7 _ => vcallF rfl (s_RIs w A) ?_)
 rintro v8 A9 ⟨rfl, rfl⟩
 refine hk7 _ _ ?_
 refine Ops.q rfl (qnot rfl) ?_
 refine Ops.nil ?_
 refine h6 _ _ ?_
 refine Run.ifB rfl (fun p11 => ?_) (fun p11 => ?_)
 ·
  refine Run.seq fun K12 h13 => ?_
  refine Run.region ?_
  refine Ops.q rfl (qassign rfl) ?_
  refine Ops.q rfl (qassign rfl) ?_
  refine Ops.nil ?_
  refine h13 _ _ ?_
  refine Run.ret ?_
  repeat first | with_reducible refine thenQ_ret ?_ | with_reducible refine blockQ_ret ?_
  exact retQ rfl (⟨by unfold wCore wConj; first | (rw [if_neg (by simpa using ‹(!isw w) = true›), if_neg (by simpa using ‹(!isw w) = true›)]; rfl) | (rw [if_pos (by simpa using ‹(!isw w) = false›), if_pos (by simpa using ‹(!isw w) = false›), cycN_stop hn ‹_›]; rfl), le_, wf⟩)
 ·
  refine Run.skip ?_
  refine h4 _ _ ?_
  refine Run.seq fun K14 h15 => ?_
  refine Run.region ?_
  refine Ops.q rfl (qmove rfl) ?_
  refine Ops.l rfl (fun _ _ hk16 _ => vcallF rfl (s_RReduceOf w A hw (by simpa using ‹(!isw w) = false›)) ?_)
  rintro v17 A18 ⟨rfl, leq19, wfq19⟩
  have le20 := le_.trans leq19
  refine hk16 _ _ ?_
  refine Ops.q rfl (qassign rfl) ?_
  refine Ops.nil ?_
  refine h15 _ _ ?_
  refine Run.seq fun K21 h22 => ?_
  refine Run.region ?_
  refine Ops.q rfl (qassign rfl) ?_
  refine Ops.nil ?_
  refine h22 _ _ ?_
  refine Run.seq fun K23 h24 => ?_
  refine Run.block ?_
  refine Run.loop (X := Nat) (fun n => [(4, str (red w)), (5, num ((n : Nat) : Int))]) (fun n B => (n ≤ cycN (red w)) ∧ A18 = B) (fun n => (red w).length - n) 0 (EnvLe.cons rfl <| EnvLe.cons rfl <| EnvLe.nil _) (⟨Nat.zero_le _, rfl⟩) ?_
  rintro n B26 ⟨hn, rfl⟩
  have hc := cycN_half (red w)
  have hrl := red_length w
  have hk := okl_red (okl_is (w := w) (by simpa using ‹(!isw w) = false›))
  refine Run.seq fun K27 h28 => ?_
  refine Run.join (fun f A1 => EnvLe [(30, .bool (decide (2 * n + 2 ≤ (red w).length ∧ (red w).getD n 0 = (red w).getD ((red w).length - 1 - n) 0 ^^^ 32))), (4, str (red w)), (5, num ((n : Nat) : Int))] f.e ∧ f.ds = [] ∧ A18 = A1) ?_ ?_
  ·
   refine Run.drawn [0, 1, 2, 3, 4, 5, 6, 7, 8, 9, 10, 11, 12, 13, 14, 15, 16, 17, 18, 19] mixed (by kernel_rfl) (by kernel_rfl) rfl ?_
   refine DOps.q rfl rfl rfl (qmove rfl) ?_
   refine DOps.q rfl rfl rfl (qslen u9 rfl) ?_
   refine DOps.q rfl rfl rfl (qmove rfl) ?_
   refine DOps.q rfl rfl rfl (qmulN (a := 2) rfl rfl (by omega)) ?_
   refine DOps.q rfl rfl rfl (qsubN rfl rfl (by omega)) ?_
   refine DOps.q rfl rfl rfl (qgeqN (b := 2) rfl rfl) ?_
   refine DOps.q rfl rfl rfl (qmove rfl) ?_
   refine DOps.part (t := 17) rfl (fun p31 => ?_) (fun p31 => ?_)
   ·
    refine DOps.qOn rfl rfl rfl rfl rfl (qmove rfl) ?_
    refine DOps.qOn rfl rfl rfl rfl rfl (qmove rfl) ?_
    refine DOps.qOn rfl rfl rfl rfl rfl (qslen u9 rfl) ?_
    refine DOps.qOn rfl rfl rfl rfl rfl (qsubN (b := 1) rfl rfl (by omega)) ?_
    refine DOps.qOn rfl rfl rfl rfl rfl (qmove rfl) ?_
    refine DOps.qOn rfl rfl rfl rfl rfl (qsubN rfl rfl (by omega)) ?_
    refine DOps.qOn rfl rfl rfl rfl rfl (qsix u9 rfl rfl (by omega)) ?_
    refine DOps.qOn rfl rfl rfl rfl rfl (qmove rfl) ?_
    refine DOps.qOn rfl rfl rfl rfl rfl (qmove rfl) ?_
    refine DOps.qOn rfl rfl rfl rfl rfl (qsix u9 rfl rfl (by omega)) ?_
    refine DOps.lOn rfl rfl rfl rfl rfl (fun _ _ hk32 _ => vcallF rfl (s_ROther ((red w).getD n 0) A18 (okl_get hk (by omega))) ?_)
    rintro v33 A34 ⟨rfl, rfl⟩
    refine hk32 _ _ (HeldNow.none (by kernel_rfl)) ?_
    refine DOps.qOn rfl rfl rfl rfl rfl (qeqlB rfl rfl) ?_
    refine DOps.q rfl rfl rfl (qpickT rfl rfl) ?_
    refine DOps.done ?_
    exact ⟨EnvLe.cons (show some _ = some _ from congrArg (fun b => some (Value.bool b)) (show (decide (((red w).getD ((((red w).length) - 1) - n) 0) = (((red w).getD n 0) ^^^ 32))) = decide (2 * n + 2 ≤ (red w).length ∧ (red w).getD n 0 = (red w).getD ((red w).length - 1 - n) 0 ^^^ 32) from (by first | (simp only [show 2 * n + 2 ≤ (red w).length from by omega, true_and]; rw [decide_eq_decide]; exact cyc_sym) | simp only [show ¬ 2 * n + 2 ≤ (red w).length from by omega, false_and, decide_false]))) <| EnvLe.cons rfl <| EnvLe.cons rfl <| EnvLe.nil _, rfl, rfl⟩
   ·
    refine DOps.qOff rfl rfl rfl rfl rfl rfl ?_
    refine DOps.qOff rfl rfl rfl rfl rfl rfl ?_
    refine DOps.qOff rfl rfl rfl rfl rfl rfl ?_
    refine DOps.qOff rfl rfl rfl rfl rfl rfl ?_
    refine DOps.qOff rfl rfl rfl rfl rfl rfl ?_
    refine DOps.qOff rfl rfl rfl rfl rfl rfl ?_
    refine DOps.qOff rfl rfl rfl rfl rfl rfl ?_
    refine DOps.qOff rfl rfl rfl rfl rfl rfl ?_
    refine DOps.qOff rfl rfl rfl rfl rfl rfl ?_
    refine DOps.qOff rfl rfl rfl rfl rfl rfl ?_
    refine DOps.lOff rfl rfl rfl rfl rfl rfl ?_
    refine DOps.qOff rfl rfl rfl rfl rfl rfl ?_
    refine DOps.q rfl rfl rfl (qpickF rfl rfl) ?_
    refine DOps.done ?_
    exact ⟨EnvLe.cons (show some _ = some _ from congrArg (fun b => some (Value.bool b)) (show (false) = decide (2 * n + 2 ≤ (red w).length ∧ (red w).getD n 0 = (red w).getD ((red w).length - 1 - n) 0 ^^^ 32) from (by first | (simp only [show 2 * n + 2 ≤ (red w).length from by omega, true_and]; rw [decide_eq_decide]; exact cyc_sym) | simp only [show ¬ 2 * n + 2 ≤ (red w).length from by omega, false_and, decide_false]))) <| EnvLe.cons rfl <| EnvLe.cons rfl <| EnvLe.nil _, rfl, rfl⟩
  ·
   rintro ⟨fe, fd⟩ _ ⟨hE, rfl, rfl⟩
   refine Run.forget hE ?_
   refine Run.if rfl (fun p36 => ?_) (fun p36 => ?_)
   ·
    refine Run.skip ?_
    refine h28 _ _ ?_
    refine Run.block ?_
    refine Run.region ?_
    refine Ops.q rfl (qmove rfl) ?_
    refine Ops.q rfl (qaddN (b := 1) rfl rfl (by omega)) ?_
    refine Ops.q rfl (qassign rfl) ?_
    refine Ops.nil ?_
    exact ⟨n + 1, EnvLe.cons rfl <| EnvLe.cons rfl <| EnvLe.nil _, rfl, ⟨(cycN_go hn ‹_›), rfl⟩, (by (try dsimp only); omega)⟩
   ·
    refine Run.exit ?_
    refine h24 _ _ ?_
    refine Run.seq fun K37 h38 => ?_
    refine Run.drawn [0, 1, 2, 3, 4, 5, 6, 7, 8, 9, 10, 11] mixed (by kernel_rfl) (by kernel_rfl) rfl ?_
    refine DOps.q rfl rfl rfl (qmove rfl) ?_
    refine DOps.q rfl rfl rfl (qmove rfl) ?_
    refine DOps.q rfl rfl rfl (qmove rfl) ?_
    refine DOps.q rfl rfl rfl (qslen u9 rfl) ?_
    refine DOps.q rfl rfl rfl (qmove rfl) ?_
    refine DOps.q rfl rfl rfl (qsubN rfl rfl (by omega)) ?_
    refine DOps.q rfl rfl rfl (qsl u9 rfl rfl rfl (by omega)) ?_
    refine DOps.q rfl rfl rfl (qmove rfl) ?_
    refine DOps.q rfl rfl rfl (qmove rfl) ?_
    refine DOps.q rfl rfl rfl (qslHi u9 rfl rfl (by omega)) ?_
    refine DOps.q rfl rfl rfl (qassign rfl) ?_
    refine DOps.q rfl rfl rfl (qassign rfl) ?_
    refine DOps.done ?_
    refine h38 _ _ ?_
    refine Run.ret ?_
    repeat first | with_reducible refine thenQ_ret ?_ | with_reducible refine blockQ_ret ?_
    exact retQ rfl (⟨by unfold wCore wConj; first | (rw [if_neg (by simpa using ‹(!isw w) = true›), if_neg (by simpa using ‹(!isw w) = true›)]; rfl) | (rw [if_pos (by simpa using ‹(!isw w) = false›), if_pos (by simpa using ‹(!isw w) = false›), cycN_stop hn ‹_›]; rfl), le20, wfq19⟩)

theorem s_RCompare (x y : List UInt8) (A : AH) (hx : x.length ≤ 1000000) (hy : y.length ≤ 1000000) : RetA Tryz.prog 86 #[str (x), str (y)] A (fun v A1 => v = num (wCompare x y) ∧ A = A1) := by
 refine enterA (e := [(0, str (x)), (1, str (y))]) (args := [str (x), str (y)]) Tryz.call86 Tryz.func86 rfl Tryz.results86 Tryz.ntmps86 rfl rfl rfl (fun wf => ?_)
 have le_ := AH.le.refl A
 refine Run.seq fun K1 h2 => ?_
 refine Run.region ?_
 refine Ops.q rfl (qassign rfl) ?_
 refine Ops.nil ?_
 refine h2 _ _ ?_
 refine Run.seq fun K3 h4 => ?_
 refine Run.seq fun K5 h6 => ?_
 refine Run.region ?_
 refine Ops.q rfl (qmove rfl) ?_
 refine Ops.l rfl (fun _ _ hk7 _ => vcallF rfl (s_RIs x A) ?_)
 rintro v8 A9 ⟨rfl, rfl⟩
 refine hk7 _ _ ?_
 refine Ops.q rfl (qnot rfl) ?_
 refine Ops.q rfl (qmove rfl) ?_
 refine Ops.partB (t := 11) rfl (fun p11 => ?_) (fun p11 => ?_)
 ·
  refine Ops.off rfl rfl rfl rfl ?_
  refine Ops.off rfl rfl rfl rfl ?_
  refine Ops.off rfl rfl rfl rfl ?_
  refine Ops.q rfl (qpickT rfl rfl) ?_
  refine Ops.nil ?_
  refine h6 _ _ ?_
  refine Run.cond_true rfl ?_
  refine Run.seq fun K12 h13 => ?_
  refine Run.region ?_
  refine Ops.q rfl (qassign rfl) ?_
  refine Ops.nil ?_
  refine h13 _ _ ?_
  refine Run.ret ?_
  repeat first | with_reducible refine thenQ_ret ?_ | with_reducible refine blockQ_ret ?_
  exact retQ rfl (⟨by first | (rw [wCompare_x ‹_›]; rfl) | (rw [wCompare_y ‹_›]; rfl) | (rw [wCompare_of ‹_› ‹_›]; first | (rw [cmpl_end (by omega)] at hc; rw [← hc]; rfl) | (rw [cmpl_step (by omega) (by omega), if_pos ‹_›] at hc; rw [← hc]; rfl) | (rw [cmpl_step (by omega) (by omega), if_neg ‹_›, if_pos ‹_›] at hc; rw [← hc]; rfl) | (rw [cmpw, if_pos ‹¬ x.length = y.length›, if_pos ‹x.length < y.length›]; rfl) | (rw [cmpw, if_pos ‹¬ x.length = y.length›, if_neg ‹¬ x.length < y.length›]; rfl)), rfl⟩)
 ·
  refine Ops.on rfl rfl ?_
  refine Ops.q rfl (qmove rfl) ?_
  refine Ops.on rfl rfl ?_
  refine Ops.l rfl (fun _ _ hk14 _ => vcallF rfl (s_RIs y A) ?_)
  rintro v15 A16 ⟨rfl, rfl⟩
  refine hk14 _ _ ?_
  refine Ops.on rfl rfl ?_
  refine Ops.q rfl (qnot rfl) ?_
  refine Ops.q rfl (qpickF rfl rfl) ?_
  refine Ops.nil ?_
  refine h6 _ _ ?_
  refine Run.ifB rfl (fun p18 => ?_) (fun p18 => ?_)
  ·
   refine Run.seq fun K19 h20 => ?_
   refine Run.region ?_
   refine Ops.q rfl (qassign rfl) ?_
   refine Ops.nil ?_
   refine h20 _ _ ?_
   refine Run.ret ?_
   repeat first | with_reducible refine thenQ_ret ?_ | with_reducible refine blockQ_ret ?_
   exact retQ rfl (⟨by first | (rw [wCompare_x ‹_›]; rfl) | (rw [wCompare_y ‹_›]; rfl) | (rw [wCompare_of ‹_› ‹_›]; first | (rw [cmpl_end (by omega)] at hc; rw [← hc]; rfl) | (rw [cmpl_step (by omega) (by omega), if_pos ‹_›] at hc; rw [← hc]; rfl) | (rw [cmpl_step (by omega) (by omega), if_neg ‹_›, if_pos ‹_›] at hc; rw [← hc]; rfl) | (rw [cmpw, if_pos ‹¬ x.length = y.length›, if_pos ‹x.length < y.length›]; rfl) | (rw [cmpw, if_pos ‹¬ x.length = y.length›, if_neg ‹¬ x.length < y.length›]; rfl)), rfl⟩)
  ·
   refine Run.skip ?_
   refine h4 _ _ ?_
   refine Run.seq fun K21 h22 => ?_
   refine Run.seq fun K23 h24 => ?_
   refine Run.region ?_
   refine Ops.q rfl (qmove rfl) ?_
   refine Ops.q rfl (qslen u9 rfl) ?_
   refine Ops.q rfl (qmove rfl) ?_
   refine Ops.q rfl (qslen u9 rfl) ?_
   refine Ops.q rfl (qneqN rfl rfl) ?_
   refine Ops.nil ?_
   refine h24 _ _ ?_
   refine Run.if rfl (fun p25 => ?_) (fun p25 => ?_)
   ·
    refine Run.seq fun K26 h27 => ?_
    refine Run.seq fun K28 h29 => ?_
    refine Run.region ?_
    refine Ops.q rfl (qmove rfl) ?_
    refine Ops.q rfl (qslen u9 rfl) ?_
    refine Ops.q rfl (qmove rfl) ?_
    refine Ops.q rfl (qslen u9 rfl) ?_
    refine Ops.q rfl (qlssN rfl rfl) ?_
    refine Ops.nil ?_
    refine h29 _ _ ?_
    refine Run.if rfl (fun p30 => ?_) (fun p30 => ?_)
    ·
     refine Run.seq fun K31 h32 => ?_
     refine Run.region ?_
     refine Ops.q rfl (qassign rfl) ?_
     refine Ops.nil ?_
     refine h32 _ _ ?_
     refine Run.ret ?_
     repeat first | with_reducible refine thenQ_ret ?_ | with_reducible refine blockQ_ret ?_
     exact retQ rfl (⟨by first | (rw [wCompare_x ‹_›]; rfl) | (rw [wCompare_y ‹_›]; rfl) | (rw [wCompare_of ‹_› ‹_›]; first | (rw [cmpl_end (by omega)] at hc; rw [← hc]; rfl) | (rw [cmpl_step (by omega) (by omega), if_pos ‹_›] at hc; rw [← hc]; rfl) | (rw [cmpl_step (by omega) (by omega), if_neg ‹_›, if_pos ‹_›] at hc; rw [← hc]; rfl) | (rw [cmpw, if_pos ‹¬ x.length = y.length›, if_pos ‹x.length < y.length›]; rfl) | (rw [cmpw, if_pos ‹¬ x.length = y.length›, if_neg ‹¬ x.length < y.length›]; rfl)), rfl⟩)
    ·
     refine Run.skip ?_
     refine h27 _ _ ?_
     refine Run.seq fun K33 h34 => ?_
     refine Run.region ?_
     refine Ops.q rfl (qassign rfl) ?_
     refine Ops.nil ?_
     refine h34 _ _ ?_
     refine Run.ret ?_
     repeat first | with_reducible refine thenQ_ret ?_ | with_reducible refine blockQ_ret ?_
     exact retQ rfl (⟨by first | (rw [wCompare_x ‹_›]; rfl) | (rw [wCompare_y ‹_›]; rfl) | (rw [wCompare_of ‹_› ‹_›]; first | (rw [cmpl_end (by omega)] at hc; rw [← hc]; rfl) | (rw [cmpl_step (by omega) (by omega), if_pos ‹_›] at hc; rw [← hc]; rfl) | (rw [cmpl_step (by omega) (by omega), if_neg ‹_›, if_pos ‹_›] at hc; rw [← hc]; rfl) | (rw [cmpw, if_pos ‹¬ x.length = y.length›, if_pos ‹x.length < y.length›]; rfl) | (rw [cmpw, if_pos ‹¬ x.length = y.length›, if_neg ‹¬ x.length < y.length›]; rfl)), rfl⟩)
   ·
    refine Run.skip ?_
    refine h22 _ _ ?_
    refine Run.seq fun K35 h36 => ?_
    refine Run.seq fun K37 h38 => ?_
    refine Run.region ?_
    refine Ops.q rfl (qassign rfl) ?_
    refine Ops.nil ?_
    refine h38 _ _ ?_
    refine Run.block ?_
    refine Run.loop (X := Nat) (fun k => [(0, str (x)), (1, str (y)), (5, num ((k : Nat) : Int))]) (fun k B => (k ≤ x.length ∧ cmpl (x.drop k) (y.drop k) = cmpw x y) ∧ A = B) (fun k => x.length - k) 0 (EnvLe.cons rfl <| EnvLe.cons rfl <| EnvLe.cons rfl <| EnvLe.nil _) (⟨⟨Nat.zero_le _, (cmpw_eq ‹_›).symm⟩, rfl⟩) ?_
    rintro k B40 ⟨⟨hk, hc⟩, rfl⟩
    refine Run.seq fun K41 h42 => ?_
    refine Run.seq fun K43 h44 => ?_
    refine Run.region ?_
    refine Ops.q rfl (qmove rfl) ?_
    refine Ops.q rfl (qmove rfl) ?_
    refine Ops.q rfl (qslen u9 rfl) ?_
    refine Ops.q rfl (qlssN rfl rfl) ?_
    refine Ops.nil ?_
    refine h44 _ _ ?_
    refine Run.if rfl (fun p45 => ?_) (fun p45 => ?_)
    ·
     refine Run.skip ?_
     refine h42 _ _ ?_
     refine Run.seq fun K46 h47 => ?_
     refine Run.block ?_
     refine Run.seq fun K48 h49 => ?_
     refine Run.region ?_
     refine Ops.q rfl (qmove rfl) ?_
     refine Ops.q rfl (qmove rfl) ?_
     refine Ops.q rfl (qsix u9 rfl rfl (by omega)) ?_
     refine Ops.l rfl (fun _ _ hk50 _ => vcallF rfl (s_RIndex (x.getD k 0) A) ?_)
     rintro v51 A52 ⟨rfl, rfl⟩
     refine hk50 _ _ ?_
     refine Ops.q rfl (qassign rfl) ?_
     refine Ops.nil ?_
     refine h49 _ _ ?_
     refine Run.seq fun K54 h55 => ?_
     refine Run.region ?_
     refine Ops.q rfl (qmove rfl) ?_
     refine Ops.q rfl (qmove rfl) ?_
     refine Ops.q rfl (qsix u9 rfl rfl (by omega)) ?_
     refine Ops.l rfl (fun _ _ hk56 _ => vcallF rfl (s_RIndex (y.getD k 0) A) ?_)
     rintro v57 A58 ⟨rfl, rfl⟩
     refine hk56 _ _ ?_
     refine Ops.q rfl (qassign rfl) ?_
     refine Ops.nil ?_
     refine h55 _ _ ?_
     refine Run.seq fun K60 h61 => ?_
     refine Run.seq fun K62 h63 => ?_
     refine Run.region ?_
     refine Ops.q rfl (qmove rfl) ?_
     refine Ops.q rfl (qmove rfl) ?_
     refine Ops.q rfl (qlss rfl rfl) ?_
     refine Ops.nil ?_
     refine h63 _ _ ?_
     refine Run.if rfl (fun p64 => ?_) (fun p64 => ?_)
     ·
      refine Run.seq fun K65 h66 => ?_
      refine Run.region ?_
      refine Ops.q rfl (qassign rfl) ?_
      refine Ops.nil ?_
      refine h66 _ _ ?_
      refine Run.ret ?_
      repeat first | with_reducible refine thenQ_ret ?_ | with_reducible refine blockQ_ret ?_
      exact retQ rfl (⟨by first | (rw [wCompare_x ‹_›]; rfl) | (rw [wCompare_y ‹_›]; rfl) | (rw [wCompare_of ‹_› ‹_›]; first | (rw [cmpl_end (by omega)] at hc; rw [← hc]; rfl) | (rw [cmpl_step (by omega) (by omega), if_pos ‹_›] at hc; rw [← hc]; rfl) | (rw [cmpl_step (by omega) (by omega), if_neg ‹_›, if_pos ‹_›] at hc; rw [← hc]; rfl) | (rw [cmpw, if_pos ‹¬ x.length = y.length›, if_pos ‹x.length < y.length›]; rfl) | (rw [cmpw, if_pos ‹¬ x.length = y.length›, if_neg ‹¬ x.length < y.length›]; rfl)), rfl⟩)
     ·
      refine Run.skip ?_
      refine h61 _ _ ?_
      refine Run.seq fun K67 h68 => ?_
      refine Run.region ?_
      refine Ops.q rfl (qmove rfl) ?_
      refine Ops.q rfl (qmove rfl) ?_
      refine Ops.q rfl (qgtr rfl rfl) ?_
      refine Ops.nil ?_
      refine h68 _ _ ?_
      refine Run.if rfl (fun p69 => ?_) (fun p69 => ?_)
      ·
       refine Run.seq fun K70 h71 => ?_
       refine Run.region ?_
       refine Ops.q rfl (qassign rfl) ?_
       refine Ops.nil ?_
       refine h71 _ _ ?_
       refine Run.ret ?_
       repeat first | with_reducible refine thenQ_ret ?_ | with_reducible refine blockQ_ret ?_
       exact retQ rfl (⟨by first | (rw [wCompare_x ‹_›]; rfl) | (rw [wCompare_y ‹_›]; rfl) | (rw [wCompare_of ‹_› ‹_›]; first | (rw [cmpl_end (by omega)] at hc; rw [← hc]; rfl) | (rw [cmpl_step (by omega) (by omega), if_pos ‹_›] at hc; rw [← hc]; rfl) | (rw [cmpl_step (by omega) (by omega), if_neg ‹_›, if_pos ‹_›] at hc; rw [← hc]; rfl) | (rw [cmpw, if_pos ‹¬ x.length = y.length›, if_pos ‹x.length < y.length›]; rfl) | (rw [cmpw, if_pos ‹¬ x.length = y.length›, if_neg ‹¬ x.length < y.length›]; rfl)), rfl⟩)
      ·
       refine Run.skip ?_
       refine h47 _ _ ?_
       refine Run.region ?_
       refine Ops.q rfl (qmove rfl) ?_
       refine Ops.q rfl (qaddN (b := 1) rfl rfl (by omega)) ?_
       refine Ops.q rfl (qassign rfl) ?_
       refine Ops.nil ?_
       exact ⟨k + 1, EnvLe.cons rfl <| EnvLe.cons rfl <| EnvLe.cons rfl <| EnvLe.nil _, rfl, ⟨⟨by omega, by rw [cmpl_step (by omega) (by omega), if_neg ‹_›, if_neg ‹_›] at hc; exact hc⟩, rfl⟩, (by (try dsimp only); omega)⟩
    ·
     refine Run.exit ?_
     refine h36 _ _ ?_
     refine Run.seq fun K72 h73 => ?_
     refine Run.region ?_
     refine Ops.q rfl (qassign rfl) ?_
     refine Ops.nil ?_
     refine h73 _ _ ?_
     refine Run.ret ?_
     repeat first | with_reducible refine thenQ_ret ?_ | with_reducible refine blockQ_ret ?_
     exact retQ rfl (⟨by first | (rw [wCompare_x ‹_›]; rfl) | (rw [wCompare_y ‹_›]; rfl) | (rw [wCompare_of ‹_› ‹_›]; first | (rw [cmpl_end (by omega)] at hc; rw [← hc]; rfl) | (rw [cmpl_step (by omega) (by omega), if_pos ‹_›] at hc; rw [← hc]; rfl) | (rw [cmpl_step (by omega) (by omega), if_neg ‹_›, if_pos ‹_›] at hc; rw [← hc]; rfl) | (rw [cmpw, if_pos ‹¬ x.length = y.length›, if_pos ‹x.length < y.length›]; rfl) | (rw [cmpw, if_pos ‹¬ x.length = y.length›, if_neg ‹¬ x.length < y.length›]; rfl)), rfl⟩)

theorem s_R3IsWord (k : Int) (w : List UInt8) (A : AH) : RetA Tryz.prog 71 #[num (k), str (w)] A (fun v A1 => v = .bool (decide (wcheck k w = 0)) ∧ A = A1) := by
 refine enterA (e := [(0, num (k)), (1, str (w))]) (args := [num (k), str (w)]) Tryz.call71 Tryz.func71 rfl Tryz.results71 Tryz.ntmps71 rfl rfl rfl (fun wf => ?_)
 have le_ := AH.le.refl A
 refine Run.seq fun K1 h2 => ?_
 refine Run.region ?_
 refine Ops.q rfl (qassign rfl) ?_
 refine Ops.nil ?_
 refine h2 _ _ ?_
 refine Run.seq fun K3 h4 => ?_
 refine Run.region ?_
 refine Ops.q rfl (qmove rfl) ?_
 refine Ops.q rfl (qmove rfl) ?_
 refine Ops.l rfl (fun _ _ hk5 _ => vcallF rfl (s_RCheck (k) w A) ?_)
 rintro v6 A7 ⟨rfl, rfl⟩
 refine hk5 _ _ ?_
 refine Ops.q rfl (qeqlN (b := 0) rfl rfl) ?_
 refine Ops.q rfl (qassign rfl) ?_
 refine Ops.nil ?_
 refine h4 _ _ ?_
 refine Run.ret ?_
 repeat first | with_reducible refine thenQ_ret ?_ | with_reducible refine blockQ_ret ?_
 exact retQ rfl (⟨rfl, rfl⟩)

theorem s_RPCheck (g : Int) (u : Value) (l : List (List UInt8)) (A : AH) (hn : l.length ≤ 1000000) (hu : Slc A 1 u (strs l)) : RetA Tryz.prog 39 #[.agg #[num (g), u]] A (fun v A1 => v = num ((pcheck g l : Nat) : Int) ∧ A.le A1 ∧ A1.wf) := by
 refine enterA (e := [(0, .agg #[num (g), u])]) (args := [.agg #[num (g), u]]) Tryz.call39 Tryz.func39 rfl Tryz.results39 Tryz.ntmps39 rfl rfl rfl (fun wf => ?_)
 have le_ := AH.le.refl A
 refine Run.seq fun K1 h2 => ?_
 refine Run.region ?_
 refine Ops.l rfl (fun _ _ hk3 _ => wbox wf rfl rfl fun A5 b4 nb6 => ?_)
 have ge_b4 := none_of wf (Nat.le_trans le_.n nb6.lo)
 have le7 := le_.trans nb6.le
 refine hk3 _ _ ?_
 refine Ops.q rfl (qassign rfl) ?_
 refine Ops.nil ?_
 refine h2 _ _ ?_
 refine Run.seq fun K8 h9 => ?_
 refine Run.seq fun K10 h11 => ?_
 refine Run.region ?_
 refine Ops.q rfl (qfieldAddr fl24_0 sz3 (by decide) rfl) ?_
 refine Ops.q rfl (qloadAt ag3 rfl rfl nb6.get rfl) ?_
 refine Ops.q rfl (qlss rfl rfl) ?_
 refine Ops.q rfl (qmove rfl) ?_
 refine Ops.part (t := 8) rfl (fun p12 => ?_) (fun p12 => ?_)
 ·
  refine Ops.off rfl rfl rfl rfl ?_
  refine Ops.off rfl rfl rfl rfl ?_
  refine Ops.off rfl rfl rfl rfl ?_
  refine Ops.q rfl (qpickT rfl rfl) ?_
  refine Ops.nil ?_
  refine h11 _ _ ?_
  refine Run.cond_true rfl ?_
  refine Run.seq fun K13 h14 => ?_
  refine Run.region ?_
  refine Ops.q rfl (qassign rfl) ?_
  refine Ops.nil ?_
  refine h14 _ _ ?_
  refine Run.ret ?_
  repeat first | with_reducible refine thenQ_ret ?_ | with_reducible refine blockQ_ret ?_
  exact retQ rfl (⟨by first | (rw [pcheck_arg (by omega)]; rfl) | (rw [pcheck_many (by omega) (by omega)]; rfl) | (rw [pcheck_long (i := i) (by omega) (by omega) (by omega)]; rfl) | (rw [pcheck_good (i := k) (by omega) (by omega) hs (by omega) hb]; rfl) | (rw [pcheck_bad (i := k) (by omega) (by omega) hs (by omega) (by first | exact badRel_1 ‹_› | exact badRel_2 ‹_› | exact badRel_3 ‹_› (by omega) ‹_›)]; rfl), le7, nb6.wf⟩)
 ·
  refine Ops.on rfl rfl ?_
  refine Ops.q rfl (qfieldAddr fl24_0 sz3 (by decide) rfl) ?_
  refine Ops.on rfl rfl ?_
  refine Ops.q rfl (qloadAt ag3 rfl rfl nb6.get rfl) ?_
  refine Ops.on rfl rfl ?_
  refine Ops.q rfl (qgtr rfl rfl) ?_
  refine Ops.q rfl (qpickF rfl rfl) ?_
  refine Ops.nil ?_
  refine h11 _ _ ?_
  refine Run.if rfl (fun p15 => ?_) (fun p15 => ?_)
  ·
   refine Run.seq fun K16 h17 => ?_
   refine Run.region ?_
   refine Ops.q rfl (qassign rfl) ?_
   refine Ops.nil ?_
   refine h17 _ _ ?_
   refine Run.ret ?_
   repeat first | with_reducible refine thenQ_ret ?_ | with_reducible refine blockQ_ret ?_
   exact retQ rfl (⟨by first | (rw [pcheck_arg (by omega)]; rfl) | (rw [pcheck_many (by omega) (by omega)]; rfl) | (rw [pcheck_long (i := i) (by omega) (by omega) (by omega)]; rfl) | (rw [pcheck_good (i := k) (by omega) (by omega) hs (by omega) hb]; rfl) | (rw [pcheck_bad (i := k) (by omega) (by omega) hs (by omega) (by first | exact badRel_1 ‹_› | exact badRel_2 ‹_› | exact badRel_3 ‹_› (by omega) ‹_›)]; rfl), le7, nb6.wf⟩)
  ·
   refine Run.skip ?_
   refine h9 _ _ ?_
   refine Run.seq fun K18 h19 => ?_
   refine Run.seq fun K20 h21 => ?_
   refine Run.region ?_
   refine Ops.q rfl (qfieldAddr fl24_1 sz22 (by decide) rfl) ?_
   refine Ops.q rfl (qloadAt ag22 rfl rfl nb6.get rfl) ?_
   refine Ops.q rfl (qlenS (n := l.length) u22 rfl (hu.le le7) (by omega) (strs_len _)) ?_
   refine Ops.q rfl (qgtrN (b := 60) rfl rfl) ?_
   refine Ops.nil ?_
   refine h21 _ _ ?_
   refine Run.if rfl (fun p22 => ?_) (fun p22 => ?_)
   ·
    refine Run.seq fun K23 h24 => ?_
    refine Run.region ?_
    refine Ops.q rfl (qassign rfl) ?_
    refine Ops.nil ?_
    refine h24 _ _ ?_
    refine Run.ret ?_
    repeat first | with_reducible refine thenQ_ret ?_ | with_reducible refine blockQ_ret ?_
    exact retQ rfl (⟨by first | (rw [pcheck_arg (by omega)]; rfl) | (rw [pcheck_many (by omega) (by omega)]; rfl) | (rw [pcheck_long (i := i) (by omega) (by omega) (by omega)]; rfl) | (rw [pcheck_good (i := k) (by omega) (by omega) hs (by omega) hb]; rfl) | (rw [pcheck_bad (i := k) (by omega) (by omega) hs (by omega) (by first | exact badRel_1 ‹_› | exact badRel_2 ‹_› | exact badRel_3 ‹_› (by omega) ‹_›)]; rfl), le7, nb6.wf⟩)
   ·
    refine Run.skip ?_
    refine h19 _ _ ?_
    refine Run.seq fun K25 h26 => ?_
    refine Run.seq fun K27 h28 => ?_
    refine Run.region ?_
    refine Ops.q rfl (qassign rfl) ?_
    refine Ops.nil ?_
    refine h28 _ _ ?_
    refine Run.block ?_
    refine Run.loop (X := Nat) (fun i => [(1, .pointer (some ⟨b4, 0, none⟩)), (3, num ((i : Nat) : Int))]) (fun i B => (i ≤ l.length ∧ ∀ j, j < i → (l.getD j []).length ≤ 200) ∧ A5 = B) (fun i => l.length - i) 0 (EnvLe.cons rfl <| EnvLe.cons rfl <| EnvLe.nil _) (⟨⟨by omega, fun j h => by omega⟩, rfl⟩) ?_
    rintro i B30 ⟨⟨hi, hl⟩, rfl⟩
    refine Run.seq fun K31 h32 => ?_
    refine Run.seq fun K33 h34 => ?_
    refine Run.region ?_
    refine Ops.q rfl (qmove rfl) ?_
    refine Ops.q rfl (qfieldAddr fl24_1 sz22 (by decide) rfl) ?_
    refine Ops.q rfl (qloadAt ag22 rfl rfl nb6.get rfl) ?_
    refine Ops.q rfl (qlenS (n := l.length) u22 rfl (hu.le le7) (by omega) (strs_len _)) ?_
    refine Ops.q rfl (qlssN rfl rfl) ?_
    refine Ops.nil ?_
    refine h34 _ _ ?_
    refine Run.if rfl (fun p35 => ?_) (fun p35 => ?_)
    ·
     refine Run.skip ?_
     refine h32 _ _ ?_
     refine Run.seq fun K36 h37 => ?_
     refine Run.block ?_
     refine Run.seq fun K38 h39 => ?_
     refine Run.region ?_
     refine Ops.q rfl (qfieldAddr fl24_1 sz22 (by decide) rfl) ?_
     refine Ops.q rfl (qloadAt ag22 rfl rfl nb6.get rfl) ?_
     refine Ops.q rfl (qmove rfl) ?_
     obtain ⟨b40, f40, rw40, r40, rc40, n40, k40, e40, l40, g40, cl40, cs40⟩ := Slc.at (i := i) (hu.le le7) (by simp only [strs_length]; omega) (by omega)
     refine Ops.q rfl (qindexS u22 sz9 rfl e40 rfl l40) ?_
     refine Ops.q rfl (qloadAt ag9 rfl rfl g40 ((elt0 cs40).trans (strs_get (by omega)))) ?_
     refine Ops.q rfl (qslen u9 rfl) ?_
     refine Ops.q rfl (qgtrN (b := 200) rfl rfl) ?_
     refine Ops.nil ?_
     refine h39 _ _ ?_
     refine Run.if rfl (fun p41 => ?_) (fun p41 => ?_)
     ·
      refine Run.seq fun K42 h43 => ?_
      refine Run.region ?_
      refine Ops.q rfl (qassign rfl) ?_
      refine Ops.nil ?_
      refine h43 _ _ ?_
      refine Run.ret ?_
      repeat first | with_reducible refine thenQ_ret ?_ | with_reducible refine blockQ_ret ?_
      exact retQ rfl (⟨by first | (rw [pcheck_arg (by omega)]; rfl) | (rw [pcheck_many (by omega) (by omega)]; rfl) | (rw [pcheck_long (i := i) (by omega) (by omega) (by omega)]; rfl) | (rw [pcheck_good (i := k) (by omega) (by omega) hs (by omega) hb]; rfl) | (rw [pcheck_bad (i := k) (by omega) (by omega) hs (by omega) (by first | exact badRel_1 ‹_› | exact badRel_2 ‹_› | exact badRel_3 ‹_› (by omega) ‹_›)]; rfl), le7, nb6.wf⟩)
     ·
      refine Run.skip ?_
      refine h37 _ _ ?_
      refine Run.region ?_
      refine Ops.q rfl (qmove rfl) ?_
      refine Ops.q rfl (qaddN (b := 1) rfl rfl (by omega)) ?_
      refine Ops.q rfl (qassign rfl) ?_
      refine Ops.nil ?_
      exact ⟨i + 1, EnvLe.cons rfl <| EnvLe.cons rfl <| EnvLe.nil _, rfl, ⟨⟨by omega, fun j h => (Nat.lt_succ_iff_lt_or_eq.1 h).elim (hl j) (fun z => by subst z; omega)⟩, rfl⟩, (by (try dsimp only); omega)⟩
    ·
     refine Run.exit ?_
     refine h26 _ _ ?_
     refine Run.seq fun K44 h45 => ?_
     refine Run.seq fun K46 h47 => ?_
     refine Run.region ?_
     refine Ops.q rfl (qassign rfl) ?_
     refine Ops.nil ?_
     refine h47 _ _ ?_
     refine Run.block ?_
     refine Run.loop (X := Nat) (fun k => [(1, .pointer (some ⟨b4, 0, none⟩)), (4, num ((k : Nat) : Int))]) (fun k B => (k ≤ l.length ∧ ∀ j, j < k → badRel g (l.getD j []) = false) ∧ A.le B ∧ B.get b4 = some (.row true [num (g), u] 2)) (fun k => l.length - k) 0 (EnvLe.cons rfl <| EnvLe.cons rfl <| EnvLe.nil _) (⟨⟨by omega, fun j h => by omega⟩, le7, nb6.get⟩) ?_
     rintro k B49 ⟨⟨hk, hb⟩, le48, hr_b448⟩
     refine Run.wf fun wf50 => ?_
     have hs := no_long (n := 200) (by omega) hl
     have hs1 : k < l.length → (l.getD k []).length ≤ 200 := fun q => hs _ (getD_mem q)
     refine Run.seq fun K51 h52 => ?_
     refine Run.seq fun K53 h54 => ?_
     refine Run.region ?_
     refine Ops.q rfl (qmove rfl) ?_
     refine Ops.q rfl (qfieldAddr fl24_1 sz22 (by decide) rfl) ?_
     refine Ops.q rfl (qloadAt ag22 rfl rfl hr_b448 rfl) ?_
     refine Ops.q rfl (qlenS (n := l.length) u22 rfl (hu.le le48) (by omega) (strs_len _)) ?_
     refine Ops.q rfl (qlssN rfl rfl) ?_
     refine Ops.nil ?_
     refine h54 _ _ ?_
     refine Run.if rfl (fun p55 => ?_) (fun p55 => ?_)
     ·
      refine Run.skip ?_
      refine h52 _ _ ?_
      refine Run.seq fun K56 h57 => ?_
      refine Run.block ?_
      refine Run.seq fun K58 h59 => ?_
      refine Run.drawn [0, 1, 2, 3, 4, 5, 6, 7, 8, 9, 10, 11, 12, 13, 14, 15, 16, 17, 18, 19, 20, 21, 22, 24, 25, 26, 27, 28, 23, 29, 30] mixed (by kernel_rfl) (by kernel_rfl) rfl ?_
      refine DOps.q rfl rfl rfl (qfieldAddr fl24_1 sz22 (by decide) rfl) ?_
      have hc60 := cellOf (off := 1) hr_b448 (show _ = some (u) from rfl)
      refine DOps.q rfl rfl rfl (qloadAt ag22 rfl rfl hr_b448 rfl) ?_
      refine DOps.q rfl rfl rfl (qmove rfl) ?_
      obtain ⟨b61, f61, rw61, r61, rc61, n61, k61, e61, l61, g61, cl61, cs61⟩ := Slc.at (i := k) (hu.le le48) (by simp only [strs_length]; omega) (by omega)
      refine DOps.q rfl rfl rfl (qindexS u22 sz9 rfl e61 rfl l61) ?_
      have hc62 := cellOf (off := f61 + k * 1) g61 ((elt0 cs61).trans (strs_get (by omega)))
      refine DOps.q rfl rfl rfl (qloadAt ag9 rfl rfl g61 ((elt0 cs61).trans (strs_get (by omega)))) ?_
      refine DOps.q rfl rfl rfl (qseql rfl rfl) ?_
      refine DOps.q rfl rfl rfl (qmove rfl) ?_
      refine DOps.part (t := 44) rfl (fun p63 => ?_) (fun p63 => ?_)
      ·
       refine DOps.qOff rfl rfl rfl rfl rfl rfl ?_
       refine DOps.qOff rfl rfl rfl rfl rfl rfl ?_
       refine DOps.qOff rfl rfl rfl rfl rfl rfl ?_
       refine DOps.qOff rfl rfl rfl rfl rfl rfl ?_
       refine DOps.qOff rfl rfl rfl rfl rfl rfl ?_
       refine DOps.qOff rfl rfl rfl rfl rfl rfl ?_
       refine DOps.qOff rfl rfl rfl rfl rfl rfl ?_
       refine DOps.lOff rfl rfl rfl rfl rfl rfl ?_
       refine DOps.qOff rfl rfl rfl rfl rfl rfl ?_
       refine DOps.q rfl rfl rfl (qpickT rfl rfl) ?_
       refine DOps.q rfl rfl rfl (qmove rfl) ?_
       refine DOps.qOff rfl rfl rfl rfl rfl rfl ?_
       refine DOps.qOff rfl rfl rfl rfl rfl rfl ?_
       refine DOps.qOff rfl rfl rfl rfl rfl rfl ?_
       refine DOps.qOff rfl rfl rfl rfl rfl rfl ?_
       refine DOps.qOff rfl rfl rfl rfl rfl rfl ?_
       refine DOps.qOff rfl rfl rfl rfl rfl rfl ?_
       refine DOps.qOff rfl rfl rfl rfl rfl rfl ?_
       refine DOps.qOff rfl rfl rfl rfl rfl rfl ?_
       refine DOps.qOff rfl rfl rfl rfl rfl rfl ?_
       refine DOps.qOff rfl rfl rfl rfl rfl rfl ?_
       refine DOps.lOff rfl rfl rfl rfl rfl rfl ?_
       refine DOps.qOff rfl rfl rfl rfl rfl rfl ?_
       refine DOps.q rfl rfl rfl (qpickT rfl rfl) ?_
       refine DOps.done ?_
       refine h59 _ _ ?_
       refine Run.cond_true rfl ?_
       refine Run.seq fun K64 h65 => ?_
       refine Run.region ?_
       refine Ops.q rfl (qassign rfl) ?_
       refine Ops.nil ?_
       refine h65 _ _ ?_
       refine Run.ret ?_
       repeat first | with_reducible refine thenQ_ret ?_ | with_reducible refine blockQ_ret ?_
       exact retQ rfl (⟨by first | (rw [pcheck_arg (by omega)]; rfl) | (rw [pcheck_many (by omega) (by omega)]; rfl) | (rw [pcheck_long (i := i) (by omega) (by omega) (by omega)]; rfl) | (rw [pcheck_good (i := k) (by omega) (by omega) hs (by omega) hb]; rfl) | (rw [pcheck_bad (i := k) (by omega) (by omega) hs (by omega) (by first | exact badRel_1 ‹_› | exact badRel_2 ‹_› | exact badRel_3 ‹_› (by omega) ‹_›)]; rfl), le48, wf50⟩)
      ·
       refine DOps.qOn rfl rfl rfl rfl rfl (qfieldAddr fl24_0 sz3 (by decide) rfl) ?_
       have hc66 := cellOf (off := 0) hr_b448 (show _ = some (num (g)) from rfl)
       refine DOps.qOn rfl rfl rfl rfl rfl (qloadAt ag3 rfl rfl hr_b448 rfl) ?_
       refine DOps.qOn rfl rfl rfl rfl rfl (qfieldAddr fl24_1 sz22 (by decide) rfl) ?_
       have hc67 := cellOf (off := 1) hr_b448 (show _ = some (u) from rfl)
       refine DOps.qOn rfl rfl rfl rfl rfl (qloadAt ag22 rfl rfl hr_b448 rfl) ?_
       refine DOps.qOn rfl rfl rfl rfl rfl (qmove rfl) ?_
       obtain ⟨b68, f68, rw68, r68, rc68, n68, k68, e68, l68, g68, cl68, cs68⟩ := Slc.at (i := k) (hu.le le48) (by simp only [strs_length]; omega) (by omega)
       refine DOps.qOn rfl rfl rfl rfl rfl (qindexS u22 sz9 rfl e68 rfl l68) ?_
       have hc69 := cellOf (off := f68 + k * 1) g68 ((elt0 cs68).trans (strs_get (by omega)))
       refine DOps.qOn rfl rfl rfl rfl rfl (qloadAt ag9 rfl rfl g68 ((elt0 cs68).trans (strs_get (by omega)))) ?_
       refine DOps.lOn rfl rfl rfl rfl rfl (fun _ _ hk70 _ => vcallF rfl (s_R3IsWord (g) (l.getD k []) B49) ?_)
       rintro v71 A72 ⟨rfl, rfl⟩
       refine hk70 _ _ (HeldNow.none (by kernel_rfl)) ?_
       refine DOps.qOn rfl rfl rfl rfl rfl (qnotP rfl) ?_
       refine DOps.q rfl rfl rfl (qpickF rfl rfl) ?_
       refine DOps.q rfl rfl rfl (qmove rfl) ?_
       refine DOps.part (t := 55) rfl (fun p74 => ?_) (fun p74 => ?_)
       ·
        refine DOps.qOff rfl rfl rfl rfl rfl rfl ?_
        refine DOps.qOff rfl rfl rfl rfl rfl rfl ?_
        refine DOps.qOff rfl rfl rfl rfl rfl rfl ?_
        refine DOps.qOff rfl rfl rfl rfl rfl rfl ?_
        refine DOps.qOff rfl rfl rfl rfl rfl rfl ?_
        refine DOps.qOff rfl rfl rfl rfl rfl rfl ?_
        refine DOps.qOff rfl rfl rfl rfl rfl rfl ?_
        refine DOps.qOff rfl rfl rfl rfl rfl rfl ?_
        refine DOps.qOff rfl rfl rfl rfl rfl rfl ?_
        refine DOps.qOff rfl rfl rfl rfl rfl rfl ?_
        refine DOps.lOff rfl rfl rfl rfl rfl rfl ?_
        refine DOps.qOff rfl rfl rfl rfl rfl rfl ?_
        refine DOps.q rfl rfl rfl (qpickT rfl rfl) ?_
        refine DOps.done ?_
        refine h59 _ _ ?_
        refine Run.cond_true rfl ?_
        refine Run.seq fun K75 h76 => ?_
        refine Run.region ?_
        refine Ops.q rfl (qassign rfl) ?_
        refine Ops.nil ?_
        refine h76 _ _ ?_
        refine Run.ret ?_
        repeat first | with_reducible refine thenQ_ret ?_ | with_reducible refine blockQ_ret ?_
        exact retQ rfl (⟨by first | (rw [pcheck_arg (by omega)]; rfl) | (rw [pcheck_many (by omega) (by omega)]; rfl) | (rw [pcheck_long (i := i) (by omega) (by omega) (by omega)]; rfl) | (rw [pcheck_good (i := k) (by omega) (by omega) hs (by omega) hb]; rfl) | (rw [pcheck_bad (i := k) (by omega) (by omega) hs (by omega) (by first | exact badRel_1 ‹_› | exact badRel_2 ‹_› | exact badRel_3 ‹_› (by omega) ‹_›)]; rfl), le48, wf50⟩)
       ·
        refine DOps.qOn rfl rfl rfl rfl rfl (qfieldAddr fl24_1 sz22 (by decide) rfl) ?_
        have hc77 := cellOf (off := 1) hr_b448 (show _ = some (u) from rfl)
        refine DOps.qOn rfl rfl rfl rfl rfl (qloadAt ag22 rfl rfl hr_b448 rfl) ?_
        refine DOps.qOn rfl rfl rfl rfl rfl (qmove rfl) ?_
        obtain ⟨b78, f78, rw78, r78, rc78, n78, k78, e78, l78, g78, cl78, cs78⟩ := Slc.at (i := k) (hu.le le48) (by simp only [strs_length]; omega) (by omega)
        refine DOps.qOn rfl rfl rfl rfl rfl (qindexS u22 sz9 rfl e78 rfl l78) ?_
        have hc79 := cellOf (off := f78 + k * 1) g78 ((elt0 cs78).trans (strs_get (by omega)))
        refine DOps.qOn rfl rfl rfl rfl rfl (qloadAt ag9 rfl rfl g78 ((elt0 cs78).trans (strs_get (by omega)))) ?_
        refine DOps.qOn rfl rfl rfl rfl rfl (qfieldAddr fl24_1 sz22 (by decide) rfl) ?_
        have hc80 := cellOf (off := 1) hr_b448 (show _ = some (u) from rfl)
        refine DOps.qOn rfl rfl rfl rfl rfl (qloadAt ag22 rfl rfl hr_b448 rfl) ?_
        refine DOps.qOn rfl rfl rfl rfl rfl (qmove rfl) ?_
        obtain ⟨b81, f81, rw81, r81, rc81, n81, k81, e81, l81, g81, cl81, cs81⟩ := Slc.at (i := k) (hu.le le48) (by simp only [strs_length]; omega) (by omega)
        refine DOps.qOn rfl rfl rfl rfl rfl (qindexS u22 sz9 rfl e81 rfl l81) ?_
        have hc82 := cellOf (off := f81 + k * 1) g81 ((elt0 cs81).trans (strs_get (by omega)))
        refine DOps.qOn rfl rfl rfl rfl rfl (qloadAt ag9 rfl rfl g81 ((elt0 cs81).trans (strs_get (by omega)))) ?_
        refine DOps.lOn rfl rfl rfl rfl rfl (fun _ _ hk83 _ => vcallF rfl (s_RReduce (l.getD k []) B49 (by have := hs1 (by omega); omega)) ?_)
        rintro v84 A85 ⟨rfl, leq86, wfq86⟩
        have h87 := leq86.get _ _ hr_b448
        have hc88 := cell_le leq86 hc77
        have hc89 := cell_le leq86 hc79
        have hc90 := cell_le leq86 hc80
        have hc91 := cell_le leq86 hc82
        have le92 := le48.trans leq86
        refine hk83 _ _ (HeldNow.list (L := [(⟨b81, f81 + k * 1, none⟩, str (l.getD k [])), (⟨b4, 1, none⟩, u)]) (by kernel_rfl) (heldCons hc91 (heldCons hc90 heldNil))) ?_
        refine DOps.qOn rfl rfl rfl rfl rfl (qsneq rfl rfl) ?_
        refine DOps.q rfl rfl rfl (qpickF rfl rfl) ?_
        refine DOps.done ?_
        refine h59 _ _ ?_
        refine Run.if rfl (fun p93 => ?_) (fun p93 => ?_)
        ·
         refine Run.seq fun K94 h95 => ?_
         refine Run.region ?_
         refine Ops.q rfl (qassign rfl) ?_
         refine Ops.nil ?_
         refine h95 _ _ ?_
         refine Run.ret ?_
         repeat first | with_reducible refine thenQ_ret ?_ | with_reducible refine blockQ_ret ?_
         exact retQ rfl (⟨by first | (rw [pcheck_arg (by omega)]; rfl) | (rw [pcheck_many (by omega) (by omega)]; rfl) | (rw [pcheck_long (i := i) (by omega) (by omega) (by omega)]; rfl) | (rw [pcheck_good (i := k) (by omega) (by omega) hs (by omega) hb]; rfl) | (rw [pcheck_bad (i := k) (by omega) (by omega) hs (by omega) (by first | exact badRel_1 ‹_› | exact badRel_2 ‹_› | exact badRel_3 ‹_› (by omega) ‹_›)]; rfl), le92, wfq86⟩)
        ·
         refine Run.skip ?_
         refine h57 _ _ ?_
         refine Run.region ?_
         refine Ops.q rfl (qmove rfl) ?_
         refine Ops.q rfl (qaddN (b := 1) rfl rfl (by omega)) ?_
         refine Ops.q rfl (qassign rfl) ?_
         refine Ops.nil ?_
         exact ⟨k + 1, EnvLe.cons rfl <| EnvLe.cons rfl <| EnvLe.nil _, rfl, ⟨⟨by omega, fun j h => (Nat.lt_succ_iff_lt_or_eq.1 h).elim (hb j) (fun z => by subst z; exact badRel_no ‹_› ‹_› (by omega) ‹_›)⟩, le92, h87⟩, (by (try dsimp only); omega)⟩
     ·
      refine Run.exit ?_
      refine h45 _ _ ?_
      refine Run.seq fun K96 h97 => ?_
      refine Run.region ?_
      refine Ops.q rfl (qassign rfl) ?_
      refine Ops.nil ?_
      refine h97 _ _ ?_
      refine Run.ret ?_
      repeat first | with_reducible refine thenQ_ret ?_ | with_reducible refine blockQ_ret ?_
      exact retQ rfl (⟨by first | (rw [pcheck_arg (by omega)]; rfl) | (rw [pcheck_many (by omega) (by omega)]; rfl) | (rw [pcheck_long (i := i) (by omega) (by omega) (by omega)]; rfl) | (rw [pcheck_good (i := k) (by omega) (by omega) hs (by omega) hb]; rfl) | (rw [pcheck_bad (i := k) (by omega) (by omega) hs (by omega) (by first | exact badRel_1 ‹_› | exact badRel_2 ‹_› | exact badRel_3 ‹_› (by omega) ‹_›)]; rfl), le48, wf50⟩)

theorem s_added (u : Value) (l : List (List UInt8)) (w : List UInt8) (A : AH) (hn : l.length ≤ 100000) (hl : ∀ x ∈ l, x.length ≤ 100000) (hw : w.length ≤ 100000) (hu : Slc A 1 u (strs l)) : RetA Tryz.prog 53 #[u, str (w)] A (fun v A1 => A.le A1 ∧ A1.wf ∧ Fresh A A1 v 1 (strs (addw l w))) := by
 refine enterA (e := [(0, u), (1, str (w))]) (args := [u, str (w)]) Tryz.call53 Tryz.func53 rfl Tryz.results53 Tryz.ntmps53 rfl rfl rfl (fun wf => ?_)
 have le_ := AH.le.refl A
 refine Run.seq fun K1 h2 => ?_
 refine Run.region ?_
 refine Ops.q rfl (qassign rfl) ?_
 refine Ops.nil ?_
 refine h2 _ _ ?_
 refine Run.seq fun K3 h4 => ?_
 refine Run.region ?_
 refine Ops.q rfl (qassign rfl) ?_
 refine Ops.nil ?_
 refine h4 _ _ ?_
 refine Run.seq fun K5 h6 => ?_
 refine Run.region ?_
 refine Ops.q rfl (qassign rfl) ?_
 refine Ops.nil ?_
 refine h6 _ _ ?_
 refine Run.seq fun K7 h8 => ?_
 refine Run.seq fun K9 h10 => ?_
 refine Run.region ?_
 refine Ops.q rfl (qassign rfl) ?_
 refine Ops.nil ?_
 refine h10 _ _ ?_
 refine Run.block ?_
 refine Run.loop (X := Nat × List (List UInt8) × Bool × Value) (fun ⟨i, o, d, s⟩ => [(0, u), (1, str (w)), (5, s), (6, .bool (d)), (7, num ((i : Nat) : Int))]) (fun ⟨i, o, d, s⟩ B => (i ≤ l.length ∧ (l.drop i).foldl (addStep w) (o, d) = l.foldl (addStep w) ([], false) ∧ o.length ≤ 2 * i) ∧ A.le B ∧ Fresh A B s 1 (strs o)) (fun ⟨i, o, d, s⟩ => l.length - i) (⟨0, [], false, .slice none 0 0⟩) (EnvLe.cons rfl <| EnvLe.cons rfl <| EnvLe.cons rfl <| EnvLe.cons rfl <| EnvLe.cons rfl <| EnvLe.nil _) (⟨⟨Nat.zero_le _, rfl, Nat.le_refl _⟩, le_, (Fresh.nil A A 1)⟩) ?_
 rintro ⟨i, o, d, s⟩ B12 ⟨⟨hi, hf, ho⟩, le11, fr_s11⟩
 refine Run.wf fun wf13 => ?_
 have hx : i < l.length → (l.getD i []).length ≤ 100000 := fun q => hl _ (getD_mem q)
 refine Run.seq fun K14 h15 => ?_
 refine Run.seq fun K16 h17 => ?_
 refine Run.region ?_
 refine Ops.q rfl (qmove rfl) ?_
 refine Ops.q rfl (qmove rfl) ?_
 refine Ops.q rfl (qlenS (n := l.length) u22 rfl (hu.le le11) (by omega) (strs_len _)) ?_
 refine Ops.q rfl (qlssN rfl rfl) ?_
 refine Ops.nil ?_
 refine h17 _ _ ?_
 refine Run.if rfl (fun p18 => ?_) (fun p18 => ?_)
 ·
  refine Run.skip ?_
  refine h15 _ _ ?_
  refine Run.seq fun K19 h20 => ?_
  refine Run.block ?_
  refine Run.seq fun K21 h22 => ?_
  refine Run.region ?_
  refine Ops.q rfl (qmove rfl) ?_
  refine Ops.q rfl (qmove rfl) ?_
  obtain ⟨b23, f23, rw23, r23, rc23, n23, k23, e23, l23, g23, cl23, cs23⟩ := Slc.at (i := i) (hu.le le11) (by simp only [strs_length]; omega) (by omega)
  refine Ops.q rfl (qindexS u22 sz9 rfl e23 rfl l23) ?_
  refine Ops.q rfl (qloadAt ag9 rfl rfl g23 ((elt0 cs23).trans (strs_get (by omega)))) ?_
  refine Ops.q rfl (qmove rfl) ?_
  refine Ops.l rfl (fun _ _ hk24 _ => vcallF rfl (s_RCompare (l.getD i []) w B12 (by first | omega | (have := hx (by omega); omega)) (by first | omega | (have := hx (by omega); omega))) ?_)
  rintro v25 A26 ⟨rfl, rfl⟩
  refine hk24 _ _ ?_
  refine Ops.q rfl (qassign rfl) ?_
  refine Ops.nil ?_
  refine h22 _ _ ?_
  refine Run.seq fun K28 h29 => ?_
  refine Run.seq fun K30 h31 => ?_
  refine Run.region ?_
  refine Ops.q rfl (qmove rfl) ?_
  refine Ops.q rfl (qeql rfl rfl) ?_
  refine Ops.nil ?_
  refine h31 _ _ ?_
  refine Run.if rfl (fun p32 => ?_) (fun p32 => ?_)
  ·
   refine Run.region ?_
   refine Ops.q rfl (qassign rfl) ?_
   refine Ops.nil ?_
   refine h29 _ _ ?_
   refine Run.seq fun K33 h34 => ?_
   refine Run.seq fun K35 h36 => ?_
   refine Run.region ?_
   refine Ops.q rfl (qmove rfl) ?_
   refine Ops.q rfl (qgtr rfl rfl) ?_
   refine Ops.q rfl (qmove rfl) ?_
   refine Ops.part (t := 25) rfl (fun p37 => ?_) (fun p37 => ?_)
   ·
    refine Ops.on rfl rfl ?_
    refine Ops.q rfl (qmove rfl) ?_
    refine Ops.on rfl rfl ?_
    refine Ops.q rfl (qnot rfl) ?_
    refine Ops.q rfl (qpickT rfl rfl) ?_
    refine Ops.nil ?_
    refine h36 _ _ ?_
    refine Run.cond_false rfl ?_
    refine Run.skip ?_
    refine h34 _ _ ?_
    refine Run.region ?_
    refine Ops.q rfl (qmove rfl) ?_
    refine Ops.q rfl (qmove rfl) ?_
    refine Ops.q rfl (qmove rfl) ?_
    obtain ⟨b38, f38, rw38, r38, rc38, n38, k38, e38, l38, g38, cl38, cs38⟩ := Slc.at (i := i) (hu.le le11) (by simp only [strs_length]; omega) (by omega)
    refine Ops.q rfl (qindexS u22 sz9 rfl e38 rfl l38) ?_
    refine Ops.q rfl (qloadAt ag9 rfl rfl g38 ((elt0 cs38).trans (strs_get (by omega)))) ?_
    refine Ops.l rfl (fun _ _ hk39 _ => wbuildSlice (c := [str (l.getD i [])]) wf13 rfl (buildSliceV_of u22 sz9 z9 rfl (by decide) (by decide) rfl) fun A41 b40 nb42 => ?_)
    have no43 := fr_s11.own.ne_new wf13 nb42.lo
    have ge_b40 := none_of wf (Nat.le_trans le11.n nb42.lo)
    have fr44 := fr_s11.le nb42.le
    have le45 := le11.trans nb42.le
    refine hk39 _ _ ?_
    refine Ops.l rfl (fun _ _ hk46 _ => wappend (ys := [str (l.getD i [])]) rfl rfl u22 sz9 inf9 z9 rfl (by decide) u22 (fun _ h => by cases h) fr44.own (listOf_row (n := 1) nb42.get rfl) rfl rfl (by show (_ + _) * 16 ≤ _; simp only [strs_length, List.length_cons, List.length_nil]; (try simp only [List.length_append, List.length_cons, List.length_nil]); omega) (by simp only [strs_length, List.length_cons, List.length_nil]; (try simp only [List.length_append, List.length_cons, List.length_nil]); omega) fun A47 v48 ap49 => ?_)
    rw [show ([str (l.getD i [])] : List Value) = strs [l.getD i []] from rfl, strs_append] at ap49
    obtain ⟨fr52, le53⟩ := Fresh.grow fr44 le45 wf ap49
    refine hk46 _ _ ?_
    refine Ops.q rfl (qassign rfl) ?_
    refine Ops.nil ?_
    refine h20 _ _ ?_
    refine Run.region ?_
    refine Ops.q rfl (qmove rfl) ?_
    refine Ops.q rfl (qaddN (b := 1) rfl rfl (by omega)) ?_
    refine Ops.q rfl (qassign rfl) ?_
    refine Ops.nil ?_
    exact ⟨⟨i + 1, o ++ [l.getD i []], true, v48⟩, EnvLe.cons rfl <| EnvLe.cons rfl <| EnvLe.cons rfl <| EnvLe.cons rfl <| EnvLe.cons rfl <| EnvLe.nil _, rfl, ⟨⟨by omega, fold_step (d := []) (by omega) hf (by first | exact addStep_zero ‹_› | exact addStep_in ‹_› ‹_› (by simpa using ‹(!d) = true›) | exact addStep_out ‹_› (fun h => ‹¬ 0 < wCompare (l.getD i []) w› h.1) | exact addStep_out ‹_› (fun h => by have := ‹(!d) = false›; rw [h.2] at this; cases this)), by simp only [List.length_append, List.length_cons, List.length_nil]; omega⟩, le53, fr52⟩, (by (try dsimp only); omega)⟩
   ·
    refine Ops.off rfl rfl rfl rfl ?_
    refine Ops.off rfl rfl rfl rfl ?_
    refine Ops.q rfl (qpickF rfl rfl) ?_
    refine Ops.nil ?_
    refine h36 _ _ ?_
    refine Run.cond_false rfl ?_
    refine Run.skip ?_
    refine h34 _ _ ?_
    refine Run.region ?_
    refine Ops.q rfl (qmove rfl) ?_
    refine Ops.q rfl (qmove rfl) ?_
    refine Ops.q rfl (qmove rfl) ?_
    obtain ⟨b54, f54, rw54, r54, rc54, n54, k54, e54, l54, g54, cl54, cs54⟩ := Slc.at (i := i) (hu.le le11) (by simp only [strs_length]; omega) (by omega)
    refine Ops.q rfl (qindexS u22 sz9 rfl e54 rfl l54) ?_
    refine Ops.q rfl (qloadAt ag9 rfl rfl g54 ((elt0 cs54).trans (strs_get (by omega)))) ?_
    refine Ops.l rfl (fun _ _ hk55 _ => wbuildSlice (c := [str (l.getD i [])]) wf13 rfl (buildSliceV_of u22 sz9 z9 rfl (by decide) (by decide) rfl) fun A57 b56 nb58 => ?_)
    have no59 := fr_s11.own.ne_new wf13 nb58.lo
    have ge_b56 := none_of wf (Nat.le_trans le11.n nb58.lo)
    have fr60 := fr_s11.le nb58.le
    have le61 := le11.trans nb58.le
    refine hk55 _ _ ?_
    refine Ops.l rfl (fun _ _ hk62 _ => wappend (ys := [str (l.getD i [])]) rfl rfl u22 sz9 inf9 z9 rfl (by decide) u22 (fun _ h => by cases h) fr60.own (listOf_row (n := 1) nb58.get rfl) rfl rfl (by show (_ + _) * 16 ≤ _; simp only [strs_length, List.length_cons, List.length_nil]; (try simp only [List.length_append, List.length_cons, List.length_nil]); omega) (by simp only [strs_length, List.length_cons, List.length_nil]; (try simp only [List.length_append, List.length_cons, List.length_nil]); omega) fun A63 v64 ap65 => ?_)
    rw [show ([str (l.getD i [])] : List Value) = strs [l.getD i []] from rfl, strs_append] at ap65
    obtain ⟨fr68, le69⟩ := Fresh.grow fr60 le61 wf ap65
    refine hk62 _ _ ?_
    refine Ops.q rfl (qassign rfl) ?_
    refine Ops.nil ?_
    refine h20 _ _ ?_
    refine Run.region ?_
    refine Ops.q rfl (qmove rfl) ?_
    refine Ops.q rfl (qaddN (b := 1) rfl rfl (by omega)) ?_
    refine Ops.q rfl (qassign rfl) ?_
    refine Ops.nil ?_
    exact ⟨⟨i + 1, o ++ [l.getD i []], true, v64⟩, EnvLe.cons rfl <| EnvLe.cons rfl <| EnvLe.cons rfl <| EnvLe.cons rfl <| EnvLe.cons rfl <| EnvLe.nil _, rfl, ⟨⟨by omega, fold_step (d := []) (by omega) hf (by first | exact addStep_zero ‹_› | exact addStep_in ‹_› ‹_› (by simpa using ‹(!d) = true›) | exact addStep_out ‹_› (fun h => ‹¬ 0 < wCompare (l.getD i []) w› h.1) | exact addStep_out ‹_› (fun h => by have := ‹(!d) = false›; rw [h.2] at this; cases this)), by simp only [List.length_append, List.length_cons, List.length_nil]; omega⟩, le69, fr68⟩, (by (try dsimp only); omega)⟩
  ·
   refine Run.skip ?_
   refine h29 _ _ ?_
   refine Run.seq fun K70 h71 => ?_
   refine Run.seq fun K72 h73 => ?_
   refine Run.region ?_
   refine Ops.q rfl (qmove rfl) ?_
   refine Ops.q rfl (qgtr rfl rfl) ?_
   refine Ops.q rfl (qmove rfl) ?_
   refine Ops.part (t := 25) rfl (fun p74 => ?_) (fun p74 => ?_)
   ·
    refine Ops.on rfl rfl ?_
    refine Ops.q rfl (qmove rfl) ?_
    refine Ops.on rfl rfl ?_
    refine Ops.q rfl (qnot rfl) ?_
    refine Ops.q rfl (qpickT rfl rfl) ?_
    refine Ops.nil ?_
    refine h73 _ _ ?_
    refine Run.ifB rfl (fun p75 => ?_) (fun p75 => ?_)
    ·
     refine Run.seq fun K76 h77 => ?_
     refine Run.region ?_
     refine Ops.q rfl (qmove rfl) ?_
     refine Ops.q rfl (qmove rfl) ?_
     refine Ops.l rfl (fun _ _ hk78 _ => wbuildSlice (c := [str (w)]) wf13 rfl (buildSliceV_of u22 sz9 z9 rfl (by decide) (by decide) rfl) fun A80 b79 nb81 => ?_)
     have no82 := fr_s11.own.ne_new wf13 nb81.lo
     have ge_b79 := none_of wf (Nat.le_trans le11.n nb81.lo)
     have fr83 := fr_s11.le nb81.le
     have le84 := le11.trans nb81.le
     refine hk78 _ _ ?_
     refine Ops.l rfl (fun _ _ hk85 _ => wappend (ys := [str (w)]) rfl rfl u22 sz9 inf9 z9 rfl (by decide) u22 (fun _ h => by cases h) fr83.own (listOf_row (n := 1) nb81.get rfl) rfl rfl (by show (_ + _) * 16 ≤ _; simp only [strs_length, List.length_cons, List.length_nil]; (try simp only [List.length_append, List.length_cons, List.length_nil]); omega) (by simp only [strs_length, List.length_cons, List.length_nil]; (try simp only [List.length_append, List.length_cons, List.length_nil]); omega) fun A86 v87 ap88 => ?_)
     rw [show ([str (w)] : List Value) = strs [w] from rfl, strs_append] at ap88
     obtain ⟨fr91, le92⟩ := Fresh.grow fr83 le84 wf ap88
     refine hk85 _ _ ?_
     refine Ops.q rfl (qassign rfl) ?_
     refine Ops.nil ?_
     refine h77 _ _ ?_
     refine Run.region ?_
     refine Ops.q rfl (qassign rfl) ?_
     refine Ops.nil ?_
     refine h71 _ _ ?_
     refine Run.region ?_
     refine Ops.q rfl (qmove rfl) ?_
     refine Ops.q rfl (qmove rfl) ?_
     refine Ops.q rfl (qmove rfl) ?_
     obtain ⟨b93, f93, rw93, r93, rc93, n93, k93, e93, l93, g93, cl93, cs93⟩ := Slc.at (i := i) (hu.le le92) (by simp only [strs_length]; omega) (by omega)
     refine Ops.q rfl (qindexS u22 sz9 rfl e93 rfl l93) ?_
     refine Ops.q rfl (qloadAt ag9 rfl rfl g93 ((elt0 cs93).trans (strs_get (by omega)))) ?_
     refine Ops.l rfl (fun _ _ hk94 _ => wbuildSlice (c := [str (l.getD i [])]) ap88.wf rfl (buildSliceV_of u22 sz9 z9 rfl (by decide) (by decide) rfl) fun A96 b95 nb97 => ?_)
     have no98 := fr91.own.ne_new ap88.wf nb97.lo
     have ge_b95 := none_of wf (Nat.le_trans le92.n nb97.lo)
     have fr99 := fr91.le nb97.le
     have le100 := le92.trans nb97.le
     refine hk94 _ _ ?_
     refine Ops.l rfl (fun _ _ hk101 _ => wappend (ys := [str (l.getD i [])]) rfl rfl u22 sz9 inf9 z9 rfl (by decide) u22 (fun _ h => by cases h) fr99.own (listOf_row (n := 1) nb97.get rfl) rfl rfl (by show (_ + _) * 16 ≤ _; simp only [strs_length, List.length_cons, List.length_nil]; (try simp only [List.length_append, List.length_cons, List.length_nil]); omega) (by simp only [strs_length, List.length_cons, List.length_nil]; (try simp only [List.length_append, List.length_cons, List.length_nil]); omega) fun A102 v103 ap104 => ?_)
     rw [show ([str (l.getD i [])] : List Value) = strs [l.getD i []] from rfl, strs_append] at ap104
     obtain ⟨fr107, le108⟩ := Fresh.grow fr99 le100 wf ap104
     refine hk101 _ _ ?_
     refine Ops.q rfl (qassign rfl) ?_
     refine Ops.nil ?_
     refine h20 _ _ ?_
     refine Run.region ?_
     refine Ops.q rfl (qmove rfl) ?_
     refine Ops.q rfl (qaddN (b := 1) rfl rfl (by omega)) ?_
     refine Ops.q rfl (qassign rfl) ?_
     refine Ops.nil ?_
     exact ⟨⟨i + 1, (o ++ [w]) ++ [l.getD i []], true, v103⟩, EnvLe.cons rfl <| EnvLe.cons rfl <| EnvLe.cons rfl <| EnvLe.cons rfl <| EnvLe.cons rfl <| EnvLe.nil _, rfl, ⟨⟨by omega, fold_step (d := []) (by omega) hf (by first | exact addStep_zero ‹_› | exact addStep_in ‹_› ‹_› (by simpa using ‹(!d) = true›) | exact addStep_out ‹_› (fun h => ‹¬ 0 < wCompare (l.getD i []) w› h.1) | exact addStep_out ‹_› (fun h => by have := ‹(!d) = false›; rw [h.2] at this; cases this)), by simp only [List.length_append, List.length_cons, List.length_nil]; omega⟩, le108, fr107⟩, (by (try dsimp only); omega)⟩
    ·
     refine Run.skip ?_
     refine h71 _ _ ?_
     refine Run.region ?_
     refine Ops.q rfl (qmove rfl) ?_
     refine Ops.q rfl (qmove rfl) ?_
     refine Ops.q rfl (qmove rfl) ?_
     obtain ⟨b109, f109, rw109, r109, rc109, n109, k109, e109, l109, g109, cl109, cs109⟩ := Slc.at (i := i) (hu.le le11) (by simp only [strs_length]; omega) (by omega)
     refine Ops.q rfl (qindexS u22 sz9 rfl e109 rfl l109) ?_
     refine Ops.q rfl (qloadAt ag9 rfl rfl g109 ((elt0 cs109).trans (strs_get (by omega)))) ?_
     refine Ops.l rfl (fun _ _ hk110 _ => wbuildSlice (c := [str (l.getD i [])]) wf13 rfl (buildSliceV_of u22 sz9 z9 rfl (by decide) (by decide) rfl) fun A112 b111 nb113 => ?_)
     have no114 := fr_s11.own.ne_new wf13 nb113.lo
     have ge_b111 := none_of wf (Nat.le_trans le11.n nb113.lo)
     have fr115 := fr_s11.le nb113.le
     have le116 := le11.trans nb113.le
     refine hk110 _ _ ?_
     refine Ops.l rfl (fun _ _ hk117 _ => wappend (ys := [str (l.getD i [])]) rfl rfl u22 sz9 inf9 z9 rfl (by decide) u22 (fun _ h => by cases h) fr115.own (listOf_row (n := 1) nb113.get rfl) rfl rfl (by show (_ + _) * 16 ≤ _; simp only [strs_length, List.length_cons, List.length_nil]; (try simp only [List.length_append, List.length_cons, List.length_nil]); omega) (by simp only [strs_length, List.length_cons, List.length_nil]; (try simp only [List.length_append, List.length_cons, List.length_nil]); omega) fun A118 v119 ap120 => ?_)
     rw [show ([str (l.getD i [])] : List Value) = strs [l.getD i []] from rfl, strs_append] at ap120
     obtain ⟨fr123, le124⟩ := Fresh.grow fr115 le116 wf ap120
     refine hk117 _ _ ?_
     refine Ops.q rfl (qassign rfl) ?_
     refine Ops.nil ?_
     refine h20 _ _ ?_
     refine Run.region ?_
     refine Ops.q rfl (qmove rfl) ?_
     refine Ops.q rfl (qaddN (b := 1) rfl rfl (by omega)) ?_
     refine Ops.q rfl (qassign rfl) ?_
     refine Ops.nil ?_
     exact ⟨⟨i + 1, o ++ [l.getD i []], d, v119⟩, EnvLe.cons rfl <| EnvLe.cons rfl <| EnvLe.cons rfl <| EnvLe.cons rfl <| EnvLe.cons rfl <| EnvLe.nil _, rfl, ⟨⟨by omega, fold_step (d := []) (by omega) hf (by first | exact addStep_zero ‹_› | exact addStep_in ‹_› ‹_› (by simpa using ‹(!d) = true›) | exact addStep_out ‹_› (fun h => ‹¬ 0 < wCompare (l.getD i []) w› h.1) | exact addStep_out ‹_› (fun h => by have := ‹(!d) = false›; rw [h.2] at this; cases this)), by simp only [List.length_append, List.length_cons, List.length_nil]; omega⟩, le124, fr123⟩, (by (try dsimp only); omega)⟩
   ·
    refine Ops.off rfl rfl rfl rfl ?_
    refine Ops.off rfl rfl rfl rfl ?_
    refine Ops.q rfl (qpickF rfl rfl) ?_
    refine Ops.nil ?_
    refine h73 _ _ ?_
    refine Run.cond_false rfl ?_
    refine Run.skip ?_
    refine h71 _ _ ?_
    refine Run.region ?_
    refine Ops.q rfl (qmove rfl) ?_
    refine Ops.q rfl (qmove rfl) ?_
    refine Ops.q rfl (qmove rfl) ?_
    obtain ⟨b125, f125, rw125, r125, rc125, n125, k125, e125, l125, g125, cl125, cs125⟩ := Slc.at (i := i) (hu.le le11) (by simp only [strs_length]; omega) (by omega)
    refine Ops.q rfl (qindexS u22 sz9 rfl e125 rfl l125) ?_
    refine Ops.q rfl (qloadAt ag9 rfl rfl g125 ((elt0 cs125).trans (strs_get (by omega)))) ?_
    refine Ops.l rfl (fun _ _ hk126 _ => wbuildSlice (c := [str (l.getD i [])]) wf13 rfl (buildSliceV_of u22 sz9 z9 rfl (by decide) (by decide) rfl) fun A128 b127 nb129 => ?_)
    have no130 := fr_s11.own.ne_new wf13 nb129.lo
    have ge_b127 := none_of wf (Nat.le_trans le11.n nb129.lo)
    have fr131 := fr_s11.le nb129.le
    have le132 := le11.trans nb129.le
    refine hk126 _ _ ?_
    refine Ops.l rfl (fun _ _ hk133 _ => wappend (ys := [str (l.getD i [])]) rfl rfl u22 sz9 inf9 z9 rfl (by decide) u22 (fun _ h => by cases h) fr131.own (listOf_row (n := 1) nb129.get rfl) rfl rfl (by show (_ + _) * 16 ≤ _; simp only [strs_length, List.length_cons, List.length_nil]; (try simp only [List.length_append, List.length_cons, List.length_nil]); omega) (by simp only [strs_length, List.length_cons, List.length_nil]; (try simp only [List.length_append, List.length_cons, List.length_nil]); omega) fun A134 v135 ap136 => ?_)
    rw [show ([str (l.getD i [])] : List Value) = strs [l.getD i []] from rfl, strs_append] at ap136
    obtain ⟨fr139, le140⟩ := Fresh.grow fr131 le132 wf ap136
    refine hk133 _ _ ?_
    refine Ops.q rfl (qassign rfl) ?_
    refine Ops.nil ?_
    refine h20 _ _ ?_
    refine Run.region ?_
    refine Ops.q rfl (qmove rfl) ?_
    refine Ops.q rfl (qaddN (b := 1) rfl rfl (by omega)) ?_
    refine Ops.q rfl (qassign rfl) ?_
    refine Ops.nil ?_
    exact ⟨⟨i + 1, o ++ [l.getD i []], d, v135⟩, EnvLe.cons rfl <| EnvLe.cons rfl <| EnvLe.cons rfl <| EnvLe.cons rfl <| EnvLe.cons rfl <| EnvLe.nil _, rfl, ⟨⟨by omega, fold_step (d := []) (by omega) hf (by first | exact addStep_zero ‹_› | exact addStep_in ‹_› ‹_› (by simpa using ‹(!d) = true›) | exact addStep_out ‹_› (fun h => ‹¬ 0 < wCompare (l.getD i []) w› h.1) | exact addStep_out ‹_› (fun h => by have := ‹(!d) = false›; rw [h.2] at this; cases this)), by simp only [List.length_append, List.length_cons, List.length_nil]; omega⟩, le140, fr139⟩, (by (try dsimp only); omega)⟩
 ·
  refine Run.exit ?_
  refine h8 _ _ ?_
  refine Run.seq fun K141 h142 => ?_
  refine Run.seq fun K143 h144 => ?_
  refine Run.region ?_
  refine Ops.q rfl (qmove rfl) ?_
  refine Ops.q rfl (qnot rfl) ?_
  refine Ops.nil ?_
  refine h144 _ _ ?_
  refine Run.ifB rfl (fun p145 => ?_) (fun p145 => ?_)
  ·
   refine Run.region ?_
   refine Ops.q rfl (qmove rfl) ?_
   refine Ops.q rfl (qmove rfl) ?_
   refine Ops.l rfl (fun _ _ hk146 _ => wbuildSlice (c := [str (w)]) wf13 rfl (buildSliceV_of u22 sz9 z9 rfl (by decide) (by decide) rfl) fun A148 b147 nb149 => ?_)
   have no150 := fr_s11.own.ne_new wf13 nb149.lo
   have ge_b147 := none_of wf (Nat.le_trans le11.n nb149.lo)
   have fr151 := fr_s11.le nb149.le
   have le152 := le11.trans nb149.le
   refine hk146 _ _ ?_
   refine Ops.l rfl (fun _ _ hk153 _ => wappend (ys := [str (w)]) rfl rfl u22 sz9 inf9 z9 rfl (by decide) u22 (fun _ h => by cases h) fr151.own (listOf_row (n := 1) nb149.get rfl) rfl rfl (by show (_ + _) * 16 ≤ _; simp only [strs_length, List.length_cons, List.length_nil]; (try simp only [List.length_append, List.length_cons, List.length_nil]); omega) (by simp only [strs_length, List.length_cons, List.length_nil]; (try simp only [List.length_append, List.length_cons, List.length_nil]); omega) fun A154 v155 ap156 => ?_)
   rw [show ([str (w)] : List Value) = strs [w] from rfl, strs_append] at ap156
   obtain ⟨fr159, le160⟩ := Fresh.grow fr151 le152 wf ap156
   refine hk153 _ _ ?_
   refine Ops.q rfl (qassign rfl) ?_
   refine Ops.nil ?_
   refine h142 _ _ ?_
   refine Run.seq fun K161 h162 => ?_
   refine Run.region ?_
   refine Ops.q rfl (qmove rfl) ?_
   refine Ops.q rfl (qassign rfl) ?_
   refine Ops.nil ?_
   refine h162 _ _ ?_
   refine Run.ret ?_
   repeat first | with_reducible refine thenQ_ret ?_ | with_reducible refine blockQ_ret ?_
   exact retQ rfl (⟨le160, ap156.wf, fresh_eq fr159 (congrArg strs (by rw [dropL_end (by omega)] at hf; first | exact addw_yes hf ‹_› | exact addw_no hf ‹_›))⟩)
  ·
   refine Run.skip ?_
   refine h142 _ _ ?_
   refine Run.seq fun K163 h164 => ?_
   refine Run.region ?_
   refine Ops.q rfl (qmove rfl) ?_
   refine Ops.q rfl (qassign rfl) ?_
   refine Ops.nil ?_
   refine h164 _ _ ?_
   refine Run.ret ?_
   repeat first | with_reducible refine thenQ_ret ?_ | with_reducible refine blockQ_ret ?_
   exact retQ rfl (⟨le11, wf13, fresh_eq fr_s11 (congrArg strs (by rw [dropL_end (by omega)] at hf; first | exact addw_yes hf ‹_› | exact addw_no hf ‹_›))⟩)
end Go.Proofs.YtaccklloepfemaaGreatDoor
