/- The contracts of the functions, one by one: what each comes to. -/
import Derived.Test.YtaccklloepfemaaGreatDoorDehnFL
import Derived.Test.YtaccklloepfemaaGreatDoorDehnCyc2
namespace Go.Proofs.YtaccklloepfemaaGreatDoor
open Go Go.RowKit V
set_option maxRecDepth 100000
set_option linter.unusedVariables false
set_option linter.unusedSimpArgs false


theorem s_turn1 (i : Nat) (l : List UInt8) (p b1 b2 cap1 cap2 : Nat) (rw1 rw2 : Bool) (A : AH) (ht : p < l.length ∧ l.length ≤ 100000000 ∧ i ≤ l.length) (gb1 : A.get b1 = some (.row rw1 [str l] cap1)) (gb2 : A.get b2 = some (.row rw2 [num ((p : Nat) : Int)] cap2)) : RetA Tryz.prog 79 #[num ((i : Nat) : Int), .pointer (some ⟨b1, 0, none⟩), .pointer (some ⟨b2, 0, none⟩)] A (fun v A1 => v = .tuple #[byt ((rot l p).getD i 0), .bool (decide (i < (rot l p).length))] ∧ A = A1) := by
 refine enterA (e := [(0, num ((i : Nat) : Int)), (1, .pointer (some ⟨b1, 0, none⟩)), (2, .pointer (some ⟨b2, 0, none⟩))]) (args := [num ((i : Nat) : Int), .pointer (some ⟨b1, 0, none⟩), .pointer (some ⟨b2, 0, none⟩)]) Tryz.call79 Tryz.func79 rfl Tryz.results79 Tryz.ntmps79 rfl rfl rfl (fun wf => ?_)
 have le_ := AH.le.refl A
 have hmod := Nat.mod_lt (p + i) (show 0 < l.length by omega)
 refine Run.seq fun K1 h2 => ?_
 refine Run.region ?_
 refine Ops.q rfl (qassign rfl) ?_
 refine Ops.q rfl (qassign rfl) ?_
 refine Ops.nil ?_
 refine h2 _ _ ?_
 refine Run.seq fun K3 h4 => ?_
 refine Run.seq fun K5 h6 => ?_
 refine Run.region ?_
 refine Ops.q rfl (qmove rfl) ?_
 refine Ops.q rfl (qloadAt ag9 rfl rfl (le_.get _ _ gb1) rfl) ?_
 refine Ops.q rfl (qslen u9 rfl) ?_
 refine Ops.q rfl (qgeqN rfl rfl) ?_
 refine Ops.nil ?_
 refine h6 _ _ ?_
 refine Run.if rfl (fun p7 => ?_) (fun p7 => ?_)
 ·
  refine Run.seq fun K8 h9 => ?_
  refine Run.region ?_
  refine Ops.q rfl (qassign rfl) ?_
  refine Ops.q rfl (qassign rfl) ?_
  refine Ops.nil ?_
  refine h9 _ _ ?_
  refine Run.ret ?_
  repeat first | with_reducible refine thenQ_ret ?_ | with_reducible refine blockQ_ret ?_
  exact retQ rfl (⟨by first | (rw [(rot_end (w := l) (p := p) (i := i) (by omega)).1, (rot_end (w := l) (p := p) (i := i) (by omega)).2]; rfl) | (rw [rot_at (by omega) (by omega), rot_length, decide_eq_true (show i < l.length by omega)]; rfl), rfl⟩)
 ·
  refine Run.skip ?_
  refine h4 _ _ ?_
  refine Run.seq fun K10 h11 => ?_
  refine Run.drawn [0, 1, 2, 3, 4, 5, 6, 7, 8, 9] mixed (by kernel_rfl) (by kernel_rfl) rfl ?_
  have hc12 := cellOf (off := 0) (le_.get _ _ gb1) (show _ = some (str (l)) from rfl)
  refine DOps.q rfl rfl rfl (qloadAt ag9 rfl rfl (le_.get _ _ gb1) rfl) ?_
  have hc13 := cellOf (off := 0) (le_.get _ _ gb2) (show _ = some (num ((p : Nat) : Int)) from rfl)
  refine DOps.q rfl rfl rfl (qloadAt ag3 rfl rfl (le_.get _ _ gb2) rfl) ?_
  refine DOps.q rfl rfl rfl (qmove rfl) ?_
  refine DOps.q rfl rfl rfl (qaddN rfl rfl (by omega)) ?_
  have hc14 := cellOf (off := 0) (le_.get _ _ gb1) (show _ = some (str (l)) from rfl)
  refine DOps.q rfl rfl rfl (qloadAt ag9 rfl rfl (le_.get _ _ gb1) rfl) ?_
  refine DOps.q rfl rfl rfl (qslen u9 rfl) ?_
  refine DOps.q rfl rfl rfl (qremN rfl rfl (by omega)) ?_
  refine DOps.q rfl rfl rfl (qsix u9 rfl rfl (by omega)) ?_
  refine DOps.q rfl rfl rfl (qassign rfl) ?_
  refine DOps.q rfl rfl rfl (qassign rfl) ?_
  refine DOps.done ?_
  refine h11 _ _ ?_
  refine Run.ret ?_
  repeat first | with_reducible refine thenQ_ret ?_ | with_reducible refine blockQ_ret ?_
  exact retQ rfl (⟨by first | (rw [(rot_end (w := l) (p := p) (i := i) (by omega)).1, (rot_end (w := l) (p := p) (i := i) (by omega)).2]; rfl) | (rw [rot_at (by omega) (by omega), rot_length, decide_eq_true (show i < l.length by omega)]; rfl), rfl⟩)

theorem s_turn (br : Nat) (S : RS) (w : List UInt8) (A : AH) (hR : Rules A br S) (hS : RSok S) (hw : w.length ≤ 1000000) : RetA Tryz.prog 46 #[.pointer (some ⟨br, 0, none⟩), str (w)] A (fun v A1 => v = num (dturn S.list w) ∧ A.le A1 ∧ A1.wf) := by
 refine enterA (e := [(0, .pointer (some ⟨br, 0, none⟩)), (1, str (w))]) (args := [.pointer (some ⟨br, 0, none⟩), str (w)]) Tryz.call46 Tryz.func46 rfl Tryz.results46 Tryz.ntmps46 rfl rfl rfl (fun wf => ?_)
 have le_ := AH.le.refl A
 refine Run.seq fun K1 h2 => ?_
 refine Run.region ?_
 refine Ops.l rfl (fun _ _ hk3 _ => wbox wf rfl rfl fun A5 b4 nb6 => ?_)
 have ge_b4 := none_of wf (Nat.le_trans le_.n nb6.lo)
 have le7 := le_.trans nb6.le
 refine hk3 _ _ ?_
 refine Ops.q rfl (qassign rfl) ?_
 refine Ops.nil ?_
 refine h2 _ _ ?_
 refine Run.seq fun K8 h9 => ?_
 refine Run.region ?_
 refine Ops.q rfl (qassign rfl) ?_
 refine Ops.nil ?_
 refine h9 _ _ ?_
 refine Run.seq fun K10 h11 => ?_
 refine Run.seq fun K12 h13 => ?_
 refine Run.region ?_
 refine Ops.q rfl (qloadAt ag9 rfl rfl nb6.get rfl) ?_
 refine Ops.q rfl (qslen u9 rfl) ?_
 refine Ops.q rfl (qmove rfl) ?_
 refine Ops.nil ?_
 refine h13 _ _ ?_
 refine Run.block ?_
 refine Run.loop (X := Nat × Int) (fun ⟨j, c⟩ => [(0, .pointer (some ⟨br, 0, none⟩)), (3, .pointer (some ⟨b4, 0, none⟩)), (5, num (c)), (11, num ((w.length : Nat) : Int)), (12, num ((j : Nat) : Int))]) (fun ⟨j, c⟩ B => (j ≤ w.length ∧ c = turnU S.list w j) ∧ A.le B ∧ B.get b4 = some (.row true [str (w)] 1)) (fun ⟨j, c⟩ => w.length - j) (⟨0, -1⟩) (EnvLe.cons rfl <| EnvLe.cons rfl <| EnvLe.cons rfl <| EnvLe.cons rfl <| EnvLe.cons rfl <| EnvLe.nil _) (⟨⟨Nat.zero_le _, rfl⟩, le7, nb6.get⟩) ?_
 rintro ⟨j, c⟩ B15 ⟨⟨hj, hc⟩, le14, hr_b414⟩
 refine Run.wf fun wf16 => ?_
 have hlf := longF_le S.list (rot w j)
 rw [rot_length] at hlf
 have htb := turnU_bound S.list w j hj
 rw [← hc] at htb
 refine Run.seq fun K17 h18 => ?_
 refine Run.region ?_
 refine Ops.q rfl (qlssN rfl rfl) ?_
 refine Ops.nil ?_
 refine h18 _ _ ?_
 refine Run.seq fun K19 h20 => ?_
 refine Run.if rfl (fun p21 => ?_) (fun p21 => ?_)
 ·
  refine Run.skip ?_
  refine h20 _ _ ?_
  refine Run.seq fun K22 h23 => ?_
  refine Run.block ?_
  refine Run.seq fun K24 h25 => ?_
  refine Run.region ?_
  refine Ops.q rfl (qmove rfl) ?_
  refine Ops.l rfl (fun _ _ hk26 _ => walloc wf16 z3 rfl fun A28 b27 nb29 => ?_)
  have ne_b4_b27 := ne_new wf16 hr_b414 nb29.lo
  have ge_b27 := none_of wf (Nat.le_trans le14.n nb29.lo)
  have h30 := nb29.le.get _ _ hr_b414
  have le31 := le14.trans nb29.le
  refine hk26 _ _ ?_
  refine Ops.l rfl (fun _ _ hk32 _ => wstore (cs := [num ((j : Nat) : Int)]) (c' := [num ((j : Nat) : Int)]) nb29.wf rfl rfl rfl rfl sz3 nb29.get (Nat.le_of_ble_eq_true rfl) rfl rfl fun A33 sb34 => ?_)
  have h35 := sb34.keep _ _ ne_b4_b27 h30
  have le36 := le_store le31 wf ge_b27 sb34.n sb34.keep
  refine hk32 _ _ ?_
  refine Ops.nil ?_
  refine h25 _ _ ?_
  refine Run.seq fun K37 h38 => ?_
  refine Run.region ?_
  refine Ops.q rfl (qmove rfl) ?_
  refine Ops.q rfl (qfunc rfl rfl) ?_
  refine Ops.l rfl (fun _ _ hk39 _ => vcallF rfl (s_long br S 79 #[.pointer (some ⟨b4, 0, none⟩), .pointer (some ⟨b27, 0, none⟩)] (rot w j) A33 (hR.le le36) hS (by rw [rot_length]; omega) (fun i B hi le wf => s_turn1 i w j b4 b27 _ _ _ _ B ⟨by omega, by omega, by rw [rot_length] at hi; exact hi⟩ (le.get _ _ h35) (le.get _ _ sb34.get))) ?_)
  rintro v40 A41 ⟨rfl, rfl⟩
  refine hk39 _ _ ?_
  refine Ops.q rfl (qmove rfl) ?_
  refine Ops.q rfl (qextract rfl rfl) ?_
  refine Ops.q rfl (qextract rfl rfl) ?_
  refine Ops.q rfl (qassign rfl) ?_
  refine Ops.q rfl (qassign rfl) ?_
  refine Ops.nil ?_
  refine h38 _ _ ?_
  refine Run.seq fun K43 h44 => ?_
  refine Run.region ?_
  refine Ops.q rfl (qmove rfl) ?_
  refine Ops.q rfl (qgtrN (b := 0) rfl rfl) ?_
  refine Ops.nil ?_
  refine h44 _ _ ?_
  refine Run.if rfl (fun p45 => ?_) (fun p45 => ?_)
  ·
   refine Run.seq fun K46 h47 => ?_
   refine Run.region ?_
   refine Ops.q rfl (qloadAt ag3 rfl rfl sb34.get rfl) ?_
   refine Ops.q rfl (qmove rfl) ?_
   refine Ops.q rfl (qaddN rfl rfl (by omega)) ?_
   refine Ops.q rfl (qloadAt ag9 rfl rfl h35 rfl) ?_
   refine Ops.q rfl (qslen u9 rfl) ?_
   refine Ops.q rfl (qsub rfl rfl (by omega)) ?_
   refine Ops.q rfl (qmax rfl rfl) ?_
   refine Ops.q rfl (qassign rfl) ?_
   refine Ops.nil ?_
   refine h47 _ _ ?_
   refine Run.seq fun K48 h49 => ?_
   refine Run.region ?_
   refine Ops.q rfl (qmove rfl) ?_
   refine Ops.q rfl (qlss rfl rfl) ?_
   refine Ops.q rfl (qmove rfl) ?_
   refine Ops.part (t := 32) rfl (fun p50 => ?_) (fun p50 => ?_)
   ·
    refine Ops.off rfl rfl rfl rfl ?_
    refine Ops.off rfl rfl rfl rfl ?_
    refine Ops.off rfl rfl rfl rfl ?_
    refine Ops.q rfl (qpickT rfl rfl) ?_
    refine Ops.nil ?_
    refine h49 _ _ ?_
    refine Run.cond_true rfl ?_
    refine Run.region ?_
    refine Ops.q rfl (qmove rfl) ?_
    refine Ops.q rfl (qassign rfl) ?_
    refine Ops.nil ?_
    refine h23 _ _ ?_
    refine Run.region ?_
    refine Ops.q rfl (qaddN (b := 1) rfl rfl (by omega)) ?_
    refine Ops.q rfl (qmove rfl) ?_
    refine Ops.nil ?_
    exact ⟨⟨j + 1, (if (((j + ((longF S.list (rot w j)).2) : Nat) : Int) - ((w.length : Nat) : Int)) > ((0 : Nat) : Int) then (((j + ((longF S.list (rot w j)).2) : Nat) : Int) - ((w.length : Nat) : Int)) else ((0 : Nat) : Int))⟩, EnvLe.cons rfl <| EnvLe.cons rfl <| EnvLe.cons rfl <| EnvLe.cons rfl <| EnvLe.cons rfl <| EnvLe.nil _, rfl, ⟨⟨by omega, by first | exact turnU_a hc ‹(longF S.list (rot w j)).2 > 0› (.inl ‹c < 0›) | exact turnU_a hc ‹(longF S.list (rot w j)).2 > 0› (.inr ‹_ < c›) | exact turnU_b hc ‹(longF S.list (rot w j)).2 > 0› ‹¬ c < 0› ‹¬ _ < c› | exact turnU_c hc ‹¬ (longF S.list (rot w j)).2 > 0›⟩, le36, h35⟩, (by (try dsimp only); omega)⟩
   ·
    refine Ops.on rfl rfl ?_
    refine Ops.q rfl (qmove rfl) ?_
    refine Ops.on rfl rfl ?_
    refine Ops.q rfl (qmove rfl) ?_
    refine Ops.on rfl rfl ?_
    refine Ops.q rfl (qlss rfl rfl) ?_
    refine Ops.q rfl (qpickF rfl rfl) ?_
    refine Ops.nil ?_
    refine h49 _ _ ?_
    refine Run.if rfl (fun p51 => ?_) (fun p51 => ?_)
    ·
     refine Run.region ?_
     refine Ops.q rfl (qmove rfl) ?_
     refine Ops.q rfl (qassign rfl) ?_
     refine Ops.nil ?_
     refine h23 _ _ ?_
     refine Run.region ?_
     refine Ops.q rfl (qaddN (b := 1) rfl rfl (by omega)) ?_
     refine Ops.q rfl (qmove rfl) ?_
     refine Ops.nil ?_
     exact ⟨⟨j + 1, (if (((j + ((longF S.list (rot w j)).2) : Nat) : Int) - ((w.length : Nat) : Int)) > ((0 : Nat) : Int) then (((j + ((longF S.list (rot w j)).2) : Nat) : Int) - ((w.length : Nat) : Int)) else ((0 : Nat) : Int))⟩, EnvLe.cons rfl <| EnvLe.cons rfl <| EnvLe.cons rfl <| EnvLe.cons rfl <| EnvLe.cons rfl <| EnvLe.nil _, rfl, ⟨⟨by omega, by first | exact turnU_a hc ‹(longF S.list (rot w j)).2 > 0› (.inl ‹c < 0›) | exact turnU_a hc ‹(longF S.list (rot w j)).2 > 0› (.inr ‹_ < c›) | exact turnU_b hc ‹(longF S.list (rot w j)).2 > 0› ‹¬ c < 0› ‹¬ _ < c› | exact turnU_c hc ‹¬ (longF S.list (rot w j)).2 > 0›⟩, le36, h35⟩, (by (try dsimp only); omega)⟩
    ·
     refine Run.skip ?_
     refine h23 _ _ ?_
     refine Run.region ?_
     refine Ops.q rfl (qaddN (b := 1) rfl rfl (by omega)) ?_
     refine Ops.q rfl (qmove rfl) ?_
     refine Ops.nil ?_
     exact ⟨⟨j + 1, (c)⟩, EnvLe.cons rfl <| EnvLe.cons rfl <| EnvLe.cons rfl <| EnvLe.cons rfl <| EnvLe.cons rfl <| EnvLe.nil _, rfl, ⟨⟨by omega, by first | exact turnU_a hc ‹(longF S.list (rot w j)).2 > 0› (.inl ‹c < 0›) | exact turnU_a hc ‹(longF S.list (rot w j)).2 > 0› (.inr ‹_ < c›) | exact turnU_b hc ‹(longF S.list (rot w j)).2 > 0› ‹¬ c < 0› ‹¬ _ < c› | exact turnU_c hc ‹¬ (longF S.list (rot w j)).2 > 0›⟩, le36, h35⟩, (by (try dsimp only); omega)⟩
  ·
   refine Run.skip ?_
   refine h23 _ _ ?_
   refine Run.region ?_
   refine Ops.q rfl (qaddN (b := 1) rfl rfl (by omega)) ?_
   refine Ops.q rfl (qmove rfl) ?_
   refine Ops.nil ?_
   exact ⟨⟨j + 1, (c)⟩, EnvLe.cons rfl <| EnvLe.cons rfl <| EnvLe.cons rfl <| EnvLe.cons rfl <| EnvLe.cons rfl <| EnvLe.nil _, rfl, ⟨⟨by omega, by first | exact turnU_a hc ‹(longF S.list (rot w j)).2 > 0› (.inl ‹c < 0›) | exact turnU_a hc ‹(longF S.list (rot w j)).2 > 0› (.inr ‹_ < c›) | exact turnU_b hc ‹(longF S.list (rot w j)).2 > 0› ‹¬ c < 0› ‹¬ _ < c› | exact turnU_c hc ‹¬ (longF S.list (rot w j)).2 > 0›⟩, le36, h35⟩, (by (try dsimp only); omega)⟩
 ·
  refine Run.exit ?_
  refine h11 _ _ ?_
  refine Run.seq fun K52 h53 => ?_
  refine Run.region ?_
  refine Ops.q rfl (qmove rfl) ?_
  refine Ops.q rfl (qassign rfl) ?_
  refine Ops.nil ?_
  refine h53 _ _ ?_
  refine Run.ret ?_
  repeat first | with_reducible refine thenQ_ret ?_ | with_reducible refine blockQ_ret ?_
  exact retQ rfl (⟨by rw [hc, show j = w.length by omega]; rfl, le14, wf16⟩)

theorem s_joined (x y : List UInt8) (A : AH) (hx : x.length ≤ 1000000) (hy : y.length ≤ 1000000) : RetA Tryz.prog 47 #[str (x), str (y)] A (fun v A1 => v = .tuple #[str (jnd x y), .bool (decide ((jnd x y).length ≤ 100000))] ∧ A = A1) := by
 refine enterA (e := [(0, str (x)), (1, str (y))]) (args := [str (x), str (y)]) Tryz.call47 Tryz.func47 rfl Tryz.results47 Tryz.ntmps47 rfl rfl rfl (fun wf => ?_)
 have le_ := AH.le.refl A
 refine Run.seq fun K1 h2 => ?_
 refine Run.region ?_
 refine Ops.q rfl (qassign rfl) ?_
 refine Ops.q rfl (qassign rfl) ?_
 refine Ops.nil ?_
 refine h2 _ _ ?_
 refine Run.seq fun K3 h4 => ?_
 refine Run.block ?_
 refine Run.loop (X := Nat × List UInt8 × List UInt8) (fun ⟨f, a, c⟩ => [(0, str (a)), (1, str (c))]) (fun ⟨f, a, c⟩ B => (jn f a c = jn (x.length + 1) x y ∧ a.length < f ∧ a.length ≤ x.length ∧ c.length ≤ y.length) ∧ A = B) (fun ⟨f, a, c⟩ => a.length) (⟨x.length + 1, x, y⟩) (EnvLe.cons rfl <| EnvLe.cons rfl <| EnvLe.nil _) (⟨⟨rfl, by omega, Nat.le_refl _, Nat.le_refl _⟩, rfl⟩) ?_
 rintro ⟨f, a, c⟩ B6 ⟨⟨hj, hf, ha, hcl⟩, rfl⟩
 have hne1 := fun q : ¬ a = [] => ne_len q
 have hne2 := fun q : ¬ c = [] => ne_len q
 refine Run.seq fun K7 h8 => ?_
 refine Run.seq fun K9 h10 => ?_
 refine Run.drawn [0, 1, 2, 3, 4, 5, 6, 7, 8, 9, 10, 11, 12, 13, 14, 15, 16] mixed (by kernel_rfl) (by kernel_rfl) rfl ?_
 refine DOps.q rfl rfl rfl (qmove rfl) ?_
 refine DOps.q rfl rfl rfl (qsneq rfl rfl) ?_
 refine DOps.q rfl rfl rfl (qmove rfl) ?_
 refine DOps.part (t := 8) rfl (fun p11 => ?_) (fun p11 => ?_)
 ·
  refine DOps.qOn rfl rfl rfl rfl rfl (qmove rfl) ?_
  refine DOps.qOn rfl rfl rfl rfl rfl (qsneq rfl rfl) ?_
  refine DOps.q rfl rfl rfl (qpickT rfl rfl) ?_
  refine DOps.q rfl rfl rfl (qmove rfl) ?_
  refine DOps.part (t := 12) rfl (fun p12 => ?_) (fun p12 => ?_)
  ·
   refine DOps.qOn rfl rfl rfl rfl rfl (qmove rfl) ?_
   refine DOps.qOn rfl rfl rfl rfl rfl (qmove rfl) ?_
   refine DOps.qOn rfl rfl rfl rfl rfl (qslen u9 rfl) ?_
   refine DOps.qOn rfl rfl rfl rfl rfl (qsubN (b := 1) rfl rfl (by first | omega | (have := hne1 ‹¬ a = []›; have := hne2 ‹¬ c = []›; omega))) ?_
   refine DOps.qOn rfl rfl rfl rfl rfl (qsix u9 rfl rfl (by (have := hne1 ‹¬ a = []›; have := hne2 ‹¬ c = []›; omega))) ?_
   refine DOps.qOn rfl rfl rfl rfl rfl (qmove rfl) ?_
   refine DOps.qOn rfl rfl rfl rfl rfl (qsix u9 rfl rfl (by (have := hne1 ‹¬ a = []›; have := hne2 ‹¬ c = []›; omega))) ?_
   refine DOps.qOn rfl rfl rfl rfl rfl (qxorB (d := 32) rfl rfl) ?_
   refine DOps.qOn rfl rfl rfl rfl rfl (qeqlB rfl rfl) ?_
   refine DOps.q rfl rfl rfl (qpickT rfl rfl) ?_
   refine DOps.done ?_
   refine h10 _ _ ?_
   refine Run.if rfl (fun p13 => ?_) (fun p13 => ?_)
   ·
    refine Run.skip ?_
    refine h8 _ _ ?_
    refine Run.block ?_
    refine Run.drawn [0, 1, 2, 3, 4, 5, 6, 7, 8] mixed (by kernel_rfl) (by kernel_rfl) rfl ?_
    refine DOps.q rfl rfl rfl (qmove rfl) ?_
    refine DOps.q rfl rfl rfl (qmove rfl) ?_
    refine DOps.q rfl rfl rfl (qslen u9 rfl) ?_
    refine DOps.q rfl rfl rfl (qsubN (b := 1) rfl rfl (by first | omega | (have := hne1 ‹¬ a = []›; have := hne2 ‹¬ c = []›; omega))) ?_
    refine DOps.q rfl rfl rfl (qslHi u9 rfl rfl (by (have := hne1 ‹¬ a = []›; have := hne2 ‹¬ c = []›; omega))) ?_
    refine DOps.q rfl rfl rfl (qmove rfl) ?_
    refine DOps.q rfl rfl rfl (qslLo (i := 1) u9 rfl rfl (by (have := hne1 ‹¬ a = []›; have := hne2 ‹¬ c = []›; omega))) ?_
    refine DOps.q rfl rfl rfl (qassign rfl) ?_
    refine DOps.q rfl rfl rfl (qassign rfl) ?_
    refine DOps.done ?_
    exact ⟨⟨f - 1, a.take (a.length - 1), c.drop 1⟩, EnvLe.cons rfl <| EnvLe.cons rfl <| EnvLe.nil _, rfl, ⟨⟨jn_go hf ⟨‹¬ a = []›, ‹¬ c = []›, ‹_›⟩ hj, by have := hne1 ‹¬ a = []›; rw [List.length_take]; omega, by rw [List.length_take]; omega, by rw [List.length_drop]; omega⟩, rfl⟩, (by have := hne1 ‹¬ a = []›; try dsimp only; rw [List.length_take]; omega)⟩
   ·
    refine Run.exit ?_
    refine h4 _ _ ?_
    refine Run.seq fun K14 h15 => ?_
    refine Run.region ?_
    refine Ops.q rfl (qmove rfl) ?_
    refine Ops.q rfl (qmove rfl) ?_
    refine Ops.q rfl (qsadd rfl rfl (by first | omega | (have := hne1 ‹¬ a = []›; have := hne2 ‹¬ c = []›; omega))) ?_
    refine Ops.q rfl (qmove rfl) ?_
    refine Ops.q rfl (qslen u9 rfl) ?_
    refine Ops.q rfl (qmove rfl) ?_
    refine Ops.q rfl (qslen u9 rfl) ?_
    refine Ops.q rfl (qaddN rfl rfl (by first | omega | (have := hne1 ‹¬ a = []›; have := hne2 ‹¬ c = []›; omega))) ?_
    refine Ops.q rfl (qleqN (b := 100000) rfl rfl) ?_
    refine Ops.q rfl (qassign rfl) ?_
    refine Ops.q rfl (qassign rfl) ?_
    refine Ops.nil ?_
    refine h15 _ _ ?_
    refine Run.ret ?_
    repeat first | with_reducible refine thenQ_ret ?_ | with_reducible refine blockQ_ret ?_
    exact retQ rfl (⟨by have hj2 := jn_stop (by rintro ⟨q1, q2, q3⟩; first | exact absurd q1 ‹¬ ¬ a = []› | exact absurd q2 ‹¬ ¬ c = []› | exact absurd q3 ‹_›) hj; rw [jnd, hj2, List.length_append]; rfl, rfl⟩)
  ·
   refine DOps.qOff rfl rfl rfl rfl rfl rfl ?_
   refine DOps.qOff rfl rfl rfl rfl rfl rfl ?_
   refine DOps.qOff rfl rfl rfl rfl rfl rfl ?_
   refine DOps.qOff rfl rfl rfl rfl rfl rfl ?_
   refine DOps.qOff rfl rfl rfl rfl rfl rfl ?_
   refine DOps.qOff rfl rfl rfl rfl rfl rfl ?_
   refine DOps.qOff rfl rfl rfl rfl rfl rfl ?_
   refine DOps.qOff rfl rfl rfl rfl rfl rfl ?_
   refine DOps.qOff rfl rfl rfl rfl rfl rfl ?_
   refine DOps.q rfl rfl rfl (qpickF rfl rfl) ?_
   refine DOps.done ?_
   refine h10 _ _ ?_
   refine Run.cond_false rfl ?_
   refine Run.exit ?_
   refine h4 _ _ ?_
   refine Run.seq fun K16 h17 => ?_
   refine Run.region ?_
   refine Ops.q rfl (qmove rfl) ?_
   refine Ops.q rfl (qmove rfl) ?_
   refine Ops.q rfl (qsadd rfl rfl (by first | omega | (have := hne1 ‹¬ a = []›; have := hne2 ‹¬ c = []›; omega))) ?_
   refine Ops.q rfl (qmove rfl) ?_
   refine Ops.q rfl (qslen u9 rfl) ?_
   refine Ops.q rfl (qmove rfl) ?_
   refine Ops.q rfl (qslen u9 rfl) ?_
   refine Ops.q rfl (qaddN rfl rfl (by first | omega | (have := hne1 ‹¬ a = []›; have := hne2 ‹¬ c = []›; omega))) ?_
   refine Ops.q rfl (qleqN (b := 100000) rfl rfl) ?_
   refine Ops.q rfl (qassign rfl) ?_
   refine Ops.q rfl (qassign rfl) ?_
   refine Ops.nil ?_
   refine h17 _ _ ?_
   refine Run.ret ?_
   repeat first | with_reducible refine thenQ_ret ?_ | with_reducible refine blockQ_ret ?_
   exact retQ rfl (⟨by have hj2 := jn_stop (by rintro ⟨q1, q2, q3⟩; first | exact absurd q1 ‹¬ ¬ a = []› | exact absurd q2 ‹¬ ¬ c = []› | exact absurd q3 ‹_›) hj; rw [jnd, hj2, List.length_append]; rfl, rfl⟩)
 ·
  refine DOps.qOff rfl rfl rfl rfl rfl rfl ?_
  refine DOps.qOff rfl rfl rfl rfl rfl rfl ?_
  refine DOps.q rfl rfl rfl (qpickF rfl rfl) ?_
  refine DOps.q rfl rfl rfl (qmove rfl) ?_
  refine DOps.qOff rfl rfl rfl rfl rfl rfl ?_
  refine DOps.qOff rfl rfl rfl rfl rfl rfl ?_
  refine DOps.qOff rfl rfl rfl rfl rfl rfl ?_
  refine DOps.qOff rfl rfl rfl rfl rfl rfl ?_
  refine DOps.qOff rfl rfl rfl rfl rfl rfl ?_
  refine DOps.qOff rfl rfl rfl rfl rfl rfl ?_
  refine DOps.qOff rfl rfl rfl rfl rfl rfl ?_
  refine DOps.qOff rfl rfl rfl rfl rfl rfl ?_
  refine DOps.qOff rfl rfl rfl rfl rfl rfl ?_
  refine DOps.q rfl rfl rfl (qpickF rfl rfl) ?_
  refine DOps.done ?_
  refine h10 _ _ ?_
  refine Run.cond_false rfl ?_
  refine Run.exit ?_
  refine h4 _ _ ?_
  refine Run.seq fun K18 h19 => ?_
  refine Run.region ?_
  refine Ops.q rfl (qmove rfl) ?_
  refine Ops.q rfl (qmove rfl) ?_
  refine Ops.q rfl (qsadd rfl rfl (by first | omega | (have := hne1 ‹¬ a = []›; have := hne2 ‹¬ c = []›; omega))) ?_
  refine Ops.q rfl (qmove rfl) ?_
  refine Ops.q rfl (qslen u9 rfl) ?_
  refine Ops.q rfl (qmove rfl) ?_
  refine Ops.q rfl (qslen u9 rfl) ?_
  refine Ops.q rfl (qaddN rfl rfl (by first | omega | (have := hne1 ‹¬ a = []›; have := hne2 ‹¬ c = []›; omega))) ?_
  refine Ops.q rfl (qleqN (b := 100000) rfl rfl) ?_
  refine Ops.q rfl (qassign rfl) ?_
  refine Ops.q rfl (qassign rfl) ?_
  refine Ops.nil ?_
  refine h19 _ _ ?_
  refine Run.ret ?_
  repeat first | with_reducible refine thenQ_ret ?_ | with_reducible refine blockQ_ret ?_
  exact retQ rfl (⟨by have hj2 := jn_stop (by rintro ⟨q1, q2, q3⟩; first | exact absurd q1 ‹¬ ¬ a = []› | exact absurd q2 ‹¬ ¬ c = []› | exact absurd q3 ‹_›) hj; rw [jnd, hj2, List.length_append]; rfl, rfl⟩)
end Go.Proofs.YtaccklloepfemaaGreatDoor
