/- The contracts of the functions, one by one: what each comes to. -/
import Derived.Test.YtaccklloepfemaaGreatDoorDehnFG
import Derived.Test.YtaccklloepfemaaGreatDoorDehnRules
namespace Go.Proofs.YtaccklloepfemaaGreatDoor
open Go Go.RowKit V
set_option maxRecDepth 100000
set_option linter.unusedVariables false
set_option linter.unusedSimpArgs false
theorem ag100 : aggOf Tryz.prog 100 = some false := by kernel_rfl
theorem ag107 : aggOf Tryz.prog 107 = some false := by kernel_rfl
theorem ag80 : aggOf Tryz.prog 80 = some false := by kernel_rfl
theorem ag97 : aggOf Tryz.prog 97 = some false := by kernel_rfl
theorem fl103_1 : fldOf Tryz.prog 103 1 = some (100, 1) := by kernel_rfl
theorem fl109_0 : fldOf Tryz.prog 109 0 = some (80, 0) := by kernel_rfl
theorem fl111_0 : fldOf Tryz.prog 111 0 = some (109, 0) := by kernel_rfl
theorem fl99_0 : fldOf Tryz.prog 99 0 = some (97, 0) := by kernel_rfl
theorem fl99_1 : fldOf Tryz.prog 99 1 = some (3, 1) := by kernel_rfl
theorem sz100 : szOf Tryz.prog 100 = some 1 := by kernel_rfl
theorem sz109 : szOf Tryz.prog 109 = some 1 := by kernel_rfl
theorem sz80 : szOf Tryz.prog 80 = some 1 := by kernel_rfl
theorem sz97 : szOf Tryz.prog 97 = some 1 := by kernel_rfl
theorem sz99 : szOf Tryz.prog 99 = some 2 := by kernel_rfl
theorem u100 : type_of% @Tryz.underlying100 := @Tryz.underlying100
theorem u97 : type_of% @Tryz.underlying97 := @Tryz.underlying97
theorem z3 : zeroOf Tryz.prog 3 = some (.int .i64 0) := by kernel_rfl

theorem s_long (br : Nat) (S : RS) (g : Nat) (caps : Array Value) (s : List UInt8) (A : AH) (hR : Rules A br S) (hS : RSok S) (hs : s.length ≤ 1000000000) (hf : ∀ (i : Nat) B, i ≤ s.length → A.le B → B.wf → RetA Tryz.prog g (#[] ++ #[num ((i : Nat) : Int)] ++ caps) B (fun v B1 => v = .tuple #[byt (s.getD i 0), .bool (decide (i < s.length))] ∧ B = B1)) : RetA Tryz.prog 78 #[.pointer (some ⟨br, 0, none⟩), .func (.func g) #[] caps] A (fun v A1 => v = .tuple #[num (longF S.list s).1, num (((longF S.list s).2 : Nat) : Int)] ∧ A = A1) := by
 refine enterA (e := [(0, .pointer (some ⟨br, 0, none⟩)), (1, .func (.func g) #[] caps)]) (args := [.pointer (some ⟨br, 0, none⟩), .func (.func g) #[] caps]) Tryz.call78 Tryz.func78 rfl Tryz.results78 Tryz.ntmps78 rfl rfl rfl (fun wf => ?_)
 have le_ := AH.le.refl A
 obtain ⟨rwr, capr, lsv, nv, bl, hbr, hls, hnv, hN⟩ := hR
 have hzl : (bl.zip S.best).length = S.pf.length := by rw [List.length_zip, hN.1, hN.2.1, Nat.min_self]
 refine Run.seq fun K1 h2 => ?_
 refine Run.region ?_
 refine Ops.q rfl (qassign rfl) ?_
 refine Ops.q rfl (qassign rfl) ?_
 refine Ops.nil ?_
 refine h2 _ _ ?_
 refine Run.seq fun K3 h4 => ?_
 refine Run.region ?_
 refine Ops.q rfl (qassign rfl) ?_
 refine Ops.nil ?_
 refine h4 _ _ ?_
 refine Run.seq fun K5 h6 => ?_
 refine Run.region ?_
 refine Ops.q rfl (qassign rfl) ?_
 refine Ops.nil ?_
 refine h6 _ _ ?_
 refine Run.seq fun K7 h8 => ?_
 refine Run.region ?_
 refine Ops.q rfl (qassign rfl) ?_
 refine Ops.nil ?_
 refine h8 _ _ ?_
 refine Run.block ?_
 refine Run.loop (X := Int × Nat × Nat × Nat) (fun ⟨f, sh, nd, i⟩ => [(0, .pointer (some ⟨br, 0, none⟩)), (1, .func (.func g) #[] caps), (4, num (f)), (5, num ((sh : Nat) : Int)), (6, num ((nd : Nat) : Int)), (7, num ((i : Nat) : Int))]) (fun ⟨f, sh, nd, i⟩ B => (i ≤ s.length ∧ s.take i ∈ S.pf ∧ nd = S.pf.idxOf (s.take i) ∧ (f, sh) = longU S.list s i) ∧ A = B) (fun ⟨f, sh, nd, i⟩ => s.length - i) (⟨-1, 0, 0, 0⟩) (EnvLe.cons rfl <| EnvLe.cons rfl <| EnvLe.cons rfl <| EnvLe.cons rfl <| EnvLe.cons rfl <| EnvLe.cons rfl <| EnvLe.nil _) (⟨⟨Nat.zero_le _, (hS.mem _).2 (.inl rfl), (by have h := hS.root; cases hl : S.pf with | nil => (rw [hl] at h; exact absurd h.2 (Nat.lt_irrefl 0)) | cons a t => (rw [hl] at h; have h2 : a = [] := h.1; subst h2; simp)), rfl⟩, rfl⟩) ?_
 rintro ⟨f, sh, nd, i⟩ B10 ⟨⟨hi, hp, hq, hu⟩, rfl⟩
 have hnd : nd < S.pf.length := hq ▸ idxOf_lt hp
 refine Run.seq fun K11 h12 => ?_
 refine Run.block ?_
 refine Run.seq fun K13 h14 => ?_
 refine Run.region ?_
 refine Ops.q rfl (qmove rfl) ?_
 refine Ops.q rfl (qmove rfl) ?_
 refine Ops.l rfl (fun _ _ hk15 _ => vcall rfl rfl (hf i A (by omega) le_ wf) ?_)
 rintro v16 A17 ⟨rfl, rfl⟩
 refine hk15 _ _ ?_
 refine Ops.q rfl (qmove rfl) ?_
 refine Ops.q rfl (qextract rfl rfl) ?_
 refine Ops.q rfl (qextract rfl rfl) ?_
 refine Ops.q rfl (qassign rfl) ?_
 refine Ops.q rfl (qassign rfl) ?_
 refine Ops.nil ?_
 refine h14 _ _ ?_
 refine Run.seq fun K19 h20 => ?_
 refine Run.seq fun K21 h22 => ?_
 refine Run.region ?_
 refine Ops.q rfl (qmove rfl) ?_
 refine Ops.q rfl (qnotP rfl) ?_
 refine Ops.nil ?_
 refine h22 _ _ ?_
 refine Run.if rfl (fun p23 => ?_) (fun p23 => ?_)
 ·
  refine Run.seq fun K24 h25 => ?_
  refine Run.region ?_
  refine Ops.q rfl (qmove rfl) ?_
  refine Ops.q rfl (qmove rfl) ?_
  refine Ops.q rfl (qassign rfl) ?_
  refine Ops.q rfl (qassign rfl) ?_
  refine Ops.nil ?_
  refine h25 _ _ ?_
  refine Run.ret ?_
  repeat first | with_reducible refine thenQ_ret ?_ | with_reducible refine blockQ_ret ?_
  exact retQ rfl (⟨by first | (rw [longF, show s.length = i by omega, ← hu]; rfl) | (rw [← longU_stop hS (by omega) hmem, ← hu]; rfl), rfl⟩)
 ·
  refine Run.skip ?_
  refine h20 _ _ ?_
  refine Run.seq fun K26 h27 => ?_
  refine Run.seq fun K28 h29 => ?_
  refine Run.region ?_
  refine Ops.q rfl (qmove rfl) ?_
  refine Ops.q rfl (qnil rfl) ?_
  refine Ops.q rfl (qfieldAddr fl103_1 sz100 (by decide) rfl) ?_
  refine Ops.q rfl (qloadAt ag100 rfl rfl (le_.get _ _ hbr) rfl) ?_
  refine Ops.q rfl (qmove rfl) ?_
  obtain ⟨b30, f30, rw30, r30, rc30, n30, k30, e30, l30, g30, cl30, cs30⟩ := Slc.at (i := nd) (hnv.le le_) (by simp only [ncells_length]; omega) (by omega)
  refine Ops.q rfl (qindexS u100 sz99 rfl e30 rfl l30) ?_
  refine Ops.q rfl (qfieldAddr fl99_0 sz97 (by decide) rfl) ?_
  refine Ops.q rfl (qloadAt ag97 rfl rfl g30 ((cs30 0 (by decide)).trans (ncells_f0 (by omega)))) ?_
  refine Ops.q rfl (qmove rfl) ?_
  obtain ⟨rwm, es, clk, hgm, hE⟩ := hN.2.2 nd hnd
  refine Ops.l rfl (fun _ _ hk31 _ => wlookupB (q := s.take (i + 1)) rfl rfl u97 u5 z3 (by rw [RSok.blk_at ⟨hN.1, hN.2.1⟩ hnd]; exact le_.get _ _ hgm) hE (by rw [hq, getD_idxOf hp]; exact take_next (by omega)) (fun hmem => ?_) (fun hmem => ?_))
  ·
   refine hk31 _ _ ?_
   refine Ops.q rfl (qmove rfl) ?_
   refine Ops.q rfl (qextract rfl rfl) ?_
   refine Ops.q rfl (qextract rfl rfl) ?_
   refine Ops.q rfl (qassign rfl) ?_
   refine Ops.q rfl (qassign rfl) ?_
   refine Ops.nil ?_
   refine h29 _ _ ?_
   refine Run.seq fun K32 h33 => ?_
   refine Run.region ?_
   refine Ops.q rfl (qmove rfl) ?_
   refine Ops.q rfl (qnot rfl) ?_
   refine Ops.nil ?_
   refine h33 _ _ ?_
   refine Run.cond_false rfl ?_
   refine Run.skip ?_
   refine h27 _ _ ?_
   refine Run.seq fun K34 h35 => ?_
   refine Run.region ?_
   refine Ops.q rfl (qmove rfl) ?_
   refine Ops.q rfl (qnil rfl) ?_
   refine Ops.q rfl (qfieldAddr fl103_1 sz100 (by decide) rfl) ?_
   refine Ops.q rfl (qloadAt ag100 rfl rfl (le_.get _ _ hbr) rfl) ?_
   refine Ops.q rfl (qmove rfl) ?_
   obtain ⟨b36, f36, rw36, r36, rc36, n36, k36, e36, l36, g36, cl36, cs36⟩ := Slc.at (i := S.pf.idxOf (s.take (i + 1))) (hnv.le le_) (by simp only [ncells_length]; have := idxOf_lt hmem; omega) (by omega)
   refine Ops.q rfl (qindexS u100 sz99 rfl e36 rfl l36) ?_
   refine Ops.q rfl (qfieldAddr fl99_1 sz3 (by decide) rfl) ?_
   refine Ops.q rfl (qloadAt ag3 rfl rfl g36 (((cs36 1 (by decide)).trans (ncells_f1 (by have := idxOf_lt hmem; omega))).trans (congrArg (fun z => some (num z)) (hS.best_at ⟨hN.1, hN.2.1⟩ hmem)))) ?_
   refine Ops.q rfl (qassign rfl) ?_
   refine Ops.nil ?_
   refine h35 _ _ ?_
   refine Run.seq fun K37 h38 => ?_
   refine Run.region ?_
   refine Ops.q rfl (qmove rfl) ?_
   refine Ops.q rfl (qgeq rfl rfl) ?_
   refine Ops.nil ?_
   refine h38 _ _ ?_
   refine Run.if rfl (fun p39 => ?_) (fun p39 => ?_)
   ·
    refine Run.seq fun K40 h41 => ?_
    refine Run.seq fun K42 h43 => ?_
    refine Run.region ?_
    refine Ops.q rfl (qmove rfl) ?_
    refine Ops.q rfl (qlss rfl rfl) ?_
    refine Ops.nil ?_
    refine h43 _ _ ?_
    refine Run.if rfl (fun p44 => ?_) (fun p44 => ?_)
    ·
     refine Run.region ?_
     refine Ops.q rfl (qmove rfl) ?_
     refine Ops.q rfl (qmove rfl) ?_
     refine Ops.q rfl (qaddN (b := 1) rfl rfl (by omega)) ?_
     refine Ops.q rfl (qassign rfl) ?_
     refine Ops.q rfl (qassign rfl) ?_
     refine Ops.nil ?_
     refine h41 _ _ ?_
     refine Run.region ?_
     refine Ops.q rfl (qmove rfl) ?_
     refine Ops.q rfl (qmove rfl) ?_
     refine Ops.q rfl (qmin rfl rfl) ?_
     refine Ops.q rfl (qassign rfl) ?_
     refine Ops.nil ?_
     refine h12 _ _ ?_
     refine Run.region ?_
     refine Ops.q rfl (qmove rfl) ?_
     refine Ops.q rfl (qaddN (b := 1) rfl rfl (by omega)) ?_
     refine Ops.q rfl (qassign rfl) ?_
     refine Ops.nil ?_
     exact ⟨⟨(if (bestOf S.list (s.take (i + 1))) < (bestOf S.list (s.take (i + 1))) then (bestOf S.list (s.take (i + 1))) else (bestOf S.list (s.take (i + 1)))), i + 1, S.pf.idxOf (s.take (i + 1)), i + 1⟩, EnvLe.cons rfl <| EnvLe.cons rfl <| EnvLe.cons rfl <| EnvLe.cons rfl <| EnvLe.cons rfl <| EnvLe.cons rfl <| EnvLe.nil _, rfl, ⟨⟨by omega, hmem, rfl, by rw [longU, ← hu]; simp only [longStep]; first | (rw [if_pos ‹0 ≤ bestOf _ _›, if_pos ‹f < 0›, if_neg (Int.lt_irrefl _)]) | (rw [if_pos ‹0 ≤ bestOf _ _›, if_neg ‹¬ f < 0›]) | (rw [if_neg ‹_›])⟩, rfl⟩, (by (try dsimp only); omega)⟩
    ·
     refine Run.skip ?_
     refine h41 _ _ ?_
     refine Run.region ?_
     refine Ops.q rfl (qmove rfl) ?_
     refine Ops.q rfl (qmove rfl) ?_
     refine Ops.q rfl (qmin rfl rfl) ?_
     refine Ops.q rfl (qassign rfl) ?_
     refine Ops.nil ?_
     refine h12 _ _ ?_
     refine Run.region ?_
     refine Ops.q rfl (qmove rfl) ?_
     refine Ops.q rfl (qaddN (b := 1) rfl rfl (by omega)) ?_
     refine Ops.q rfl (qassign rfl) ?_
     refine Ops.nil ?_
     exact ⟨⟨(if (bestOf S.list (s.take (i + 1))) < (f) then (bestOf S.list (s.take (i + 1))) else (f)), sh, S.pf.idxOf (s.take (i + 1)), i + 1⟩, EnvLe.cons rfl <| EnvLe.cons rfl <| EnvLe.cons rfl <| EnvLe.cons rfl <| EnvLe.cons rfl <| EnvLe.cons rfl <| EnvLe.nil _, rfl, ⟨⟨by omega, hmem, rfl, by rw [longU, ← hu]; simp only [longStep]; first | (rw [if_pos ‹0 ≤ bestOf _ _›, if_pos ‹f < 0›, if_neg (Int.lt_irrefl _)]) | (rw [if_pos ‹0 ≤ bestOf _ _›, if_neg ‹¬ f < 0›]) | (rw [if_neg ‹_›])⟩, rfl⟩, (by (try dsimp only); omega)⟩
   ·
    refine Run.skip ?_
    refine h12 _ _ ?_
    refine Run.region ?_
    refine Ops.q rfl (qmove rfl) ?_
    refine Ops.q rfl (qaddN (b := 1) rfl rfl (by omega)) ?_
    refine Ops.q rfl (qassign rfl) ?_
    refine Ops.nil ?_
    exact ⟨⟨(f), sh, S.pf.idxOf (s.take (i + 1)), i + 1⟩, EnvLe.cons rfl <| EnvLe.cons rfl <| EnvLe.cons rfl <| EnvLe.cons rfl <| EnvLe.cons rfl <| EnvLe.cons rfl <| EnvLe.nil _, rfl, ⟨⟨by omega, hmem, rfl, by rw [longU, ← hu]; simp only [longStep]; first | (rw [if_pos ‹0 ≤ bestOf _ _›, if_pos ‹f < 0›, if_neg (Int.lt_irrefl _)]) | (rw [if_pos ‹0 ≤ bestOf _ _›, if_neg ‹¬ f < 0›]) | (rw [if_neg ‹_›])⟩, rfl⟩, (by (try dsimp only); omega)⟩
  ·
   refine hk31 _ _ ?_
   refine Ops.q rfl (qmove rfl) ?_
   refine Ops.q rfl (qextract rfl rfl) ?_
   refine Ops.q rfl (qextract rfl rfl) ?_
   refine Ops.q rfl (qassign rfl) ?_
   refine Ops.q rfl (qassign rfl) ?_
   refine Ops.nil ?_
   refine h29 _ _ ?_
   refine Run.seq fun K45 h46 => ?_
   refine Run.region ?_
   refine Ops.q rfl (qmove rfl) ?_
   refine Ops.q rfl (qnot rfl) ?_
   refine Ops.nil ?_
   refine h46 _ _ ?_
   refine Run.cond_true rfl ?_
   refine Run.seq fun K47 h48 => ?_
   refine Run.region ?_
   refine Ops.q rfl (qmove rfl) ?_
   refine Ops.q rfl (qmove rfl) ?_
   refine Ops.q rfl (qassign rfl) ?_
   refine Ops.q rfl (qassign rfl) ?_
   refine Ops.nil ?_
   refine h48 _ _ ?_
   refine Run.ret ?_
   repeat first | with_reducible refine thenQ_ret ?_ | with_reducible refine blockQ_ret ?_
   exact retQ rfl (⟨by first | (rw [longF, show s.length = i by omega, ← hu]; rfl) | (rw [← longU_stop hS (by omega) hmem, ← hu]; rfl), rfl⟩)

theorem s_at1 (i p : Nat) (l : List UInt8) (lv rv dv : Value) (b0 b1 b2 cap cap1 cap2 : Nat) (rw rw1 rw2 : Bool) (A : AH) (hi : p + i ≤ 1000000000) (gb1 : A.get b1 = some (.row rw1 [num ((p : Nat) : Int)] cap1)) (gb2 : A.get b2 = some (.row rw2 [.pointer (some ⟨b0, 0, none⟩)] cap2)) (gb0 : A.get b0 = some (.row rw [lv, rv, dv] cap)) (gl : Slc A 1 lv (byteCells l)) : RetA Tryz.prog 112 #[num ((i : Nat) : Int), .pointer (some ⟨b1, 0, none⟩), .pointer (some ⟨b2, 0, none⟩)] A (fun v A1 => v = .tuple #[byt ((l.drop p).getD i 0), .bool (decide (i < (l.drop p).length))] ∧ A = A1) := by
 refine enterA (e := [(0, num ((i : Nat) : Int)), (1, .pointer (some ⟨b1, 0, none⟩)), (2, .pointer (some ⟨b2, 0, none⟩))]) (args := [num ((i : Nat) : Int), .pointer (some ⟨b1, 0, none⟩), .pointer (some ⟨b2, 0, none⟩)]) Tryz.call112 Tryz.func112 rfl Tryz.results112 Tryz.ntmps112 rfl rfl rfl (fun wf => ?_)
 have le_ := AH.le.refl A
 refine Run.seq fun K1 h2 => ?_
 refine Run.region ?_
 refine Ops.q rfl (qassign rfl) ?_
 refine Ops.q rfl (qassign rfl) ?_
 refine Ops.nil ?_
 refine h2 _ _ ?_
 refine Run.seq fun K3 h4 => ?_
 refine Run.seq fun K5 h6 => ?_
 refine Run.drawn [0, 1, 2, 3, 4, 5, 6, 7, 8, 9] mixed (by kernel_rfl) (by kernel_rfl) rfl ?_
 have hc7 := cellOf (off := 0) (le_.get _ _ gb1) (show _ = some (num ((p : Nat) : Int)) from rfl)
 refine DOps.q rfl rfl rfl (qloadAt ag3 rfl rfl (le_.get _ _ gb1) rfl) ?_
 refine DOps.q rfl rfl rfl (qmove rfl) ?_
 refine DOps.q rfl rfl rfl (qaddN rfl rfl (by omega)) ?_
 have hc8 := cellOf (off := 0) (le_.get _ _ gb2) (show _ = some (.pointer (some ⟨b0, 0, none⟩)) from rfl)
 refine DOps.q rfl rfl rfl (qloadAt ag107 rfl rfl (le_.get _ _ gb2) rfl) ?_
 refine DOps.q rfl rfl rfl (qnil rfl) ?_
 refine DOps.q rfl rfl rfl (qfieldAddr fl111_0 sz109 (by decide) rfl) ?_
 refine DOps.q rfl rfl rfl (qfieldAddr fl109_0 sz80 (by decide) rfl) ?_
 have hc9 := cellOf (off := 0) (le_.get _ _ gb0) (show _ = some (lv) from rfl)
 refine DOps.q rfl rfl rfl (qloadAt ag80 rfl rfl (le_.get _ _ gb0) rfl) ?_
 refine DOps.q rfl rfl rfl (qlenS (n := l.length) u80 rfl (gl.le le_) (by omega) (bytes_len _)) ?_
 refine DOps.q rfl rfl rfl (qgeqN rfl rfl) ?_
 refine DOps.done ?_
 refine h6 _ _ ?_
 refine Run.if rfl (fun p10 => ?_) (fun p10 => ?_)
 ·
  refine Run.seq fun K11 h12 => ?_
  refine Run.region ?_
  refine Ops.q rfl (qassign rfl) ?_
  refine Ops.q rfl (qassign rfl) ?_
  refine Ops.nil ?_
  refine h12 _ _ ?_
  refine Run.ret ?_
  repeat first | with_reducible refine thenQ_ret ?_ | with_reducible refine blockQ_ret ?_
  exact retQ rfl (⟨by first | (rw [(at_none (l := l) (p := p) (i := i) (by omega)).1, (at_none (l := l) (p := p) (i := i) (by omega)).2]; rfl) | (rw [(at_some (l := l) (p := p) (i := i) (by omega)).1, (at_some (l := l) (p := p) (i := i) (by omega)).2]; rfl), rfl⟩)
 ·
  refine Run.skip ?_
  refine h4 _ _ ?_
  refine Run.seq fun K13 h14 => ?_
  refine Run.drawn [0, 1, 2, 3, 4, 5, 6, 7, 8, 9, 10, 11] mixed (by kernel_rfl) (by kernel_rfl) rfl ?_
  have hc15 := cellOf (off := 0) (le_.get _ _ gb2) (show _ = some (.pointer (some ⟨b0, 0, none⟩)) from rfl)
  refine DOps.q rfl rfl rfl (qloadAt ag107 rfl rfl (le_.get _ _ gb2) rfl) ?_
  refine DOps.q rfl rfl rfl (qnil rfl) ?_
  refine DOps.q rfl rfl rfl (qfieldAddr fl111_0 sz109 (by decide) rfl) ?_
  refine DOps.q rfl rfl rfl (qfieldAddr fl109_0 sz80 (by decide) rfl) ?_
  have hc16 := cellOf (off := 0) (le_.get _ _ gb0) (show _ = some (lv) from rfl)
  refine DOps.q rfl rfl rfl (qloadAt ag80 rfl rfl (le_.get _ _ gb0) rfl) ?_
  have hc17 := cellOf (off := 0) (le_.get _ _ gb1) (show _ = some (num ((p : Nat) : Int)) from rfl)
  refine DOps.q rfl rfl rfl (qloadAt ag3 rfl rfl (le_.get _ _ gb1) rfl) ?_
  refine DOps.q rfl rfl rfl (qmove rfl) ?_
  refine DOps.q rfl rfl rfl (qaddN rfl rfl (by omega)) ?_
  obtain ⟨b18, f18, rw18, r18, rc18, n18, k18, e18, l18, g18, cl18, cs18⟩ := Slc.at (i := p + i) (gl.le le_) (by simp only [bytes_length]; omega) (by omega)
  refine DOps.q rfl rfl rfl (qindexS u80 sz5 rfl e18 rfl l18) ?_
  have hc19 := cellOf (off := f18 + (p + i) * 1) g18 ((elt0 cs18).trans (bytes_get (by omega)))
  refine DOps.q rfl rfl rfl (qloadAt ag5 rfl rfl g18 ((elt0 cs18).trans (bytes_get (by omega)))) ?_
  refine DOps.q rfl rfl rfl (qassign rfl) ?_
  refine DOps.q rfl rfl rfl (qassign rfl) ?_
  refine DOps.done ?_
  refine h14 _ _ ?_
  refine Run.ret ?_
  repeat first | with_reducible refine thenQ_ret ?_ | with_reducible refine blockQ_ret ?_
  exact retQ rfl (⟨by first | (rw [(at_none (l := l) (p := p) (i := i) (by omega)).1, (at_none (l := l) (p := p) (i := i) (by omega)).2]; rfl) | (rw [(at_some (l := l) (p := p) (i := i) (by omega)).1, (at_some (l := l) (p := p) (i := i) (by omega)).2]; rfl), rfl⟩)

theorem s_push (w l : List UInt8) (lv rv dv : Value) (b0 : Nat) (A0 A : AH) (le_ : A0.le A) (wf0 : A0.wf) (hb : A.get b0 = some (.row true [lv, rv, dv] 3)) (no0 : A0.get b0 = none) (fr : Fresh A0 A lv 1 (byteCells l)) (ne0 : blk lv ≠ some b0) (hw : w.length ≤ 1000000) (hl : l.length ≤ 1000000000) : RetA Tryz.prog 61 #[.pointer (some ⟨b0, 0, none⟩), str (w)] A (fun v A1 => ∃ lv2, v = .tuple #[] ∧ A0.le A1 ∧ A1.wf ∧ A1.get b0 = some (.row true [lv2, rv, dv] 3) ∧ Fresh A0 A1 lv2 1 (byteCells (w.foldl push l)) ∧ blk lv2 ≠ some b0) := by
 refine enterA (e := [(0, .pointer (some ⟨b0, 0, none⟩)), (1, str (w))]) (args := [.pointer (some ⟨b0, 0, none⟩), str (w)]) Tryz.call61 Tryz.func61 rfl Tryz.results61 Tryz.ntmps61 rfl rfl rfl (fun wf => ?_)
 refine Run.seq fun K1 h2 => ?_
 refine Run.region ?_
 refine Ops.q rfl (qmove rfl) ?_
 refine Ops.q rfl (qslen u9 rfl) ?_
 refine Ops.q rfl (qmove rfl) ?_
 refine Ops.nil ?_
 refine h2 _ _ ?_
 refine Run.block ?_
 refine Run.loop (X := Nat × List UInt8 × Value) (fun ⟨k, x, s⟩ => [(0, .pointer (some ⟨b0, 0, none⟩)), (1, str (w)), (7, num ((w.length : Nat) : Int)), (8, num ((k : Nat) : Int))]) (fun ⟨k, x, s⟩ B => (k ≤ w.length ∧ (w.drop k).foldl push x = w.foldl push l ∧ x.length ≤ l.length + k) ∧ A0.le B ∧ Fresh A0 B s 1 (byteCells x) ∧ B.get b0 = some (.row true [s, rv, dv] 3) ∧ V.blk s ≠ some b0) (fun ⟨k, x, s⟩ => w.length - k) (⟨0, l, lv⟩) (EnvLe.cons rfl <| EnvLe.cons rfl <| EnvLe.cons rfl <| EnvLe.cons rfl <| EnvLe.nil _) (⟨⟨Nat.zero_le _, rfl, Nat.le_refl _⟩, le_, fr, hb, ne0⟩) ?_
 rintro ⟨k, x, s⟩ B4 ⟨⟨hk, ha3, ha4⟩, le3, fr_s3, hr_b03, no_s_b03⟩
 refine Run.wf fun wf5 => ?_
 refine Run.seq fun K6 h7 => ?_
 refine Run.region ?_
 refine Ops.q rfl (qlssN rfl rfl) ?_
 refine Ops.nil ?_
 refine h7 _ _ ?_
 refine Run.seq fun K8 h9 => ?_
 refine Run.if rfl (fun p10 => ?_) (fun p10 => ?_)
 ·
  refine Run.skip ?_
  refine h9 _ _ ?_
  refine Run.seq fun K11 h12 => ?_
  refine Run.block ?_
  refine Run.seq fun K13 h14 => ?_
  refine Run.region ?_
  refine Ops.q rfl (qmove rfl) ?_
  refine Ops.q rfl (qassign rfl) ?_
  refine Ops.nil ?_
  refine h14 _ _ ?_
  refine Run.seq fun K15 h16 => ?_
  refine Run.region ?_
  refine Ops.q rfl (qmove rfl) ?_
  refine Ops.q rfl (qnil rfl) ?_
  refine Ops.q rfl (qfieldAddr fl109_0 sz80 (by decide) rfl) ?_
  refine Ops.q rfl (qloadAt ag80 rfl rfl hr_b03 rfl) ?_
  refine Ops.q rfl (qlenS (n := x.length) u80 rfl fr_s3.slc (by omega) (bytes_len _)) ?_
  refine Ops.q rfl (qassign rfl) ?_
  refine Ops.nil ?_
  refine h16 _ _ ?_
  refine Run.join (fun f A1 => EnvLe [(32, .bool (decide (0 < x.length ∧ x.getD (x.length - 1) 0 = w.getD k 0 ^^^ 32))), (0, .pointer (some ⟨b0, 0, none⟩)), (1, str (w)), (7, num ((w.length : Nat) : Int)), (8, num ((k : Nat) : Int)), (9, .bool (decide (k < w.length))), (10, num ((k : Nat) : Int)), (4, num ((k : Nat) : Int)), (11, .pointer (some ⟨b0, 0, none⟩)), (12, .pointer (some ⟨b0, 0, none⟩)), (13, .pointer (some ⟨b0, 0, none⟩)), (14, s), (15, num ((x.length : Nat) : Int)), (5, num ((x.length : Nat) : Int))] f.e ∧ f.ds = [] ∧ B4 = A1) ?_ ?_
  ·
   refine Run.drawn [0, 1, 2, 3, 4, 5, 6, 7, 8, 9, 10, 11, 12, 13, 14, 15, 16] mixed (by kernel_rfl) (by kernel_rfl) rfl ?_
   refine DOps.q rfl rfl rfl (qmove rfl) ?_
   refine DOps.q rfl rfl rfl (qgtrN (b := 0) rfl rfl) ?_
   refine DOps.q rfl rfl rfl (qmove rfl) ?_
   refine DOps.part (t := 18) rfl (fun p19 => ?_) (fun p19 => ?_)
   ·
    refine DOps.qOn rfl rfl rfl rfl rfl (qmove rfl) ?_
    refine DOps.qOn rfl rfl rfl rfl rfl (qnil rfl) ?_
    refine DOps.qOn rfl rfl rfl rfl rfl (qfieldAddr fl109_0 sz80 (by decide) rfl) ?_
    have hc20 := cellOf (off := 0) hr_b03 (show _ = some (s) from rfl)
    refine DOps.qOn rfl rfl rfl rfl rfl (qloadAt ag80 rfl rfl hr_b03 rfl) ?_
    refine DOps.qOn rfl rfl rfl rfl rfl (qmove rfl) ?_
    refine DOps.qOn rfl rfl rfl rfl rfl (qsubN (b := 1) rfl rfl (by omega)) ?_
    obtain ⟨b21, f21, rw21, r21, rc21, n21, k21, e21, l21, g21, cl21, cs21⟩ := Slc.at (i := x.length - 1) fr_s3.slc (by simp only [bytes_length]; omega) (by omega)
    refine DOps.qOn rfl rfl rfl rfl rfl (qindexS u80 sz5 rfl e21 rfl l21) ?_
    have hc22 := cellOf (off := f21 + (x.length - 1) * 1) g21 ((elt0 cs21).trans (bytes_get (by omega)))
    refine DOps.qOn rfl rfl rfl rfl rfl (qloadAt ag5 rfl rfl g21 ((elt0 cs21).trans (bytes_get (by omega)))) ?_
    refine DOps.qOn rfl rfl rfl rfl rfl (qmove rfl) ?_
    refine DOps.qOn rfl rfl rfl rfl rfl (qmove rfl) ?_
    refine DOps.qOn rfl rfl rfl rfl rfl (qsix u9 rfl rfl (by omega)) ?_
    refine DOps.qOn rfl rfl rfl rfl rfl (qxorB (d := 32) rfl rfl) ?_
    refine DOps.qOn rfl rfl rfl rfl rfl (qeqlB rfl rfl) ?_
    refine DOps.q rfl rfl rfl (qpickT rfl rfl) ?_
    refine DOps.done ?_
    exact ⟨EnvLe.cons (show some _ = some _ from congrArg (fun b => some (Value.bool b)) (show (decide ((x.getD (x.length - 1) 0) = ((w.getD k 0) ^^^ 32))) = decide (0 < x.length ∧ x.getD (x.length - 1) 0 = w.getD k 0 ^^^ 32) from (by first | rfl | simp only [‹0 < _›, true_and] | simp only [‹¬ 0 < _›, false_and, decide_false]))) <| EnvLe.cons rfl <| EnvLe.cons rfl <| EnvLe.cons rfl <| EnvLe.cons rfl <| EnvLe.cons rfl <| EnvLe.cons rfl <| EnvLe.cons rfl <| EnvLe.cons rfl <| EnvLe.cons rfl <| EnvLe.cons rfl <| EnvLe.cons rfl <| EnvLe.cons rfl <| EnvLe.cons rfl <| EnvLe.nil _, rfl, rfl⟩
   ·
    refine DOps.qOff rfl rfl rfl rfl rfl rfl ?_
    refine DOps.qOff rfl rfl rfl rfl rfl rfl ?_
    refine DOps.qOff rfl rfl rfl rfl rfl rfl ?_
    refine DOps.qOff rfl rfl rfl rfl rfl rfl ?_
    refine DOps.qOff rfl rfl rfl rfl rfl rfl ?_
    refine DOps.qOff rfl rfl rfl rfl rfl rfl ?_
    refine DOps.qOff rfl rfl rfl rfl rfl rfl ?_
    refine DOps.qOff rfl rfl rfl rfl rfl rfl ?_
    refine DOps.qOff rfl rfl rfl rfl rfl rfl ?_
    refine DOps.qOff rfl rfl rfl rfl rfl rfl ?_
    refine DOps.qOff rfl rfl rfl rfl rfl rfl ?_
    refine DOps.qOff rfl rfl rfl rfl rfl rfl ?_
    refine DOps.qOff rfl rfl rfl rfl rfl rfl ?_
    refine DOps.q rfl rfl rfl (qpickF rfl rfl) ?_
    refine DOps.done ?_
    exact ⟨EnvLe.cons (show some _ = some _ from congrArg (fun b => some (Value.bool b)) (show (false) = decide (0 < x.length ∧ x.getD (x.length - 1) 0 = w.getD k 0 ^^^ 32) from (by first | rfl | simp only [‹0 < _›, true_and] | simp only [‹¬ 0 < _›, false_and, decide_false]))) <| EnvLe.cons rfl <| EnvLe.cons rfl <| EnvLe.cons rfl <| EnvLe.cons rfl <| EnvLe.cons rfl <| EnvLe.cons rfl <| EnvLe.cons rfl <| EnvLe.cons rfl <| EnvLe.cons rfl <| EnvLe.cons rfl <| EnvLe.cons rfl <| EnvLe.cons rfl <| EnvLe.cons rfl <| EnvLe.nil _, rfl, rfl⟩
  ·
   rintro ⟨fe, fd⟩ _ ⟨hE, rfl, rfl⟩
   refine Run.forget hE ?_
   refine Run.if rfl (fun p23 => ?_) (fun p23 => ?_)
   ·
    refine Run.region ?_
    refine Ops.q rfl (qmove rfl) ?_
    refine Ops.q rfl (qmove rfl) ?_
    refine Ops.q rfl (qnil rfl) ?_
    refine Ops.q rfl (qfieldAddr fl109_0 sz80 (by decide) rfl) ?_
    refine Ops.q rfl (qloadAt ag80 rfl rfl hr_b03 rfl) ?_
    refine Ops.q rfl (qmove rfl) ?_
    refine Ops.q rfl (qsubN (b := 1) rfl rfl (by omega)) ?_
    obtain ⟨b24, n24, c24, q24, m24, d24⟩ := fr_s3.nonnil (by intro q; have := congrArg List.length q; simp only [bytes_length, List.length_nil] at this; omega)
    subst q24
    rw [bytes_length, Nat.mul_one] at m24
    have fr25 := fr_s3.take (k := x.length - 1) (by omega)
    rw [Nat.mul_one, bytes_take] at fr25
    refine Ops.q rfl (qsliceHi u80 sz5 rfl rfl (by omega)) ?_
    refine Ops.q rfl (qnil rfl) ?_
    refine Ops.q rfl (qfieldAddr fl109_0 sz80 (by decide) rfl) ?_
    refine Ops.l rfl (fun _ _ hk26 _ => wstore (cs := [.slice (some ⟨b24, 0, none⟩) (x.length - 1) c24]) (c' := [.slice (some ⟨b24, 0, none⟩) (x.length - 1) c24, rv, dv]) wf5 rfl rfl rfl rfl sz80 hr_b03 (Nat.le_of_ble_eq_true rfl) rfl rfl fun A27 sb28 => ?_)
    have fr29 := fr_s3.keep sb28.keep no_s_b03
    have fr30 := fr25.keep sb28.keep no_s_b03
    have le31 := le_store le3 wf0 no0 sb28.n sb28.keep
    refine hk26 _ _ ?_
    refine Ops.nil ?_
    refine h12 _ _ ?_
    refine Run.region ?_
    refine Ops.q rfl (qaddN (b := 1) rfl rfl (by omega)) ?_
    refine Ops.q rfl (qmove rfl) ?_
    refine Ops.nil ?_
    exact ⟨⟨k + 1, x.take (x.length - 1), .slice (some ⟨b24, 0, none⟩) (x.length - 1) c24⟩, EnvLe.cons rfl <| EnvLe.cons rfl <| EnvLe.cons rfl <| EnvLe.cons rfl <| EnvLe.nil _, rfl, ⟨⟨by omega, by first | exact push_go (by assumption) ha3 ‹_› | exact push_no (by assumption) ha3 ‹_›, by simp only [List.length_append, List.length_take, List.length_cons, List.length_nil]; omega⟩, le31, fr30, sb28.get, no_s_b03⟩, (by (try dsimp only); omega)⟩
   ·
    refine Run.drawn [0, 1, 2, 3, 4, 5, 6, 7, 8, 9, 10, 11, 12] mixed (by kernel_rfl) (by kernel_rfl) rfl ?_
    refine DOps.q rfl rfl rfl (qmove rfl) ?_
    refine DOps.q rfl rfl rfl (qmove rfl) ?_
    refine DOps.q rfl rfl rfl (qnil rfl) ?_
    refine DOps.q rfl rfl rfl (qfieldAddr fl109_0 sz80 (by decide) rfl) ?_
    have hc32 := cellOf (off := 0) hr_b03 (show _ = some (s) from rfl)
    refine DOps.q rfl rfl rfl (qloadAt ag80 rfl rfl hr_b03 rfl) ?_
    refine DOps.q rfl rfl rfl (qmove rfl) ?_
    refine DOps.q rfl rfl rfl (qmove rfl) ?_
    refine DOps.q rfl rfl rfl (qsix u9 rfl rfl (by omega)) ?_
    refine DOps.l rfl rfl rfl (fun _ _ hk33 _ => wbuildSlice (c := [byt (w.getD k 0)]) wf5 rfl (buildSliceV_of u80 sz5 z5 rfl (by decide) (by decide) rfl) fun A35 b34 nb36 => ?_)
    have ne_b0_b34 := ne_new wf5 hr_b03 nb36.lo
    have no37 := fr_s3.own.ne_new wf5 nb36.lo
    have ge_b34 := none_of wf0 (Nat.le_trans le3.n nb36.lo)
    have h38 := nb36.le.get _ _ hr_b03
    have fr39 := fr_s3.le nb36.le
    have hc40 := cell_le nb36.le hc32
    have le41 := le3.trans nb36.le
    refine hk33 _ _ (HeldNow.list (L := [(⟨b0, 0, none⟩, s)]) (by kernel_rfl) (heldCons hc40 heldNil)) ?_
    refine DOps.l rfl rfl rfl (fun _ _ hk42 _ => wappend (ys := [byt (w.getD k 0)]) rfl rfl u80 sz5 inf5 z5 rfl (by decide) u80 (fun _ h => by cases h) fr39.own (listOf_row (n := 1) nb36.get rfl) rfl rfl (by show (_ + _) * 1 ≤ _; simp only [bytes_length, List.length_cons, List.length_nil]; (try simp only [List.length_append, List.length_cons, List.length_nil]); omega) (by simp only [bytes_length, List.length_cons, List.length_nil]; (try simp only [List.length_append, List.length_cons, List.length_nil]); omega) fun A43 v44 ap45 => ?_)
    rw [show ([byt (w.getD k 0)] : List Value) = byteCells [w.getD k 0] from rfl, bytes_append] at ap45
    obtain ⟨fr48, le49⟩ := Fresh.grow fr39 le41 wf0 ap45
    have h50 := ap45.keep no_s_b03 h38
    have ne51 := ap45.ne no_s_b03 nb36.wf h38
    have hc52 := ap45.cell no_s_b03 hc40
    refine hk42 _ _ (HeldNow.none (by kernel_rfl)) ?_
    refine DOps.q rfl rfl rfl (qnil rfl) ?_
    refine DOps.q rfl rfl rfl (qfieldAddr fl109_0 sz80 (by decide) rfl) ?_
    obtain ⟨p54, l54, c54, q54, _⟩ := fr48.own.slice
    subst q54
    refine DOps.l rfl rfl rfl (fun _ _ hk53 _ => wstore (cs := [.slice p54 l54 c54]) (c' := [.slice p54 l54 c54, rv, dv]) ap45.wf rfl rfl rfl rfl sz80 h50 (Nat.le_of_ble_eq_true rfl) rfl rfl fun A55 sb56 => ?_)
    have fr57 := fr48.keep sb56.keep ne51
    have le58 := le_store le49 wf0 no0 sb56.n sb56.keep
    refine hk53 _ _ (HeldNow.none (by kernel_rfl)) ?_
    refine DOps.done ?_
    refine h12 _ _ ?_
    refine Run.region ?_
    refine Ops.q rfl (qaddN (b := 1) rfl rfl (by omega)) ?_
    refine Ops.q rfl (qmove rfl) ?_
    refine Ops.nil ?_
    exact ⟨⟨k + 1, x ++ [w.getD k 0], .slice p54 l54 c54⟩, EnvLe.cons rfl <| EnvLe.cons rfl <| EnvLe.cons rfl <| EnvLe.cons rfl <| EnvLe.nil _, rfl, ⟨⟨by omega, by first | exact push_go (by assumption) ha3 ‹_› | exact push_no (by assumption) ha3 ‹_›, by simp only [List.length_append, List.length_take, List.length_cons, List.length_nil]; omega⟩, le58, fr57, sb56.get, ne51⟩, (by (try dsimp only); omega)⟩
 ·
  refine Run.exit ?_
  repeat first | with_reducible refine thenQ_ret ?_ | with_reducible refine blockQ_ret ?_
  repeat first | with_reducible refine thenQ_exit ?_ | with_reducible refine blockQ_same ?_ | with_reducible refine blockQ_other (by decide) ?_ | with_reducible refine noGotoQ_exit ?_ | with_reducible refine noGotoQ_normal ?_
  exact retQn (vs := []) rfl (⟨_, rfl, le3, wf5, hr_b03, fresh_eq fr_s3 (congrArg byteCells (by rw [drop_end (by omega)] at ha3; exact ha3)), no_s_b03⟩)

theorem s_at (b0 p : Nat) (A : AH) : RetA Tryz.prog 95 #[.pointer (some ⟨b0, 0, none⟩), num ((p : Nat) : Int)] A (fun v A1 => ∃ b2 b1, v = .func (.func 112) #[] #[.pointer (some ⟨b1, 0, none⟩), .pointer (some ⟨b2, 0, none⟩)] ∧ A.le A1 ∧ A1.wf ∧ A1.get b1 = some (.row true [num ((p : Nat) : Int)] 1) ∧ A1.get b2 = some (.row true [.pointer (some ⟨b0, 0, none⟩)] 1)) := by
 refine enterA (e := [(0, .pointer (some ⟨b0, 0, none⟩)), (1, num ((p : Nat) : Int))]) (args := [.pointer (some ⟨b0, 0, none⟩), num ((p : Nat) : Int)]) Tryz.call95 Tryz.func95 rfl Tryz.results95 Tryz.ntmps95 rfl rfl rfl (fun wf => ?_)
 have le_ := AH.le.refl A
 refine Run.seq fun K1 h2 => ?_
 refine Run.region ?_
 refine Ops.l rfl (fun _ _ hk3 _ => wbox wf rfl rfl fun A5 b4 nb6 => ?_)
 have ge_b4 := none_of wf (Nat.le_trans le_.n nb6.lo)
 have le7 := le_.trans nb6.le
 refine hk3 _ _ ?_
 refine Ops.l rfl (fun _ _ hk8 _ => wbox nb6.wf rfl rfl fun A10 b9 nb11 => ?_)
 have ne_b4_b9 := ne_new nb6.wf nb6.get nb11.lo
 have ge_b9 := none_of wf (Nat.le_trans le7.n nb11.lo)
 have h12 := nb11.le.get _ _ nb6.get
 have le13 := le7.trans nb11.le
 refine hk8 _ _ ?_
 refine Ops.q rfl (qassign rfl) ?_
 refine Ops.nil ?_
 refine h2 _ _ ?_
 refine Run.seq fun K14 h15 => ?_
 refine Run.region ?_
 refine Ops.q rfl (qfunc rfl rfl) ?_
 refine Ops.q rfl (qassign rfl) ?_
 refine Ops.nil ?_
 refine h15 _ _ ?_
 refine Run.ret ?_
 repeat first | with_reducible refine thenQ_ret ?_ | with_reducible refine blockQ_ret ?_
 exact retQ rfl (⟨_, _, rfl, le13, nb11.wf, nb11.get, h12⟩)
end Go.Proofs.YtaccklloepfemaaGreatDoor
