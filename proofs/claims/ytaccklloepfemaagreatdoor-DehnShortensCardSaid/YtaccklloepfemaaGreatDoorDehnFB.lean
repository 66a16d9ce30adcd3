/- The contracts of the functions, one by one: what each comes to. -/
import Derived.Test.YtaccklloepfemaaGreatDoorDehnFA
namespace Go.Proofs.YtaccklloepfemaaGreatDoor
open Go Go.RowKit V
set_option maxRecDepth 100000
set_option linter.unusedVariables false
set_option linter.unusedSimpArgs false
theorem ag22 : aggOf Tryz.prog 22 = some false := by kernel_rfl
theorem fl24_0 : fldOf Tryz.prog 24 0 = some (3, 0) := by kernel_rfl
theorem fl24_1 : fldOf Tryz.prog 24 1 = some (22, 1) := by kernel_rfl
theorem sz22 : szOf Tryz.prog 22 = some 1 := by kernel_rfl
theorem sz3 : szOf Tryz.prog 3 = some 1 := by kernel_rfl

theorem s_IndexFuncL (g : Nat) (caps : Array Value) (q : List UInt8 → Bool) (u : Value) (l : List (List UInt8)) (A : AH) (hn : l.length ≤ 9223372036854775807) (hu : Slc A 1 u (strs l)) (hf : ∀ s, s ∈ l → ∀ B, A.le B → B.wf → RetA Tryz.prog g (#[] ++ #[str s] ++ caps) B (fun v B1 => v = .bool (q s) ∧ B.le B1 ∧ B1.wf)) : RetA Tryz.prog 51 #[u, .func (.func g) #[] caps] A (fun v A1 => v = num (ifl q l) ∧ A.le A1 ∧ A1.wf) := by
 refine enterA (e := [(0, u), (1, .func (.func g) #[] caps)]) (args := [u, .func (.func g) #[] caps]) Tryz.call51 Tryz.func51 rfl Tryz.results51 Tryz.ntmps51 rfl rfl rfl (fun wf => ?_)
 have le_ := AH.le.refl A
 refine Run.seq fun K1 h2 => ?_
 refine Run.region ?_
 refine Ops.q rfl (qassign rfl) ?_
 refine Ops.nil ?_
 refine h2 _ _ ?_
 refine Run.seq fun K3 h4 => ?_
 refine Run.seq fun K5 h6 => ?_
 refine Run.region ?_
 refine Ops.q rfl (qmove rfl) ?_
 refine Ops.q rfl (qlenS (n := l.length) u22 rfl (hu.le le_) (by omega) (strs_len _)) ?_
 refine Ops.q rfl (qmove rfl) ?_
 refine Ops.nil ?_
 refine h6 _ _ ?_
 refine Run.block ?_
 refine Run.loop (X := Nat) (fun k => [(0, u), (1, .func (.func g) #[] caps), (7, num ((l.length : Nat) : Int)), (8, num ((k : Nat) : Int))]) (fun k B => (k ≤ l.length ∧ ∀ j, j < k → q (l.getD j []) = false) ∧ A.le B) (fun k => l.length - k) 0 (EnvLe.cons rfl <| EnvLe.cons rfl <| EnvLe.cons rfl <| EnvLe.cons rfl <| EnvLe.nil _) (⟨⟨by omega, fun j h => by omega⟩, le_⟩) ?_
 rintro k B8 ⟨⟨hk, hq⟩, le7⟩
 refine Run.wf fun wf9 => ?_
 refine Run.seq fun K10 h11 => ?_
 refine Run.region ?_
 refine Ops.q rfl (qlssN rfl rfl) ?_
 refine Ops.nil ?_
 refine h11 _ _ ?_
 refine Run.seq fun K12 h13 => ?_
 refine Run.if rfl (fun p14 => ?_) (fun p14 => ?_)
 ·
  refine Run.skip ?_
  refine h13 _ _ ?_
  refine Run.seq fun K15 h16 => ?_
  refine Run.block ?_
  refine Run.seq fun K17 h18 => ?_
  refine Run.region ?_
  refine Ops.q rfl (qmove rfl) ?_
  refine Ops.q rfl (qassign rfl) ?_
  refine Ops.nil ?_
  refine h18 _ _ ?_
  refine Run.seq fun K19 h20 => ?_
  refine Run.region ?_
  refine Ops.q rfl (qmove rfl) ?_
  refine Ops.q rfl (qmove rfl) ?_
  refine Ops.q rfl (qmove rfl) ?_
  obtain ⟨b21, f21, rw21, r21, rc21, n21, k21, e21, l21, g21, cl21, cs21⟩ := Slc.at (i := k) (hu.le le7) (by simp only [strs_length]; omega) (by omega)
  refine Ops.q rfl (qindexS u22 sz9 rfl e21 rfl l21) ?_
  refine Ops.q rfl (qloadAt ag9 rfl rfl g21 ((elt0 cs21).trans (strs_get (by omega)))) ?_
  refine Ops.l rfl (fun _ _ hk22 _ => vcall rfl rfl (hf _ (getD_mem (by omega)) B8 le7 wf9) ?_)
  rintro v23 A24 ⟨rfl, leq25, wfq25⟩
  have le26 := le7.trans leq25
  refine hk22 _ _ ?_
  refine Ops.nil ?_
  refine h20 _ _ ?_
  refine Run.ifB rfl (fun p27 => ?_) (fun p27 => ?_)
  ·
   refine Run.seq fun K28 h29 => ?_
   refine Run.region ?_
   refine Ops.q rfl (qmove rfl) ?_
   refine Ops.q rfl (qassign rfl) ?_
   refine Ops.nil ?_
   refine h29 _ _ ?_
   refine Run.ret ?_
   repeat first | with_reducible refine thenQ_ret ?_ | with_reducible refine blockQ_ret ?_
   exact retQ rfl (⟨by rw [ifl_found (d := []) (by assumption) hq ‹_›]; rfl, le26, wfq25⟩)
  ·
   refine Run.skip ?_
   refine h16 _ _ ?_
   refine Run.region ?_
   refine Ops.q rfl (qaddN (b := 1) rfl rfl (by omega)) ?_
   refine Ops.q rfl (qmove rfl) ?_
   refine Ops.nil ?_
   exact ⟨k + 1, EnvLe.cons rfl <| EnvLe.cons rfl <| EnvLe.cons rfl <| EnvLe.cons rfl <| EnvLe.nil _, rfl, ⟨⟨by omega, fun j h => (Nat.lt_succ_iff_lt_or_eq.1 h).elim (hq j) (fun z => by subst z; assumption)⟩, le26⟩, (by (try dsimp only); omega)⟩
 ·
  refine Run.exit ?_
  refine h4 _ _ ?_
  refine Run.seq fun K30 h31 => ?_
  refine Run.region ?_
  refine Ops.q rfl (qassign rfl) ?_
  refine Ops.nil ?_
  refine h31 _ _ ?_
  refine Run.ret ?_
  repeat first | with_reducible refine thenQ_ret ?_ | with_reducible refine blockQ_ret ?_
  exact retQ rfl (⟨by rw [ifl_none (d := []) (fun j h => hq j (by omega))]; rfl, le7, wf9⟩)

theorem s_ContainsFuncL (g : Nat) (caps : Array Value) (q : List UInt8 → Bool) (u : Value) (l : List (List UInt8)) (A : AH) (hn : l.length ≤ 9223372036854775807) (hu : Slc A 1 u (strs l)) (hf : ∀ s, s ∈ l → ∀ B, A.le B → B.wf → RetA Tryz.prog g (#[] ++ #[str s] ++ caps) B (fun v B1 => v = .bool (q s) ∧ B.le B1 ∧ B1.wf)) : RetA Tryz.prog 24 #[u, .func (.func g) #[] caps] A (fun v A1 => v = .bool (decide (0 ≤ ifl q l)) ∧ A.le A1 ∧ A1.wf) := by
 refine enterA (e := [(0, u), (1, .func (.func g) #[] caps)]) (args := [u, .func (.func g) #[] caps]) Tryz.call24 Tryz.func24 rfl Tryz.results24 Tryz.ntmps24 rfl rfl rfl (fun wf => ?_)
 have le_ := AH.le.refl A
 refine Run.seq fun K1 h2 => ?_
 refine Run.region ?_
 refine Ops.q rfl (qassign rfl) ?_
 refine Ops.nil ?_
 refine h2 _ _ ?_
 refine Run.seq fun K3 h4 => ?_
 refine Run.region ?_
 refine Ops.q rfl (qmove rfl) ?_
 refine Ops.q rfl (qmove rfl) ?_
 refine Ops.l rfl (fun _ _ hk5 _ => vcallF rfl (s_IndexFuncL g caps q u l A hn (hu.le le_) (fun s hs B le wf => hf s hs B (le_.trans le) wf)) ?_)
 rintro v6 A7 ⟨rfl, leq8, wfq8⟩
 have le9 := le_.trans leq8
 refine hk5 _ _ ?_
 refine Ops.q rfl (qgeq rfl rfl) ?_
 refine Ops.q rfl (qassign rfl) ?_
 refine Ops.nil ?_
 refine h4 _ _ ?_
 refine Run.ret ?_
 repeat first | with_reducible refine thenQ_ret ?_ | with_reducible refine blockQ_ret ?_
 exact retQ rfl (⟨rfl, le9, wfq8⟩)

theorem s_pcheck1 (s : List UInt8) (A : AH) : RetA Tryz.prog 65 #[str (s)] A (fun v A1 => v = .bool (decide (200 < s.length)) ∧ A.le A1 ∧ A1.wf) := by
 refine enterA (e := [(0, str (s))]) (args := [str (s)]) Tryz.call65 Tryz.func65 rfl Tryz.results65 Tryz.ntmps65 rfl rfl rfl (fun wf => ?_)
 have le_ := AH.le.refl A
 refine Run.seq fun K1 h2 => ?_
 refine Run.region ?_
 refine Ops.q rfl (qassign rfl) ?_
 refine Ops.nil ?_
 refine h2 _ _ ?_
 refine Run.seq fun K3 h4 => ?_
 refine Run.region ?_
 refine Ops.q rfl (qmove rfl) ?_
 refine Ops.q rfl (qslen u9 rfl) ?_
 refine Ops.q rfl (qgtrN (b := 200) rfl rfl) ?_
 refine Ops.q rfl (qassign rfl) ?_
 refine Ops.nil ?_
 refine h4 _ _ ?_
 refine Run.ret ?_
 repeat first | with_reducible refine thenQ_ret ?_ | with_reducible refine blockQ_ret ?_
 exact retQ rfl (⟨rfl, le_, wf⟩)

theorem s_small1 (s : List UInt8) (A : AH) : RetA Tryz.prog 25 #[str (s)] A (fun v A1 => v = .bool (decide (40 < s.length)) ∧ A.le A1 ∧ A1.wf) := by
 refine enterA (e := [(0, str (s))]) (args := [str (s)]) Tryz.call25 Tryz.func25 rfl Tryz.results25 Tryz.ntmps25 rfl rfl rfl (fun wf => ?_)
 have le_ := AH.le.refl A
 refine Run.seq fun K1 h2 => ?_
 refine Run.region ?_
 refine Ops.q rfl (qassign rfl) ?_
 refine Ops.nil ?_
 refine h2 _ _ ?_
 refine Run.seq fun K3 h4 => ?_
 refine Run.region ?_
 refine Ops.q rfl (qmove rfl) ?_
 refine Ops.q rfl (qslen u9 rfl) ?_
 refine Ops.q rfl (qgtrN (b := 40) rfl rfl) ?_
 refine Ops.q rfl (qassign rfl) ?_
 refine Ops.nil ?_
 refine h4 _ _ ?_
 refine Run.ret ?_
 repeat first | with_reducible refine thenQ_ret ?_ | with_reducible refine blockQ_ret ?_
 exact retQ rfl (⟨rfl, le_, wf⟩)

theorem s_small2 (s : List UInt8) (A : AH) : RetA Tryz.prog 26 #[str (s)] A (fun v A1 => v = .bool (decide (60 < s.length)) ∧ A.le A1 ∧ A1.wf) := by
 refine enterA (e := [(0, str (s))]) (args := [str (s)]) Tryz.call26 Tryz.func26 rfl Tryz.results26 Tryz.ntmps26 rfl rfl rfl (fun wf => ?_)
 have le_ := AH.le.refl A
 refine Run.seq fun K1 h2 => ?_
 refine Run.region ?_
 refine Ops.q rfl (qassign rfl) ?_
 refine Ops.nil ?_
 refine h2 _ _ ?_
 refine Run.seq fun K3 h4 => ?_
 refine Run.region ?_
 refine Ops.q rfl (qmove rfl) ?_
 refine Ops.q rfl (qslen u9 rfl) ?_
 refine Ops.q rfl (qgtrN (b := 60) rfl rfl) ?_
 refine Ops.q rfl (qassign rfl) ?_
 refine Ops.nil ?_
 refine h4 _ _ ?_
 refine Run.ret ?_
 repeat first | with_reducible refine thenQ_ret ?_ | with_reducible refine blockQ_ret ?_
 exact retQ rfl (⟨rfl, le_, wf⟩)

theorem s_isWord (k : Int) (w : List UInt8) (A : AH) (hL : Lets A) : RetA Tryz.prog 67 #[num (k), str (w)] A (fun v A1 => v = .bool (decide (wcheck k w = 0)) ∧ A.le A1 ∧ A1.wf) := by
 refine enterA (e := [(0, num (k)), (1, str (w))]) (args := [num (k), str (w)]) Tryz.call67 Tryz.func67 rfl Tryz.results67 Tryz.ntmps67 rfl rfl rfl (fun wf => ?_)
 have le_ := AH.le.refl A
 refine Run.seq fun K1 h2 => ?_
 refine Run.region ?_
 refine Ops.q rfl (qassign rfl) ?_
 refine Ops.nil ?_
 refine h2 _ _ ?_
 refine Run.seq fun K3 h4 => ?_
 refine Run.region ?_
 refine Ops.q rfl (qmove rfl) ?_
 refine Ops.q rfl (qmove rfl) ?_
 refine Ops.l rfl (fun _ _ hk5 _ => vcallF rfl (s_wCheck (k) w A hL) ?_)
 rintro v6 A7 ⟨rfl, leq8, wfq8⟩
 have le9 := le_.trans leq8
 refine hk5 _ _ ?_
 refine Ops.q rfl (qeqlN (b := 0) rfl rfl) ?_
 refine Ops.q rfl (qassign rfl) ?_
 refine Ops.nil ?_
 refine h4 _ _ ?_
 refine Run.ret ?_
 repeat first | with_reducible refine thenQ_ret ?_ | with_reducible refine blockQ_ret ?_
 exact retQ rfl (⟨rfl, le9, wfq8⟩)

theorem s_preduce (u : Value) (l : List (List UInt8)) (r : List UInt8) (A : AH) (hr : red l.flatten = r) (hT : l.flatten.length ≤ 1000000) (hn : l.length ≤ 1000000) (hu : Slc A 1 u (strs l)) : RetA Tryz.prog 68 #[u] A (fun v A1 => v = str r ∧ A.le A1 ∧ A1.wf) := by
 refine enterA (e := [(0, u)]) (args := [u]) Tryz.call68 Tryz.func68 rfl Tryz.results68 Tryz.ntmps68 rfl rfl rfl (fun wf => ?_)
 have le_ := AH.le.refl A
 refine Run.seq fun K1 h2 => ?_
 refine Run.region ?_
 refine Ops.q rfl (qassign rfl) ?_
 refine Ops.nil ?_
 refine h2 _ _ ?_
 refine Run.seq fun K3 h4 => ?_
 refine Run.region ?_
 refine Ops.q rfl (qassign rfl) ?_
 refine Ops.nil ?_
 refine h4 _ _ ?_
 refine Run.seq fun K5 h6 => ?_
 refine Run.seq fun K7 h8 => ?_
 refine Run.region ?_
 refine Ops.q rfl (qmove rfl) ?_
 refine Ops.q rfl (qlenS (n := l.length) u22 rfl (hu.le le_) (by omega) (strs_len _)) ?_
 refine Ops.q rfl (qmove rfl) ?_
 refine Ops.nil ?_
 refine h8 _ _ ?_
 refine Run.block ?_
 refine Run.loop (X := Nat × List UInt8 × Value) (fun ⟨k, o, s⟩ => [(3, s), (8, u), (9, num ((l.length : Nat) : Int)), (10, num ((k : Nat) : Int))]) (fun ⟨k, o, s⟩ B => (k ≤ l.length ∧ (l.drop k).flatten.foldl push o = r ∧ o.length + (l.drop k).flatten.length ≤ 1000000) ∧ A.le B ∧ Fresh A B s 1 (byteCells o)) (fun ⟨k, o, s⟩ => l.length - k) (⟨0, [], .slice none 0 0⟩) (EnvLe.cons rfl <| EnvLe.cons rfl <| EnvLe.cons rfl <| EnvLe.cons rfl <| EnvLe.nil _) (⟨⟨Nat.zero_le _, by simpa [red] using hr, by simpa using hT⟩, le_, (Fresh.nil A A 1)⟩) ?_
 rintro ⟨k, o, s⟩ B10 ⟨⟨hk, h1, h2⟩, le9, fr_s9⟩
 refine Run.wf fun wf11 => ?_
 have hd := fun q : k < l.length => flat_drop q
 refine Run.seq fun K12 h13 => ?_
 refine Run.region ?_
 refine Ops.q rfl (qlssN rfl rfl) ?_
 refine Ops.nil ?_
 refine h13 _ _ ?_
 refine Run.seq fun K14 h15 => ?_
 refine Run.if rfl (fun p16 => ?_) (fun p16 => ?_)
 ·
  refine Run.skip ?_
  refine h15 _ _ ?_
  refine Run.seq fun K17 h18 => ?_
  refine Run.block ?_
  refine Run.seq fun K19 h20 => ?_
  refine Run.region ?_
  obtain ⟨b21, f21, rw21, r21, rc21, n21, k21, e21, l21, g21, cl21, cs21⟩ := Slc.at (i := k) (hu.le le9) (by simp only [strs_length]; omega) (by omega)
  refine Ops.q rfl (qindexS u22 sz9 rfl e21 rfl l21) ?_
  refine Ops.q rfl (qloadAt ag9 rfl rfl g21 ((elt0 cs21).trans (strs_get (by omega)))) ?_
  refine Ops.q rfl (qassign rfl) ?_
  refine Ops.nil ?_
  refine h20 _ _ ?_
  refine Run.seq fun K22 h23 => ?_
  refine Run.region ?_
  refine Ops.q rfl (qmove rfl) ?_
  refine Ops.q rfl (qslen u9 rfl) ?_
  refine Ops.q rfl (qmove rfl) ?_
  refine Ops.nil ?_
  refine h23 _ _ ?_
  refine Run.block ?_
  refine Run.loop (X := Nat × List UInt8 × Value) (fun ⟨i, o2, s2⟩ => [(3, s2), (5, str (l.getD k [])), (8, u), (9, num ((l.length : Nat) : Int)), (10, num ((k : Nat) : Int)), (15, num (((l.getD k []).length : Nat) : Int)), (16, num ((i : Nat) : Int))]) (fun ⟨i, o2, s2⟩ B => (i ≤ (l.getD k []).length ∧ ((l.getD k []).drop i).foldl push o2 = (l.getD k []).foldl push o ∧ o2.length ≤ o.length + i) ∧ A.le B ∧ Fresh A B s2 1 (byteCells o2)) (fun ⟨i, o2, s2⟩ => (l.getD k []).length - i) (⟨0, o, s⟩) (EnvLe.cons rfl <| EnvLe.cons rfl <| EnvLe.cons rfl <| EnvLe.cons rfl <| EnvLe.cons rfl <| EnvLe.cons rfl <| EnvLe.cons rfl <| EnvLe.nil _) (⟨⟨Nat.zero_le _, rfl, Nat.le_refl _⟩, le9, fr_s9⟩) ?_
  rintro ⟨i, o2, s2⟩ B25 ⟨⟨hi, h3, h4⟩, le24, fr_s224⟩
  refine Run.wf fun wf26 => ?_
  refine Run.seq fun K27 h28 => ?_
  refine Run.region ?_
  refine Ops.q rfl (qlssN rfl rfl) ?_
  refine Ops.nil ?_
  refine h28 _ _ ?_
  refine Run.seq fun K29 h30 => ?_
  refine Run.if rfl (fun p31 => ?_) (fun p31 => ?_)
  ·
   refine Run.skip ?_
   refine h30 _ _ ?_
   refine Run.seq fun K32 h33 => ?_
   refine Run.block ?_
   refine Run.seq fun K34 h35 => ?_
   refine Run.region ?_
   refine Ops.q rfl (qmove rfl) ?_
   refine Ops.q rfl (qassign rfl) ?_
   refine Ops.nil ?_
   refine h35 _ _ ?_
   refine Run.seq fun K36 h37 => ?_
   refine Run.region ?_
   refine Ops.q rfl (qmove rfl) ?_
   refine Ops.q rfl (qlenS (n := o2.length) u80 rfl fr_s224.slc (by omega) (bytes_len _)) ?_
   refine Ops.q rfl (qassign rfl) ?_
   refine Ops.nil ?_
   refine h37 _ _ ?_
   refine Run.join (fun f A1 => EnvLe [(34, .bool (decide (0 < o2.length ∧ o2.getD (o2.length - 1) 0 = (l.getD k []).getD i 0 ^^^ 32))), (3, s2), (5, str (l.getD k [])), (8, u), (9, num ((l.length : Nat) : Int)), (10, num ((k : Nat) : Int)), (15, num (((l.getD k []).length : Nat) : Int)), (16, num ((i : Nat) : Int)), (17, .bool (decide (i < (l.getD k []).length))), (18, num ((i : Nat) : Int)), (6, num ((i : Nat) : Int)), (19, s2), (20, num ((o2.length : Nat) : Int)), (7, num ((o2.length : Nat) : Int))] f.e ∧ f.ds = [] ∧ B25 = A1) ?_ ?_
   ·
    refine Run.drawn [0, 1, 2, 3, 4, 5, 6, 7, 8, 9, 10, 11, 12, 13] mixed (by kernel_rfl) (by kernel_rfl) rfl ?_
    refine DOps.q rfl rfl rfl (qmove rfl) ?_
    refine DOps.q rfl rfl rfl (qgtrN (b := 0) rfl rfl) ?_
    refine DOps.q rfl rfl rfl (qmove rfl) ?_
    refine DOps.part (t := 23) rfl (fun p40 => ?_) (fun p40 => ?_)
    ·
     refine DOps.qOn rfl rfl rfl rfl rfl (qmove rfl) ?_
     refine DOps.qOn rfl rfl rfl rfl rfl (qmove rfl) ?_
     refine DOps.qOn rfl rfl rfl rfl rfl (qsubN (b := 1) rfl rfl (by omega)) ?_
     obtain ⟨b41, f41, rw41, r41, rc41, n41, k41, e41, l41, g41, cl41, cs41⟩ := Slc.at (i := o2.length - 1) fr_s224.slc (by simp only [bytes_length]; omega) (by omega)
     refine DOps.qOn rfl rfl rfl rfl rfl (qindexS u80 sz5 rfl e41 rfl l41) ?_
     have hc42 := cellOf (off := f41 + (o2.length - 1) * 1) g41 ((elt0 cs41).trans (bytes_get (by omega)))
     refine DOps.qOn rfl rfl rfl rfl rfl (qloadAt ag5 rfl rfl g41 ((elt0 cs41).trans (bytes_get (by omega)))) ?_
     refine DOps.qOn rfl rfl rfl rfl rfl (qmove rfl) ?_
     refine DOps.qOn rfl rfl rfl rfl rfl (qmove rfl) ?_
     refine DOps.qOn rfl rfl rfl rfl rfl (qsix u9 rfl rfl (by omega)) ?_
     refine DOps.qOn rfl rfl rfl rfl rfl (qxorB (d := 32) rfl rfl) ?_
     refine DOps.qOn rfl rfl rfl rfl rfl (qeqlB rfl rfl) ?_
     refine DOps.q rfl rfl rfl (qpickT rfl rfl) ?_
     refine DOps.done ?_
     exact ⟨EnvLe.cons (show some _ = some _ from congrArg (fun b => some (Value.bool b)) (show (decide ((o2.getD (o2.length - 1) 0) = (((l.getD k []).getD i 0) ^^^ 32))) = decide (0 < o2.length ∧ o2.getD (o2.length - 1) 0 = (l.getD k []).getD i 0 ^^^ 32) from (by first | rfl | simp only [‹0 < _›, true_and] | simp only [‹¬ 0 < _›, false_and, decide_false]))) <| EnvLe.cons rfl <| EnvLe.cons rfl <| EnvLe.cons rfl <| EnvLe.cons rfl <| EnvLe.cons rfl <| EnvLe.cons rfl <| EnvLe.cons rfl <| EnvLe.cons rfl <| EnvLe.cons rfl <| EnvLe.cons rfl <| EnvLe.cons rfl <| EnvLe.cons rfl <| EnvLe.cons rfl <| EnvLe.nil _, rfl, rfl⟩
    ·
     refine DOps.qOff rfl rfl rfl rfl rfl rfl ?_
     refine DOps.qOff rfl rfl rfl rfl rfl rfl ?_
     refine DOps.qOff rfl rfl rfl rfl rfl rfl ?_
     refine DOps.qOff rfl rfl rfl rfl rfl rfl ?_
     refine DOps.qOff rfl rfl rfl rfl rfl rfl ?_
     refine DOps.qOff rfl rfl rfl rfl rfl rfl ?_
     refine DOps.qOff rfl rfl rfl rfl rfl rfl ?_
     refine DOps.qOff rfl rfl rfl rfl rfl rfl ?_
     refine DOps.qOff rfl rfl rfl rfl rfl rfl ?_
     refine DOps.qOff rfl rfl rfl rfl rfl rfl ?_
     refine DOps.q rfl rfl rfl (qpickF rfl rfl) ?_
     refine DOps.done ?_
     exact ⟨EnvLe.cons (show some _ = some _ from congrArg (fun b => some (Value.bool b)) (show (false) = decide (0 < o2.length ∧ o2.getD (o2.length - 1) 0 = (l.getD k []).getD i 0 ^^^ 32) from (by first | rfl | simp only [‹0 < _›, true_and] | simp only [‹¬ 0 < _›, false_and, decide_false]))) <| EnvLe.cons rfl <| EnvLe.cons rfl <| EnvLe.cons rfl <| EnvLe.cons rfl <| EnvLe.cons rfl <| EnvLe.cons rfl <| EnvLe.cons rfl <| EnvLe.cons rfl <| EnvLe.cons rfl <| EnvLe.cons rfl <| EnvLe.cons rfl <| EnvLe.cons rfl <| EnvLe.cons rfl <| EnvLe.nil _, rfl, rfl⟩
   ·
    rintro ⟨fe, fd⟩ _ ⟨hE, rfl, rfl⟩
    refine Run.forget hE ?_
    refine Run.if rfl (fun p43 => ?_) (fun p43 => ?_)
    ·
     refine Run.region ?_
     refine Ops.q rfl (qmove rfl) ?_
     refine Ops.q rfl (qmove rfl) ?_
     refine Ops.q rfl (qsubN (b := 1) rfl rfl (by omega)) ?_
     obtain ⟨b44, n44, c44, q44, m44, d44⟩ := fr_s224.nonnil (by intro q; have := congrArg List.length q; simp only [bytes_length, List.length_nil] at this; omega)
     subst q44
     rw [bytes_length, Nat.mul_one] at m44
     have fr45 := fr_s224.take (k := o2.length - 1) (by omega)
     rw [Nat.mul_one, bytes_take] at fr45
     refine Ops.q rfl (qsliceHi u80 sz5 rfl rfl (by omega)) ?_
     refine Ops.q rfl (qassign rfl) ?_
     refine Ops.nil ?_
     refine h33 _ _ ?_
     refine Run.region ?_
     refine Ops.q rfl (qaddN (b := 1) rfl rfl (by omega)) ?_
     refine Ops.q rfl (qmove rfl) ?_
     refine Ops.nil ?_
     exact ⟨⟨i + 1, o2.take (o2.length - 1), .slice (some ⟨b44, 0, none⟩) (o2.length - 1) c44⟩, EnvLe.cons rfl <| EnvLe.cons rfl <| EnvLe.cons rfl <| EnvLe.cons rfl <| EnvLe.cons rfl <| EnvLe.cons rfl <| EnvLe.cons rfl <| EnvLe.nil _, rfl, ⟨⟨by omega, by first | exact push_go (by assumption) h3 ‹_› | exact push_no (by assumption) h3 ‹_›, by simp only [List.length_append, List.length_take, List.length_cons, List.length_nil]; omega⟩, le24, fr45⟩, (by (try dsimp only); omega)⟩
    ·
     refine Run.region ?_
     refine Ops.q rfl (qmove rfl) ?_
     refine Ops.q rfl (qmove rfl) ?_
     refine Ops.q rfl (qmove rfl) ?_
     refine Ops.q rfl (qsix u9 rfl rfl (by omega)) ?_
     refine Ops.l rfl (fun _ _ hk46 _ => wbuildSlice (c := [byt ((l.getD k []).getD i 0)]) wf26 rfl (buildSliceV_of u80 sz5 z5 rfl (by decide) (by decide) rfl) fun A48 b47 nb49 => ?_)
     have no50 := fr_s224.own.ne_new wf26 nb49.lo
     have ge_b47 := none_of wf (Nat.le_trans le24.n nb49.lo)
     have fr51 := fr_s224.le nb49.le
     have le52 := le24.trans nb49.le
     refine hk46 _ _ ?_
     refine Ops.l rfl (fun _ _ hk53 _ => wappend (ys := [byt ((l.getD k []).getD i 0)]) rfl rfl u80 sz5 inf5 z5 rfl (by decide) u80 (fun _ h => by cases h) fr51.own (listOf_row (n := 1) nb49.get rfl) rfl rfl (by show (_ + _) * 1 ≤ _; simp only [bytes_length, List.length_cons, List.length_nil]; have := hd (by assumption); omega) (by simp only [bytes_length, List.length_cons, List.length_nil]; have := hd (by assumption); omega) fun A54 v55 ap56 => ?_)
     rw [show ([byt ((l.getD k []).getD i 0)] : List Value) = byteCells [(l.getD k []).getD i 0] from rfl, bytes_append] at ap56
     obtain ⟨fr59, le60⟩ := Fresh.grow fr51 le52 wf ap56
     refine hk53 _ _ ?_
     refine Ops.q rfl (qassign rfl) ?_
     refine Ops.nil ?_
     refine h33 _ _ ?_
     refine Run.region ?_
     refine Ops.q rfl (qaddN (b := 1) rfl rfl (by omega)) ?_
     refine Ops.q rfl (qmove rfl) ?_
     refine Ops.nil ?_
     exact ⟨⟨i + 1, o2 ++ [(l.getD k []).getD i 0], v55⟩, EnvLe.cons rfl <| EnvLe.cons rfl <| EnvLe.cons rfl <| EnvLe.cons rfl <| EnvLe.cons rfl <| EnvLe.cons rfl <| EnvLe.cons rfl <| EnvLe.nil _, rfl, ⟨⟨by omega, by first | exact push_go (by assumption) h3 ‹_› | exact push_no (by assumption) h3 ‹_›, by simp only [List.length_append, List.length_take, List.length_cons, List.length_nil]; omega⟩, le60, fr59⟩, (by (try dsimp only); omega)⟩
  ·
   refine Run.exit ?_
   refine h18 _ _ ?_
   refine Run.region ?_
   refine Ops.q rfl (qaddN (b := 1) rfl rfl (by omega)) ?_
   refine Ops.q rfl (qmove rfl) ?_
   refine Ops.nil ?_
   exact ⟨⟨k + 1, o2, s2⟩, EnvLe.cons rfl <| EnvLe.cons rfl <| EnvLe.cons rfl <| EnvLe.cons rfl <| EnvLe.nil _, rfl, ⟨⟨by omega, red_outer (by assumption) h1 (by rw [drop_end (by omega)] at h3; exact h3.symm), by omega⟩, le24, fr_s224⟩, (by (try dsimp only); omega)⟩
 ·
  refine Run.exit ?_
  refine h6 _ _ ?_
  refine Run.seq fun K61 h62 => ?_
  refine Run.region ?_
  refine Ops.q rfl (qmove rfl) ?_
  refine Ops.l rfl (fun _ _ hk63 _ => wtoString (s := o) rfl u80 u9 u5 fr_s9.slc ?_)
  refine hk63 _ _ ?_
  refine Ops.q rfl (qassign rfl) ?_
  refine Ops.nil ?_
  refine h62 _ _ ?_
  refine Run.ret ?_
  repeat first | with_reducible refine thenQ_ret ?_ | with_reducible refine blockQ_ret ?_
  exact retQ rfl (⟨by rw [dropL_end (by omega)] at h1; rw [← h1]; rfl, le9, wf11⟩)

theorem s_pcheck2 (s : List UInt8) (g : Int) (b cap : Nat) (rw : Bool) (c1 : Value) (A : AH) (hg : 1 ≤ g ∧ g ≤ 8) (hs : s.length ≤ 200) (hL : Lets A) (hb : A.get b = some (.row rw [num g, c1] cap)) : RetA Tryz.prog 66 #[str (s), .pointer (some ⟨b, 0, none⟩)] A (fun v A1 => v = .bool (badRel g s) ∧ A.le A1 ∧ A1.wf) := by
 refine enterA (e := [(0, str (s)), (1, .pointer (some ⟨b, 0, none⟩))]) (args := [str (s), .pointer (some ⟨b, 0, none⟩)]) Tryz.call66 Tryz.func66 rfl Tryz.results66 Tryz.ntmps66 rfl rfl rfl (fun wf => ?_)
 have le_ := AH.le.refl A
 refine Run.seq fun K1 h2 => ?_
 refine Run.region ?_
 refine Ops.q rfl (qassign rfl) ?_
 refine Ops.nil ?_
 refine h2 _ _ ?_
 refine Run.seq fun K3 h4 => ?_
 refine Run.region ?_
 refine Ops.q rfl (qmove rfl) ?_
 refine Ops.q rfl (qseql rfl rfl) ?_
 refine Ops.q rfl (qmove rfl) ?_
 refine Ops.part (t := 6) rfl (fun p5 => ?_) (fun p5 => ?_)
 ·
  refine Ops.off rfl rfl rfl rfl ?_
  refine Ops.off rfl rfl rfl rfl ?_
  refine Ops.off rfl rfl rfl rfl ?_
  refine Ops.off rfl rfl rfl rfl ?_
  refine Ops.off rfl rfl rfl rfl ?_
  refine Ops.q rfl (qpickT rfl rfl) ?_
  refine Ops.q rfl (qmove rfl) ?_
  refine Ops.off rfl rfl rfl rfl ?_
  refine Ops.off rfl rfl rfl rfl ?_
  refine Ops.off rfl rfl rfl rfl ?_
  refine Ops.off rfl rfl rfl rfl ?_
  refine Ops.off rfl rfl rfl rfl ?_
  refine Ops.q rfl (qpickT rfl rfl) ?_
  refine Ops.q rfl (qassign rfl) ?_
  refine Ops.nil ?_
  refine h4 _ _ ?_
  refine Run.ret ?_
  repeat first | with_reducible refine thenQ_ret ?_ | with_reducible refine blockQ_ret ?_
  exact retQ rfl (⟨by simp_all [oneV, badRel], le_, wf⟩)
 ·
  refine Ops.on rfl rfl ?_
  refine Ops.q rfl (qfieldAddr fl24_0 sz3 (by decide) rfl) ?_
  refine Ops.on rfl rfl ?_
  refine Ops.q rfl (qloadAt ag3 rfl rfl (le_.get _ _ hb) rfl) ?_
  refine Ops.on rfl rfl ?_
  refine Ops.q rfl (qmove rfl) ?_
  refine Ops.on rfl rfl ?_
  refine Ops.l rfl (fun _ _ hk6 _ => vcallF rfl (s_isWord (g) s A hL) ?_)
  rintro v7 A8 ⟨rfl, leq9, wfq9⟩
  have le10 := le_.trans leq9
  refine hk6 _ _ ?_
  refine Ops.on rfl rfl ?_
  refine Ops.q rfl (qnotP rfl) ?_
  refine Ops.q rfl (qpickF rfl rfl) ?_
  refine Ops.q rfl (qmove rfl) ?_
  refine Ops.part (t := 13) rfl (fun p11 => ?_) (fun p11 => ?_)
  ·
   refine Ops.off rfl rfl rfl rfl ?_
   refine Ops.off rfl rfl rfl rfl ?_
   refine Ops.off rfl rfl rfl rfl ?_
   refine Ops.off rfl rfl rfl rfl ?_
   refine Ops.off rfl rfl rfl rfl ?_
   refine Ops.q rfl (qpickT rfl rfl) ?_
   refine Ops.q rfl (qassign rfl) ?_
   refine Ops.nil ?_
   refine h4 _ _ ?_
   refine Run.ret ?_
   repeat first | with_reducible refine thenQ_ret ?_ | with_reducible refine blockQ_ret ?_
   exact retQ rfl (⟨by simp_all [oneV, badRel], le10, wfq9⟩)
  ·
   refine Ops.on rfl rfl ?_
   refine Ops.q rfl (qmove rfl) ?_
   refine Ops.on rfl rfl ?_
   refine Ops.l rfl (fun _ _ hk12 _ => wbuildSlice (c := [str (s)]) wfq9 rfl (buildSliceV_of u22 sz9 z9 rfl (by decide) (by decide) rfl) fun A14 b13 nb15 => ?_)
   have ge_b13 := none_of wf (Nat.le_trans le10.n nb15.lo)
   have le16 := le10.trans nb15.le
   refine hk12 _ _ ?_
   refine Ops.on rfl rfl ?_
   refine Ops.l rfl (fun _ _ hk17 _ => vcallF rfl (s_preduce _ ([s]) (red s) A14 (by simp) (by simp; omega) (by simp) (slc_row (n := 1) nb15.get rfl (Nat.le_refl _))) ?_)
   rintro v18 A19 ⟨rfl, leq20, wfq20⟩
   have h21 := leq20.get _ _ nb15.get
   have le22 := le16.trans leq20
   refine hk17 _ _ ?_
   refine Ops.on rfl rfl ?_
   refine Ops.q rfl (qmove rfl) ?_
   refine Ops.on rfl rfl ?_
   refine Ops.q rfl (qsneq rfl rfl) ?_
   refine Ops.q rfl (qpickF rfl rfl) ?_
   refine Ops.q rfl (qassign rfl) ?_
   refine Ops.nil ?_
   refine h4 _ _ ?_
   refine Run.ret ?_
   repeat first | with_reducible refine thenQ_ret ?_ | with_reducible refine blockQ_ret ?_
   exact retQ rfl (⟨by simp_all [oneV, badRel], le22, wfq20⟩)

theorem s_pCheck (g : Int) (u : Value) (l : List (List UInt8)) (A : AH) (hn : l.length ≤ 1000000) (hL : Lets A) (hu : Slc A 1 u (strs l)) : RetA Tryz.prog 37 #[.agg #[num (g), u]] A (fun v A1 => v = num ((pcheck g l : Nat) : Int) ∧ A.le A1 ∧ A1.wf) := by
 refine enterA (e := [(0, .agg #[num (g), u])]) (args := [.agg #[num (g), u]]) Tryz.call37 Tryz.func37 rfl Tryz.results37 Tryz.ntmps37 rfl rfl rfl (fun wf => ?_)
 have le_ := AH.le.refl A
 refine Run.seq fun K1 h2 => ?_
 refine Run.region ?_
 refine Ops.l rfl (fun _ _ hk3 _ => wbox wf rfl rfl fun A5 b4 nb6 => ?_)
 have ge_b4 := none_of wf (Nat.le_trans le_.n nb6.lo)
 have le7 := le_.trans nb6.le
 refine hk3 _ _ ?_
 refine Ops.q rfl (qassign rfl) ?_
 refine Ops.nil ?_
 refine h2 _ _ ?_
 refine Run.seq fun K8 h9 => ?_
 refine Run.seq fun K10 h11 => ?_
 refine Run.region ?_
 refine Ops.q rfl (qfieldAddr fl24_0 sz3 (by decide) rfl) ?_
 refine Ops.q rfl (qloadAt ag3 rfl rfl nb6.get rfl) ?_
 refine Ops.q rfl (qlss rfl rfl) ?_
 refine Ops.q rfl (qmove rfl) ?_
 refine Ops.part (t := 6) rfl (fun p12 => ?_) (fun p12 => ?_)
 ·
  refine Ops.off rfl rfl rfl rfl ?_
  refine Ops.off rfl rfl rfl rfl ?_
  refine Ops.off rfl rfl rfl rfl ?_
  refine Ops.q rfl (qpickT rfl rfl) ?_
  refine Ops.nil ?_
  refine h11 _ _ ?_
  refine Run.cond_true rfl ?_
  refine Run.seq fun K13 h14 => ?_
  refine Run.region ?_
  refine Ops.q rfl (qassign rfl) ?_
  refine Ops.nil ?_
  refine h14 _ _ ?_
  refine Run.ret ?_
  repeat first | with_reducible refine thenQ_ret ?_ | with_reducible refine blockQ_ret ?_
  exact retQ rfl (⟨by first | (rw [pcheck, if_pos (by omega)]; rfl) | (rw [pcheck, if_neg (by omega), if_pos (by first | (left; omega) | exact .inr ((ifl_any _ _).1 ‹0 ≤ ifl (fun r => decide (200 < r.length)) l›))]; rfl) | (rw [pcheck, if_neg (by omega), if_neg (fun h => h.elim (by omega) (fun h => ‹¬ 0 ≤ ifl (fun r => decide (200 < r.length)) l› ((ifl_any _ _).2 h))), if_pos ((ifl_any _ _).1 ‹0 ≤ ifl (badRel g) l›)]; rfl) | (rw [pcheck, if_neg (by omega), if_neg (fun h => h.elim (by omega) (fun h => ‹¬ 0 ≤ ifl (fun r => decide (200 < r.length)) l› ((ifl_any _ _).2 h))), if_neg (fun h => ‹¬ 0 ≤ ifl (badRel g) l› ((ifl_any _ _).2 h))]; rfl), le7, nb6.wf⟩)
 ·
  refine Ops.on rfl rfl ?_
  refine Ops.q rfl (qfieldAddr fl24_0 sz3 (by decide) rfl) ?_
  refine Ops.on rfl rfl ?_
  refine Ops.q rfl (qloadAt ag3 rfl rfl nb6.get rfl) ?_
  refine Ops.on rfl rfl ?_
  refine Ops.q rfl (qgtr rfl rfl) ?_
  refine Ops.q rfl (qpickF rfl rfl) ?_
  refine Ops.nil ?_
  refine h11 _ _ ?_
  refine Run.if rfl (fun p15 => ?_) (fun p15 => ?_)
  ·
   refine Run.seq fun K16 h17 => ?_
   refine Run.region ?_
   refine Ops.q rfl (qassign rfl) ?_
   refine Ops.nil ?_
   refine h17 _ _ ?_
   refine Run.ret ?_
   repeat first | with_reducible refine thenQ_ret ?_ | with_reducible refine blockQ_ret ?_
   exact retQ rfl (⟨by first | (rw [pcheck, if_pos (by omega)]; rfl) | (rw [pcheck, if_neg (by omega), if_pos (by first | (left; omega) | exact .inr ((ifl_any _ _).1 ‹0 ≤ ifl (fun r => decide (200 < r.length)) l›))]; rfl) | (rw [pcheck, if_neg (by omega), if_neg (fun h => h.elim (by omega) (fun h => ‹¬ 0 ≤ ifl (fun r => decide (200 < r.length)) l› ((ifl_any _ _).2 h))), if_pos ((ifl_any _ _).1 ‹0 ≤ ifl (badRel g) l›)]; rfl) | (rw [pcheck, if_neg (by omega), if_neg (fun h => h.elim (by omega) (fun h => ‹¬ 0 ≤ ifl (fun r => decide (200 < r.length)) l› ((ifl_any _ _).2 h))), if_neg (fun h => ‹¬ 0 ≤ ifl (badRel g) l› ((ifl_any _ _).2 h))]; rfl), le7, nb6.wf⟩)
  ·
   refine Run.skip ?_
   refine h9 _ _ ?_
   refine Run.seq fun K18 h19 => ?_
   refine Run.seq fun K20 h21 => ?_
   refine Run.region ?_
   refine Ops.q rfl (qfieldAddr fl24_1 sz22 (by decide) rfl) ?_
   refine Ops.q rfl (qloadAt ag22 rfl rfl nb6.get rfl) ?_
   refine Ops.q rfl (qlenS (n := l.length) u22 rfl (hu.le le7) (by omega) (strs_len _)) ?_
   refine Ops.q rfl (qgtrN (b := 60) rfl rfl) ?_
   refine Ops.q rfl (qmove rfl) ?_
   refine Ops.part (t := 15) rfl (fun p22 => ?_) (fun p22 => ?_)
   ·
    refine Ops.off rfl rfl rfl rfl ?_
    refine Ops.off rfl rfl rfl rfl ?_
    refine Ops.off rfl rfl rfl rfl ?_
    refine Ops.q rfl (qpickT rfl rfl) ?_
    refine Ops.nil ?_
    refine h21 _ _ ?_
    refine Run.cond_true rfl ?_
    refine Run.seq fun K23 h24 => ?_
    refine Run.region ?_
    refine Ops.q rfl (qassign rfl) ?_
    refine Ops.nil ?_
    refine h24 _ _ ?_
    refine Run.ret ?_
    repeat first | with_reducible refine thenQ_ret ?_ | with_reducible refine blockQ_ret ?_
    exact retQ rfl (⟨by first | (rw [pcheck, if_pos (by omega)]; rfl) | (rw [pcheck, if_neg (by omega), if_pos (by first | (left; omega) | exact .inr ((ifl_any _ _).1 ‹0 ≤ ifl (fun r => decide (200 < r.length)) l›))]; rfl) | (rw [pcheck, if_neg (by omega), if_neg (fun h => h.elim (by omega) (fun h => ‹¬ 0 ≤ ifl (fun r => decide (200 < r.length)) l› ((ifl_any _ _).2 h))), if_pos ((ifl_any _ _).1 ‹0 ≤ ifl (badRel g) l›)]; rfl) | (rw [pcheck, if_neg (by omega), if_neg (fun h => h.elim (by omega) (fun h => ‹¬ 0 ≤ ifl (fun r => decide (200 < r.length)) l› ((ifl_any _ _).2 h))), if_neg (fun h => ‹¬ 0 ≤ ifl (badRel g) l› ((ifl_any _ _).2 h))]; rfl), le7, nb6.wf⟩)
   ·
    refine Ops.on rfl rfl ?_
    refine Ops.q rfl (qfieldAddr fl24_1 sz22 (by decide) rfl) ?_
    refine Ops.on rfl rfl ?_
    refine Ops.q rfl (qloadAt ag22 rfl rfl nb6.get rfl) ?_
    refine Ops.on rfl rfl ?_
    refine Ops.l rfl (fun _ _ hk25 _ => vcallF rfl (s_ContainsFuncL 65 #[] (fun r => decide (200 < r.length)) u l A5 (by omega) (hu.le le7) (fun s hs B le wf => s_pcheck1 s B)) ?_)
    rintro v26 A27 ⟨rfl, leq28, wfq28⟩
    have h29 := leq28.get _ _ nb6.get
    have le30 := le7.trans leq28
    refine hk25 _ _ ?_
    refine Ops.q rfl (qpickF rfl rfl) ?_
    refine Ops.nil ?_
    refine h21 _ _ ?_
    refine Run.if rfl (fun p31 => ?_) (fun p31 => ?_)
    ·
     refine Run.seq fun K32 h33 => ?_
     refine Run.region ?_
     refine Ops.q rfl (qassign rfl) ?_
     refine Ops.nil ?_
     refine h33 _ _ ?_
     refine Run.ret ?_
     repeat first | with_reducible refine thenQ_ret ?_ | with_reducible refine blockQ_ret ?_
     exact retQ rfl (⟨by first | (rw [pcheck, if_pos (by omega)]; rfl) | (rw [pcheck, if_neg (by omega), if_pos (by first | (left; omega) | exact .inr ((ifl_any _ _).1 ‹0 ≤ ifl (fun r => decide (200 < r.length)) l›))]; rfl) | (rw [pcheck, if_neg (by omega), if_neg (fun h => h.elim (by omega) (fun h => ‹¬ 0 ≤ ifl (fun r => decide (200 < r.length)) l› ((ifl_any _ _).2 h))), if_pos ((ifl_any _ _).1 ‹0 ≤ ifl (badRel g) l›)]; rfl) | (rw [pcheck, if_neg (by omega), if_neg (fun h => h.elim (by omega) (fun h => ‹¬ 0 ≤ ifl (fun r => decide (200 < r.length)) l› ((ifl_any _ _).2 h))), if_neg (fun h => ‹¬ 0 ≤ ifl (badRel g) l› ((ifl_any _ _).2 h))]; rfl), le30, wfq28⟩)
    ·
     refine Run.skip ?_
     refine h19 _ _ ?_
     refine Run.seq fun K34 h35 => ?_
     refine Run.seq fun K36 h37 => ?_
     refine Run.region ?_
     refine Ops.q rfl (qfieldAddr fl24_1 sz22 (by decide) rfl) ?_
     refine Ops.q rfl (qloadAt ag22 rfl rfl h29 rfl) ?_
     refine Ops.q rfl (qfunc rfl rfl) ?_
     refine Ops.l rfl (fun _ _ hk38 _ => vcallF rfl (s_ContainsFuncL 66 #[.pointer (some ⟨b4, 0, none⟩)] (badRel g) u l A27 (by omega) (hu.le le30) (fun s hs B le wf => s_pcheck2 s g b4 _ _ _ B (by omega) (by have := short ‹¬ 0 ≤ ifl (fun r => decide (200 < r.length)) l› s hs; omega) ((hL.le le30).le le) (le.get _ _ h29))) ?_)
     rintro v39 A40 ⟨rfl, leq41, wfq41⟩
     have h42 := leq41.get _ _ h29
     have le43 := le30.trans leq41
     refine hk38 _ _ ?_
     refine Ops.nil ?_
     refine h37 _ _ ?_
     refine Run.if rfl (fun p44 => ?_) (fun p44 => ?_)
     ·
      refine Run.seq fun K45 h46 => ?_
      refine Run.region ?_
      refine Ops.q rfl (qassign rfl) ?_
      refine Ops.nil ?_
      refine h46 _ _ ?_
      refine Run.ret ?_
      repeat first | with_reducible refine thenQ_ret ?_ | with_reducible refine blockQ_ret ?_
      exact retQ rfl (⟨by first | (rw [pcheck, if_pos (by omega)]; rfl) | (rw [pcheck, if_neg (by omega), if_pos (by first | (left; omega) | exact .inr ((ifl_any _ _).1 ‹0 ≤ ifl (fun r => decide (200 < r.length)) l›))]; rfl) | (rw [pcheck, if_neg (by omega), if_neg (fun h => h.elim (by omega) (fun h => ‹¬ 0 ≤ ifl (fun r => decide (200 < r.length)) l› ((ifl_any _ _).2 h))), if_pos ((ifl_any _ _).1 ‹0 ≤ ifl (badRel g) l›)]; rfl) | (rw [pcheck, if_neg (by omega), if_neg (fun h => h.elim (by omega) (fun h => ‹¬ 0 ≤ ifl (fun r => decide (200 < r.length)) l› ((ifl_any _ _).2 h))), if_neg (fun h => ‹¬ 0 ≤ ifl (badRel g) l› ((ifl_any _ _).2 h))]; rfl), le43, wfq41⟩)
     ·
      refine Run.skip ?_
      refine h35 _ _ ?_
      refine Run.seq fun K47 h48 => ?_
      refine Run.region ?_
      refine Ops.q rfl (qassign rfl) ?_
      refine Ops.nil ?_
      refine h48 _ _ ?_
      refine Run.ret ?_
      repeat first | with_reducible refine thenQ_ret ?_ | with_reducible refine blockQ_ret ?_
      exact retQ rfl (⟨by first | (rw [pcheck, if_pos (by omega)]; rfl) | (rw [pcheck, if_neg (by omega), if_pos (by first | (left; omega) | exact .inr ((ifl_any _ _).1 ‹0 ≤ ifl (fun r => decide (200 < r.length)) l›))]; rfl) | (rw [pcheck, if_neg (by omega), if_neg (fun h => h.elim (by omega) (fun h => ‹¬ 0 ≤ ifl (fun r => decide (200 < r.length)) l› ((ifl_any _ _).2 h))), if_pos ((ifl_any _ _).1 ‹0 ≤ ifl (badRel g) l›)]; rfl) | (rw [pcheck, if_neg (by omega), if_neg (fun h => h.elim (by omega) (fun h => ‹¬ 0 ≤ ifl (fun r => decide (200 < r.length)) l› ((ifl_any _ _).2 h))), if_neg (fun h => ‹¬ 0 ≤ ifl (badRel g) l› ((ifl_any _ _).2 h))]; rfl), le43, wfq41⟩)
end Go.Proofs.YtaccklloepfemaaGreatDoor
