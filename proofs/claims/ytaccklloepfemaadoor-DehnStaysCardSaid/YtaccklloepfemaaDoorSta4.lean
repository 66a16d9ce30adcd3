/- A part of the proof: what the last text needs of the library, the laws and the walks. -/
import Derived.Test.YtaccklloepfemaaDoorSta3
namespace Go.Proofs.YtaccklloepfemaaDoor
set_option linter.unusedVariables false
set_option linter.unusedSimpArgs false
open Go Go.RowKit V

theorem drun_small {L : List Rot} {m : Nat} (hx : ∀ x ∈ L, x.c.length ≤ 1000) : ∀ (f : Nat) (l : List UInt8) (d : List DCell) (p : Nat), l.length ≤ 6000 →
    (drun L m f l d p).1.length ≤ l.length ∧ (drun L m f l d p).2.length + (drun L m f l d p).1.length ≤ d.length + l.length ∧ ∀ c ∈ (drun L m f l d p).2, c ∈ d ∨ c.conj.length ≤ 7000
  | 0, l, d, p, _ => ⟨Nat.le_refl _, Nat.le_refl _, fun c h => .inl h⟩
  | f + 1, l, d, p, hl => by
    rw [drun]
    by_cases hp : p < l.length
    · rw [if_pos hp]
      by_cases h : 0 ≤ (longF L (l.drop p)).1
      · rw [if_pos h]
        have hlt := repl_lt hp h
        obtain ⟨h1, h2, h3⟩ := drun_small (m := m) hx f (repl l p (L.getD (longF L (l.drop p)).1.toNat .zero)).1 (d ++ [repC l p (L.getD (longF L (l.drop p)).1.toNat .zero)]) ((repl l p (L.getD (longF L (l.drop p)).1.toNat .zero)).2 - m) (by omega)
        refine ⟨by omega, by simp only [List.length_append, List.length_cons, List.length_nil] at h2; omega, fun c hc => ?_⟩
        rcases h3 c hc with q | q
        · rcases List.mem_append.1 q with q | q
          · exact .inl q
          · simp only [List.mem_singleton] at q
            subst q
            right
            have e1 := hx _ (getD_mem (d := Rot.zero) (longF_pos h).1)
            have e2 := wReduce_length (l.take p ++ (L.getD (longF L (l.drop p)).1.toNat .zero).c)
            rw [List.length_append, List.length_take] at e2
            show (wReduce _).length ≤ 7000
            omega
        · exact .inr q
      · rw [if_neg h]; exact drun_small (m := m) hx f l d (p + 1) hl
    · rw [if_neg hp]; exact ⟨Nat.le_refl _, Nat.le_refl _, fun c h => .inl h⟩
theorem conjs_le {d : List DCell} {n : Nat} (h : ∀ c ∈ d, c.conj.length ≤ n) : conjs d ≤ d.length * n := by
  induction d with
  | nil => simp [conjs]
  | cons c d ih =>
    have h1 := ih fun c hc => h c (List.mem_cons_of_mem _ hc)
    have h2 := h c List.mem_cons_self
    simp only [conjs, List.map_cons, List.sum_cons, List.length_cons] at h1 ⊢
    rw [Nat.add_mul]; omega
theorem dsh_small {S : RS} (hS : RSok S) {w : List UInt8} (hw : w.length ≤ 6000) : (dsh S w).1.length ≤ 6000 ∧ (dsh S w).2.length ≤ 100000000 ∧ conjs (dsh S w).2 ≤ 100000000 := by
  have hr := red_length w
  obtain ⟨h1, h2, h3⟩ := drun_small (m := S.most) (fun x hx => (hS.isw x hx).2.2) (fuel (red w).length) (red w) [] 0 (by omega)
  have h4 : ∀ c ∈ (dsh S w).2, c.conj.length ≤ 7000 := fun c hc => (h3 c hc).elim (fun q => by cases q) id
  have h5 := conjs_le h4
  change (dsh S w).1.length ≤ _ at h1
  change (dsh S w).2.length + (dsh S w).1.length ≤ _ at h2
  simp only [List.length_nil] at h2
  have : (dsh S w).2.length * 7000 ≤ 6000 * 7000 := Nat.mul_le_mul_right _ (by omega)
  omega
/-- What is so of the rules of a presentation. -/
def SOk (l : List (List UInt8)) (S : RS) : Prop := RSok S ∧ S.list.Perm (allR l) ∧ S.list.Pairwise (fun x y => ¬ cmpw y.w x.w < 0)
def Heavy (d : List DCell) : Prop := 1000000 < conjs d ∨ 100000 < d.length
instance (d : List DCell) : Decidable (Heavy d) := inferInstanceAs (Decidable (_ ∨ _))
def shOf (S : RS) (w : List UInt8) : List UInt8 × List DCell × Nat := if Heavy (dsh S w).2 then ([], [], 2) else ((dsh S w).1, (dsh S w).2, 0)
def ShR (g : Int) (l : List (List UInt8)) (w : List UInt8) (r : List UInt8 × List DCell × Nat) : Prop :=
  if ¬ rasked g l w = 0 then r = ([], [], rasked g l w) else ∃ S, SOk l S ∧ r = shOf S w
theorem ShR.no {g : Int} {l : List (List UInt8)} {w : List UInt8} (h : ¬ rasked g l w = 0) : ShR g l w ([], [], rasked g l w) := by rw [ShR, if_pos h]
theorem ShR.heavy {g : Int} {l : List (List UInt8)} {w : List UInt8} {S : RS} (h : ¬ ¬ rasked g l w = 0) (hS : SOk l S) (hh : Heavy (dsh S w).2) : ShR g l w ([], [], 2) := by rw [ShR, if_neg h]; exact ⟨S, hS, by rw [shOf, if_pos hh]⟩
theorem ShR.ok {g : Int} {l : List (List UInt8)} {w : List UInt8} {S : RS} (h : ¬ ¬ rasked g l w = 0) (hS : SOk l S) (hh : ¬ Heavy (dsh S w).2) : ShR g l w ((dsh S w).1, (dsh S w).2, 0) := by rw [ShR, if_neg h]; exact ⟨S, hS, by rw [shOf, if_neg hh]⟩
def StR (g : Int) (l : List (List UInt8)) (w : List UInt8) (r : Bool × Nat) : Prop :=
  if ¬ rasked g l w = 0 then r = (false, rasked g l w) else if wReduce w = w then ∃ S, SOk l S ∧ r = (decide ((dsh S w).2.length = 0), 0) else r = (false, 0)
theorem StR.no {g : Int} {l : List (List UInt8)} {w : List UInt8} (h : ¬ rasked g l w = 0) : StR g l w (false, rasked g l w) := by rw [StR, if_pos h]
theorem StR.ok {g : Int} {l : List (List UInt8)} {w : List UInt8} {S : RS} (h : ¬ ¬ rasked g l w = 0) (hw : wReduce w = w) (hS : SOk l S) {b : Bool} (hb : b = decide ((dsh S w).2.length = 0)) : StR g l w (b, 0) := by rw [StR, if_neg h, if_pos hw]; exact ⟨S, hS, by rw [hb]⟩
theorem StR.un {g : Int} {l : List (List UInt8)} {w : List UInt8} (h : ¬ ¬ rasked g l w = 0) (hw : ¬ wReduce w = w) : StR g l w (false, 0) := by rw [StR, if_neg h, if_neg hw]
/-- The words in the order of bytes. -/
def srt (d : List (List UInt8)) : List (List UInt8) := d.mergeSort fun x y => decide (x ≤ y)
theorem srt_perm (d : List (List UInt8)) : (srt d).Perm d := List.mergeSort_perm _ _
def badAt (d : List (List UInt8)) (i : Nat) : Prop := (d.getD (i - 1) []).length ≤ 6 * cmn (d.getD (i - 1) []) (d.getD i []) ∨ (d.getD i []).length ≤ 6 * cmn (d.getD (i - 1) []) (d.getD i [])
instance (d : List (List UInt8)) (i : Nat) : Decidable (badAt d i) := inferInstanceAs (Decidable (_ ∨ _))
def dverW (d : List (List UInt8)) : Bool := (List.range d.length).all fun i => decide (i = 0 ∨ ¬ badAt d i)
def dver (S : RS) : Bool := dverW (srt (S.list.map (·.w)))
theorem dverW_no {d : List (List UInt8)} {i : Nat} (h1 : 1 ≤ i) (hi : i < d.length) (h : badAt d i) : dverW d = false := by
  rw [dverW, List.all_eq_false]
  exact ⟨i, by simpa using hi, by rw [decide_eq_true_eq]; rintro (q | q); omega; exact q h⟩
theorem dverW_yes {d : List (List UInt8)} {i : Nat} (hi : d.length ≤ i) (h : ∀ j, 1 ≤ j → j < i → ¬ badAt d j) : dverW d = true := by
  rw [dverW, List.all_eq_true]
  intro j hj
  rw [decide_eq_true_eq]
  by_cases q : j = 0
  · exact .inl q
  · exact .inr (h j (by omega) (by have := List.mem_range.1 hj; omega))
def VeR (g : Int) (l : List (List UInt8)) (c : Nat) : Prop := if ¬ pcheck g l = 0 then c = pcheck g l else ∃ S, SOk l S ∧ c = if dver S = true then 0 else 230
theorem VeR.no {g : Int} {l : List (List UInt8)} (h : ¬ pcheck g l = 0) : VeR g l (pcheck g l) := by rw [VeR, if_pos h]
theorem VeR.ok {g : Int} {l : List (List UInt8)} {S : RS} {c : Nat} (h : ¬ ¬ pcheck g l = 0) (hS : SOk l S) (hc : c = if dver S = true then 0 else 230) : VeR g l c := by rw [VeR, if_neg h]; exact ⟨S, hS, hc⟩
def trOf (S : RS) (w : List UInt8) : Bool × List DCell × Nat := if dver S = true then (if (dsh S w).1 = [] then (if Heavy (dsh S w).2 then (false, [], 2) else (true, (dsh S w).2, 0)) else (false, [], 0)) else (false, [], 230)
def TrR (g : Int) (l : List (List UInt8)) (w : List UInt8) (r : Bool × List DCell × Nat) : Prop :=
  if ¬ rasked g l w = 0 then r = (false, [], rasked g l w) else ∃ S, SOk l S ∧ r = trOf S w
theorem TrR.no {g : Int} {l : List (List UInt8)} {w : List UInt8} (h : ¬ rasked g l w = 0) : TrR g l w (false, [], rasked g l w) := by rw [TrR, if_pos h]
theorem TrR.ok {g : Int} {l : List (List UInt8)} {w : List UInt8} {S : RS} {r : Bool × List DCell × Nat} (h : ¬ ¬ rasked g l w = 0) (hS : SOk l S) (hr : r = trOf S w) : TrR g l w r := by rw [TrR, if_neg h]; exact ⟨S, hS, hr⟩
section
variable {g : Int} {l : List (List UInt8)} {w : List UInt8} {S : RS}
theorem TrR.a (h : ¬ ¬ rasked g l w = 0) (hS : SOk l S) (hv : (!dver S) = true) : TrR g l w (false, [], 230) := TrR.ok h hS (by rw [trOf, if_neg (by intro q; rw [q] at hv; cases hv)])
theorem TrR.b (h : ¬ ¬ rasked g l w = 0) (hS : SOk l S) (hv : (!dver S) = false) (hd : ¬ (dsh S w).1 = []) : TrR g l w (false, [], 0) := TrR.ok h hS (by rw [trOf, if_pos (by simpa using hv), if_neg hd])
theorem TrR.c (h : ¬ ¬ rasked g l w = 0) (hS : SOk l S) (hv : (!dver S) = false) (hd : ¬ ¬ (dsh S w).1 = []) (hh : Heavy (dsh S w).2) : TrR g l w (false, [], 2) := TrR.ok h hS (by rw [trOf, if_pos (by simpa using hv), if_pos (Decidable.not_not.1 hd), if_pos hh])
theorem TrR.d (h : ¬ ¬ rasked g l w = 0) (hS : SOk l S) (hv : (!dver S) = false) (hd : ¬ ¬ (dsh S w).1 = []) (hh : ¬ Heavy (dsh S w).2) : TrR g l w (true, (dsh S w).2, 0) := TrR.ok h hS (by rw [trOf, if_pos (by simpa using hv), if_pos (Decidable.not_not.1 hd), if_neg hh])
end
end Go.Proofs.YtaccklloepfemaaDoor

namespace Go.Proofs.YtaccklloepfemaaDoor
open Go Go.RowKit V
set_option maxRecDepth 100000
set_option linter.unusedVariables false
set_option linter.unusedSimpArgs false
theorem fl46_0 : fldOf Tryd.prog 46 0 = some (9, 0) := by kernel_rfl
theorem fl46_1 : fldOf Tryd.prog 46 1 = some (3, 1) := by kernel_rfl
theorem fl46_2 : fldOf Tryd.prog 46 2 = some (30, 2) := by kernel_rfl
theorem inf9 : Tryd.prog.info? 9 = some Tryd.t9 := by kernel_rfl

theorem s_Sh (g : Int) (u : Value) (l : List (List UInt8)) (w : List UInt8) (A : AH) (hn : l.length ≤ 1000000) (hL : Lets A) (hw : w.length ≤ 100000) (hu : Slc A 1 u (strs l)) : RetA Tryd.prog 19 #[.agg #[num (g), u], str (w)] A (fun v A1 => ∃ W d c dv, v = .tuple #[.agg #[str W, num ((d.length : Nat) : Int), dv], num ((c : Nat) : Int)] ∧ A.le A1 ∧ A1.wf ∧ Fresh A A1 dv 3 (dcells d) ∧ ShR g l w (W, d, c)) := by
 refine enterA (e := [(0, .agg #[num (g), u]), (1, str (w))]) (args := [.agg #[num (g), u], str (w)]) Tryd.call19 Tryd.func19 rfl Tryd.results19 Tryd.ntmps19 rfl rfl rfl (fun wf => ?_)
 have le_ := AH.le.refl A
 refine Run.seq fun K1 h2 => .region <| .l rfl (fun _ _ hk3 _ => wbox wf rfl rfl fun A5 b4 nb6 => ?_)
 have le7 := le_.trans nb6.le
 refine hk3 _ _ <| .l rfl (fun _ _ hk8 _ => walloc nb6.wf z46 rfl fun A10 b9 nb11 => ?_)
 have ge_b9 := none_of wf (Nat.le_trans le7.n nb11.lo)
 have h12 := nb11.le.get _ _ nb6.get
 have le13 := le7.trans nb11.le
 refine hk8 _ _ <| .q rfl (qassign rfl) <| .nil <| h2 _ _ <| .seq fun K14 h15 => .seq fun K16 h17 => .region <| .q rfl (qloadAggAt ag24 sz24 rfl rfl h12 rfl) <| .q rfl (qmove rfl) <| .l rfl (fun _ _ hk18 _ => vcallF rfl (s_refused ((g)) u l w A10 (by omega) (hL.le le13) (by first | omega | (simp only [List.length_append, List.length_drop, List.length_take, inv_length]; omega)) (hu.le le13)) ?_)
 rintro v19 A20 ⟨rfl, leq21, wfq21⟩
 have h22 := leq21.get _ _ h12
 have h23 := leq21.get _ _ nb11.get
 have le24 := le13.trans leq21
 refine hk18 _ _ <| .q rfl (qassign rfl) <| .nil <| h17 _ _ <| .seq fun K25 h26 => .region <| .q rfl (qmove rfl) <| .q rfl (qneqN (b := 0) rfl rfl) <| .nil <| h26 _ _ ?_
 refine Run.if rfl (fun p27 => ?_) (fun p27 => ?_)
 ·
  refine Run.seq fun K28 h29 => .region <| .q rfl (qbuild rfl (buildV_struct u46 z46 pl46 rfl)) <| .q rfl (qmove rfl) <| .l rfl (fun _ _ hk30 _ => wstore (cs := [str ([]), num ((0 : Nat) : Int), .slice none 0 0]) (c' := [str ([]), num ((0 : Nat) : Int), .slice none 0 0]) wfq21 rfl rfl rfl rfl sz46 h23 (Nat.le_of_ble_eq_true rfl) rfl rfl fun A31 sb32 => ?_)
  have le34 := le_store le24 wf ge_b9 sb32.n sb32.keep
  refine hk30 _ _ <| .q rfl (qassign rfl) <| .nil <| h29 _ _ <| .ret ?_
  repeat first | with_reducible refine thenQ_ret ?_ | with_reducible refine blockQ_ret ?_
  exact retQ (resCell ag46 sz46 rfl sb32.get rfl (resTmp rfl resNil)) (⟨[], [], rasked ((g)) l w, _, rfl, le34, sb32.wf, Fresh.nil _ _ _, ShR.no ‹¬ rasked g l w = 0›⟩)
 ·
  refine Run.skip <| h15 _ _ <| .seq fun K35 h36 => .region <| .q rfl (qloadAggAt ag24 sz24 rfl rfl h22 rfl) <| .l rfl (fun _ _ hk37 _ => vcallF rfl (s_newRules ((g)) u l A20 (hL.le le24) (rasked_pres ‹¬ ¬ rasked g l w = 0›) (hu.le le24)) ?_)
  rintro v38 A39 ⟨brq40, Sq40, rfl, leq40, wfq40, hRq40, hSq40, hPq40, hWq40⟩
  have h42 := leq40.get _ _ h23
  have le43 := le24.trans leq40
  have hR := hRq40
  have hS := hSq40
  have hP := hPq40
  have hW := hWq40
  have hRlq40 := Rules.all hRq40
  have leRq40 := le43
  have hSOq40 : SOk l Sq40 := ⟨hSq40, hPq40, hWq40⟩
  refine hk37 _ _ <| .q rfl (qmove rfl) <| .l rfl (fun _ _ hk44 _ => vcallF rfl (s_dshort brq40 Sq40 w A39 (hRlq40.le (by first | exact AH.le.refl _ | assumption)) hSq40 (hL.le le43) (by have := (rasked_word ‹¬ ¬ rasked g l w = 0›).2; omega)) ?_)
  rintro v45 A46 ⟨dvq47, rfl, leq47, wfq47, frq47⟩
  have h49 := leq47.get _ _ h42
  have le50 := le43.trans leq47
  have fr51 := frq47.base le43
  have no53 := frq47.ne wfq40 h42
  refine hk44 _ _ <| .l rfl (fun _ _ hk54 _ => walloc wfq47 z46 rfl fun A56 b55 nb57 => ?_)
  have ne_b9_b55 := ne_new wfq47 h49 nb57.lo
  have no58 := fr51.own.ne_new wfq47 nb57.lo
  have ge_b55 := none_of wf (Nat.le_trans le50.n nb57.lo)
  have h60 := nb57.le.get _ _ h49
  have fr61 := fr51.le nb57.le
  have le62 := le50.trans nb57.le
  refine hk54 _ _ ?_
  obtain ⟨p64, l64, c64, q64, _⟩ := fr61.own.slice
  subst q64
  refine Ops.l rfl (fun _ _ hk63 _ => wstore (cs := [str ((dsh Sq40 w).1), num (((dsh Sq40 w).2.length : Nat) : Int), .slice p64 l64 c64]) (c' := [str ((dsh Sq40 w).1), num (((dsh Sq40 w).2.length : Nat) : Int), .slice p64 l64 c64]) nb57.wf rfl rfl rfl rfl sz46 nb57.get (Nat.le_of_ble_eq_true rfl) rfl rfl fun A65 sb66 => ?_)
  have h68 := sb66.keep _ _ ne_b9_b55 h60
  have fr69 := fr61.keep sb66.keep no58
  have le70 := le_store le62 wf ge_b55 sb66.n sb66.keep
  refine hk63 _ _ <| .nil <| h36 _ _ <| .seq fun K71 h72 => .seq fun K73 h74 => .region <| .q rfl (qfieldAddr fl46_2 sz30 (by decide) rfl) <| .q rfl (qloadAt ag30 rfl rfl sb66.get rfl) <| .l rfl (fun _ _ hk75 _ => vcallF rfl (s_heavy (.slice p64 l64 c64) ((dsh Sq40 w).2) A65 (dsh_small hSq40 (by have := (rasked_word ‹¬ ¬ rasked g l w = 0›).2; omega)).2.1 (Nat.le_trans (dsh_small hSq40 (by have := (rasked_word ‹¬ ¬ rasked g l w = 0›).2; omega)).2.2 (by decide)) fr69.slc) ?_)
  rintro v76 A77 ⟨rfl, leq78, wfq78⟩
  have h80 := leq78.get _ _ h68
  have h81 := leq78.get _ _ sb66.get
  have fr82 := fr69.le leq78
  have le83 := le70.trans leq78
  refine hk75 _ _ <| .nil <| h74 _ _ <| .if rfl (fun p84 => ?_) (fun p84 => ?_)
  ·
   refine Run.seq fun K85 h86 => .region <| .q rfl (qbuild rfl (buildV_struct u46 z46 pl46 rfl)) <| .l rfl (fun _ _ hk87 _ => wstore (cs := [str ([]), num ((0 : Nat) : Int), .slice none 0 0]) (c' := [str ([]), num ((0 : Nat) : Int), .slice none 0 0]) wfq78 rfl rfl rfl rfl sz46 h80 (Nat.le_of_ble_eq_true rfl) rfl rfl fun A88 sb89 => ?_)
   have le93 := le_store le83 wf ge_b9 sb89.n sb89.keep
   refine hk87 _ _ <| .q rfl (qassign rfl) <| .nil <| h86 _ _ <| .ret ?_
   repeat first | with_reducible refine thenQ_ret ?_ | with_reducible refine blockQ_ret ?_
   exact retQ (resCell ag46 sz46 rfl sb89.get rfl (resTmp rfl resNil)) (⟨[], [], 2, _, rfl, le93, sb89.wf, Fresh.nil _ _ _, ShR.heavy ‹¬ ¬ rasked g l w = 0› hSOq40 ‹1000000 < conjs _ ∨ 100000 < _›⟩)
  ·
   refine Run.skip <| h72 _ _ <| .seq fun K94 h95 => .region <| .q rfl (qloadAggAt ag46 sz46 rfl rfl h81 rfl) <| .l rfl (fun _ _ hk96 _ => wstore (cs := [str ((dsh Sq40 w).1), num (((dsh Sq40 w).2.length : Nat) : Int), .slice p64 l64 c64]) (c' := [str ((dsh Sq40 w).1), num (((dsh Sq40 w).2.length : Nat) : Int), .slice p64 l64 c64]) wfq78 rfl rfl rfl rfl sz46 h80 (Nat.le_of_ble_eq_true rfl) rfl rfl fun A97 sb98 => ?_)
   have fr101 := fr82.keep sb98.keep no53
   have le102 := le_store le83 wf ge_b9 sb98.n sb98.keep
   refine hk96 _ _ <| .q rfl (qassign rfl) <| .nil <| h95 _ _ <| .ret ?_
   repeat first | with_reducible refine thenQ_ret ?_ | with_reducible refine blockQ_ret ?_
   exact retQ (resCell ag46 sz46 rfl sb98.get rfl (resTmp rfl resNil)) (⟨(dsh Sq40 w).1, (dsh Sq40 w).2, 0, _, rfl, le102, sb98.wf, fr101, ShR.ok ‹¬ ¬ rasked g l w = 0› hSOq40 ‹¬ (1000000 < conjs _ ∨ 100000 < _)›⟩)

theorem s_St (g : Int) (u : Value) (l : List (List UInt8)) (w : List UInt8) (A : AH) (hn : l.length ≤ 1000000) (hL : Lets A) (hw : w.length ≤ 100000) (hu : Slc A 1 u (strs l)) : RetA Tryd.prog 17 #[.agg #[num (g), u], str (w)] A (fun v A1 => ∃ (b : Bool) (c : Nat), v = .tuple #[.bool b, num ((c : Nat) : Int)] ∧ A.le A1 ∧ A1.wf ∧ StR g l w (b, c)) := by
 refine enterA (e := [(0, .agg #[num (g), u]), (1, str (w))]) (args := [.agg #[num (g), u], str (w)]) Tryd.call17 Tryd.func17 rfl Tryd.results17 Tryd.ntmps17 rfl rfl rfl (fun wf => ?_)
 have le_ := AH.le.refl A
 refine Run.seq fun K1 h2 => .region <| .l rfl (fun _ _ hk3 _ => wbox wf rfl rfl fun A5 b4 nb6 => ?_)
 have le7 := le_.trans nb6.le
 refine hk3 _ _ <| .q rfl (qassign rfl) <| .q rfl (qassign rfl) <| .nil <| h2 _ _ <| .seq fun K8 h9 => .seq fun K10 h11 => .region <| .q rfl (qloadAggAt ag24 sz24 rfl rfl nb6.get rfl) <| .q rfl (qmove rfl) ?_
 refine Ops.l rfl (fun _ _ hk12 _ => vcallF rfl (s_refused ((g)) u l w A5 (by omega) (hL.le le7) (by first | omega | (simp only [List.length_append, List.length_drop, List.length_take, inv_length]; omega)) (hu.le le7)) ?_)
 rintro v13 A14 ⟨rfl, leq15, wfq15⟩
 have h16 := leq15.get _ _ nb6.get
 have le17 := le7.trans leq15
 refine hk12 _ _ <| .q rfl (qassign rfl) <| .nil <| h11 _ _ <| .seq fun K18 h19 => .region <| .q rfl (qmove rfl) <| .q rfl (qneqN (b := 0) rfl rfl) <| .nil <| h19 _ _ ?_
 refine Run.if rfl (fun p20 => ?_) (fun p20 => ?_)
 ·
  refine Run.seq fun K21 h22 => .region <| .q rfl (qmove rfl) <| .q rfl (qassign rfl) <| .q rfl (qassign rfl) <| .nil <| h22 _ _ <| .ret ?_
  repeat first | with_reducible refine thenQ_ret ?_ | with_reducible refine blockQ_ret ?_
  exact retQ rfl (⟨false, rasked ((g)) l w, rfl, le17, wfq15, StR.no ‹¬ rasked g l w = 0›⟩)
 ·
  refine Run.skip <| h9 _ _ <| .seq fun K23 h24 => .region <| .q rfl (qmove rfl) <| .l rfl (fun _ _ hk25 _ => vcallF rfl (s_Reduce w A14 (by first | omega | (simp only [List.length_append, List.length_drop, List.length_take, inv_length]; omega)) (hL.le le17)) ?_)
  rintro v26 A27 ⟨rfl, leq28, wfq28⟩
  have h29 := leq28.get _ _ h16
  have le30 := le17.trans leq28
  refine hk25 _ _ <| .q rfl (qmove rfl) <| .q rfl (qseql rfl rfl) <| .q rfl (qmove rfl) <| .part (t := 17) rfl (fun p31 => ?_) (fun p31 => ?_)
  ·
   refine Ops.on rfl rfl <| .q rfl (qloadAggAt ag24 sz24 rfl rfl h29 rfl) <| .on rfl rfl <| .l rfl (fun _ _ hk32 _ => vcallF rfl (s_newRules ((g)) u l A27 (hL.le le30) (rasked_pres ‹¬ ¬ rasked g l w = 0›) (hu.le le30)) ?_)
   rintro v33 A34 ⟨brq35, Sq35, rfl, leq35, wfq35, hRq35, hSq35, hPq35, hWq35⟩
   have le37 := le30.trans leq35
   have hR := hRq35
   have hS := hSq35
   have hP := hPq35
   have hW := hWq35
   have hRlq35 := Rules.all hRq35
   have leRq35 := le37
   have hSOq35 : SOk l Sq35 := ⟨hSq35, hPq35, hWq35⟩
   refine hk32 _ _ <| .on rfl rfl <| .q rfl (qmove rfl) <| .on rfl rfl <| .l rfl (fun _ _ hk38 _ => vcallF rfl (s_dshort brq35 Sq35 w A34 (hRlq35.le (by first | exact AH.le.refl _ | assumption)) hSq35 (hL.le le37) (by have := (rasked_word ‹¬ ¬ rasked g l w = 0›).2; omega)) ?_)
   rintro v39 A40 ⟨dvq41, rfl, leq41, wfq41, frq41⟩
   have le43 := le37.trans leq41
   refine hk38 _ _ <| .on rfl rfl <| .q rfl (qfield1 (cs := [str ((dsh Sq35 w).1), num (((dsh Sq35 w).2.length : Nat) : Int), dvq41]) fl46_1 ag3 rfl rfl) <| .on rfl rfl <| .q rfl (qeqlN (b := 0) rfl rfl) <| .q rfl (qpickT rfl rfl) <| .q rfl (qassign rfl) <| .q rfl (qassign rfl) <| .nil <| h24 _ _ ?_
   refine Run.ret ?_
   repeat first | with_reducible refine thenQ_ret ?_ | with_reducible refine blockQ_ret ?_
   exact retQ rfl (⟨decide ((dsh Sq35 w).2.length = 0), 0, rfl, le43, wfq41, StR.ok ‹¬ ¬ rasked g l w = 0› ‹wReduce w = w› hSOq35 rfl⟩)
  ·
   refine Ops.off rfl rfl rfl rfl <| .off rfl rfl rfl rfl <| .off rfl rfl rfl rfl <| .off rfl rfl rfl rfl <| .off rfl rfl rfl rfl <| .off rfl rfl rfl rfl <| .q rfl (qpickF rfl rfl) <| .q rfl (qassign rfl) <| .q rfl (qassign rfl) <| .nil ?_
   refine h24 _ _ <| .ret ?_
   repeat first | with_reducible refine thenQ_ret ?_ | with_reducible refine blockQ_ret ?_
   exact retQ rfl (⟨false, 0, rfl, le30, wfq28, StR.un ‹¬ ¬ rasked g l w = 0› ‹¬ wReduce w = w›⟩)

theorem s_sortS (d : List (List UInt8)) (lv : Value) (A0 A : AH) (le : A0.le A) (wf0 : A0.wf) (own : Fresh A0 A lv 1 (strs d)) (hl : d.length ≤ 1000000) :
    RetA Tryd.prog 52 #[lv] A (fun v A1 => v = .tuple #[] ∧ A0.le A1 ∧ A1.wf ∧ Fresh A0 A1 lv 1 (strs (srt d))) :=
  (sort_ret Tryd.sortS Tryd.call52 (by omega) le own).mono fun v A1 h => ⟨h.1, h.2.1, h.2.2.1, h.2.2.2.1⟩


theorem s_ver (br : Nat) (S : RS) (A : AH) (hR : Rules A br S) (hS : RSok S) : RetA Tryd.prog 28 #[.pointer (some ⟨br, 0, none⟩)] A (fun v A1 => v = .bool (dver S) ∧ A.le A1 ∧ A1.wf) := by
 refine enterA (e := [(0, .pointer (some ⟨br, 0, none⟩))]) (args := [.pointer (some ⟨br, 0, none⟩)]) Tryd.call28 Tryd.func28 rfl Tryd.results28 Tryd.ntmps28 rfl rfl rfl (fun wf => ?_)
 have le_ := AH.le.refl A
 obtain ⟨rwr, capr, lsv, nv, bl, hbr, hls, hnv, hN⟩ := hR
 have hsm := hS.small
 refine Run.seq fun K1 h2 => .region <| .q rfl (qassign rfl) <| .nil <| h2 _ _ <| .seq fun K3 h4 => .region <| .q rfl (qassign rfl) <| .nil <| h4 _ _ ?_
 refine Run.seq fun K5 h6 => .seq fun K7 h8 => .region <| .q rfl (qmove rfl) <| .q rfl (qnil rfl) <| .q rfl (qfieldAddr fl88_0 sz86 (by decide) rfl) <| .q rfl (qloadAt ag86 rfl rfl (le_.get _ _ hbr) rfl) <| .q rfl (qlenS (n := S.list.length) u86 rfl (hls.le le_) (by omega) (rcells_len _)) <| .q rfl (qmove rfl) <| .nil ?_
 refine h8 _ _ <| .block <| .loop (X := Nat × List (List UInt8) × Value) (fun ⟨k, ls, sv⟩ => [(3, sv), (11, lsv), (12, num ((S.list.length : Nat) : Int)), (13, num ((k : Nat) : Int))]) (fun ⟨k, ls, sv⟩ B => (k ≤ S.list.length ∧ ls = (S.list.map (·.w)).take k) ∧ A.le B ∧ Fresh A B sv 1 (strs ls)) (fun ⟨k, ls, sv⟩ => S.list.length - k) (⟨0, [], .slice none 0 0⟩) (EnvLe.cons rfl <| EnvLe.cons rfl <| EnvLe.cons rfl <| EnvLe.cons rfl <| EnvLe.nil _) (⟨⟨Nat.zero_le _, rfl⟩, le_, (Fresh.nil A A 1)⟩) ?_
 rintro ⟨k, ls, sv⟩ B10 ⟨⟨hk, hlq⟩, le9, fr_sv9⟩
 refine Run.wf fun wf11 => ?_
 have hlk : ls.length ≤ 30000 := by rw [hlq, List.length_take, List.length_map]; omega
 refine Run.seq fun K12 h13 => .region <| .q rfl (qlssN rfl rfl) <| .nil <| h13 _ _ <| .seq fun K14 h15 => .if rfl (fun p16 => ?_) (fun p16 => ?_)
 ·
  refine Run.skip <| h15 _ _ <| .seq fun K17 h18 => .block <| .seq fun K19 h20 => .region ?_
  obtain ⟨b21, f21, rw21, r21, rc21, n21, k21, e21, l21, g21, cl21, cs21⟩ := Slc.at (i := k) (hls.le le9) (by simp only [rcells_length]; omega) (by omega)
  refine Ops.q rfl (qindexS u86 sz80 rfl e21 rfl l21) <| .q rfl (qloadAggAt ag80 sz80 rfl rfl g21 (cl21.trans (congrArg some (rcells_at (by omega))))) <| .l rfl (fun _ _ hk22 _ => walloc wf11 z80 rfl fun A24 b23 nb25 => ?_)
  have no26 := fr_sv9.own.ne_new wf11 nb25.lo
  have ge_b23 := none_of wf (Nat.le_trans le9.n nb25.lo)
  have fr27 := fr_sv9.le nb25.le
  have le28 := le9.trans nb25.le
  refine hk22 _ _ <| .l rfl (fun _ _ hk29 _ => wstore (cs := [str ((S.list.getD k .zero).w), str ((S.list.getD k .zero).c), num (((S.list.getD k .zero).r : Nat) : Int), .bool ((S.list.getD k .zero).i)]) (c' := [str ((S.list.getD k .zero).w), str ((S.list.getD k .zero).c), num (((S.list.getD k .zero).r : Nat) : Int), .bool ((S.list.getD k .zero).i)]) nb25.wf rfl rfl rfl rfl sz80 nb25.get (Nat.le_of_ble_eq_true rfl) rfl rfl fun A30 sb31 => ?_)
  have fr32 := fr27.keep sb31.keep no26
  have le33 := le_store le28 wf ge_b23 sb31.n sb31.keep
  refine hk29 _ _ <| .nil <| h20 _ _ <| .region <| .q rfl (qmove rfl) <| .q rfl (qfieldAddr fl80_0 sz9 (by decide) rfl) <| .q rfl (qloadAt ag9 rfl rfl sb31.get rfl) <| .l rfl (fun _ _ hk34 _ => wbuildSlice (c := [str ((S.list.getD k .zero).w)]) sb31.wf rfl (buildSliceV_of u22 sz9 z9 rfl (by decide) (by decide) rfl) fun A36 b35 nb37 => ?_)
  have fr40 := fr32.le nb37.le
  have le41 := le33.trans nb37.le
  refine hk34 _ _ <| .l rfl (fun _ _ hk42 _ => wappend (ys := [str ((S.list.getD k .zero).w)]) rfl rfl u22 sz9 inf9 z9 rfl (by decide) u22 (fun _ h => by cases h) fr40.own (listOf_row (n := 1) nb37.get rfl) rfl rfl (by show (_ + _) * 16 ≤ _; simp only [strs_length, List.length_cons, List.length_nil]; (try simp only [List.length_append, List.length_cons, List.length_nil]); omega) (by simp only [strs_length, List.length_cons, List.length_nil]; (try simp only [List.length_append, List.length_cons, List.length_nil]); omega) fun A43 v44 ap45 => ?_)
  rw [show ([str ((S.list.getD k .zero).w)] : List Value) = strs [(S.list.getD k .zero).w] from rfl, strs_append] at ap45
  obtain ⟨fr48, le49⟩ := Fresh.grow fr40 le41 wf ap45
  refine hk42 _ _ <| .q rfl (qassign rfl) <| .nil <| h18 _ _ <| .region <| .q rfl (qaddN (b := 1) rfl rfl (by omega)) <| .q rfl (qmove rfl) <| .nil ?_
  exact ⟨⟨k + 1, ls ++ [(S.list.getD k .zero).w], v44⟩, EnvLe.cons rfl <| EnvLe.cons rfl <| EnvLe.cons rfl <| EnvLe.cons rfl <| EnvLe.nil _, rfl, ⟨⟨by omega, by rw [hlq, List.take_add_one, List.getElem?_map, List.getElem?_eq_getElem (by omega)]; simp [show k < S.list.length by omega]⟩, le49, fr48⟩, (by (try dsimp only); omega)⟩
 ·
  refine Run.exit <| h6 _ _ <| .seq fun K52 h53 => .region <| .q rfl (qmove rfl) ?_
  have hls2 : ls = S.list.map (·.w) := by rw [hlq, List.take_of_length_le (by rw [List.length_map]; omega)]
  have hpm := srt_perm ls
  have hpl : (srt ls).length = S.list.length := by rw [hpm.length_eq, hls2, List.length_map]
  have hwl : ∀ i, ((srt ls).getD i []).length ≤ 200 := getD_le fun r hr => by have := hpm.mem_iff.1 hr; rw [hls2] at this; obtain ⟨x, hx, rfl⟩ := List.mem_map.1 this; have := hS.most x hx; omega
  have le58 := le_hide (bs := [blk sv]) le9 (hoV fr_sv9.lo ho0)
  refine Ops.l rfl (fun _ _ hk54 _ => vcallF rfl (s_sortS ls sv (B10.hide [blk sv]) B10 (hide_le B10 [blk sv]) (hide_wf wf11) (fr_sv9.hide (by simp)) (by omega)) ?_)
  rintro v55 A56 ⟨rfl, leq57, wfq57, foq57_0⟩
  have fr59 := foq57_0.base le58
  have le60 := le58.trans leq57
  refine hk54 _ _ <| .nil <| h53 _ _ <| .seq fun K61 h62 => .seq fun K63 h64 => .region <| .q rfl (qassign rfl) <| .nil <| h64 _ _ <| .block ?_
  refine Run.loop (X := Nat) (fun i => [(3, sv), (6, num ((i : Nat) : Int))]) (fun i B => (1 ≤ i ∧ ∀ j, 1 ≤ j → j < i → ¬ badAt (srt ls) j) ∧ A.le B ∧ Fresh A B sv 1 (strs (srt ls))) (fun i => (srt ls).length - i) 1 (EnvLe.cons rfl <| EnvLe.cons rfl <| EnvLe.nil _) (⟨⟨Nat.le_refl _, fun j h1 h2 => by omega⟩, le60, fr59⟩) ?_
  rintro i B66 ⟨⟨hi, hgood⟩, le65, fk_oq57_065⟩
  refine Run.wf fun wf67 => ?_
  have hw1 := hwl (i - 1)
  have hw2 := hwl i
  have hcm := cmn_le ((srt ls).getD (i - 1) []) ((srt ls).getD i [])
  refine Run.seq fun K68 h69 => .seq fun K70 h71 => .region <| .q rfl (qmove rfl) <| .q rfl (qmove rfl) <| .q rfl (qlenS (n := (srt ls).length) u22 rfl fk_oq57_065.slc (by omega) (strs_len _)) <| .q rfl (qlssN rfl rfl) <| .nil <| h71 _ _ <| .if rfl (fun p72 => ?_) (fun p72 => ?_)
  ·
   refine Run.skip <| h69 _ _ <| .seq fun K73 h74 => .block <| .seq fun K75 h76 => .drawn [0, 1, 2, 3, 4, 5, 6, 7, 8, 9, 10, 11] mixed (by kernel_rfl) (by kernel_rfl) rfl <| .q rfl rfl rfl (qmove rfl) <| .q rfl rfl rfl (qmove rfl) <| .q rfl rfl rfl (qsubN (b := 1) rfl rfl (by omega)) ?_
   obtain ⟨b77, f77, rw77, r77, rc77, n77, k77, e77, l77, g77, cl77, cs77⟩ := Slc.at (i := i - 1) fk_oq57_065.slc (by simp only [strs_length]; omega) (by omega)
   refine DOps.q rfl rfl rfl (qindexS u22 sz9 rfl e77 rfl l77) <| .q rfl rfl rfl (qloadAt ag9 rfl rfl g77 ((elt0 cs77).trans (strs_get (by omega)))) <| .q rfl rfl rfl (qmove rfl) <| .q rfl rfl rfl (qmove rfl) ?_
   obtain ⟨b79, f79, rw79, r79, rc79, n79, k79, e79, l79, g79, cl79, cs79⟩ := Slc.at (i := i) fk_oq57_065.slc (by simp only [strs_length]; omega) (by omega)
   refine DOps.q rfl rfl rfl (qindexS u22 sz9 rfl e79 rfl l79) <| .q rfl rfl rfl (qloadAt ag9 rfl rfl g79 ((elt0 cs79).trans (strs_get (by omega)))) <| .l rfl rfl rfl (fun _ _ hk81 _ => vcallF rfl (s_common ((srt ls).getD (i - 1) []) ((srt ls).getD i []) B66 (by first | omega | (simp only [List.length_append, List.length_drop, List.length_take, inv_length]; omega)) (by first | omega | (simp only [List.length_append, List.length_drop, List.length_take, inv_length]; omega))) ?_)
   rintro v82 A83 ⟨rfl, rfl⟩
   refine hk81 _ _ (HeldNow.none (by kernel_rfl)) <| .q rfl rfl rfl (qmulN (a := 6) rfl rfl (by omega)) <| .q rfl rfl rfl (qassign rfl) <| .done <| h76 _ _ <| .seq fun K85 h86 => .region <| .q rfl (qmove rfl) <| .q rfl (qmove rfl) <| .q rfl (qmove rfl) ?_
   refine Ops.q rfl (qsubN (b := 1) rfl rfl (by omega)) ?_
   obtain ⟨b87, f87, rw87, r87, rc87, n87, k87, e87, l87, g87, cl87, cs87⟩ := Slc.at (i := i - 1) fk_oq57_065.slc (by simp only [strs_length]; omega) (by omega)
   refine Ops.q rfl (qindexS u22 sz9 rfl e87 rfl l87) <| .q rfl (qloadAt ag9 rfl rfl g87 ((elt0 cs87).trans (strs_get (by omega)))) <| .q rfl (qslen u9 rfl) <| .q rfl (qgeqN rfl rfl) <| .q rfl (qmove rfl) <| .part (t := 50) rfl (fun p88 => ?_) (fun p88 => ?_)
   ·
    refine Ops.off rfl rfl rfl rfl <| .off rfl rfl rfl rfl <| .off rfl rfl rfl rfl <| .off rfl rfl rfl rfl <| .off rfl rfl rfl rfl <| .off rfl rfl rfl rfl <| .off rfl rfl rfl rfl <| .q rfl (qpickT rfl rfl) <| .nil <| h86 _ _ ?_
    refine Run.cond_true rfl <| .seq fun K89 h90 => .region <| .q rfl (qassign rfl) <| .nil <| h90 _ _ <| .ret ?_
    repeat first | with_reducible refine thenQ_ret ?_ | with_reducible refine blockQ_ret ?_
    exact retQ rfl (⟨by first | (rw [dver, ← hls2, dverW_yes (by omega) hgood]; rfl) | (rw [dver, ← hls2, dverW_no hi (by omega) (by unfold badAt; omega)]; rfl), le65, wf67⟩)
   ·
    refine Ops.on rfl rfl <| .q rfl (qmove rfl) <| .on rfl rfl <| .q rfl (qmove rfl) <| .on rfl rfl <| .q rfl (qmove rfl) <| .on rfl rfl ?_
    obtain ⟨b91, f91, rw91, r91, rc91, n91, k91, e91, l91, g91, cl91, cs91⟩ := Slc.at (i := i) fk_oq57_065.slc (by simp only [strs_length]; omega) (by omega)
    refine Ops.q rfl (qindexS u22 sz9 rfl e91 rfl l91) <| .on rfl rfl <| .q rfl (qloadAt ag9 rfl rfl g91 ((elt0 cs91).trans (strs_get (by omega)))) <| .on rfl rfl <| .q rfl (qslen u9 rfl) <| .on rfl rfl <| .q rfl (qgeqN rfl rfl) <| .q rfl (qpickF rfl rfl) <| .nil <| h86 _ _ ?_
    refine Run.if rfl (fun p92 => ?_) (fun p92 => ?_)
    ·
     refine Run.seq fun K93 h94 => .region <| .q rfl (qassign rfl) <| .nil <| h94 _ _ <| .ret ?_
     repeat first | with_reducible refine thenQ_ret ?_ | with_reducible refine blockQ_ret ?_
     exact retQ rfl (⟨by first | (rw [dver, ← hls2, dverW_yes (by omega) hgood]; rfl) | (rw [dver, ← hls2, dverW_no hi (by omega) (by unfold badAt; omega)]; rfl), le65, wf67⟩)
    ·
     refine Run.skip <| h74 _ _ <| .region <| .q rfl (qmove rfl) <| .q rfl (qaddN (b := 1) rfl rfl (by omega)) <| .q rfl (qassign rfl) <| .nil ?_
     exact ⟨i + 1, EnvLe.cons rfl <| EnvLe.cons rfl <| EnvLe.nil _, rfl, ⟨⟨by omega, fun j h1 h2 => (Nat.lt_succ_iff_lt_or_eq.1 h2).elim (hgood j h1) (fun q => by subst q; unfold badAt; omega)⟩, le65, fk_oq57_065⟩, (by (try dsimp only); omega)⟩
  ·
   refine Run.exit <| h62 _ _ <| .seq fun K95 h96 => .region <| .q rfl (qassign rfl) <| .nil <| h96 _ _ <| .ret ?_
   repeat first | with_reducible refine thenQ_ret ?_ | with_reducible refine blockQ_ret ?_
   exact retQ rfl (⟨by first | (rw [dver, ← hls2, dverW_yes (by omega) hgood]; rfl) | (rw [dver, ← hls2, dverW_no hi (by omega) (by unfold badAt; omega)]; rfl), le65, wf67⟩)

theorem s_Ve (g : Int) (u : Value) (l : List (List UInt8)) (A : AH) (hn : l.length ≤ 1000000) (hL : Lets A) (hu : Slc A 1 u (strs l)) : RetA Tryd.prog 8 #[.agg #[num (g), u]] A (fun v A1 => ∃ (c : Nat), v = num ((c : Nat) : Int) ∧ A.le A1 ∧ A1.wf ∧ VeR g l c) := by
 refine enterA (e := [(0, .agg #[num (g), u])]) (args := [.agg #[num (g), u]]) Tryd.call8 Tryd.func8 rfl Tryd.results8 Tryd.ntmps8 rfl rfl rfl (fun wf => ?_)
 have le_ := AH.le.refl A
 refine Run.seq fun K1 h2 => .region <| .l rfl (fun _ _ hk3 _ => wbox wf rfl rfl fun A5 b4 nb6 => ?_)
 have le7 := le_.trans nb6.le
 refine hk3 _ _ <| .q rfl (qassign rfl) <| .nil <| h2 _ _ <| .seq fun K8 h9 => .seq fun K10 h11 => .region <| .q rfl (qloadAggAt ag24 sz24 rfl rfl nb6.get rfl) <| .l rfl (fun _ _ hk12 _ => vcallF rfl (s_pCheck ((g)) u l A5 (by omega) (hL.le le7) (hu.le le7)) ?_)
 rintro v13 A14 ⟨rfl, leq15, wfq15⟩
 have h16 := leq15.get _ _ nb6.get
 have le17 := le7.trans leq15
 refine hk12 _ _ <| .q rfl (qassign rfl) <| .nil <| h11 _ _ <| .seq fun K18 h19 => .region <| .q rfl (qmove rfl) <| .q rfl (qneqN (b := 0) rfl rfl) <| .nil <| h19 _ _ ?_
 refine Run.if rfl (fun p20 => ?_) (fun p20 => ?_)
 ·
  refine Run.seq fun K21 h22 => .region <| .q rfl (qmove rfl) <| .q rfl (qassign rfl) <| .nil <| h22 _ _ <| .ret ?_
  repeat first | with_reducible refine thenQ_ret ?_ | with_reducible refine blockQ_ret ?_
  exact retQ rfl (⟨pcheck ((g)) l, rfl, le17, wfq15, VeR.no ‹¬ pcheck g l = 0›⟩)
 ·
  refine Run.skip <| h9 _ _ <| .seq fun K23 h24 => .seq fun K25 h26 => .region <| .q rfl (qloadAggAt ag24 sz24 rfl rfl h16 rfl) <| .l rfl (fun _ _ hk27 _ => vcallF rfl (s_newRules ((g)) u l A14 (hL.le le17) (Decidable.not_not.1 ‹¬ ¬ pcheck g l = 0›) (hu.le le17)) ?_)
  rintro v28 A29 ⟨brq30, Sq30, rfl, leq30, wfq30, hRq30, hSq30, hPq30, hWq30⟩
  have le32 := le17.trans leq30
  have hR := hRq30
  have hS := hSq30
  have hP := hPq30
  have hW := hWq30
  have hRlq30 := Rules.all hRq30
  have leRq30 := le32
  have hSOq30 : SOk l Sq30 := ⟨hSq30, hPq30, hWq30⟩
  refine hk27 _ _ <| .l rfl (fun _ _ hk33 _ => vcallF rfl (s_ver brq30 Sq30 A29 (hRlq30.le (by first | exact AH.le.refl _ | assumption)) hSq30) ?_)
  rintro v34 A35 ⟨rfl, leq36, wfq36⟩
  have le38 := le32.trans leq36
  refine hk33 _ _ <| .q rfl (qnot rfl) <| .nil <| h26 _ _ <| .ifB rfl (fun p39 => ?_) (fun p39 => ?_)
  ·
   refine Run.seq fun K40 h41 => .region <| .q rfl (qassign rfl) <| .nil <| h41 _ _ <| .ret ?_
   repeat first | with_reducible refine thenQ_ret ?_ | with_reducible refine blockQ_ret ?_
   exact retQ rfl (⟨230, rfl, le38, wfq36, VeR.ok ‹¬ ¬ pcheck g l = 0› hSOq30 (by rw [if_neg (by have := ‹(!dver _) = true›; intro q; rw [q] at this; cases this)])⟩)
  ·
   refine Run.skip <| h24 _ _ <| .seq fun K42 h43 => .region <| .q rfl (qassign rfl) <| .nil <| h43 _ _ <| .ret ?_
   repeat first | with_reducible refine thenQ_ret ?_ | with_reducible refine blockQ_ret ?_
   exact retQ rfl (⟨0, rfl, le38, wfq36, VeR.ok ‹¬ ¬ pcheck g l = 0› hSOq30 (by rw [if_pos (by have := ‹(!dver _) = false›; simpa using this)])⟩)

theorem s_Tr (g : Int) (u : Value) (l : List (List UInt8)) (w : List UInt8) (A : AH) (hn : l.length ≤ 1000000) (hL : Lets A) (hw : w.length ≤ 100000) (hu : Slc A 1 u (strs l)) : RetA Tryd.prog 11 #[.agg #[num (g), u], str (w)] A (fun v A1 => ∃ (b : Bool) (d : List DCell) (c : Nat) (dv : Value), v = .tuple #[.bool b, dv, num ((c : Nat) : Int)] ∧ A.le A1 ∧ A1.wf ∧ Fresh A A1 dv 3 (dcells d) ∧ TrR g l w (b, d, c)) := by
 refine enterA (e := [(0, .agg #[num (g), u]), (1, str (w))]) (args := [.agg #[num (g), u], str (w)]) Tryd.call11 Tryd.func11 rfl Tryd.results11 Tryd.ntmps11 rfl rfl rfl (fun wf => ?_)
 have le_ := AH.le.refl A
 refine Run.seq fun K1 h2 => .region <| .l rfl (fun _ _ hk3 _ => wbox wf rfl rfl fun A5 b4 nb6 => ?_)
 have le7 := le_.trans nb6.le
 refine hk3 _ _ <| .q rfl (qassign rfl) <| .q rfl (qassign rfl) <| .q rfl (qassign rfl) <| .nil <| h2 _ _ <| .seq fun K8 h9 => .seq fun K10 h11 => .region <| .q rfl (qloadAggAt ag24 sz24 rfl rfl nb6.get rfl) ?_
 refine Ops.q rfl (qmove rfl) <| .l rfl (fun _ _ hk12 _ => vcallF rfl (s_refused ((g)) u l w A5 (by omega) (hL.le le7) (by first | omega | (simp only [List.length_append, List.length_drop, List.length_take, inv_length]; omega)) (hu.le le7)) ?_)
 rintro v13 A14 ⟨rfl, leq15, wfq15⟩
 have h16 := leq15.get _ _ nb6.get
 have le17 := le7.trans leq15
 refine hk12 _ _ <| .q rfl (qassign rfl) <| .nil <| h11 _ _ <| .seq fun K18 h19 => .region <| .q rfl (qmove rfl) <| .q rfl (qneqN (b := 0) rfl rfl) <| .nil <| h19 _ _ ?_
 refine Run.if rfl (fun p20 => ?_) (fun p20 => ?_)
 ·
  refine Run.seq fun K21 h22 => .region <| .q rfl (qmove rfl) <| .q rfl (qassign rfl) <| .q rfl (qassign rfl) <| .q rfl (qassign rfl) <| .nil <| h22 _ _ <| .ret ?_
  repeat first | with_reducible refine thenQ_ret ?_ | with_reducible refine blockQ_ret ?_
  exact retQ rfl (⟨false, [], rasked ((g)) l w, _, rfl, le17, wfq15, Fresh.nil _ _ _, TrR.no ‹¬ rasked g l w = 0›⟩)
 ·
  refine Run.skip <| h9 _ _ <| .seq fun K23 h24 => .region <| .q rfl (qloadAggAt ag24 sz24 rfl rfl h16 rfl) <| .l rfl (fun _ _ hk25 _ => vcallF rfl (s_newRules ((g)) u l A14 (hL.le le17) (rasked_pres ‹¬ ¬ rasked g l w = 0›) (hu.le le17)) ?_)
  rintro v26 A27 ⟨brq28, Sq28, rfl, leq28, wfq28, hRq28, hSq28, hPq28, hWq28⟩
  have le30 := le17.trans leq28
  have hR := hRq28
  have hS := hSq28
  have hP := hPq28
  have hW := hWq28
  have hRlq28 := Rules.all hRq28
  have leRq28 := le30
  have hSOq28 : SOk l Sq28 := ⟨hSq28, hPq28, hWq28⟩
  refine hk25 _ _ <| .q rfl (qassign rfl) <| .nil <| h24 _ _ <| .seq fun K31 h32 => .seq fun K33 h34 => .region <| .q rfl (qmove rfl) <| .l rfl (fun _ _ hk35 _ => vcallF rfl (s_ver brq28 Sq28 A27 (hRlq28.le (by first | exact AH.le.refl _ | assumption)) hSq28) ?_)
  rintro v36 A37 ⟨rfl, leq38, wfq38⟩
  have le40 := le30.trans leq38
  refine hk35 _ _ <| .q rfl (qnot rfl) <| .nil <| h34 _ _ <| .ifB rfl (fun p41 => ?_) (fun p41 => ?_)
  ·
   refine Run.seq fun K42 h43 => .region <| .q rfl (qassign rfl) <| .q rfl (qassign rfl) <| .q rfl (qassign rfl) <| .nil <| h43 _ _ <| .ret ?_
   repeat first | with_reducible refine thenQ_ret ?_ | with_reducible refine blockQ_ret ?_
   exact retQ rfl (⟨false, [], 230, _, rfl, le40, wfq38, Fresh.nil _ _ _, TrR.a ‹¬ ¬ rasked g l w = 0› hSOq28 ‹(!dver _) = true›⟩)
  ·
   refine Run.skip <| h32 _ _ <| .seq fun K44 h45 => .region <| .q rfl (qmove rfl) <| .q rfl (qmove rfl) <| .l rfl (fun _ _ hk46 _ => vcallF rfl (s_dshort brq28 Sq28 w A37 (hRlq28.le (by first | exact AH.le.refl _ | assumption)) hSq28 (hL.le le40) (by have := (rasked_word ‹¬ ¬ rasked g l w = 0›).2; omega)) ?_)
   rintro v47 A48 ⟨dvq49, rfl, leq49, wfq49, frq49⟩
   have le51 := le40.trans leq49
   have fr52 := frq49.base le40
   refine hk46 _ _ <| .l rfl (fun _ _ hk54 _ => walloc wfq49 z46 rfl fun A56 b55 nb57 => ?_)
   have no58 := fr52.own.ne_new wfq49 nb57.lo
   have ge_b55 := none_of wf (Nat.le_trans le51.n nb57.lo)
   have fr60 := fr52.le nb57.le
   have le61 := le51.trans nb57.le
   refine hk54 _ _ ?_
   obtain ⟨p63, l63, c63, q63, _⟩ := fr60.own.slice
   subst q63
   refine Ops.l rfl (fun _ _ hk62 _ => wstore (cs := [str ((dsh Sq28 w).1), num (((dsh Sq28 w).2.length : Nat) : Int), .slice p63 l63 c63]) (c' := [str ((dsh Sq28 w).1), num (((dsh Sq28 w).2.length : Nat) : Int), .slice p63 l63 c63]) nb57.wf rfl rfl rfl rfl sz46 nb57.get (Nat.le_of_ble_eq_true rfl) rfl rfl fun A64 sb65 => ?_)
   have fr67 := fr60.keep sb65.keep no58
   have le68 := le_store le61 wf ge_b55 sb65.n sb65.keep
   refine hk62 _ _ <| .nil <| h45 _ _ <| .seq fun K69 h70 => .seq fun K71 h72 => .region <| .q rfl (qfieldAddr fl46_0 sz9 (by decide) rfl) <| .q rfl (qloadAt ag9 rfl rfl sb65.get rfl) <| .q rfl (qsneq rfl rfl) <| .nil ?_
   refine h72 _ _ <| .if rfl (fun p73 => ?_) (fun p73 => ?_)
   ·
    refine Run.seq fun K74 h75 => .region <| .q rfl (qassign rfl) <| .q rfl (qassign rfl) <| .q rfl (qassign rfl) <| .nil <| h75 _ _ <| .ret ?_
    repeat first | with_reducible refine thenQ_ret ?_ | with_reducible refine blockQ_ret ?_
    exact retQ rfl (⟨false, [], 0, _, rfl, le68, sb65.wf, Fresh.nil _ _ _, TrR.b ‹¬ ¬ rasked g l w = 0› hSOq28 ‹(!dver _) = false› ‹¬ (dsh _ w).1 = []›⟩)
   ·
    refine Run.skip <| h70 _ _ <| .seq fun K76 h77 => .seq fun K78 h79 => .region <| .q rfl (qfieldAddr fl46_2 sz30 (by decide) rfl) <| .q rfl (qloadAt ag30 rfl rfl sb65.get rfl) <| .l rfl (fun _ _ hk80 _ => vcallF rfl (s_heavy (.slice p63 l63 c63) ((dsh Sq28 w).2) A64 (dsh_small hSq28 (by have := (rasked_word ‹¬ ¬ rasked g l w = 0›).2; omega)).2.1 (Nat.le_trans (dsh_small hSq28 (by have := (rasked_word ‹¬ ¬ rasked g l w = 0›).2; omega)).2.2 (by decide)) fr67.slc) ?_)
    rintro v81 A82 ⟨rfl, leq83, wfq83⟩
    have h85 := leq83.get _ _ sb65.get
    have fr86 := fr67.le leq83
    have le87 := le68.trans leq83
    refine hk80 _ _ <| .nil <| h79 _ _ <| .if rfl (fun p88 => ?_) (fun p88 => ?_)
    ·
     refine Run.seq fun K89 h90 => .region <| .q rfl (qassign rfl) <| .q rfl (qassign rfl) <| .q rfl (qassign rfl) <| .nil <| h90 _ _ <| .ret ?_
     repeat first | with_reducible refine thenQ_ret ?_ | with_reducible refine blockQ_ret ?_
     exact retQ rfl (⟨false, [], 2, _, rfl, le87, wfq83, Fresh.nil _ _ _, TrR.c ‹¬ ¬ rasked g l w = 0› hSOq28 ‹(!dver _) = false› ‹¬ ¬ (dsh _ w).1 = []› ‹1000000 < conjs _ ∨ 100000 < _›⟩)
    ·
     refine Run.skip <| h77 _ _ <| .seq fun K91 h92 => .drawn [0, 1, 2, 3, 4] mixed (by kernel_rfl) (by kernel_rfl) rfl <| .q rfl rfl rfl (qfieldAddr fl46_2 sz30 (by decide) rfl) <| .q rfl rfl rfl (qloadAt ag30 rfl rfl h85 rfl) <| .q rfl rfl rfl (qassign rfl) <| .q rfl rfl rfl (qassign rfl) <| .q rfl rfl rfl (qassign rfl) <| .done ?_
     refine h92 _ _ <| .ret ?_
     repeat first | with_reducible refine thenQ_ret ?_ | with_reducible refine blockQ_ret ?_
     exact retQ rfl (⟨true, (dsh Sq28 w).2, 0, _, rfl, le87, wfq83, fr86, TrR.d ‹¬ ¬ rasked g l w = 0› hSOq28 ‹(!dver _) = false› ‹¬ ¬ (dsh _ w).1 = []› ‹¬ (1000000 < conjs _ ∨ 100000 < _)›⟩)
end Go.Proofs.YtaccklloepfemaaDoor

namespace Go.Proofs.YtaccklloepfemaaDoor
set_option linter.unusedVariables false
set_option linter.unusedSimpArgs false
open Go Go.RowKit V

theorem rot_at {w : List UInt8} {p i : Nat} (hp : p < w.length) (hi : i < w.length) : (rot w p).getD i 0 = w.getD ((p + i) % w.length) 0 := by
  simp only [rot, List.getD_eq_getElem?_getD]
  by_cases h : p + i < w.length
  · rw [List.getElem?_append_left (by simp; omega), List.getElem?_drop, Nat.mod_eq_of_lt h]
  · rw [List.getElem?_append_right (by simp; omega), List.length_drop, List.getElem?_take_of_lt (by omega), Nat.mod_eq_sub_mod (by omega), Nat.mod_eq_of_lt (by omega)]
    congr 2; omega
theorem rot_end {w : List UInt8} {p i : Nat} (hi : w.length ≤ i) : (rot w p).getD i 0 = 0 ∧ decide (i < (rot w p).length) = false := by
  rw [rot_length]
  refine ⟨?_, decide_eq_false (by omega)⟩
  rw [List.getD_eq_getElem?_getD, List.getElem?_eq_none (by rw [rot_length]; exact hi)]; rfl
def turnA (w : List UInt8) (i n : Nat) : Int := if ((i + n : Nat) : Int) - ((w.length : Nat) : Int) > 0 then ((i + n : Nat) : Int) - ((w.length : Nat) : Int) else 0
def turnU (L : List Rot) (w : List UInt8) : Nat → Int
  | 0 => -1
  | i + 1 => if 0 < (longF L (rot w i)).2 then (if turnU L w i < 0 ∨ turnA w i (longF L (rot w i)).2 < turnU L w i then turnA w i (longF L (rot w i)).2 else turnU L w i) else turnU L w i
theorem turnU_a {L : List Rot} {w : List UInt8} {i : Nat} {c : Int} (hc : c = turnU L w i) (h : (longF L (rot w i)).2 > 0) (h2 : c < 0 ∨ turnA w i (longF L (rot w i)).2 < c) : turnA w i (longF L (rot w i)).2 = turnU L w (i + 1) := by
  subst hc; rw [turnU, if_pos h, if_pos h2]
theorem turnU_b {L : List Rot} {w : List UInt8} {i : Nat} {c : Int} (hc : c = turnU L w i) (h : (longF L (rot w i)).2 > 0) (h2 : ¬ c < 0) (h3 : ¬ turnA w i (longF L (rot w i)).2 < c) : c = turnU L w (i + 1) := by
  subst hc; rw [turnU, if_pos h, if_neg (fun q => q.elim h2 h3)]
theorem turnU_c {L : List Rot} {w : List UInt8} {i : Nat} {c : Int} (hc : c = turnU L w i) (h : ¬ (longF L (rot w i)).2 > 0) : c = turnU L w (i + 1) := by
  subst hc; rw [turnU, if_neg h]
def dturn (L : List Rot) (w : List UInt8) : Int := turnU L w w.length
theorem longU_le (l : List Rot) (s : List UInt8) : ∀ i, (longU l s i).2 ≤ i
  | 0 => Nat.le_refl _
  | i + 1 => by
    have := longU_le l s i
    simp only [longU, longStep]
    split
    · split
      · exact Nat.le_refl _
      · dsimp only; omega
    · omega
theorem longF_le (l : List Rot) (s : List UInt8) : (longF l s).2 ≤ s.length := longU_le l s _
theorem turnU_bound (L : List Rot) (w : List UInt8) : ∀ i, i ≤ w.length → -1 ≤ turnU L w i ∧ turnU L w i < w.length + 1 ∧ (0 ≤ turnU L w i → turnU L w i < w.length)
  | 0, _ => by simp only [turnU]; omega
  | i + 1, hi => by
    have h := turnU_bound L w i (by omega)
    have h2 := longF_le L (rot w i)
    rw [rot_length] at h2
    rw [turnU]
    split
    · split
      · unfold turnA; split <;> omega
      · exact h
    · exact h
/-- Two words, less what cancels between them. -/
def jn : Nat → List UInt8 → List UInt8 → List UInt8 × List UInt8
  | 0, x, y => (x, y)
  | f + 1, x, y => if ¬ x = [] ∧ ¬ y = [] ∧ x.getD (x.length - 1) 0 = y.getD 0 0 ^^^ 32 then jn f (x.take (x.length - 1)) (y.drop 1) else (x, y)
theorem jn_go {f : Nat} {x y : List UInt8} {R : List UInt8 × List UInt8} (hf : x.length < f) (h : ¬ x = [] ∧ ¬ y = [] ∧ x.getD (x.length - 1) 0 = y.getD 0 0 ^^^ 32) (e : jn f x y = R) : jn (f - 1) (x.take (x.length - 1)) (y.drop 1) = R := by
  cases f with
  | zero => omega
  | succ f => rw [jn, if_pos h] at e; exact e
theorem jn_stop {f : Nat} {x y : List UInt8} {R : List UInt8 × List UInt8} (h : ¬ (¬ x = [] ∧ ¬ y = [] ∧ x.getD (x.length - 1) 0 = y.getD 0 0 ^^^ 32)) (e : jn f x y = R) : R = (x, y) := by
  cases f with
  | zero => exact e.symm
  | succ f => rw [jn, if_neg h] at e; exact e.symm
def jnd (x y : List UInt8) : List UInt8 := (jn (x.length + 1) x y).1 ++ (jn (x.length + 1) x y).2
theorem ne_len {x : List UInt8} (h : ¬ x = []) : 0 < x.length := by
  cases x with
  | nil => exact absurd rfl h
  | cons a x => simp
end Go.Proofs.YtaccklloepfemaaDoor

namespace Go.Proofs.YtaccklloepfemaaDoor
set_option linter.unusedVariables false
set_option linter.unusedSimpArgs false
open Go Go.RowKit V

theorem longU_some {L : List Rot} {s : List UInt8} : ∀ i, i ≤ s.length → 0 < (longU L s i).2 → (longU L s i).2 ≤ i ∧ ∃ x ∈ L, s.take (longU L s i).2 <+: x.w ∧ x.w.length < 2 * (longU L s i).2
  | 0, _, h => by simp [longU] at h
  | i + 1, hi, h => by
    have ih := longU_some (L := L) (s := s) i (by omega)
    simp only [longU, longStep] at h ⊢
    by_cases hb : 0 ≤ bestOf L (s.take (i + 1))
    · rw [if_pos hb] at h ⊢
      by_cases hc : (longU L s i).1 < 0
      · rw [if_pos hc] at h ⊢
        obtain ⟨j, _, h2, h3, h4, _⟩ := bestOf_spec hb
        refine ⟨Nat.le_refl _, _, getD_mem (d := Rot.zero) h2, h3, ?_⟩
        rw [List.length_take] at h4
        show _ < 2 * (i + 1)
        omega
      · rw [if_neg hc] at h ⊢
        dsimp only at h ⊢
        obtain ⟨h1, h2⟩ := ih h
        exact ⟨by omega, h2⟩
    · rw [if_neg hb] at h ⊢
      obtain ⟨h1, h2⟩ := ih h
      exact ⟨by omega, h2⟩
theorem longF_some {L : List Rot} {s : List UInt8} (h : 0 < (longF L s).2) : (longF L s).2 ≤ s.length ∧ ∃ x ∈ L, s.take (longF L s).2 <+: x.w ∧ x.w.length < 2 * (longF L s).2 := longU_some s.length (Nat.le_refl _) h
theorem part_pos {L : List Rot} {s : List UInt8} {x : Rot} {n : Nat} (hx : x ∈ L) (hn : n ≤ s.length) (hp : s.take n <+: x.w) (hl : x.w.length < 2 * n) : 0 ≤ (longF L s).1 := by
  apply Classical.byContradiction
  intro q
  have h1 := longF_neg q x hx
  have h2 := (cmn_prefix s x.w n hn).1 hp
  omega
theorem drun_le {L : List Rot} {m : Nat} : ∀ (f : Nat) (l : List UInt8) (d : List DCell) (p : Nat), (drun L m f l d p).1.length ≤ l.length
  | 0, l, d, p => Nat.le_refl _
  | f + 1, l, d, p => by
    rw [drun]
    by_cases hp : p < l.length
    · rw [if_pos hp]
      by_cases h : 0 ≤ (longF L (l.drop p)).1
      · rw [if_pos h]
        exact Nat.le_trans (drun_le f _ _ _) (Nat.le_of_lt (repl_lt hp h))
      · rw [if_neg h]; exact drun_le f l d (p + 1)
    · rw [if_neg hp]; exact Nat.le_refl _
theorem drun_lt {L : List Rot} {m : Nat} : ∀ (f : Nat) (l : List UInt8) (d : List DCell) (p q : Nat), l.length - p < f → p ≤ q → q < l.length → 0 ≤ (longF L (l.drop q)).1 → (drun L m f l d p).1.length < l.length
  | 0, _, _, _, _, hf, _, _, _ => by omega
  | f + 1, l, d, p, q, hf, hpq, hq, h => by
    rw [drun, if_pos (by omega)]
    by_cases hp : 0 ≤ (longF L (l.drop p)).1
    · rw [if_pos hp]
      have hlt := repl_lt (show p < l.length by omega) hp
      refine Nat.lt_of_le_of_lt ?_ hlt
      exact drun_le f _ _ _
    · rw [if_neg hp]
      exact drun_lt f l d (p + 1) q (by omega) (by rcases Nat.lt_or_eq_of_le hpq with e | e; exact e; subst e; exact absurd h hp) hq h
theorem dsh_le (S : RS) (w : List UInt8) : (dsh S w).1.length ≤ (red w).length := drun_le _ _ _ _
theorem dsh_lt {S : RS} {w : List UInt8} {q : Nat} (hq : q < w.length) (h : 0 ≤ (longF S.list (w.drop q)).1) : (dsh S w).1.length < w.length := by
  have h1 := red_length w
  have h2 := dsh_le S w
  rcases Nat.lt_or_eq_of_le h1 with e | e
  · omega
  · have e2 : red w = w := (red_len_eq w []).2 (by simpa [red] using e)
    unfold dsh
    rw [e2]
    exact drun_lt _ _ _ 0 q (by unfold fuel; omega) (Nat.zero_le _) hq h
theorem turnU_mem {L : List Rot} {w : List UInt8} : ∀ i, i ≤ w.length → 0 ≤ turnU L w i → ∃ j, j < i ∧ 0 < (longF L (rot w j)).2 ∧ turnU L w i = turnA w j (longF L (rot w j)).2
  | 0, _, h => by simp [turnU] at h
  | i + 1, hi, h => by
    rw [turnU] at h ⊢
    by_cases hn : 0 < (longF L (rot w i)).2
    · rw [if_pos hn] at h ⊢
      split at h
      · rename_i hc
        rw [if_pos hc]
        exact ⟨i, by omega, hn, rfl⟩
      · rename_i hc
        rw [if_neg hc]
        obtain ⟨j, h1, h2⟩ := turnU_mem i (by omega) h
        exact ⟨j, by omega, h2⟩
    · rw [if_neg hn] at h ⊢
      obtain ⟨j, h1, h2⟩ := turnU_mem i (by omega) h
      exact ⟨j, by omega, h2⟩
/-- Where a turned word has its part. -/
theorem rot_part {w : List UInt8} {i k n : Nat} (hi : i < w.length) (hk : k ≤ i) (hn : i + n ≤ w.length + k) : ((rot w k).drop (i - k)).take n = (rot w i).take n := by
  have e1 : (rot w k).drop (i - k) = w.drop i ++ w.take k := by
    rw [rot, List.drop_append_of_le_length (by rw [List.length_drop]; omega), List.drop_drop, show k + (i - k) = i by omega]
  rw [e1, rot]
  have e2 : w.take i = w.take k ++ (w.take i).drop k := by
    have := (List.take_append_drop k (w.take i)).symm
    rw [List.take_take, Nat.min_eq_left hk] at this; exact this
  rw [e2, ← List.append_assoc, List.take_append_of_le_length (l₁ := w.drop i ++ w.take k)]
  simp; omega
theorem turn_lt {S : RS} {r : List UInt8} {k : Nat} (hz : ((k : Nat) : Int) = dturn S.list r) : k < r.length ∧ (dsh S (rot r k)).1.length < r.length := by
  have hb := turnU_bound S.list r r.length (Nat.le_refl _)
  unfold dturn at hz
  obtain ⟨j, hj, hn, e⟩ := turnU_mem r.length (Nat.le_refl _) (by omega : 0 ≤ turnU S.list r r.length)
  obtain ⟨h1, x, hx, h2, h3⟩ := longF_some hn
  rw [rot_length] at h1
  rw [e] at hz
  have hk : (k = 0 ∧ j + (longF S.list (rot r j)).2 ≤ r.length) ∨ k + r.length = j + (longF S.list (rot r j)).2 := by
    unfold turnA at hz
    split at hz <;> omega
  have hkj : k ≤ j := by omega
  have hp := rot_part (w := r) (i := j) (k := k) (n := (longF S.list (rot r j)).2) hj hkj (by omega)
  refine ⟨by omega, ?_⟩
  have hlt := dsh_lt (S := S) (w := rot r k) (q := j - k) (by rw [rot_length]; omega) (part_pos hx (by rw [List.length_drop, rot_length]; omega) (by rw [hp]; exact h2) h3)
  rw [rot_length] at hlt
  exact hlt

def cellJ (c1 : List UInt8) (c : DCell) : DCell := ⟨jnd c1 c.conj, c.rel, c.inv⟩
def fitsJ (c1 : List UInt8) (ds : List DCell) : Bool := ds.all fun c => decide ((jnd c1 c.conj).length ≤ 100000)
def cyF (S : RS) : Nat → List UInt8 → List UInt8 → List DCell → List UInt8 × List DCell × List UInt8 × Nat
  | 0, _, _, _ => ([], [], [], 2)
  | f + 1, r, cj, d =>
    if dturn S.list r < 0 then (if Heavy d then ([], [], [], 2) else (r, d, cj, 0))
    else if fitsJ (jnd cj (r.take (dturn S.list r).toNat)) (dsh S (rot r (dturn S.list r).toNat)).2 = false then ([], [], [], 2)
    else if (jnd cj (r.take (dturn S.list r).toNat)).length ≤ 100000 ∧ (jnd (jnd cj (r.take (dturn S.list r).toNat)) (wConj (dsh S (rot r (dturn S.list r).toNat)).1)).length ≤ 100000
      then cyF S f (wCore (dsh S (rot r (dturn S.list r).toNat)).1) (jnd (jnd cj (r.take (dturn S.list r).toNat)) (wConj (dsh S (rot r (dturn S.list r).toNat)).1)) (d ++ (dsh S (rot r (dturn S.list r).toNat)).2.map (cellJ (jnd cj (r.take (dturn S.list r).toNat))))
      else ([], [], [], 2)
section
variable {S : RS} {f k : Nat} {r cj : List UInt8} {d : List DCell} {R : List UInt8 × List DCell × List UInt8 × Nat}
theorem cyF_end (hf : 0 < f) (h : dturn S.list r < 0) (e : cyF S f r cj d = R) : R = if Heavy d then ([], [], [], 2) else (r, d, cj, 0) := by
  cases f with
  | zero => omega
  | succ f => rw [cyF, if_pos h] at e; exact e.symm
theorem fitsJ_no {c1 : List UInt8} {ds : List DCell} {j : Nat} (hj : j < ds.length) (h : ¬ (jnd c1 (ds.getD j .zero).conj).length ≤ 100000) : fitsJ c1 ds = false := by
  rw [fitsJ, List.all_eq_false]
  exact ⟨_, getD_mem hj, by rw [decide_eq_true_eq]; exact h⟩
theorem fitsJ_yes {c1 : List UInt8} {ds : List DCell} {k : Nat} (hk : ds.length ≤ k) (h : ∀ j, j < k → (jnd c1 (ds.getD j .zero).conj).length ≤ 100000) : fitsJ c1 ds = true := by
  rw [fitsJ, List.all_eq_true]
  intro c hc
  obtain ⟨j, hj, rfl⟩ := List.getElem_of_mem hc
  have := h j (by omega)
  rw [decide_eq_true_eq]
  simpa [hj] using this
theorem cyF_no1 (hz : ((k : Nat) : Int) = dturn S.list r) (hf : 0 < f) (e : cyF S f r cj d = R) (h : fitsJ (jnd cj (r.take k)) (dsh S (rot r k)).2 = false) : R = ([], [], [], 2) := by
  cases f with
  | zero => omega
  | succ f => rw [cyF, ← hz, if_neg (by omega), Int.toNat_natCast, if_pos h] at e; exact e.symm
theorem cyF_no2 (hz : ((k : Nat) : Int) = dturn S.list r) (hf : 0 < f) (e : cyF S f r cj d = R) (h0 : fitsJ (jnd cj (r.take k)) (dsh S (rot r k)).2 = true) (h : ¬ ((jnd cj (r.take k)).length ≤ 100000 ∧ (jnd (jnd cj (r.take k)) (wConj (dsh S (rot r k)).1)).length ≤ 100000)) : R = ([], [], [], 2) := by
  cases f with
  | zero => omega
  | succ f => rw [cyF, ← hz, if_neg (by omega), Int.toNat_natCast, if_neg (by rw [h0]; decide), if_neg h] at e; exact e.symm
theorem cyF_go (hz : ((k : Nat) : Int) = dturn S.list r) (hf : 0 < f) (e : cyF S f r cj d = R) (h0 : fitsJ (jnd cj (r.take k)) (dsh S (rot r k)).2 = true) (h : (jnd cj (r.take k)).length ≤ 100000 ∧ (jnd (jnd cj (r.take k)) (wConj (dsh S (rot r k)).1)).length ≤ 100000) :
    cyF S (f - 1) (wCore (dsh S (rot r k)).1) (jnd (jnd cj (r.take k)) (wConj (dsh S (rot r k)).1)) (d ++ (dsh S (rot r k)).2.map (cellJ (jnd cj (r.take k)))) = R := by
  cases f with
  | zero => omega
  | succ f => rw [cyF, ← hz, if_neg (by omega), Int.toNat_natCast, if_neg (by rw [h0]; decide), if_pos h] at e; exact e
end
def cyOf (S : RS) (w : List UInt8) : List UInt8 × List DCell × List UInt8 × Nat := cyF S ((wCore (dsh S w).1).length + 1) (wCore (dsh S w).1) (wConj (dsh S w).1) (dsh S w).2
def CyR (g : Int) (l : List (List UInt8)) (w : List UInt8) (r : List UInt8 × List DCell × List UInt8 × Nat) : Prop :=
  if ¬ rasked g l w = 0 then r = ([], [], [], rasked g l w) else ∃ S, SOk l S ∧ r = cyOf S w
theorem CyR.no {g : Int} {l : List (List UInt8)} {w : List UInt8} (h : ¬ rasked g l w = 0) : CyR g l w ([], [], [], rasked g l w) := by rw [CyR, if_pos h]
theorem CyR.ok {g : Int} {l : List (List UInt8)} {w : List UInt8} {S : RS} {r : List UInt8 × List DCell × List UInt8 × Nat} (h : ¬ ¬ rasked g l w = 0) (hS : SOk l S) (hr : cyOf S w = r) : CyR g l w r := by rw [CyR, if_neg h]; exact ⟨S, hS, hr.symm⟩
theorem jn_len : ∀ (f : Nat) (x y : List UInt8), (jn f x y).1.length + (jn f x y).2.length ≤ x.length + y.length
  | 0, x, y => Nat.le_refl _
  | f + 1, x, y => by
    rw [jn]; split
    · have := jn_len f (x.take (x.length - 1)) (y.drop 1)
      simp only [List.length_take, List.length_drop] at this; omega
    · exact Nat.le_refl _
theorem jnd_len (x y : List UInt8) : (jnd x y).length ≤ x.length + y.length := by rw [jnd, List.length_append]; exact jn_len _ _ _
theorem dsh_all {S : RS} (hS : RSok S) {w : List UInt8} (hw : w.length ≤ 6000) : (dsh S w).1.length ≤ w.length ∧ (dsh S w).2.length + (dsh S w).1.length ≤ w.length ∧ ∀ c ∈ (dsh S w).2, c.conj.length ≤ 7000 := by
  have hr := red_length w
  obtain ⟨h1, h2, h3⟩ := drun_small (m := S.most) (fun x hx => (hS.isw x hx).2.2) (fuel (red w).length) (red w) [] 0 (by omega)
  refine ⟨?_, ?_, fun c hc => (h3 c hc).elim (fun q => by cases q) id⟩
  · show (drun _ _ _ _ _ _).1.length ≤ _; omega
  · show (drun _ _ _ _ _ _).2.length + (drun _ _ _ _ _ _).1.length ≤ _
    simp only [List.length_nil] at h2; omega
theorem getD_conj {d : List DCell} {n : Nat} (h : ∀ c ∈ d, c.conj.length ≤ n) (k : Nat) : (d.getD k .zero).conj.length ≤ n := by
  by_cases q : k < d.length
  · exact h _ (getD_mem q)
  · rw [List.getD_eq_getElem?_getD, List.getElem?_eq_none (by omega)]; simp [DCell.zero]
theorem conj_step {d : List DCell} {ds : List DCell} {k : Nat} {c1 : List UInt8} (hk : k < ds.length) : d ++ (ds.take k).map (cellJ c1) ++ [cellJ c1 (ds.getD k .zero)] = d ++ (ds.take (k + 1)).map (cellJ c1) := by
  rw [List.append_assoc, List.take_add_one, List.getElem?_eq_getElem hk, List.map_append]
  simp [hk]
theorem V.Fresh.sep0 {A B : AH} {v u : Value} {size s2 : Nat} {xs ys : List Value} (h : Fresh A B v size xs) (hu : Own A u s2 ys) : Sep v u := fun c hv hc => by
  obtain ⟨x, hx⟩ := hu.blkget hc
  have := h.lo c hv
  rw [hx] at this; cases this
end Go.Proofs.YtaccklloepfemaaDoor

namespace Go.Proofs.YtaccklloepfemaaDoor
open Go Go.RowKit V
set_option maxRecDepth 100000
set_option linter.unusedVariables false
set_option linter.unusedSimpArgs false


theorem s_turn1 (i : Nat) (l : List UInt8) (p b1 b2 cap1 cap2 : Nat) (rw1 rw2 : Bool) (A : AH) (ht : p < l.length ∧ l.length ≤ 100000000 ∧ i ≤ l.length) (gb1 : A.get b1 = some (.row rw1 [str l] cap1)) (gb2 : A.get b2 = some (.row rw2 [num ((p : Nat) : Int)] cap2)) : RetA Tryd.prog 63 #[num ((i : Nat) : Int), .pointer (some ⟨b1, 0, none⟩), .pointer (some ⟨b2, 0, none⟩)] A (fun v A1 => v = .tuple #[byt ((rot l p).getD i 0), .bool (decide (i < (rot l p).length))] ∧ A = A1) := by
 refine enterA (e := [(0, num ((i : Nat) : Int)), (1, .pointer (some ⟨b1, 0, none⟩)), (2, .pointer (some ⟨b2, 0, none⟩))]) (args := [num ((i : Nat) : Int), .pointer (some ⟨b1, 0, none⟩), .pointer (some ⟨b2, 0, none⟩)]) Tryd.call63 Tryd.func63 rfl Tryd.results63 Tryd.ntmps63 rfl rfl rfl (fun wf => ?_)
 have le_ := AH.le.refl A
 have hmod := Nat.mod_lt (p + i) (show 0 < l.length by omega)
 refine Run.seq fun K1 h2 => .region <| .q rfl (qassign rfl) <| .q rfl (qassign rfl) <| .nil <| h2 _ _ <| .seq fun K3 h4 => .seq fun K5 h6 => .region <| .q rfl (qmove rfl) ?_
 refine Ops.q rfl (qloadAt ag9 rfl rfl (le_.get _ _ gb1) rfl) <| .q rfl (qslen u9 rfl) <| .q rfl (qgeqN rfl rfl) <| .nil <| h6 _ _ <| .if rfl (fun p7 => ?_) (fun p7 => ?_)
 ·
  refine Run.seq fun K8 h9 => .region <| .q rfl (qassign rfl) <| .q rfl (qassign rfl) <| .nil <| h9 _ _ <| .ret ?_
  repeat first | with_reducible refine thenQ_ret ?_ | with_reducible refine blockQ_ret ?_
  exact retQ rfl (⟨by first | (rw [(rot_end (w := l) (p := p) (i := i) (by omega)).1, (rot_end (w := l) (p := p) (i := i) (by omega)).2]; rfl) | (rw [rot_at (by omega) (by omega), rot_length, decide_eq_true (show i < l.length by omega)]; rfl), rfl⟩)
 ·
  refine Run.skip <| h4 _ _ <| .seq fun K10 h11 => .drawn [0, 1, 2, 3, 4, 5, 6, 7, 8, 9] mixed (by kernel_rfl) (by kernel_rfl) rfl <| .q rfl rfl rfl (qloadAt ag9 rfl rfl (le_.get _ _ gb1) rfl) <| .q rfl rfl rfl (qloadAt ag3 rfl rfl (le_.get _ _ gb2) rfl) <| .q rfl rfl rfl (qmove rfl) <| .q rfl rfl rfl (qaddN rfl rfl (by omega)) <| .q rfl rfl rfl (qloadAt ag9 rfl rfl (le_.get _ _ gb1) rfl) <| .q rfl rfl rfl (qslen u9 rfl) ?_
  refine DOps.q rfl rfl rfl (qremN rfl rfl (by omega)) <| .q rfl rfl rfl (qsix u9 rfl rfl (by omega)) <| .q rfl rfl rfl (qassign rfl) <| .q rfl rfl rfl (qassign rfl) <| .done <| h11 _ _ <| .ret ?_
  repeat first | with_reducible refine thenQ_ret ?_ | with_reducible refine blockQ_ret ?_
  exact retQ rfl (⟨by first | (rw [(rot_end (w := l) (p := p) (i := i) (by omega)).1, (rot_end (w := l) (p := p) (i := i) (by omega)).2]; rfl) | (rw [rot_at (by omega) (by omega), rot_length, decide_eq_true (show i < l.length by omega)]; rfl), rfl⟩)

theorem s_turn (br : Nat) (S : RS) (w : List UInt8) (A : AH) (hR : Rules A br S) (hS : RSok S) (hw : w.length ≤ 1000000) : RetA Tryd.prog 40 #[.pointer (some ⟨br, 0, none⟩), str (w)] A (fun v A1 => v = num (dturn S.list w) ∧ A.le A1 ∧ A1.wf) := by
 refine enterA (e := [(0, .pointer (some ⟨br, 0, none⟩)), (1, str (w))]) (args := [.pointer (some ⟨br, 0, none⟩), str (w)]) Tryd.call40 Tryd.func40 rfl Tryd.results40 Tryd.ntmps40 rfl rfl rfl (fun wf => ?_)
 have le_ := AH.le.refl A
 refine Run.seq fun K1 h2 => .region <| .l rfl (fun _ _ hk3 _ => wbox wf rfl rfl fun A5 b4 nb6 => ?_)
 have le7 := le_.trans nb6.le
 refine hk3 _ _ <| .q rfl (qassign rfl) <| .nil <| h2 _ _ <| .seq fun K8 h9 => .region <| .q rfl (qassign rfl) <| .nil <| h9 _ _ <| .seq fun K10 h11 => ?_
 refine Run.seq fun K12 h13 => .region <| .q rfl (qloadAt ag9 rfl rfl nb6.get rfl) <| .q rfl (qslen u9 rfl) <| .q rfl (qmove rfl) <| .nil <| h13 _ _ <| .block <| .loop (X := Nat × Int) (fun ⟨j, c⟩ => [(0, .pointer (some ⟨br, 0, none⟩)), (3, .pointer (some ⟨b4, 0, none⟩)), (5, num (c)), (11, num ((w.length : Nat) : Int)), (12, num ((j : Nat) : Int))]) (fun ⟨j, c⟩ B => (j ≤ w.length ∧ c = turnU S.list w j) ∧ A.le B ∧ B.get b4 = some (.row true [str (w)] 1)) (fun ⟨j, c⟩ => w.length - j) (⟨0, -1⟩) (EnvLe.cons rfl <| EnvLe.cons rfl <| EnvLe.cons rfl <| EnvLe.cons rfl <| EnvLe.cons rfl <| EnvLe.nil _) (⟨⟨Nat.zero_le _, rfl⟩, le7, nb6.get⟩) ?_
 rintro ⟨j, c⟩ B15 ⟨⟨hj, hc⟩, le14, hr_b414⟩
 refine Run.wf fun wf16 => ?_
 have hlf := longF_le S.list (rot w j)
 rw [rot_length] at hlf
 have htb := turnU_bound S.list w j hj
 rw [← hc] at htb
 refine Run.seq fun K17 h18 => .region <| .q rfl (qlssN rfl rfl) <| .nil <| h18 _ _ <| .seq fun K19 h20 => .if rfl (fun p21 => ?_) (fun p21 => ?_)
 ·
  refine Run.skip <| h20 _ _ <| .seq fun K22 h23 => .block <| .seq fun K24 h25 => .region <| .q rfl (qmove rfl) <| .l rfl (fun _ _ hk26 _ => walloc wf16 z3 rfl fun A28 b27 nb29 => ?_)
  have ne_b4_b27 := ne_new wf16 hr_b414 nb29.lo
  have ge_b27 := none_of wf (Nat.le_trans le14.n nb29.lo)
  have h30 := nb29.le.get _ _ hr_b414
  have le31 := le14.trans nb29.le
  refine hk26 _ _ <| .l rfl (fun _ _ hk32 _ => wstore (cs := [num ((j : Nat) : Int)]) (c' := [num ((j : Nat) : Int)]) nb29.wf rfl rfl rfl rfl sz3 nb29.get (Nat.le_of_ble_eq_true rfl) rfl rfl fun A33 sb34 => ?_)
  have h35 := sb34.keep _ _ ne_b4_b27 h30
  have le36 := le_store le31 wf ge_b27 sb34.n sb34.keep
  refine hk32 _ _ <| .nil <| h25 _ _ <| .seq fun K37 h38 => .region <| .q rfl (qmove rfl) <| .q rfl (qfunc rfl rfl) <| .l rfl (fun _ _ hk39 _ => vcallF rfl (s_long br S 63 #[.pointer (some ⟨b4, 0, none⟩), .pointer (some ⟨b27, 0, none⟩)] (rot w j) A33 (hR.le le36) hS (by rw [rot_length]; omega) (fun i B hi le wf => s_turn1 i w j b4 b27 _ _ _ _ B ⟨by omega, by omega, by rw [rot_length] at hi; exact hi⟩ (le.get _ _ h35) (le.get _ _ sb34.get))) ?_)
  rintro v40 A41 ⟨rfl, rfl⟩
  refine hk39 _ _ <| .q rfl (qmove rfl) <| .q rfl (qextract rfl rfl) <| .q rfl (qextract rfl rfl) <| .q rfl (qassign rfl) <| .q rfl (qassign rfl) <| .nil <| h38 _ _ <| .seq fun K43 h44 => .region ?_
  refine Ops.q rfl (qmove rfl) <| .q rfl (qgtrN (b := 0) rfl rfl) <| .nil <| h44 _ _ <| .if rfl (fun p45 => ?_) (fun p45 => ?_)
  ·
   refine Run.seq fun K46 h47 => .region <| .q rfl (qloadAt ag3 rfl rfl sb34.get rfl) <| .q rfl (qmove rfl) <| .q rfl (qaddN rfl rfl (by omega)) <| .q rfl (qloadAt ag9 rfl rfl h35 rfl) <| .q rfl (qslen u9 rfl) <| .q rfl (qsub rfl rfl (by omega)) <| .q rfl (qmax rfl rfl) <| .q rfl (qassign rfl) ?_
   refine Ops.nil <| h47 _ _ <| .seq fun K48 h49 => .region <| .q rfl (qmove rfl) <| .q rfl (qlss rfl rfl) <| .q rfl (qmove rfl) <| .part (t := 32) rfl (fun p50 => ?_) (fun p50 => ?_)
   ·
    refine Ops.off rfl rfl rfl rfl <| .off rfl rfl rfl rfl <| .off rfl rfl rfl rfl <| .q rfl (qpickT rfl rfl) <| .nil <| h49 _ _ <| .cond_true rfl <| .region <| .q rfl (qmove rfl) <| .q rfl (qassign rfl) ?_
    refine Ops.nil <| h23 _ _ <| .region <| .q rfl (qaddN (b := 1) rfl rfl (by omega)) <| .q rfl (qmove rfl) <| .nil ?_
    exact ⟨⟨j + 1, (if (((j + ((longF S.list (rot w j)).2) : Nat) : Int) - ((w.length : Nat) : Int)) > ((0 : Nat) : Int) then (((j + ((longF S.list (rot w j)).2) : Nat) : Int) - ((w.length : Nat) : Int)) else ((0 : Nat) : Int))⟩, EnvLe.cons rfl <| EnvLe.cons rfl <| EnvLe.cons rfl <| EnvLe.cons rfl <| EnvLe.cons rfl <| EnvLe.nil _, rfl, ⟨⟨by omega, by first | exact turnU_a hc ‹(longF S.list (rot w j)).2 > 0› (.inl ‹c < 0›) | exact turnU_a hc ‹(longF S.list (rot w j)).2 > 0› (.inr ‹_ < c›) | exact turnU_b hc ‹(longF S.list (rot w j)).2 > 0› ‹¬ c < 0› ‹¬ _ < c› | exact turnU_c hc ‹¬ (longF S.list (rot w j)).2 > 0›⟩, le36, h35⟩, (by (try dsimp only); omega)⟩
   ·
    refine Ops.on rfl rfl <| .q rfl (qmove rfl) <| .on rfl rfl <| .q rfl (qmove rfl) <| .on rfl rfl <| .q rfl (qlss rfl rfl) <| .q rfl (qpickF rfl rfl) <| .nil <| h49 _ _ <| .if rfl (fun p51 => ?_) (fun p51 => ?_)
    ·
     refine Run.region <| .q rfl (qmove rfl) <| .q rfl (qassign rfl) <| .nil <| h23 _ _ <| .region <| .q rfl (qaddN (b := 1) rfl rfl (by omega)) <| .q rfl (qmove rfl) <| .nil ?_
     exact ⟨⟨j + 1, (if (((j + ((longF S.list (rot w j)).2) : Nat) : Int) - ((w.length : Nat) : Int)) > ((0 : Nat) : Int) then (((j + ((longF S.list (rot w j)).2) : Nat) : Int) - ((w.length : Nat) : Int)) else ((0 : Nat) : Int))⟩, EnvLe.cons rfl <| EnvLe.cons rfl <| EnvLe.cons rfl <| EnvLe.cons rfl <| EnvLe.cons rfl <| EnvLe.nil _, rfl, ⟨⟨by omega, by first | exact turnU_a hc ‹(longF S.list (rot w j)).2 > 0› (.inl ‹c < 0›) | exact turnU_a hc ‹(longF S.list (rot w j)).2 > 0› (.inr ‹_ < c›) | exact turnU_b hc ‹(longF S.list (rot w j)).2 > 0› ‹¬ c < 0› ‹¬ _ < c› | exact turnU_c hc ‹¬ (longF S.list (rot w j)).2 > 0›⟩, le36, h35⟩, (by (try dsimp only); omega)⟩
    ·
     refine Run.skip <| h23 _ _ <| .region <| .q rfl (qaddN (b := 1) rfl rfl (by omega)) <| .q rfl (qmove rfl) <| .nil ?_
     exact ⟨⟨j + 1, (c)⟩, EnvLe.cons rfl <| EnvLe.cons rfl <| EnvLe.cons rfl <| EnvLe.cons rfl <| EnvLe.cons rfl <| EnvLe.nil _, rfl, ⟨⟨by omega, by first | exact turnU_a hc ‹(longF S.list (rot w j)).2 > 0› (.inl ‹c < 0›) | exact turnU_a hc ‹(longF S.list (rot w j)).2 > 0› (.inr ‹_ < c›) | exact turnU_b hc ‹(longF S.list (rot w j)).2 > 0› ‹¬ c < 0› ‹¬ _ < c› | exact turnU_c hc ‹¬ (longF S.list (rot w j)).2 > 0›⟩, le36, h35⟩, (by (try dsimp only); omega)⟩
  ·
   refine Run.skip <| h23 _ _ <| .region <| .q rfl (qaddN (b := 1) rfl rfl (by omega)) <| .q rfl (qmove rfl) <| .nil ?_
   exact ⟨⟨j + 1, (c)⟩, EnvLe.cons rfl <| EnvLe.cons rfl <| EnvLe.cons rfl <| EnvLe.cons rfl <| EnvLe.cons rfl <| EnvLe.nil _, rfl, ⟨⟨by omega, by first | exact turnU_a hc ‹(longF S.list (rot w j)).2 > 0› (.inl ‹c < 0›) | exact turnU_a hc ‹(longF S.list (rot w j)).2 > 0› (.inr ‹_ < c›) | exact turnU_b hc ‹(longF S.list (rot w j)).2 > 0› ‹¬ c < 0› ‹¬ _ < c› | exact turnU_c hc ‹¬ (longF S.list (rot w j)).2 > 0›⟩, le36, h35⟩, (by (try dsimp only); omega)⟩
 ·
  refine Run.exit <| h11 _ _ <| .seq fun K52 h53 => .region <| .q rfl (qmove rfl) <| .q rfl (qassign rfl) <| .nil <| h53 _ _ <| .ret ?_
  repeat first | with_reducible refine thenQ_ret ?_ | with_reducible refine blockQ_ret ?_
  exact retQ rfl (⟨by rw [hc, show j = w.length by omega]; rfl, le14, wf16⟩)

theorem s_joined (x y : List UInt8) (A : AH) (hx : x.length ≤ 1000000) (hy : y.length ≤ 1000000) : RetA Tryd.prog 41 #[str (x), str (y)] A (fun v A1 => v = .tuple #[str (jnd x y), .bool (decide ((jnd x y).length ≤ 100000))] ∧ A = A1) := by
 refine enterA (e := [(0, str (x)), (1, str (y))]) (args := [str (x), str (y)]) Tryd.call41 Tryd.func41 rfl Tryd.results41 Tryd.ntmps41 rfl rfl rfl (fun wf => ?_)
 have le_ := AH.le.refl A
 refine Run.seq fun K1 h2 => .region <| .q rfl (qassign rfl) <| .q rfl (qassign rfl) <| .nil <| h2 _ _ <| .seq fun K3 h4 => .block <| .loop (X := Nat × List UInt8 × List UInt8) (fun ⟨f, a, c⟩ => [(0, str (a)), (1, str (c))]) (fun ⟨f, a, c⟩ B => (jn f a c = jn (x.length + 1) x y ∧ a.length < f ∧ a.length ≤ x.length ∧ c.length ≤ y.length) ∧ A = B) (fun ⟨f, a, c⟩ => a.length) (⟨x.length + 1, x, y⟩) (EnvLe.cons rfl <| EnvLe.cons rfl <| EnvLe.nil _) (⟨⟨rfl, by omega, Nat.le_refl _, Nat.le_refl _⟩, rfl⟩) ?_
 rintro ⟨f, a, c⟩ B6 ⟨⟨hj, hf, ha, hcl⟩, rfl⟩
 have hne1 := fun q : ¬ a = [] => ne_len q
 have hne2 := fun q : ¬ c = [] => ne_len q
 refine Run.seq fun K7 h8 => .seq fun K9 h10 => .drawn [0, 1, 2, 3, 4, 5, 6, 7, 8, 9, 10, 11, 12, 13, 14, 15, 16] mixed (by kernel_rfl) (by kernel_rfl) rfl <| .q rfl rfl rfl (qmove rfl) <| .q rfl rfl rfl (qsneq rfl rfl) <| .q rfl rfl rfl (qmove rfl) <| .part (t := 8) rfl (fun p11 => ?_) (fun p11 => ?_)
 ·
  refine DOps.qOn rfl rfl rfl rfl rfl (qmove rfl) <| .qOn rfl rfl rfl rfl rfl (qsneq rfl rfl) <| .q rfl rfl rfl (qpickT rfl rfl) <| .q rfl rfl rfl (qmove rfl) <| .part (t := 12) rfl (fun p12 => ?_) (fun p12 => ?_)
  ·
   refine DOps.qOn rfl rfl rfl rfl rfl (qmove rfl) <| .qOn rfl rfl rfl rfl rfl (qmove rfl) <| .qOn rfl rfl rfl rfl rfl (qslen u9 rfl) <| .qOn rfl rfl rfl rfl rfl (qsubN (b := 1) rfl rfl (by first | omega | (have := hne1 ‹¬ a = []›; have := hne2 ‹¬ c = []›; omega))) <| .qOn rfl rfl rfl rfl rfl (qsix u9 rfl rfl (by (have := hne1 ‹¬ a = []›; have := hne2 ‹¬ c = []›; omega))) <| .qOn rfl rfl rfl rfl rfl (qmove rfl) <| .qOn rfl rfl rfl rfl rfl (qsix u9 rfl rfl (by (have := hne1 ‹¬ a = []›; have := hne2 ‹¬ c = []›; omega))) <| .qOn rfl rfl rfl rfl rfl (qxorB (d := 32) rfl rfl) <| .qOn rfl rfl rfl rfl rfl (qeqlB rfl rfl) <| .q rfl rfl rfl (qpickT rfl rfl) ?_
   refine DOps.done <| h10 _ _ <| .if rfl (fun p13 => ?_) (fun p13 => ?_)
   ·
    refine Run.skip <| h8 _ _ <| .block <| .drawn [0, 1, 2, 3, 4, 5, 6, 7, 8] mixed (by kernel_rfl) (by kernel_rfl) rfl <| .q rfl rfl rfl (qmove rfl) <| .q rfl rfl rfl (qmove rfl) <| .q rfl rfl rfl (qslen u9 rfl) <| .q rfl rfl rfl (qsubN (b := 1) rfl rfl (by first | omega | (have := hne1 ‹¬ a = []›; have := hne2 ‹¬ c = []›; omega))) <| .q rfl rfl rfl (qslHi u9 rfl rfl (by (have := hne1 ‹¬ a = []›; have := hne2 ‹¬ c = []›; omega))) <| .q rfl rfl rfl (qmove rfl) ?_
    refine DOps.q rfl rfl rfl (qslLo (i := 1) u9 rfl rfl (by (have := hne1 ‹¬ a = []›; have := hne2 ‹¬ c = []›; omega))) <| .q rfl rfl rfl (qassign rfl) <| .q rfl rfl rfl (qassign rfl) <| .done ?_
    exact ⟨⟨f - 1, a.take (a.length - 1), c.drop 1⟩, EnvLe.cons rfl <| EnvLe.cons rfl <| EnvLe.nil _, rfl, ⟨⟨jn_go hf ⟨‹¬ a = []›, ‹¬ c = []›, ‹_›⟩ hj, by have := hne1 ‹¬ a = []›; rw [List.length_take]; omega, by rw [List.length_take]; omega, by rw [List.length_drop]; omega⟩, rfl⟩, (by have := hne1 ‹¬ a = []›; try dsimp only; rw [List.length_take]; omega)⟩
   ·
    refine Run.exit <| h4 _ _ <| .seq fun K14 h15 => .region <| .q rfl (qmove rfl) <| .q rfl (qmove rfl) <| .q rfl (qsadd rfl rfl (by first | omega | (have := hne1 ‹¬ a = []›; have := hne2 ‹¬ c = []›; omega))) <| .q rfl (qmove rfl) <| .q rfl (qslen u9 rfl) <| .q rfl (qmove rfl) ?_
    refine Ops.q rfl (qslen u9 rfl) <| .q rfl (qaddN rfl rfl (by first | omega | (have := hne1 ‹¬ a = []›; have := hne2 ‹¬ c = []›; omega))) <| .q rfl (qleqN (b := 100000) rfl rfl) <| .q rfl (qassign rfl) <| .q rfl (qassign rfl) <| .nil <| h15 _ _ <| .ret ?_
    repeat first | with_reducible refine thenQ_ret ?_ | with_reducible refine blockQ_ret ?_
    exact retQ rfl (⟨by have hj2 := jn_stop (by rintro ⟨q1, q2, q3⟩; first | exact absurd q1 ‹¬ ¬ a = []› | exact absurd q2 ‹¬ ¬ c = []› | exact absurd q3 ‹_›) hj; rw [jnd, hj2, List.length_append]; rfl, rfl⟩)
  ·
   refine DOps.qOff rfl rfl rfl rfl rfl rfl <| .qOff rfl rfl rfl rfl rfl rfl <| .qOff rfl rfl rfl rfl rfl rfl <| .qOff rfl rfl rfl rfl rfl rfl <| .qOff rfl rfl rfl rfl rfl rfl <| .qOff rfl rfl rfl rfl rfl rfl <| .qOff rfl rfl rfl rfl rfl rfl <| .qOff rfl rfl rfl rfl rfl rfl <| .qOff rfl rfl rfl rfl rfl rfl <| .q rfl rfl rfl (qpickF rfl rfl) ?_
   refine DOps.done <| h10 _ _ <| .cond_false rfl <| .exit <| h4 _ _ <| .seq fun K16 h17 => .region <| .q rfl (qmove rfl) <| .q rfl (qmove rfl) <| .q rfl (qsadd rfl rfl (by first | omega | (have := hne1 ‹¬ a = []›; have := hne2 ‹¬ c = []›; omega))) ?_
   refine Ops.q rfl (qmove rfl) <| .q rfl (qslen u9 rfl) <| .q rfl (qmove rfl) <| .q rfl (qslen u9 rfl) <| .q rfl (qaddN rfl rfl (by first | omega | (have := hne1 ‹¬ a = []›; have := hne2 ‹¬ c = []›; omega))) <| .q rfl (qleqN (b := 100000) rfl rfl) <| .q rfl (qassign rfl) <| .q rfl (qassign rfl) <| .nil <| h17 _ _ ?_
   refine Run.ret ?_
   repeat first | with_reducible refine thenQ_ret ?_ | with_reducible refine blockQ_ret ?_
   exact retQ rfl (⟨by have hj2 := jn_stop (by rintro ⟨q1, q2, q3⟩; first | exact absurd q1 ‹¬ ¬ a = []› | exact absurd q2 ‹¬ ¬ c = []› | exact absurd q3 ‹_›) hj; rw [jnd, hj2, List.length_append]; rfl, rfl⟩)
 ·
  refine DOps.qOff rfl rfl rfl rfl rfl rfl <| .qOff rfl rfl rfl rfl rfl rfl <| .q rfl rfl rfl (qpickF rfl rfl) <| .q rfl rfl rfl (qmove rfl) <| .qOff rfl rfl rfl rfl rfl rfl <| .qOff rfl rfl rfl rfl rfl rfl <| .qOff rfl rfl rfl rfl rfl rfl <| .qOff rfl rfl rfl rfl rfl rfl <| .qOff rfl rfl rfl rfl rfl rfl <| .qOff rfl rfl rfl rfl rfl rfl ?_
  refine DOps.qOff rfl rfl rfl rfl rfl rfl <| .qOff rfl rfl rfl rfl rfl rfl <| .qOff rfl rfl rfl rfl rfl rfl <| .q rfl rfl rfl (qpickF rfl rfl) <| .done <| h10 _ _ <| .cond_false rfl <| .exit <| h4 _ _ <| .seq fun K18 h19 => ?_
  refine Run.region <| .q rfl (qmove rfl) <| .q rfl (qmove rfl) <| .q rfl (qsadd rfl rfl (by first | omega | (have := hne1 ‹¬ a = []›; have := hne2 ‹¬ c = []›; omega))) <| .q rfl (qmove rfl) <| .q rfl (qslen u9 rfl) <| .q rfl (qmove rfl) <| .q rfl (qslen u9 rfl) <| .q rfl (qaddN rfl rfl (by first | omega | (have := hne1 ‹¬ a = []›; have := hne2 ‹¬ c = []›; omega))) <| .q rfl (qleqN (b := 100000) rfl rfl) ?_
  refine Ops.q rfl (qassign rfl) <| .q rfl (qassign rfl) <| .nil <| h19 _ _ <| .ret ?_
  repeat first | with_reducible refine thenQ_ret ?_ | with_reducible refine blockQ_ret ?_
  exact retQ rfl (⟨by have hj2 := jn_stop (by rintro ⟨q1, q2, q3⟩; first | exact absurd q1 ‹¬ ¬ a = []› | exact absurd q2 ‹¬ ¬ c = []› | exact absurd q3 ‹_›) hj; rw [jnd, hj2, List.length_append]; rfl, rfl⟩)
end Go.Proofs.YtaccklloepfemaaDoor

namespace Go.Proofs.YtaccklloepfemaaDoor
set_option linter.unusedVariables false
set_option linter.unusedSimpArgs false
open Go Go.RowKit
namespace V
def canonP (ops : Array Oper) : Array Bool → List Nat → Nat → Nat → List Nat → List Nat → Bool
  | listed, [], i, j, C, D => (Region.ready .any ops listed == [i, j]) && canon ops (listed.setIfInBounds i true) C && canon ops (listed.setIfInBounds j true) D && (C.length == D.length)
  | listed, q :: Cq, i, j, C, D => match ops[q]? with
    | none => false
    | some o => quietOp o.op && (Region.ready .any ops listed).contains q && Region.free .any ops listed q && canonP ops (listed.setIfInBounds q true) Cq i j C D
section
variable {P : Program} {nt : Nat} {ops : Array Oper} {Q : Exit → Fr → AH → Prop} {f : Fr} {A : AH}
def DPair (P : Program) (nt : Nat) (ops : Array Oper) (Q : Exit → Fr → AH → Prop) (listed : Array Bool) (held : List (Nat × Held)) (Cq : List Nat) (i j : Nat) (C D : List Nat) (f : Fr) (A : AH) : Prop :=
  canonP ops listed Cq i j C D = true → Region.noSelect ops = true → ∀ a w, ActOk nt f a → View A w → heldS ops held listed w → Closed ops listed →
    ∀ (A₀ : AH) (w₀ : World), Step A₀ w₀ A w → wpAnyS P ops (PostQ nt Q A₀ w₀) (heldS ops held) (Cq.length + (C.length + 1)) listed a w
theorem DPair.quiet {listed : Array Bool} {held : List (Nat × Held)} {q i j : Nat} {Cq C D : List Nat} {o : Oper} {v : Value} {T : Held} (ho : ops[q]? = some o) (hq : quietOp o.op = true) (hd : ∀ t, o.dst = some t → t < nt)
    (hv : ∀ a w, ActOk nt f a → View A w → holds T w ∧ YieldsIf P ops (holds T) o v a)
    (h : DPair P nt ops Q (listed.setIfInBounds q true) ((q, T) :: held) Cq i j C D ⟨putE f.e o.dst v, f.ds⟩ A) : DPair P nt ops Q listed held (q :: Cq) i j C D f A := by
  intro hc hn a w ha hw hh hcl A₀ w₀ hs
  simp only [canonP, ho, Bool.and_eq_true] at hc
  obtain ⟨⟨⟨_, c1⟩, c2⟩, c3⟩ := hc
  obtain ⟨t1, t2⟩ := hv a w ha hw
  have hr : q ∈ Region.ready .any ops listed := by simpa using c1
  have hheld : heldS ops ((q, T) :: held) listed w := fun p hp hj => by
    rcases List.mem_cons.1 hp with rfl | hp
    · exact t1
    · exact hh p hp hj
  have H := h c3 hn _ w (ha.put o.dst v hd) hw ((heldS_quiet ho hq _ _).2 hheld) (closed_set hcl hr) A₀ w₀ hs
  have free := Region.free_spec ho c2
  have H' : wpAnyS P ops (PostQ nt Q A₀ w₀) (heldS ops ((q, T) :: held)) (Cq.length + (C.length + 1) + 1) listed a w :=
    wpAnyS_first (T := holds T) ho (Region.noSelect_spec hn) (fun c a w g => panic_put _ _ c a w g)
      (fun l w' hcl' hun hS => hS (q, T) (List.mem_cons_self ..) fun j hl ⟨oj, hoj, _⟩ => by
        cases e : anc ops q ops.size j with
        | false => rfl
        | true =>
          have := anc_listed hcl' ops.size j oj hoj (hcl' j oj hoj hl) e
          rw [getD_false hun] at this; cases this)
      (fun l w' => heldS_quiet ho hq l w') _ listed a w hcl (fun j oj hoj hne hun hno => free j oj hoj hne hun hno) hr t2 hheld H
  have weaken : ∀ (fuel : Nat) (l : Array Bool) (a : Act) (w : World), wpAnyS P ops (PostQ nt Q A₀ w₀) (heldS ops ((q, T) :: held)) fuel l a w → wpAnyS P ops (PostQ nt Q A₀ w₀) (heldS ops held) fuel l a w := by
    intro fuel
    induction fuel with
    | zero => intro l a w h; exact h
    | succ fuel ih => intro l a w h; exact ⟨h.1, fun j hj => wpOp_mono (fun a' w' h' => ⟨fun p hp => h'.1 p (List.mem_cons_of_mem _ hp), ih _ _ _ h'.2⟩) (h.2 j hj)⟩
  rw [List.length_cons, Nat.add_right_comm]
  exact weaken _ _ _ _ H'
/-- A loud operation's step, whatever else may come up. -/
theorem loud_step {listed : Array Bool} {held : List (Nat × Held)} {i : Nat} {C : List Nat} {o : Oper} {a : Act} {w : World} {A₀ : AH} {w₀ : World} (ho : ops[i]? = some o) (hq : quietOp o.op = false) (hd : ∀ t, o.dst = some t → t < nt) (hwn : ∀ a : Act, ActOk nt f a → Region.wanted o (yielded ops a.tmps) = true)
    (c2 : canon ops (listed.setIfInBounds i true) C = true) (hn : Region.noSelect ops = true) (ha : ActOk nt f a) (hw : View A w) (hcl : Closed ops listed) (hs : Step A₀ w₀ A w) (hr : i ∈ Region.ready .any ops listed)
    (h : ∀ (K : Value → AH → Prop) (Kp : List PanicEntry → AH → Prop),
      (∀ v A', (∀ w', View A' w' → ∀ p ∈ held, anc ops p.1 ops.size i = false → holds p.2 w') → DOps P nt ops Q (listed.setIfInBounds i true) (held.filter fun p => !anc ops p.1 ops.size i) C ⟨putE f.e o.dst v, f.ds⟩ A' → K v A') →
      (∀ ch A', Q (.panic ch) ⟨[], f.ds⟩ A' → Kp ch A') → opV P f.e A o K Kp) :
    wpOp P ops (PostQ nt Q A₀ w₀) i (fun a' w' => heldS ops held (listed.setIfInBounds i true) w' ∧ wpAnyS P ops (PostQ nt Q A₀ w₀) (heldS ops held) C.length (listed.setIfInBounds i true) a' w') a w := by
  have hlt : i < listed.size := by
    have := (mem_ready.1 hr).1
    rcases Nat.lt_or_ge i listed.size with h' | h'
    · exact h'
    · simp [Array.getElem?_eq_none h'] at this
  have hl : (listed.setIfInBounds i true).getD i false = true := by simp [hlt]
  unfold wpOp
  simp only [ho, hwn a ha, if_true]
  left
  have := opV_sound (o := o) (K := fun v A' => (∀ w', View A' w' → ∀ p ∈ held, anc ops p.1 ops.size i = false → holds p.2 w') ∧ DOps P nt ops Q (listed.setIfInBounds i true) (held.filter fun p => !anc ops p.1 ops.size i) C ⟨putE f.e o.dst v, f.ds⟩ A')
    (Kp := fun ch A' => Q (.panic ch) ⟨[], f.ds⟩ A') ha hw (h _ _ (fun v A' g1 g2 => ⟨g1, g2⟩) (fun ch A' g => g))
  unfold Oper.wp at this ⊢
  have up : ∀ r, o.upon P a (After A a w o fun v A' => (∀ w', View A' w' → ∀ p ∈ held, anc ops p.1 ops.size i = false → holds p.2 w') ∧ DOps P nt ops Q (listed.setIfInBounds i true) (held.filter fun p => !anc ops p.1 ops.size i) C ⟨putE f.e o.dst v, f.ds⟩ A') (Behind A a w fun ch A' => Q (.panic ch) ⟨[], f.ds⟩ A') r →
      o.upon P a (fun a' w' => heldS ops held (listed.setIfInBounds i true) w' ∧ wpAnyS P ops (PostQ nt Q A₀ w₀) (heldS ops held) C.length (listed.setIfInBounds i true) a' w') (PostQ nt Q A₀ w₀) r := by
    have next : ∀ a' w', (After A a w o fun v A' => (∀ w', View A' w' → ∀ p ∈ held, anc ops p.1 ops.size i = false → holds p.2 w') ∧ DOps P nt ops Q (listed.setIfInBounds i true) (held.filter fun p => !anc ops p.1 ops.size i) C ⟨putE f.e o.dst v, f.ds⟩ A') a' w' →
        heldS ops held (listed.setIfInBounds i true) w' ∧ wpAnyS P ops (PostQ nt Q A₀ w₀) (heldS ops held) C.length (listed.setIfInBounds i true) a' w' := by
      rintro a' w' ⟨v, A', rfl, hv', hs', g1, g2⟩
      have hlo : V.loud ops i := ⟨o, ho, hq⟩
      have hh' : heldS ops held (listed.setIfInBounds i true) w' := fun p hp hj => g1 w' hv' p hp (hj i hl hlo)
      refine ⟨hh', ?_⟩
      have H := g2 c2 hn _ w' (ha.put o.dst v hd) hv' (fun p hp hj => hh' p (List.mem_filter.1 hp).1 hj) (closed_set hcl hr) A₀ w₀ (hs.trans hs')
      refine wpAnyS_mono (x := i) (fun l w hx hS p hp hj => hS p (List.mem_filter.2 ⟨hp, ?_⟩) hj) _ _ _ _ hl H
      simp [hj i hx hlo]
    have pan : ∀ x a' w', Behind A a w (fun ch A' => Q (.panic ch) ⟨[], f.ds⟩ A') x a' w' → PostQ nt Q A₀ w₀ x a' w' := by
      rintro x a' w' ⟨ch, A', rfl, rfl, hv', hs', g⟩
      exact ⟨⟨[], f.ds⟩, A', ⟨ha.size, (fun _ _ q => by cases q), ha.ds⟩, hv', hs.trans hs', g, fun _ _ => rfl⟩
    intro r hr'
    cases r with
    | ok n w' =>
      cases n <;> simp only [Oper.upon] at hr' ⊢ <;> (try exact hr'.elim)
      case value v => exact next _ _ hr'
      case skip => exact next _ _ hr'
      case defer d => exact next _ _ hr'
      case enter f' args =>
        refine hr'.mono fun e w'' he => ?_
        cases e with
        | returned v => exact next _ _ he
        | panicked ch => exact pan _ _ _ he
        | outgrown => obtain ⟨a₁, w₁, ch, A', q, _⟩ := he; cases q
      case row row args => exact hr'.mono fun v w'' he => next _ _ he
    | halt x w' =>
      cases x <;> simp only [Oper.upon] at hr' ⊢ <;> (try exact hr'.elim)
      case panic v => exact pan _ _ _ hr'
  exact up _ this
variable {e : Env} {ds : List Deferred}
theorem DPair.q {listed : Array Bool} {held : List (Nat × Held)} {i j k d : Nat} {Cq C D : List Nat} {op : Op} {ty : TypeId} {ps : String} {af : Array Edge} {v : Value} {T : Held} (ho : ops[k]? = some { dst := some d, op := op, type := ty, pos := ps, after := af, guard := none }) (hq : quietOp op = true) (hd : Nat.blt d nt = true) (hv : quietV P e A op = some (v, T))
    (h : DPair P nt ops Q (listed.setIfInBounds k true) ((k, T) :: held) Cq i j C D ⟨(d, v) :: e, ds⟩ A) : DPair P nt ops Q listed held (k :: Cq) i j C D ⟨e, ds⟩ A :=
  DPair.quiet (f := ⟨e, ds⟩) (T := T) (v := v) ho hq (dstOk_spec (d := some d) hd) (fun a w ha hw => by
    have key := quietV_sound (P := P) (f := (⟨e, ds⟩ : Fr)) (o := { dst := some d, op := op, type := ty, pos := ps, after := af, guard := none }) hv ha hw
    exact ⟨key.1, .inl ⟨by simp [Region.wanted], key.2⟩⟩) h
theorem DPair.both {listed : Array Bool} {held : List (Nat × Held)} {i j : Nat} {C D : List Nat} {di dj : Option Nat} {opi opj : Op} {ti tj : TypeId} {pi pj : String} {afi afj : Array Edge}
    (hoi : ops[i]? = some { dst := di, op := opi, type := ti, pos := pi, after := afi, guard := none }) (hoj : ops[j]? = some { dst := dj, op := opj, type := tj, pos := pj, after := afj, guard := none }) (hqi : quietOp opi = false) (hqj : quietOp opj = false) (hdi : dstOk nt di = true) (hdj : dstOk nt dj = true)
    (hi : ∀ (K : Value → AH → Prop) (Kp : List PanicEntry → AH → Prop), (∀ v A', HeldNow ops held i A' → DOps P nt ops Q (listed.setIfInBounds i true) (held.filter fun p => !anc ops p.1 ops.size i) C ⟨putE e di v, ds⟩ A' → K v A') →
      (∀ ch A', Q (.panic ch) ⟨[], ds⟩ A' → Kp ch A') → opV P e A { dst := di, op := opi, type := ti, pos := pi, after := afi, guard := none } K Kp)
    (hj : ∀ (K : Value → AH → Prop) (Kp : List PanicEntry → AH → Prop), (∀ v A', HeldNow ops held j A' → DOps P nt ops Q (listed.setIfInBounds j true) (held.filter fun p => !anc ops p.1 ops.size j) D ⟨putE e dj v, ds⟩ A' → K v A') →
      (∀ ch A', Q (.panic ch) ⟨[], ds⟩ A' → Kp ch A') → opV P e A { dst := dj, op := opj, type := tj, pos := pj, after := afj, guard := none } K Kp) : DPair P nt ops Q listed held [] i j C D ⟨e, ds⟩ A := by
  intro hc hn a w ha hw hh hcl A₀ w₀ hs
  simp only [canonP, Bool.and_eq_true, beq_iff_eq] at hc
  obtain ⟨⟨⟨c1, c2⟩, c3⟩, c4⟩ := hc
  rw [List.length_nil, Nat.zero_add]
  refine ⟨fun h0 => (by rw [c1] at h0; cases h0), fun k hk => ?_⟩
  have hk' := hk
  rw [c1] at hk'
  simp only [List.mem_cons, List.not_mem_nil, or_false] at hk'
  rcases hk' with rfl | rfl
  · exact loud_step (C := C) hoi hqi (dstOk_spec hdi) (fun a _ => by simp [Region.wanted]) c2 hn ha hw hcl hs hk hi
  · rw [c4]; exact loud_step (C := D) hoj hqj (dstOk_spec hdj) (fun a _ => by simp [Region.wanted]) c3 hn ha hw hcl hs hk hj
theorem Run.drawnP {id : Nat} (Cq : List Nat) (i j : Nat) (C D : List Nat) (hm : P.follows .mixedOrders = true) (hc : canonP ops (Array.replicate ops.size false) Cq i j C D = true) (hn : Region.noSelect ops = true) (hl : Cq.length + (C.length + 1) = ops.size)
    (h : DPair P nt ops Q (Array.replicate ops.size false) [] Cq i j C D f A) : Run P nt (.region id ops true) Q f A := by
  intro a w ha hw
  obtain ⟨v1, s1⟩ := view_drawn hw
  refine wp_region_any hm (wpAny_of_S (S := heldS ops []) _ _ _ _ ?_)
  have key := h hc hn a _ ha v1 (fun p hp => by cases hp) (fun j o _ hj => by
    exfalso
    rcases Nat.lt_or_ge j ops.size with q | q
    · simp [q] at hj
    · simp [q] at hj) A w s1
  rw [hl] at key
  exact key
end
end V
end Go.Proofs.YtaccklloepfemaaDoor

namespace Go.Proofs.YtaccklloepfemaaDoor
open Go Go.RowKit V
set_option maxRecDepth 100000
set_option linter.unusedVariables false
set_option linter.unusedSimpArgs false


theorem s_turnz (br : Nat) (S : RS) (w : List UInt8) (A : AH) (hR : Rules A br S) (hS : RSok S) (hw : w.length ≤ 1000000) : RetA Tryd.prog 40 #[.pointer (some ⟨br, 0, none⟩), str w] A (fun v A1 => ∃ z : Int, v = num z ∧ A.le A1 ∧ A1.wf ∧ z = dturn S.list w) :=
  (s_turn br S w A hR hS hw).mono fun _ _ h => ⟨_, h.1, h.2.1, h.2.2, rfl⟩


theorem s_Cy (g : Int) (u : Value) (l : List (List UInt8)) (w : List UInt8) (A : AH) (hn : l.length ≤ 1000000) (hL : Lets A) (hw : w.length ≤ 100000) (hu : Slc A 1 u (strs l)) : RetA Tryd.prog 20 #[.agg #[num (g), u], str (w)] A (fun v A1 => ∃ W d cj c dv, v = .tuple #[.agg #[str W, num ((d.length : Nat) : Int), dv], str cj, num ((c : Nat) : Int)] ∧ A.le A1 ∧ A1.wf ∧ Fresh A A1 dv 3 (dcells d) ∧ CyR g l w (W, d, cj, c)) := by
 refine enterA (e := [(0, .agg #[num (g), u]), (1, str (w))]) (args := [.agg #[num (g), u], str (w)]) Tryd.call20 Tryd.func20 rfl Tryd.results20 Tryd.ntmps20 rfl rfl rfl (fun wf => ?_)
 have le_ := AH.le.refl A
 refine Run.seq fun K1 h2 => .region <| .l rfl (fun _ _ hk3 _ => wbox wf rfl rfl fun A5 b4 nb6 => ?_)
 have le7 := le_.trans nb6.le
 refine hk3 _ _ <| .l rfl (fun _ _ hk8 _ => walloc nb6.wf z46 rfl fun A10 b9 nb11 => ?_)
 have ge_b9 := none_of wf (Nat.le_trans le7.n nb11.lo)
 have h12 := nb11.le.get _ _ nb6.get
 have le13 := le7.trans nb11.le
 refine hk8 _ _ <| .q rfl (qassign rfl) <| .q rfl (qassign rfl) <| .nil <| h2 _ _ <| .seq fun K14 h15 => .seq fun K16 h17 => .region <| .q rfl (qloadAggAt ag24 sz24 rfl rfl h12 rfl) <| .q rfl (qmove rfl) ?_
 refine Ops.l rfl (fun _ _ hk18 _ => vcallF rfl (s_refused ((g)) u l w A10 (by omega) (hL.le le13) (by first | omega | (have := hd0.1; omega)) (hu.le le13)) ?_)
 rintro v19 A20 ⟨rfl, leq21, wfq21⟩
 have h22 := leq21.get _ _ h12
 have h23 := leq21.get _ _ nb11.get
 have le24 := le13.trans leq21
 refine hk18 _ _ <| .q rfl (qassign rfl) <| .nil <| h17 _ _ <| .seq fun K25 h26 => .region <| .q rfl (qmove rfl) <| .q rfl (qneqN (b := 0) rfl rfl) <| .nil <| h26 _ _ ?_
 refine Run.if rfl (fun p27 => ?_) (fun p27 => ?_)
 ·
  refine Run.seq fun K28 h29 => .region <| .q rfl (qbuild rfl (buildV_struct u46 z46 pl46 rfl)) <| .q rfl (qmove rfl) <| .l rfl (fun _ _ hk30 _ => wstore (cs := [str ([]), num ((0 : Nat) : Int), .slice none 0 0]) (c' := [str ([]), num ((0 : Nat) : Int), .slice none 0 0]) wfq21 rfl rfl rfl rfl sz46 h23 (Nat.le_of_ble_eq_true rfl) rfl rfl fun A31 sb32 => ?_)
  have le34 := le_store le24 wf ge_b9 sb32.n sb32.keep
  refine hk30 _ _ <| .q rfl (qassign rfl) <| .q rfl (qassign rfl) <| .nil <| h29 _ _ <| .ret ?_
  repeat first | with_reducible refine thenQ_ret ?_ | with_reducible refine blockQ_ret ?_
  exact retQ (resCell ag46 sz46 rfl sb32.get rfl (resTmp rfl (resTmp rfl resNil))) (⟨[], [], [], rasked ((g)) l w, _, rfl, le34, sb32.wf, Fresh.nil _ _ _, CyR.no ‹¬ rasked g l w = 0›⟩)
 ·
  refine Run.skip <| h15 _ _ <| .seq fun K35 h36 => .region <| .q rfl (qloadAggAt ag24 sz24 rfl rfl h22 rfl) <| .l rfl (fun _ _ hk37 _ => vcallF rfl (s_newRules ((g)) u l A20 (hL.le le24) (rasked_pres ‹¬ ¬ rasked g l w = 0›) (hu.le le24)) ?_)
  rintro v38 A39 ⟨brq40, Sq40, rfl, leq40, wfq40, hRq40, hSq40, hPq40, hWq40⟩
  have h42 := leq40.get _ _ h23
  have le43 := le24.trans leq40
  have hR := hRq40
  have hS := hSq40
  have hP := hPq40
  have hW := hWq40
  have hRlq40 := Rules.all hRq40
  have leRq40 := le43
  have hSOq40 : SOk l Sq40 := ⟨hSq40, hPq40, hWq40⟩
  have leC : A.le (A39.hide [some b9]) := le_hide le43 (hoB ge_b9 ho0)
  have wfC := hide_wf (bs := [some b9]) wfq40
  have leCA := hide_le A39 [some b9]
  have hRC := hRq40 [some b9] (fun b hb => by simp at hb; subst hb; exact ⟨_, h23⟩)
  refine hk37 _ _ <| .q rfl (qassign rfl) <| .nil <| h36 _ _ <| .seq fun K45 h46 => .region <| .q rfl (qmove rfl) <| .q rfl (qmove rfl) <| .l rfl (fun _ _ hk47 _ => vcallF rfl (s_dshort brq40 Sq40 w A39 (hRC.le leCA) hSq40 ((hL.le leC).le leCA) (by first | (have := (rasked_word ‹¬ ¬ rasked g l w = 0›).2; omega) | (rw [rot_length]; omega))) ?_)
  rintro v48 A49 ⟨dvq50, rfl, leq50, wfq50, frq50⟩
  have h51 := leq50.get _ _ h42
  have le52 := leCA.trans leq50
  have fr53 := frq50.base leCA
  have no54 := frq50.ne wfq40 h42
  refine hk47 _ _ <| .l rfl (fun _ _ hk55 _ => walloc wfq50 z46 rfl fun A57 b56 nb58 => ?_)
  have ne_b9_b56 := ne_new wfq50 h51 nb58.lo
  have no59 := fr53.own.ne_new wfq50 nb58.lo
  have ge_b56 := none_of wfC (Nat.le_trans le52.n nb58.lo)
  have h60 := nb58.le.get _ _ h51
  have fr61 := fr53.le nb58.le
  have le62 := le52.trans nb58.le
  refine hk55 _ _ ?_
  obtain ⟨p64, l64, c64, q64, _⟩ := fr61.own.slice
  subst q64
  refine Ops.l rfl (fun _ _ hk63 _ => wstore (cs := [str ((dsh Sq40 w).1), num (((dsh Sq40 w).2.length : Nat) : Int), .slice p64 l64 c64]) (c' := [str ((dsh Sq40 w).1), num (((dsh Sq40 w).2.length : Nat) : Int), .slice p64 l64 c64]) nb58.wf rfl rfl rfl rfl sz46 nb58.get (Nat.le_of_ble_eq_true rfl) rfl rfl fun A65 sb66 => ?_)
  have h67 := sb66.keep _ _ ne_b9_b56 h60
  have fr68 := fr61.keep sb66.keep no59
  have le69 := le_store le62 wfC ge_b56 sb66.n sb66.keep
  refine hk63 _ _ <| .nil ?_
  have hd0 := dsh_all hSq40 (w := w) (by have := (rasked_word ‹¬ ¬ rasked g l w = 0›).2; omega)
  have hw5 := (rasked_word ‹¬ ¬ rasked g l w = 0›).2
  refine h46 _ _ <| .seq fun K70 h71 => .region <| .q rfl (qfieldAddr fl46_0 sz9 (by decide) rfl) <| .q rfl (qloadAt ag9 rfl rfl sb66.get rfl) <| .l rfl (fun _ _ hk72 _ => vcallF rfl (s_Cyclic ((dsh Sq40 w).1) A65 (by first | omega | (have := hd0.1; omega)) ((hL.le leC).le le69)) ?_)
  rintro v73 A74 ⟨rfl, leq75, wfq75⟩
  have h76 := leq75.get _ _ h67
  have h77 := leq75.get _ _ sb66.get
  have fr78 := fr68.le leq75
  have le79 := le69.trans leq75
  refine hk72 _ _ <| .q rfl (qmove rfl) <| .q rfl (qextract rfl rfl) <| .q rfl (qextract rfl rfl) <| .q rfl (qassign rfl) <| .q rfl (qassign rfl) <| .nil <| h71 _ _ <| .block <| .loop (X := Nat × List UInt8 × List UInt8 × Nat × List DCell × Value) (fun ⟨f, r, cj, n, d, cv⟩ => [(4, .pointer (some ⟨b9, 0, none⟩)), (8, .pointer (some ⟨brq40, 0, none⟩)), (9, .pointer (some ⟨b56, 0, none⟩)), (10, str (r)), (11, str (cj))]) (fun ⟨f, r, cj, n, d, cv⟩ B => (cyF Sq40 f r cj d = cyOf Sq40 w ∧ r.length < f ∧ r.length ≤ 6000 ∧ d.length + r.length ≤ 12000 ∧ n = d.length ∧ cj.length ≤ 100000 ∧ ∀ c ∈ d, c.conj.length ≤ 100000) ∧ (A39.hide [some b9]).le B ∧ Fresh (A39.hide [some b9]) B cv 3 (dcells d) ∧ B.get b56 = some (.row true [str ((dsh Sq40 w).1), num ((n : Nat) : Int), cv] 3) ∧ B.get b9 = some (.row true [str ([]), num ((0 : Nat) : Int), .slice none 0 0] 3) ∧ V.blk cv ≠ some b56 ∧ V.blk cv ≠ some b9) (fun ⟨f, r, cj, n, d, cv⟩ => r.length) (⟨(wCore (dsh Sq40 w).1).length + 1, wCore (dsh Sq40 w).1, wConj (dsh Sq40 w).1, (dsh Sq40 w).2.length, (dsh Sq40 w).2, .slice p64 l64 c64⟩) (EnvLe.cons rfl <| EnvLe.cons rfl <| EnvLe.cons rfl <| EnvLe.cons rfl <| EnvLe.cons rfl <| EnvLe.nil _) (⟨⟨rfl, by omega, by have := wCore_length (dsh Sq40 w).1; omega, by have := wCore_length (dsh Sq40 w).1; omega, rfl, by have := wConj_length (dsh Sq40 w).1; omega, fun c hc => Nat.le_trans (hd0.2.2 c hc) (by decide)⟩, le79, fr78, h77, h76, no59, no54⟩) ?_
  rintro ⟨f, r, cj, n, d, cv⟩ B81 ⟨⟨hcy, hf, hr, hdr, hnd, hcj, hdc⟩, le80, fr_cv80, hr_b5680, hr_b980, no_cv_b5680, no_cv_b980⟩
  refine Run.wf fun wf82 => .block <| .seq fun K83 h84 => .region <| .q rfl (qmove rfl) <| .q rfl (qmove rfl) <| .l rfl (fun _ _ hk85 _ => vcallF rfl (s_turnz brq40 Sq40 r B81 (hRC.le le80) hSq40 (by omega)) ?_)
  rintro v86 A87 ⟨zq88, rfl, leq88, wfq88, hzq88⟩
  have h89 := leq88.get _ _ hr_b5680
  have h90 := leq88.get _ _ hr_b980
  have fr91 := fr_cv80.le leq88
  have le92 := le80.trans leq88
  have hz := hzq88
  refine hk85 _ _ <| .q rfl (qassign rfl) <| .nil <| h84 _ _ <| .seq fun K93 h94 => .seq fun K95 h96 => .region <| .q rfl (qmove rfl) <| .q rfl (qlss rfl rfl) <| .nil ?_
  refine h96 _ _ <| .if rfl (fun p97 => ?_) (fun p97 => ?_)
  ·
   refine Run.seq fun K98 h99 => .seq fun K100 h101 => .region <| .q rfl (qfieldAddr fl46_2 sz30 (by decide) rfl) <| .q rfl (qloadAt ag30 rfl rfl h89 rfl) <| .l rfl (fun _ _ hk102 _ => vcallF rfl (s_heavy cv d A87 (by omega) (by have h1 := conjs_le hdc; have : d.length * 100000 ≤ 12000 * 100000 := Nat.mul_le_mul_right _ (by omega); omega) fr91.slc) ?_)
   rintro v103 A104 ⟨rfl, leq105, wfq105⟩
   have h106 := leq105.get _ _ h89
   have h107 := leq105.get _ _ h90
   have fr108 := fr91.le leq105
   have le109 := le92.trans leq105
   refine hk102 _ _ <| .nil <| h101 _ _ <| .if rfl (fun p110 => ?_) (fun p110 => ?_)
   ·
    refine Run.seq fun K111 h112 => .region <| .q rfl (qbuild rfl (buildV_struct u46 z46 pl46 rfl)) <| .l rfl (fun _ _ hk113 _ => wstore (cs := [str ([]), num ((0 : Nat) : Int), .slice none 0 0]) (c' := [str ([]), num ((0 : Nat) : Int), .slice none 0 0]) wfq105 rfl rfl rfl rfl sz46 h107 (Nat.le_of_ble_eq_true rfl) rfl rfl fun A114 sb115 => ?_)
    have le118 := le_store le109 wfC (hide_none (by simp)) sb115.n sb115.keep
    refine hk113 _ _ <| .q rfl (qassign rfl) <| .q rfl (qassign rfl) <| .nil <| h112 _ _ <| .ret ?_
    repeat first | with_reducible refine thenQ_ret ?_ | with_reducible refine blockQ_ret ?_
    exact retQ (resCell ag46 sz46 rfl sb115.get rfl (resTmp rfl (resTmp rfl resNil))) (⟨[], [], [], 2, _, (by first | rfl | (rw [hnd]; rfl)), leC.trans le118, sb115.wf, Fresh.nil _ _ _, CyR.ok ‹¬ ¬ rasked g l w = 0› hSOq40 (by first | exact (cyF_end (by omega) (by omega) hcy).trans (if_pos ‹1000000 < conjs d ∨ 100000 < d.length›) | exact cyF_no1 hz (by omega) hcy (fitsJ_no (j := k) (by omega) (by omega)) | exact cyF_no2 hz (by omega) hcy (fitsJ_yes (by omega) hfit) (by omega))⟩)
   ·
    refine Run.skip <| h99 _ _ <| .seq fun K119 h120 => .region <| .q rfl (qmove rfl) <| .q rfl (qfieldAddr fl46_0 sz9 (by decide) rfl) <| .l rfl (fun _ _ hk121 _ => wstore (cs := [str (r)]) (c' := [str (r), num ((n : Nat) : Int), cv]) wfq105 rfl rfl rfl rfl sz9 h106 (Nat.le_of_ble_eq_true rfl) rfl rfl fun A122 sb123 => ?_)
    have h124 := sb123.keep _ _ ne_b9_b56 h107
    have fr125 := fr108.keep sb123.keep no_cv_b5680
    have le126 := le_store le109 wfC ge_b56 sb123.n sb123.keep
    refine hk121 _ _ <| .nil <| h120 _ _ <| .seq fun K127 h128 => .region <| .q rfl (qloadAggAt ag46 sz46 rfl rfl sb123.get rfl) <| .q rfl (qmove rfl) ?_
    obtain ⟨p130, l130, c130, q130, _⟩ := fr125.own.slice
    subst q130
    refine Ops.l rfl (fun _ _ hk129 _ => wstore (cs := [str (r), num ((n : Nat) : Int), .slice p130 l130 c130]) (c' := [str (r), num ((n : Nat) : Int), .slice p130 l130 c130]) sb123.wf rfl rfl rfl rfl sz46 h124 (Nat.le_of_ble_eq_true rfl) rfl rfl fun A131 sb132 => ?_)
    have fr134 := fr125.keep sb132.keep no_cv_b980
    have le135 := le_store le126 wfC (hide_none (by simp)) sb132.n sb132.keep
    refine hk129 _ _ <| .q rfl (qassign rfl) <| .q rfl (qassign rfl) <| .nil <| h128 _ _ <| .ret ?_
    repeat first | with_reducible refine thenQ_ret ?_ | with_reducible refine blockQ_ret ?_
    exact retQ (resCell ag46 sz46 rfl sb132.get rfl (resTmp rfl (resTmp rfl resNil))) (⟨r, d, cj, 0, _, (by first | rfl | (rw [hnd]; rfl)), leC.trans le135, sb132.wf, fr134.base leC, CyR.ok ‹¬ ¬ rasked g l w = 0› hSOq40 ((cyF_end (by omega) (by omega) hcy).trans (if_neg ‹¬ (1000000 < conjs d ∨ 100000 < d.length)›))⟩)
  ·
   refine Run.skip <| h94 _ _ <| .seq fun K136 h137 => .region <| .q rfl (qassign rfl) <| .q rfl (qassign rfl) <| .q rfl (qassign rfl) <| .nil ?_
   obtain ⟨kt, hkt⟩ : ∃ kt : Nat, zq88 = ((kt : Nat) : Int) := ⟨zq88.toNat, by omega⟩
   subst hkt
   have htl := turn_lt hz
   have hda := dsh_all hSq40 (w := rot r kt) (by rw [rot_length]; omega)
   rw [rot_length] at hda
   have hj1 := jnd_len cj (r.take kt)
   rw [List.length_take] at hj1
   have hj2 := jnd_len (jnd cj (r.take kt)) (wConj (dsh Sq40 (rot r kt)).1)
   have hwc := wConj_length (dsh Sq40 (rot r kt)).1
   have hwk := wCore_length (dsh Sq40 (rot r kt)).1
   refine h137 _ _ <| .seq fun K138 h139 => .region <| .q rfl (qmove rfl) <| .q rfl (qmove rfl) <| .q rfl (qmove rfl) <| .q rfl (qslHi u9 rfl rfl (by omega)) <| .l rfl (fun _ _ hk140 _ => vcallF rfl (s_joined cj (r.take kt) A87 (by first | omega | (rw [List.length_take]; omega)) (by first | omega | (rw [List.length_take]; omega))) ?_)
   rintro v141 A142 ⟨rfl, rfl⟩
   refine hk140 _ _ <| .q rfl (qmove rfl) <| .q rfl (qextract rfl rfl) <| .q rfl (qextract rfl rfl) <| .q rfl (qassign rfl) <| .q rfl (qassign rfl) <| .nil <| h139 _ _ <| .seq fun K144 h145 => .drawnP [0, 1, 2, 3, 4, 5, 6, 7] 8 9 [9, 10] [8, 10] mixed (by kernel_rfl) (by kernel_rfl) rfl ?_
   refine DPair.q rfl rfl rfl (qmove rfl) <| .q rfl rfl rfl (qmove rfl) <| .q rfl rfl rfl (qmove rfl) <| .q rfl rfl rfl (qslLo u9 rfl rfl (by omega)) <| .q rfl rfl rfl (qmove rfl) <| .q rfl rfl rfl (qmove rfl) <| .q rfl rfl rfl (qslHi u9 rfl rfl (by omega)) <| .q rfl rfl rfl (qsadd rfl rfl (by (try simp only [List.length_append, List.length_drop, List.length_take]); omega)) <| .both rfl rfl rfl rfl rfl rfl ?_ ?_
   ·
    refine fun _ _ hk146 _ => vcallF rfl (s_dshort brq40 Sq40 (rot r kt) A87 (hRC.le le92) hSq40 ((hL.le leC).le le92) (by first | (have := (rasked_word ‹¬ ¬ rasked g l w = 0›).2; omega) | (rw [rot_length]; omega))) ?_
    rintro v147 A148 ⟨dvq149, rfl, leq149, wfq149, frq149⟩
    have h150 := leq149.get _ _ h89
    have h151 := leq149.get _ _ h90
    have fr152 := fr91.le leq149
    have le153 := le92.trans leq149
    have fr154 := frq149.base le92
    have sp155 := frq149.sep0 fr91.own
    have no156 := frq149.ne wfq88 h89
    have no157 := frq149.ne wfq88 h90
    refine hk146 _ _ (HeldNow.none (by kernel_rfl)) <| .l rfl rfl rfl (fun _ _ hk158 _ => walloc wfq149 z46 rfl fun A160 b159 nb161 => ?_)
    have ne_b56_b159 := ne_new wfq149 h150 nb161.lo
    have ne_b9_b159 := ne_new wfq149 h151 nb161.lo
    have no162 := fr152.own.ne_new wfq149 nb161.lo
    have no163 := fr154.own.ne_new wfq149 nb161.lo
    have ge_b159 := none_of wfC (Nat.le_trans le153.n nb161.lo)
    have h164 := nb161.le.get _ _ h150
    have h165 := nb161.le.get _ _ h151
    have fr166 := fr152.le nb161.le
    have fr167 := fr154.le nb161.le
    have le168 := le153.trans nb161.le
    refine hk158 _ _ (HeldNow.none (by kernel_rfl)) ?_
    obtain ⟨p170, l170, c170, q170, _⟩ := fr167.own.slice
    subst q170
    refine DOps.l rfl rfl rfl (fun _ _ hk169 _ => wstore (cs := [str ((dsh Sq40 (rot r kt)).1), num (((dsh Sq40 (rot r kt)).2.length : Nat) : Int), .slice p170 l170 c170]) (c' := [str ((dsh Sq40 (rot r kt)).1), num (((dsh Sq40 (rot r kt)).2.length : Nat) : Int), .slice p170 l170 c170]) nb161.wf rfl rfl rfl rfl sz46 nb161.get (Nat.le_of_ble_eq_true rfl) rfl rfl fun A171 sb172 => ?_)
    have h173 := sb172.keep _ _ ne_b56_b159 h164
    have h174 := sb172.keep _ _ ne_b9_b159 h165
    have fr175 := fr166.keep sb172.keep no162
    have fr176 := fr167.keep sb172.keep no163
    have le177 := le_store le168 wfC ge_b159 sb172.n sb172.keep
    refine hk169 _ _ (HeldNow.none (by kernel_rfl)) <| .done <| h145 _ _ <| .seq fun K178 h179 => .seq fun K180 h181 => .region <| .q rfl (qfieldAddr fl46_2 sz30 (by decide) rfl) <| .q rfl (qloadAt ag30 rfl rfl sb172.get rfl) <| .q rfl (qlenS (n := ((dsh Sq40 (rot r kt)).2).length) u30 rfl fr176.slc (by omega) (dcells_len _)) <| .q rfl (qmove rfl) ?_
    refine Ops.nil <| h181 _ _ <| .block <| .loop (X := Nat × List DCell × Value) (fun ⟨k, e, ev⟩ => [(4, .pointer (some ⟨b9, 0, none⟩)), (8, .pointer (some ⟨brq40, 0, none⟩)), (9, .pointer (some ⟨b56, 0, none⟩)), (11, str (jnd cj (r.take kt))), (13, .bool (decide ((jnd cj (r.take kt)).length ≤ 100000))), (16, .pointer (some ⟨b159, 0, none⟩)), (70, .slice p170 l170 c170), (71, num ((((dsh Sq40 (rot r kt)).2).length : Nat) : Int)), (72, num ((k : Nat) : Int))]) (fun ⟨k, e, ev⟩ B => (k ≤ (dsh Sq40 (rot r kt)).2.length ∧ e = d ++ ((dsh Sq40 (rot r kt)).2.take k).map (cellJ (jnd cj (r.take kt))) ∧ ∀ j, j < k → (jnd (jnd cj (r.take kt)) ((dsh Sq40 (rot r kt)).2.getD j .zero).conj).length ≤ 100000) ∧ (A39.hide [some b9]).le B ∧ Fresh (A39.hide [some b9]) B ev 3 (dcells e) ∧ Fresh (A39.hide [some b9]) B (.slice p170 l170 c170) 3 (dcells ((dsh Sq40 (rot r kt)).2)) ∧ B.get b56 = some (.row true [str ((dsh Sq40 w).1), num ((n : Nat) : Int), ev] 3) ∧ B.get b9 = some (.row true [str ([]), num ((0 : Nat) : Int), .slice none 0 0] 3) ∧ B.get b159 = some (.row true [str ((dsh Sq40 (rot r kt)).1), num (((dsh Sq40 (rot r kt)).2.length : Nat) : Int), .slice p170 l170 c170] 3) ∧ V.blk ev ≠ some b56 ∧ V.blk (.slice p170 l170 c170) ≠ some b56 ∧ V.blk ev ≠ some b9 ∧ V.blk (.slice p170 l170 c170) ≠ some b9 ∧ V.blk ev ≠ some b159 ∧ V.blk (.slice p170 l170 c170) ≠ some b159 ∧ Sep ev (.slice p170 l170 c170)) (fun ⟨k, e, ev⟩ => (dsh Sq40 (rot r kt)).2.length - k) (⟨0, d, cv⟩) (EnvLe.cons rfl <| EnvLe.cons rfl <| EnvLe.cons rfl <| EnvLe.cons rfl <| EnvLe.cons rfl <| EnvLe.cons rfl <| EnvLe.cons rfl <| EnvLe.cons rfl <| EnvLe.cons rfl <| EnvLe.nil _) (⟨⟨Nat.zero_le _, (List.append_nil _).symm, fun j h => by omega⟩, le177, fr175, fr176, h173, h174, sb172.get, no_cv_b5680, no156, no_cv_b980, no157, no162, no163, (Sep.symm sp155)⟩) ?_
    rintro ⟨k, e, ev⟩ B183 ⟨⟨hk, he, hfit⟩, le182, fr_ev182, fk_oq149182, hr_b56182, hr_b9182, hr_b159182, no_ev_b56182, no_oq149_b56182, no_ev_b9182, no_oq149_b9182, no_ev_b159182, no_oq149_b159182, sq182_0_1⟩
    refine Run.wf fun wf184 => ?_
    have hel : e.length = d.length + k := by rw [he, List.length_append, List.length_map, List.length_take]; omega
    have hgc := getD_conj hda.2.2 k
    refine Run.seq fun K185 h186 => .region <| .q rfl (qlssN rfl rfl) <| .nil <| h186 _ _ <| .seq fun K187 h188 => .if rfl (fun p189 => ?_) (fun p189 => ?_)
    ·
     refine Run.skip <| h188 _ _ <| .seq fun K190 h191 => .block <| .seq fun K192 h193 => .region ?_
     obtain ⟨b194, f194, rw194, r194, rc194, n194, k194, e194, l194, g194, cl194, cs194⟩ := Slc.at (i := k) fk_oq149182.slc (by simp only [dcells_length]; omega) (by omega)
     refine Ops.q rfl (qindexS u30 sz71 rfl e194 rfl l194) <| .q rfl (qloadAggAt ag71 sz71 rfl rfl g194 (cl194.trans (congrArg some (dcells_at (by omega))))) <| .l rfl (fun _ _ hk195 _ => walloc wf184 z71 rfl fun A197 b196 nb198 => ?_)
     have ne_b56_b196 := ne_new wf184 hr_b56182 nb198.lo
     have ne_b9_b196 := ne_new wf184 hr_b9182 nb198.lo
     have ne_b159_b196 := ne_new wf184 hr_b159182 nb198.lo
     have no199 := fr_ev182.own.ne_new wf184 nb198.lo
     have no200 := fk_oq149182.own.ne_new wf184 nb198.lo
     have ge_b196 := none_of wfC (Nat.le_trans le182.n nb198.lo)
     have h201 := nb198.le.get _ _ hr_b56182
     have h202 := nb198.le.get _ _ hr_b9182
     have h203 := nb198.le.get _ _ hr_b159182
     have fr204 := fr_ev182.le nb198.le
     have fr205 := fk_oq149182.le nb198.le
     have le206 := le182.trans nb198.le
     refine hk195 _ _ <| .l rfl (fun _ _ hk207 _ => wstore (cs := [str ((((dsh Sq40 (rot r kt)).2).getD k .zero).conj), num ((((dsh Sq40 (rot r kt)).2).getD k .zero).rel), .bool ((((dsh Sq40 (rot r kt)).2).getD k .zero).inv)]) (c' := [str ((((dsh Sq40 (rot r kt)).2).getD k .zero).conj), num ((((dsh Sq40 (rot r kt)).2).getD k .zero).rel), .bool ((((dsh Sq40 (rot r kt)).2).getD k .zero).inv)]) nb198.wf rfl rfl rfl rfl sz71 nb198.get (Nat.le_of_ble_eq_true rfl) rfl rfl fun A208 sb209 => ?_)
     have h210 := sb209.keep _ _ ne_b56_b196 h201
     have h211 := sb209.keep _ _ ne_b9_b196 h202
     have h212 := sb209.keep _ _ ne_b159_b196 h203
     have fr213 := fr204.keep sb209.keep no199
     have fr214 := fr205.keep sb209.keep no200
     have le215 := le_store le206 wfC ge_b196 sb209.n sb209.keep
     refine hk207 _ _ <| .nil <| h193 _ _ <| .seq fun K216 h217 => .region <| .q rfl (qmove rfl) <| .q rfl (qfieldAddr fl71_0 sz9 (by decide) rfl) <| .q rfl (qloadAt ag9 rfl rfl sb209.get rfl) <| .l rfl (fun _ _ hk218 _ => vcallF rfl (s_joined (jnd cj (r.take kt)) ((((dsh Sq40 (rot r kt)).2).getD k .zero).conj) A208 (by first | omega | (rw [List.length_take]; omega)) (by first | omega | (rw [List.length_take]; omega))) ?_)
     rintro v219 A220 ⟨rfl, rfl⟩
     refine hk218 _ _ <| .q rfl (qmove rfl) <| .q rfl (qextract rfl rfl) <| .q rfl (qextract rfl rfl) <| .q rfl (qfieldAddr fl71_0 sz9 (by decide) rfl) <| .l rfl (fun _ _ hk222 _ => wstore (cs := [str (jnd (jnd cj (r.take kt)) ((((dsh Sq40 (rot r kt)).2).getD k .zero).conj))]) (c' := [str (jnd (jnd cj (r.take kt)) ((((dsh Sq40 (rot r kt)).2).getD k .zero).conj)), num ((((dsh Sq40 (rot r kt)).2).getD k .zero).rel), .bool ((((dsh Sq40 (rot r kt)).2).getD k .zero).inv)]) sb209.wf rfl rfl rfl rfl sz9 sb209.get (Nat.le_of_ble_eq_true rfl) rfl rfl fun A223 sb224 => ?_)
     have h225 := sb224.keep _ _ ne_b56_b196 h210
     have h226 := sb224.keep _ _ ne_b9_b196 h211
     have h227 := sb224.keep _ _ ne_b159_b196 h212
     have fr228 := fr213.keep sb224.keep no199
     have fr229 := fr214.keep sb224.keep no200
     have le230 := le_store le215 wfC ge_b196 sb224.n sb224.keep
     refine hk222 _ _ <| .q rfl (qassign rfl) <| .nil <| h217 _ _ <| .seq fun K231 h232 => .seq fun K233 h234 => .region <| .q rfl (qmove rfl) <| .q rfl (qnotP rfl) <| .nil ?_
     refine h234 _ _ <| .if rfl (fun p235 => ?_) (fun p235 => ?_)
     ·
      refine Run.seq fun K236 h237 => .region <| .q rfl (qbuild rfl (buildV_struct u46 z46 pl46 rfl)) <| .l rfl (fun _ _ hk238 _ => wstore (cs := [str ([]), num ((0 : Nat) : Int), .slice none 0 0]) (c' := [str ([]), num ((0 : Nat) : Int), .slice none 0 0]) sb224.wf rfl rfl rfl rfl sz46 h226 (Nat.le_of_ble_eq_true rfl) rfl rfl fun A239 sb240 => ?_)
      have le246 := le_store le230 wfC (hide_none (by simp)) sb240.n sb240.keep
      refine hk238 _ _ <| .q rfl (qassign rfl) <| .q rfl (qassign rfl) <| .nil <| h237 _ _ <| .ret ?_
      repeat first | with_reducible refine thenQ_ret ?_ | with_reducible refine blockQ_ret ?_
      exact retQ (resCell ag46 sz46 rfl sb240.get rfl (resTmp rfl (resTmp rfl resNil))) (⟨[], [], [], 2, _, (by first | rfl | (rw [hnd]; rfl)), leC.trans le246, sb240.wf, Fresh.nil _ _ _, CyR.ok ‹¬ ¬ rasked g l w = 0› hSOq40 (by first | exact (cyF_end (by omega) (by omega) hcy).trans (if_pos ‹1000000 < conjs d ∨ 100000 < d.length›) | exact cyF_no1 hz (by omega) hcy (fitsJ_no (j := k) (by omega) (by omega)) | exact cyF_no2 hz (by omega) hcy (fitsJ_yes (by omega) hfit) (by omega))⟩)
     ·
      refine Run.skip <| h232 _ _ <| .region <| .q rfl (qfieldAddr fl46_2 sz30 (by decide) rfl) <| .q rfl (qloadAt ag30 rfl rfl h225 rfl) <| .q rfl (qloadAggAt ag71 sz71 rfl rfl sb224.get rfl) <| .l rfl (fun _ _ hk247 _ => wbuildSlice (c := [str (jnd (jnd cj (r.take kt)) ((((dsh Sq40 (rot r kt)).2).getD k .zero).conj)), num ((((dsh Sq40 (rot r kt)).2).getD k .zero).rel), .bool ((((dsh Sq40 (rot r kt)).2).getD k .zero).inv)]) sb224.wf rfl (buildSliceV_of u30 sz71 z71 rfl (by decide) (by decide) rfl) fun A249 b248 nb250 => ?_)
      have h253 := nb250.le.get _ _ h225
      have h254 := nb250.le.get _ _ h226
      have h255 := nb250.le.get _ _ h227
      have fr257 := fr228.le nb250.le
      have fr258 := fr229.le nb250.le
      have le259 := le230.trans nb250.le
      refine hk247 _ _ <| .l rfl (fun _ _ hk260 _ => wappend (ys := [str (jnd (jnd cj (r.take kt)) ((((dsh Sq40 (rot r kt)).2).getD k .zero).conj)), num ((((dsh Sq40 (rot r kt)).2).getD k .zero).rel), .bool ((((dsh Sq40 (rot r kt)).2).getD k .zero).inv)]) rfl rfl u30 sz71 inf71 z71 rfl (by decide) u30 (fun _ h => by cases h) fr257.own (listOf_row (n := 1) nb250.get rfl) rfl rfl (by show (_ + _) * 32 ≤ _; simp only [dcells_length, List.length_cons, List.length_nil]; (try simp only [List.length_append, List.length_cons, List.length_nil]); omega) (by simp only [dcells_length, List.length_cons, List.length_nil]; (try simp only [List.length_append, List.length_cons, List.length_nil]); omega) fun A261 v262 ap263 => ?_)
      rw [show ([str (jnd (jnd cj (r.take kt)) ((((dsh Sq40 (rot r kt)).2).getD k .zero).conj)), num ((((dsh Sq40 (rot r kt)).2).getD k .zero).rel), .bool ((((dsh Sq40 (rot r kt)).2).getD k .zero).inv)] : List Value) = dcells [⟨jnd (jnd cj (r.take kt)) ((((dsh Sq40 (rot r kt)).2).getD k .zero).conj), (((dsh Sq40 (rot r kt)).2).getD k .zero).rel, (((dsh Sq40 (rot r kt)).2).getD k .zero).inv⟩] from rfl, dcells_append] at ap263
      obtain ⟨fr266, le267⟩ := Fresh.grow fr257 le259 wfC ap263
      have h268 := ap263.keep no_ev_b56182 h253
      have ne269 := ap263.ne no_ev_b56182 nb250.wf h253
      have h270 := ap263.keep no_ev_b9182 h254
      have ne271 := ap263.ne no_ev_b9182 nb250.wf h254
      have h272 := ap263.keep no_ev_b159182 h255
      have ne273 := ap263.ne no_ev_b159182 nb250.wf h255
      have sp277 := Sep.appd (show Sep ev (.slice p170 l170 c170) from sq182_0_1) fr258.own nb250.wf ap263
      have fr276 := fr258.appd ap263 sq182_0_1
      refine hk260 _ _ <| .q rfl (qfieldAddr fl46_2 sz30 (by decide) rfl) ?_
      obtain ⟨p279, l279, c279, q279, _⟩ := fr266.own.slice
      subst q279
      refine Ops.l rfl (fun _ _ hk278 _ => wstore (cs := [.slice p279 l279 c279]) (c' := [str ((dsh Sq40 w).1), num ((n : Nat) : Int), .slice p279 l279 c279]) ap263.wf rfl rfl rfl rfl sz30 h268 (Nat.le_of_ble_eq_true rfl) rfl rfl fun A280 sb281 => ?_)
      have h282 := sb281.keep _ _ ne_b9_b56 h270
      have h283 := sb281.keep _ _ ne_b56_b159.symm h272
      have fr285 := fr276.keep sb281.keep no_oq149_b56182
      have fr286 := fr266.keep sb281.keep ne269
      have le287 := le_store le267 wfC ge_b56 sb281.n sb281.keep
      refine hk278 _ _ <| .nil <| h191 _ _ <| .region <| .q rfl (qaddN (b := 1) rfl rfl (by omega)) <| .q rfl (qmove rfl) <| .nil ?_
      exact ⟨⟨k + 1, e ++ [⟨jnd (jnd cj (r.take kt)) ((((dsh Sq40 (rot r kt)).2).getD k .zero).conj), (((dsh Sq40 (rot r kt)).2).getD k .zero).rel, (((dsh Sq40 (rot r kt)).2).getD k .zero).inv⟩], .slice p279 l279 c279⟩, EnvLe.cons rfl <| EnvLe.cons rfl <| EnvLe.cons rfl <| EnvLe.cons rfl <| EnvLe.cons rfl <| EnvLe.cons rfl <| EnvLe.cons rfl <| EnvLe.cons rfl <| EnvLe.cons rfl <| EnvLe.nil _, rfl, ⟨⟨by omega, by rw [he]; exact conj_step (by omega), fun j h => (Nat.lt_succ_iff_lt_or_eq.1 h).elim (hfit j) (fun q => by subst q; omega)⟩, le287, fr286, fr285, sb281.get, h282, h283, ne269, no_oq149_b56182, ne271, no_oq149_b9182, ne273, no_oq149_b159182, sp277⟩, (by (try dsimp only); omega)⟩
    ·
     refine Run.exit <| h179 _ _ <| .seq fun K288 h289 => .region <| .q rfl (qfieldAddr fl46_1 sz3 (by decide) rfl) <| .q rfl (qloadAt ag3 rfl rfl hr_b56182 rfl) <| .q rfl (qfieldAddr fl46_1 sz3 (by decide) rfl) <| .q rfl (qloadAt ag3 rfl rfl hr_b159182 rfl) <| .q rfl (qaddN rfl rfl (by omega)) <| .q rfl (qfieldAddr fl46_1 sz3 (by decide) rfl) ?_
     refine Ops.l rfl (fun _ _ hk290 _ => wstore (cs := [num ((n + ((dsh Sq40 (rot r kt)).2.length) : Nat) : Int)]) (c' := [str ((dsh Sq40 w).1), num ((n + ((dsh Sq40 (rot r kt)).2.length) : Nat) : Int), ev]) wf184 rfl rfl rfl rfl sz3 hr_b56182 (Nat.le_of_ble_eq_true rfl) rfl rfl fun A291 sb292 => ?_)
     have h293 := sb292.keep _ _ ne_b9_b56 hr_b9182
     have h294 := sb292.keep _ _ ne_b56_b159.symm hr_b159182
     have fr295 := fr_ev182.keep sb292.keep no_ev_b56182
     have le297 := le_store le182 wfC ge_b56 sb292.n sb292.keep
     refine hk290 _ _ <| .nil <| h289 _ _ <| .seq fun K298 h299 => .region <| .q rfl (qfieldAddr fl46_0 sz9 (by decide) rfl) <| .q rfl (qloadAt ag9 rfl rfl h294 rfl) <| .l rfl (fun _ _ hk300 _ => vcallF rfl (s_Cyclic ((dsh Sq40 (rot r kt)).1) A291 (by first | omega | (have := hd0.1; omega)) ((hL.le leC).le le297)) ?_)
     rintro v301 A302 ⟨rfl, leq303, wfq303⟩
     have h304 := leq303.get _ _ sb292.get
     have h305 := leq303.get _ _ h293
     have fr307 := fr295.le leq303
     have le309 := le297.trans leq303
     refine hk300 _ _ <| .q rfl (qmove rfl) <| .q rfl (qextract rfl rfl) <| .q rfl (qextract rfl rfl) <| .q rfl (qassign rfl) <| .q rfl (qassign rfl) <| .nil <| h299 _ _ <| .seq fun K310 h311 => .region ?_
     refine Ops.q rfl (qmove rfl) <| .q rfl (qassign rfl) <| .nil <| h311 _ _ <| .seq fun K312 h313 => .region <| .q rfl (qmove rfl) <| .q rfl (qmove rfl) <| .l rfl (fun _ _ hk314 _ => vcallF rfl (s_joined (jnd cj (r.take kt)) (wConj ((dsh Sq40 (rot r kt)).1)) A302 (by first | omega | (rw [List.length_take]; omega)) (by first | omega | (rw [List.length_take]; omega))) ?_)
     rintro v315 A316 ⟨rfl, rfl⟩
     refine hk314 _ _ <| .q rfl (qmove rfl) <| .q rfl (qextract rfl rfl) <| .q rfl (qextract rfl rfl) <| .q rfl (qassign rfl) <| .q rfl (qassign rfl) <| .nil <| h313 _ _ <| .seq fun K318 h319 => .region ?_
     refine Ops.q rfl (qmove rfl) <| .q rfl (qnotP rfl) <| .q rfl (qmove rfl) <| .part (t := 115) rfl (fun p320 => ?_) (fun p320 => ?_)
     ·
      refine Ops.off rfl rfl rfl rfl <| .off rfl rfl rfl rfl <| .q rfl (qpickT rfl rfl) <| .nil <| h319 _ _ <| .cond_true rfl <| .seq fun K321 h322 => .region <| .q rfl (qbuild rfl (buildV_struct u46 z46 pl46 rfl)) <| .l rfl (fun _ _ hk323 _ => wstore (cs := [str ([]), num ((0 : Nat) : Int), .slice none 0 0]) (c' := [str ([]), num ((0 : Nat) : Int), .slice none 0 0]) wfq303 rfl rfl rfl rfl sz46 h305 (Nat.le_of_ble_eq_true rfl) rfl rfl fun A324 sb325 => ?_)
      have le330 := le_store le309 wfC (hide_none (by simp)) sb325.n sb325.keep
      refine hk323 _ _ <| .q rfl (qassign rfl) <| .q rfl (qassign rfl) <| .nil <| h322 _ _ <| .ret ?_
      repeat first | with_reducible refine thenQ_ret ?_ | with_reducible refine blockQ_ret ?_
      exact retQ (resCell ag46 sz46 rfl sb325.get rfl (resTmp rfl (resTmp rfl resNil))) (⟨[], [], [], 2, _, (by first | rfl | (rw [hnd]; rfl)), leC.trans le330, sb325.wf, Fresh.nil _ _ _, CyR.ok ‹¬ ¬ rasked g l w = 0› hSOq40 (by first | exact (cyF_end (by omega) (by omega) hcy).trans (if_pos ‹1000000 < conjs d ∨ 100000 < d.length›) | exact cyF_no1 hz (by omega) hcy (fitsJ_no (j := k) (by omega) (by omega)) | exact cyF_no2 hz (by omega) hcy (fitsJ_yes (by omega) hfit) (by omega))⟩)
     ·
      refine Ops.on rfl rfl <| .q rfl (qmove rfl) <| .on rfl rfl <| .q rfl (qnotP rfl) <| .q rfl (qpickF rfl rfl) <| .nil <| h319 _ _ <| .if rfl (fun p331 => ?_) (fun p331 => ?_)
      ·
       refine Run.seq fun K332 h333 => .region <| .q rfl (qbuild rfl (buildV_struct u46 z46 pl46 rfl)) <| .l rfl (fun _ _ hk334 _ => wstore (cs := [str ([]), num ((0 : Nat) : Int), .slice none 0 0]) (c' := [str ([]), num ((0 : Nat) : Int), .slice none 0 0]) wfq303 rfl rfl rfl rfl sz46 h305 (Nat.le_of_ble_eq_true rfl) rfl rfl fun A335 sb336 => ?_)
       have le341 := le_store le309 wfC (hide_none (by simp)) sb336.n sb336.keep
       refine hk334 _ _ <| .q rfl (qassign rfl) <| .q rfl (qassign rfl) <| .nil <| h333 _ _ <| .ret ?_
       repeat first | with_reducible refine thenQ_ret ?_ | with_reducible refine blockQ_ret ?_
       exact retQ (resCell ag46 sz46 rfl sb336.get rfl (resTmp rfl (resTmp rfl resNil))) (⟨[], [], [], 2, _, (by first | rfl | (rw [hnd]; rfl)), leC.trans le341, sb336.wf, Fresh.nil _ _ _, CyR.ok ‹¬ ¬ rasked g l w = 0› hSOq40 (by first | exact (cyF_end (by omega) (by omega) hcy).trans (if_pos ‹1000000 < conjs d ∨ 100000 < d.length›) | exact cyF_no1 hz (by omega) hcy (fitsJ_no (j := k) (by omega) (by omega)) | exact cyF_no2 hz (by omega) hcy (fitsJ_yes (by omega) hfit) (by omega))⟩)
      ·
       refine Run.skip ?_
       exact ⟨⟨f - 1, wCore ((dsh Sq40 (rot r kt)).1), jnd (jnd cj (r.take kt)) (wConj ((dsh Sq40 (rot r kt)).1)), n + ((dsh Sq40 (rot r kt)).2.length), e, ev⟩, EnvLe.cons rfl <| EnvLe.cons rfl <| EnvLe.cons rfl <| EnvLe.cons rfl <| EnvLe.cons rfl <| EnvLe.nil _, rfl, ⟨⟨by rw [he, List.take_of_length_le (l := (dsh Sq40 (rot r kt)).2) (by omega)]; exact cyF_go hz (by omega) hcy (fitsJ_yes (by omega) hfit) ⟨by omega, by omega⟩, by omega, by omega, by rw [he]; simp only [List.length_append, List.length_map, List.length_take]; omega, by rw [he]; simp only [List.length_append, List.length_map, List.length_take]; omega, by omega, fun c hc => by rw [he] at hc; rcases List.mem_append.1 hc with hc | hc; exact hdc c hc; obtain ⟨c2, hc2, rfl⟩ := List.mem_map.1 hc; obtain ⟨j, hj, rfl⟩ := List.getElem_of_mem hc2; rw [List.length_take] at hj; have := hfit j (by omega); simpa [show j < (dsh Sq40 (rot r kt)).2.length by omega, cellJ] using this⟩, le309, fr307, h304, h305, no_ev_b56182, no_ev_b9182⟩, (by (try dsimp only); omega)⟩
   ·
    refine fun _ _ hk342 _ => walloc wfq88 z46 rfl fun A344 b343 nb345 => ?_
    have ne_b56_b343 := ne_new wfq88 h89 nb345.lo
    have ne_b9_b343 := ne_new wfq88 h90 nb345.lo
    have no346 := fr91.own.ne_new wfq88 nb345.lo
    have ge_b343 := none_of wfC (Nat.le_trans le92.n nb345.lo)
    have h347 := nb345.le.get _ _ h89
    have h348 := nb345.le.get _ _ h90
    have fr349 := fr91.le nb345.le
    have le350 := le92.trans nb345.le
    refine hk342 _ _ (HeldNow.none (by kernel_rfl)) <| .l rfl rfl rfl (fun _ _ hk351 _ => vcallF rfl (s_dshort brq40 Sq40 (rot r kt) A344 (hRC.le le350) hSq40 ((hL.le leC).le le350) (by first | (have := (rasked_word ‹¬ ¬ rasked g l w = 0›).2; omega) | (rw [rot_length]; omega))) ?_)
    rintro v352 A353 ⟨dvq354, rfl, leq354, wfq354, frq354⟩
    have h355 := leq354.get _ _ h347
    have h356 := leq354.get _ _ h348
    have h357 := leq354.get _ _ nb345.get
    have fr358 := fr349.le leq354
    have le359 := le350.trans leq354
    have fr360 := frq354.base le350
    have sp361 := frq354.sep0 fr349.own
    have no362 := frq354.ne nb345.wf h347
    have no363 := frq354.ne nb345.wf h348
    have no364 := frq354.ne nb345.wf nb345.get
    refine hk351 _ _ (HeldNow.none (by kernel_rfl)) ?_
    obtain ⟨p366, l366, c366, q366, _⟩ := fr360.own.slice
    subst q366
    refine DOps.l rfl rfl rfl (fun _ _ hk365 _ => wstore (cs := [str ((dsh Sq40 (rot r kt)).1), num (((dsh Sq40 (rot r kt)).2.length : Nat) : Int), .slice p366 l366 c366]) (c' := [str ((dsh Sq40 (rot r kt)).1), num (((dsh Sq40 (rot r kt)).2.length : Nat) : Int), .slice p366 l366 c366]) wfq354 rfl rfl rfl rfl sz46 h357 (Nat.le_of_ble_eq_true rfl) rfl rfl fun A367 sb368 => ?_)
    have h369 := sb368.keep _ _ ne_b56_b343 h355
    have h370 := sb368.keep _ _ ne_b9_b343 h356
    have fr371 := fr358.keep sb368.keep no346
    have fr372 := fr360.keep sb368.keep no364
    have le373 := le_store le359 wfC ge_b343 sb368.n sb368.keep
    refine hk365 _ _ (HeldNow.none (by kernel_rfl)) <| .done <| h145 _ _ <| .seq fun K374 h375 => .seq fun K376 h377 => .region <| .q rfl (qfieldAddr fl46_2 sz30 (by decide) rfl) <| .q rfl (qloadAt ag30 rfl rfl sb368.get rfl) <| .q rfl (qlenS (n := ((dsh Sq40 (rot r kt)).2).length) u30 rfl fr372.slc (by omega) (dcells_len _)) <| .q rfl (qmove rfl) ?_
    refine Ops.nil <| h377 _ _ <| .block <| .loop (X := Nat × List DCell × Value) (fun ⟨k, e, ev⟩ => [(4, .pointer (some ⟨b9, 0, none⟩)), (8, .pointer (some ⟨brq40, 0, none⟩)), (9, .pointer (some ⟨b56, 0, none⟩)), (11, str (jnd cj (r.take kt))), (13, .bool (decide ((jnd cj (r.take kt)).length ≤ 100000))), (16, .pointer (some ⟨b343, 0, none⟩)), (70, .slice p366 l366 c366), (71, num ((((dsh Sq40 (rot r kt)).2).length : Nat) : Int)), (72, num ((k : Nat) : Int))]) (fun ⟨k, e, ev⟩ B => (k ≤ (dsh Sq40 (rot r kt)).2.length ∧ e = d ++ ((dsh Sq40 (rot r kt)).2.take k).map (cellJ (jnd cj (r.take kt))) ∧ ∀ j, j < k → (jnd (jnd cj (r.take kt)) ((dsh Sq40 (rot r kt)).2.getD j .zero).conj).length ≤ 100000) ∧ (A39.hide [some b9]).le B ∧ Fresh (A39.hide [some b9]) B ev 3 (dcells e) ∧ Fresh (A39.hide [some b9]) B (.slice p366 l366 c366) 3 (dcells ((dsh Sq40 (rot r kt)).2)) ∧ B.get b56 = some (.row true [str ((dsh Sq40 w).1), num ((n : Nat) : Int), ev] 3) ∧ B.get b9 = some (.row true [str ([]), num ((0 : Nat) : Int), .slice none 0 0] 3) ∧ B.get b343 = some (.row true [str ((dsh Sq40 (rot r kt)).1), num (((dsh Sq40 (rot r kt)).2.length : Nat) : Int), .slice p366 l366 c366] 3) ∧ V.blk ev ≠ some b56 ∧ V.blk (.slice p366 l366 c366) ≠ some b56 ∧ V.blk ev ≠ some b9 ∧ V.blk (.slice p366 l366 c366) ≠ some b9 ∧ V.blk ev ≠ some b343 ∧ V.blk (.slice p366 l366 c366) ≠ some b343 ∧ Sep ev (.slice p366 l366 c366)) (fun ⟨k, e, ev⟩ => (dsh Sq40 (rot r kt)).2.length - k) (⟨0, d, cv⟩) (EnvLe.cons rfl <| EnvLe.cons rfl <| EnvLe.cons rfl <| EnvLe.cons rfl <| EnvLe.cons rfl <| EnvLe.cons rfl <| EnvLe.cons rfl <| EnvLe.cons rfl <| EnvLe.cons rfl <| EnvLe.nil _) (⟨⟨Nat.zero_le _, (List.append_nil _).symm, fun j h => by omega⟩, le373, fr371, fr372, h369, h370, sb368.get, no_cv_b5680, no362, no_cv_b980, no363, no346, no364, (Sep.symm sp361)⟩) ?_
    rintro ⟨k, e, ev⟩ B379 ⟨⟨hk, he, hfit⟩, le378, fr_ev378, fk_oq354378, hr_b56378, hr_b9378, hr_b343378, no_ev_b56378, no_oq354_b56378, no_ev_b9378, no_oq354_b9378, no_ev_b343378, no_oq354_b343378, sq378_0_1⟩
    refine Run.wf fun wf380 => ?_
    have hel : e.length = d.length + k := by rw [he, List.length_append, List.length_map, List.length_take]; omega
    have hgc := getD_conj hda.2.2 k
    refine Run.seq fun K381 h382 => .region <| .q rfl (qlssN rfl rfl) <| .nil <| h382 _ _ <| .seq fun K383 h384 => .if rfl (fun p385 => ?_) (fun p385 => ?_)
    ·
     refine Run.skip <| h384 _ _ <| .seq fun K386 h387 => .block <| .seq fun K388 h389 => .region ?_
     obtain ⟨b390, f390, rw390, r390, rc390, n390, k390, e390, l390, g390, cl390, cs390⟩ := Slc.at (i := k) fk_oq354378.slc (by simp only [dcells_length]; omega) (by omega)
     refine Ops.q rfl (qindexS u30 sz71 rfl e390 rfl l390) <| .q rfl (qloadAggAt ag71 sz71 rfl rfl g390 (cl390.trans (congrArg some (dcells_at (by omega))))) <| .l rfl (fun _ _ hk391 _ => walloc wf380 z71 rfl fun A393 b392 nb394 => ?_)
     have ne_b56_b392 := ne_new wf380 hr_b56378 nb394.lo
     have ne_b9_b392 := ne_new wf380 hr_b9378 nb394.lo
     have ne_b343_b392 := ne_new wf380 hr_b343378 nb394.lo
     have no395 := fr_ev378.own.ne_new wf380 nb394.lo
     have no396 := fk_oq354378.own.ne_new wf380 nb394.lo
     have ge_b392 := none_of wfC (Nat.le_trans le378.n nb394.lo)
     have h397 := nb394.le.get _ _ hr_b56378
     have h398 := nb394.le.get _ _ hr_b9378
     have h399 := nb394.le.get _ _ hr_b343378
     have fr400 := fr_ev378.le nb394.le
     have fr401 := fk_oq354378.le nb394.le
     have le402 := le378.trans nb394.le
     refine hk391 _ _ <| .l rfl (fun _ _ hk403 _ => wstore (cs := [str ((((dsh Sq40 (rot r kt)).2).getD k .zero).conj), num ((((dsh Sq40 (rot r kt)).2).getD k .zero).rel), .bool ((((dsh Sq40 (rot r kt)).2).getD k .zero).inv)]) (c' := [str ((((dsh Sq40 (rot r kt)).2).getD k .zero).conj), num ((((dsh Sq40 (rot r kt)).2).getD k .zero).rel), .bool ((((dsh Sq40 (rot r kt)).2).getD k .zero).inv)]) nb394.wf rfl rfl rfl rfl sz71 nb394.get (Nat.le_of_ble_eq_true rfl) rfl rfl fun A404 sb405 => ?_)
     have h406 := sb405.keep _ _ ne_b56_b392 h397
     have h407 := sb405.keep _ _ ne_b9_b392 h398
     have h408 := sb405.keep _ _ ne_b343_b392 h399
     have fr409 := fr400.keep sb405.keep no395
     have fr410 := fr401.keep sb405.keep no396
     have le411 := le_store le402 wfC ge_b392 sb405.n sb405.keep
     refine hk403 _ _ <| .nil <| h389 _ _ <| .seq fun K412 h413 => .region <| .q rfl (qmove rfl) <| .q rfl (qfieldAddr fl71_0 sz9 (by decide) rfl) <| .q rfl (qloadAt ag9 rfl rfl sb405.get rfl) <| .l rfl (fun _ _ hk414 _ => vcallF rfl (s_joined (jnd cj (r.take kt)) ((((dsh Sq40 (rot r kt)).2).getD k .zero).conj) A404 (by first | omega | (rw [List.length_take]; omega)) (by first | omega | (rw [List.length_take]; omega))) ?_)
     rintro v415 A416 ⟨rfl, rfl⟩
     refine hk414 _ _ <| .q rfl (qmove rfl) <| .q rfl (qextract rfl rfl) <| .q rfl (qextract rfl rfl) <| .q rfl (qfieldAddr fl71_0 sz9 (by decide) rfl) <| .l rfl (fun _ _ hk418 _ => wstore (cs := [str (jnd (jnd cj (r.take kt)) ((((dsh Sq40 (rot r kt)).2).getD k .zero).conj))]) (c' := [str (jnd (jnd cj (r.take kt)) ((((dsh Sq40 (rot r kt)).2).getD k .zero).conj)), num ((((dsh Sq40 (rot r kt)).2).getD k .zero).rel), .bool ((((dsh Sq40 (rot r kt)).2).getD k .zero).inv)]) sb405.wf rfl rfl rfl rfl sz9 sb405.get (Nat.le_of_ble_eq_true rfl) rfl rfl fun A419 sb420 => ?_)
     have h421 := sb420.keep _ _ ne_b56_b392 h406
     have h422 := sb420.keep _ _ ne_b9_b392 h407
     have h423 := sb420.keep _ _ ne_b343_b392 h408
     have fr424 := fr409.keep sb420.keep no395
     have fr425 := fr410.keep sb420.keep no396
     have le426 := le_store le411 wfC ge_b392 sb420.n sb420.keep
     refine hk418 _ _ <| .q rfl (qassign rfl) <| .nil <| h413 _ _ <| .seq fun K427 h428 => .seq fun K429 h430 => .region <| .q rfl (qmove rfl) <| .q rfl (qnotP rfl) <| .nil ?_
     refine h430 _ _ <| .if rfl (fun p431 => ?_) (fun p431 => ?_)
     ·
      refine Run.seq fun K432 h433 => .region <| .q rfl (qbuild rfl (buildV_struct u46 z46 pl46 rfl)) <| .l rfl (fun _ _ hk434 _ => wstore (cs := [str ([]), num ((0 : Nat) : Int), .slice none 0 0]) (c' := [str ([]), num ((0 : Nat) : Int), .slice none 0 0]) sb420.wf rfl rfl rfl rfl sz46 h422 (Nat.le_of_ble_eq_true rfl) rfl rfl fun A435 sb436 => ?_)
      have le442 := le_store le426 wfC (hide_none (by simp)) sb436.n sb436.keep
      refine hk434 _ _ <| .q rfl (qassign rfl) <| .q rfl (qassign rfl) <| .nil <| h433 _ _ <| .ret ?_
      repeat first | with_reducible refine thenQ_ret ?_ | with_reducible refine blockQ_ret ?_
      exact retQ (resCell ag46 sz46 rfl sb436.get rfl (resTmp rfl (resTmp rfl resNil))) (⟨[], [], [], 2, _, (by first | rfl | (rw [hnd]; rfl)), leC.trans le442, sb436.wf, Fresh.nil _ _ _, CyR.ok ‹¬ ¬ rasked g l w = 0› hSOq40 (by first | exact (cyF_end (by omega) (by omega) hcy).trans (if_pos ‹1000000 < conjs d ∨ 100000 < d.length›) | exact cyF_no1 hz (by omega) hcy (fitsJ_no (j := k) (by omega) (by omega)) | exact cyF_no2 hz (by omega) hcy (fitsJ_yes (by omega) hfit) (by omega))⟩)
     ·
      refine Run.skip <| h428 _ _ <| .region <| .q rfl (qfieldAddr fl46_2 sz30 (by decide) rfl) <| .q rfl (qloadAt ag30 rfl rfl h421 rfl) <| .q rfl (qloadAggAt ag71 sz71 rfl rfl sb420.get rfl) <| .l rfl (fun _ _ hk443 _ => wbuildSlice (c := [str (jnd (jnd cj (r.take kt)) ((((dsh Sq40 (rot r kt)).2).getD k .zero).conj)), num ((((dsh Sq40 (rot r kt)).2).getD k .zero).rel), .bool ((((dsh Sq40 (rot r kt)).2).getD k .zero).inv)]) sb420.wf rfl (buildSliceV_of u30 sz71 z71 rfl (by decide) (by decide) rfl) fun A445 b444 nb446 => ?_)
      have h449 := nb446.le.get _ _ h421
      have h450 := nb446.le.get _ _ h422
      have h451 := nb446.le.get _ _ h423
      have fr453 := fr424.le nb446.le
      have fr454 := fr425.le nb446.le
      have le455 := le426.trans nb446.le
      refine hk443 _ _ <| .l rfl (fun _ _ hk456 _ => wappend (ys := [str (jnd (jnd cj (r.take kt)) ((((dsh Sq40 (rot r kt)).2).getD k .zero).conj)), num ((((dsh Sq40 (rot r kt)).2).getD k .zero).rel), .bool ((((dsh Sq40 (rot r kt)).2).getD k .zero).inv)]) rfl rfl u30 sz71 inf71 z71 rfl (by decide) u30 (fun _ h => by cases h) fr453.own (listOf_row (n := 1) nb446.get rfl) rfl rfl (by show (_ + _) * 32 ≤ _; simp only [dcells_length, List.length_cons, List.length_nil]; (try simp only [List.length_append, List.length_cons, List.length_nil]); omega) (by simp only [dcells_length, List.length_cons, List.length_nil]; (try simp only [List.length_append, List.length_cons, List.length_nil]); omega) fun A457 v458 ap459 => ?_)
      rw [show ([str (jnd (jnd cj (r.take kt)) ((((dsh Sq40 (rot r kt)).2).getD k .zero).conj)), num ((((dsh Sq40 (rot r kt)).2).getD k .zero).rel), .bool ((((dsh Sq40 (rot r kt)).2).getD k .zero).inv)] : List Value) = dcells [⟨jnd (jnd cj (r.take kt)) ((((dsh Sq40 (rot r kt)).2).getD k .zero).conj), (((dsh Sq40 (rot r kt)).2).getD k .zero).rel, (((dsh Sq40 (rot r kt)).2).getD k .zero).inv⟩] from rfl, dcells_append] at ap459
      obtain ⟨fr462, le463⟩ := Fresh.grow fr453 le455 wfC ap459
      have h464 := ap459.keep no_ev_b56378 h449
      have ne465 := ap459.ne no_ev_b56378 nb446.wf h449
      have h466 := ap459.keep no_ev_b9378 h450
      have ne467 := ap459.ne no_ev_b9378 nb446.wf h450
      have h468 := ap459.keep no_ev_b343378 h451
      have ne469 := ap459.ne no_ev_b343378 nb446.wf h451
      have sp473 := Sep.appd (show Sep ev (.slice p366 l366 c366) from sq378_0_1) fr454.own nb446.wf ap459
      have fr472 := fr454.appd ap459 sq378_0_1
      refine hk456 _ _ <| .q rfl (qfieldAddr fl46_2 sz30 (by decide) rfl) ?_
      obtain ⟨p475, l475, c475, q475, _⟩ := fr462.own.slice
      subst q475
      refine Ops.l rfl (fun _ _ hk474 _ => wstore (cs := [.slice p475 l475 c475]) (c' := [str ((dsh Sq40 w).1), num ((n : Nat) : Int), .slice p475 l475 c475]) ap459.wf rfl rfl rfl rfl sz30 h464 (Nat.le_of_ble_eq_true rfl) rfl rfl fun A476 sb477 => ?_)
      have h478 := sb477.keep _ _ ne_b9_b56 h466
      have h479 := sb477.keep _ _ ne_b56_b343.symm h468
      have fr481 := fr472.keep sb477.keep no_oq354_b56378
      have fr482 := fr462.keep sb477.keep ne465
      have le483 := le_store le463 wfC ge_b56 sb477.n sb477.keep
      refine hk474 _ _ <| .nil <| h387 _ _ <| .region <| .q rfl (qaddN (b := 1) rfl rfl (by omega)) <| .q rfl (qmove rfl) <| .nil ?_
      exact ⟨⟨k + 1, e ++ [⟨jnd (jnd cj (r.take kt)) ((((dsh Sq40 (rot r kt)).2).getD k .zero).conj), (((dsh Sq40 (rot r kt)).2).getD k .zero).rel, (((dsh Sq40 (rot r kt)).2).getD k .zero).inv⟩], .slice p475 l475 c475⟩, EnvLe.cons rfl <| EnvLe.cons rfl <| EnvLe.cons rfl <| EnvLe.cons rfl <| EnvLe.cons rfl <| EnvLe.cons rfl <| EnvLe.cons rfl <| EnvLe.cons rfl <| EnvLe.cons rfl <| EnvLe.nil _, rfl, ⟨⟨by omega, by rw [he]; exact conj_step (by omega), fun j h => (Nat.lt_succ_iff_lt_or_eq.1 h).elim (hfit j) (fun q => by subst q; omega)⟩, le483, fr482, fr481, sb477.get, h478, h479, ne465, no_oq354_b56378, ne467, no_oq354_b9378, ne469, no_oq354_b343378, sp473⟩, (by (try dsimp only); omega)⟩
    ·
     refine Run.exit <| h375 _ _ <| .seq fun K484 h485 => .region <| .q rfl (qfieldAddr fl46_1 sz3 (by decide) rfl) <| .q rfl (qloadAt ag3 rfl rfl hr_b56378 rfl) <| .q rfl (qfieldAddr fl46_1 sz3 (by decide) rfl) <| .q rfl (qloadAt ag3 rfl rfl hr_b343378 rfl) <| .q rfl (qaddN rfl rfl (by omega)) <| .q rfl (qfieldAddr fl46_1 sz3 (by decide) rfl) ?_
     refine Ops.l rfl (fun _ _ hk486 _ => wstore (cs := [num ((n + ((dsh Sq40 (rot r kt)).2.length) : Nat) : Int)]) (c' := [str ((dsh Sq40 w).1), num ((n + ((dsh Sq40 (rot r kt)).2.length) : Nat) : Int), ev]) wf380 rfl rfl rfl rfl sz3 hr_b56378 (Nat.le_of_ble_eq_true rfl) rfl rfl fun A487 sb488 => ?_)
     have h489 := sb488.keep _ _ ne_b9_b56 hr_b9378
     have h490 := sb488.keep _ _ ne_b56_b343.symm hr_b343378
     have fr491 := fr_ev378.keep sb488.keep no_ev_b56378
     have le493 := le_store le378 wfC ge_b56 sb488.n sb488.keep
     refine hk486 _ _ <| .nil <| h485 _ _ <| .seq fun K494 h495 => .region <| .q rfl (qfieldAddr fl46_0 sz9 (by decide) rfl) <| .q rfl (qloadAt ag9 rfl rfl h490 rfl) <| .l rfl (fun _ _ hk496 _ => vcallF rfl (s_Cyclic ((dsh Sq40 (rot r kt)).1) A487 (by first | omega | (have := hd0.1; omega)) ((hL.le leC).le le493)) ?_)
     rintro v497 A498 ⟨rfl, leq499, wfq499⟩
     have h500 := leq499.get _ _ sb488.get
     have h501 := leq499.get _ _ h489
     have fr503 := fr491.le leq499
     have le505 := le493.trans leq499
     refine hk496 _ _ <| .q rfl (qmove rfl) <| .q rfl (qextract rfl rfl) <| .q rfl (qextract rfl rfl) <| .q rfl (qassign rfl) <| .q rfl (qassign rfl) <| .nil <| h495 _ _ <| .seq fun K506 h507 => .region ?_
     refine Ops.q rfl (qmove rfl) <| .q rfl (qassign rfl) <| .nil <| h507 _ _ <| .seq fun K508 h509 => .region <| .q rfl (qmove rfl) <| .q rfl (qmove rfl) <| .l rfl (fun _ _ hk510 _ => vcallF rfl (s_joined (jnd cj (r.take kt)) (wConj ((dsh Sq40 (rot r kt)).1)) A498 (by first | omega | (rw [List.length_take]; omega)) (by first | omega | (rw [List.length_take]; omega))) ?_)
     rintro v511 A512 ⟨rfl, rfl⟩
     refine hk510 _ _ <| .q rfl (qmove rfl) <| .q rfl (qextract rfl rfl) <| .q rfl (qextract rfl rfl) <| .q rfl (qassign rfl) <| .q rfl (qassign rfl) <| .nil <| h509 _ _ <| .seq fun K514 h515 => .region ?_
     refine Ops.q rfl (qmove rfl) <| .q rfl (qnotP rfl) <| .q rfl (qmove rfl) <| .part (t := 115) rfl (fun p516 => ?_) (fun p516 => ?_)
     ·
      refine Ops.off rfl rfl rfl rfl <| .off rfl rfl rfl rfl <| .q rfl (qpickT rfl rfl) <| .nil <| h515 _ _ <| .cond_true rfl <| .seq fun K517 h518 => .region <| .q rfl (qbuild rfl (buildV_struct u46 z46 pl46 rfl)) <| .l rfl (fun _ _ hk519 _ => wstore (cs := [str ([]), num ((0 : Nat) : Int), .slice none 0 0]) (c' := [str ([]), num ((0 : Nat) : Int), .slice none 0 0]) wfq499 rfl rfl rfl rfl sz46 h501 (Nat.le_of_ble_eq_true rfl) rfl rfl fun A520 sb521 => ?_)
      have le526 := le_store le505 wfC (hide_none (by simp)) sb521.n sb521.keep
      refine hk519 _ _ <| .q rfl (qassign rfl) <| .q rfl (qassign rfl) <| .nil <| h518 _ _ <| .ret ?_
      repeat first | with_reducible refine thenQ_ret ?_ | with_reducible refine blockQ_ret ?_
      exact retQ (resCell ag46 sz46 rfl sb521.get rfl (resTmp rfl (resTmp rfl resNil))) (⟨[], [], [], 2, _, (by first | rfl | (rw [hnd]; rfl)), leC.trans le526, sb521.wf, Fresh.nil _ _ _, CyR.ok ‹¬ ¬ rasked g l w = 0› hSOq40 (by first | exact (cyF_end (by omega) (by omega) hcy).trans (if_pos ‹1000000 < conjs d ∨ 100000 < d.length›) | exact cyF_no1 hz (by omega) hcy (fitsJ_no (j := k) (by omega) (by omega)) | exact cyF_no2 hz (by omega) hcy (fitsJ_yes (by omega) hfit) (by omega))⟩)
     ·
      refine Ops.on rfl rfl <| .q rfl (qmove rfl) <| .on rfl rfl <| .q rfl (qnotP rfl) <| .q rfl (qpickF rfl rfl) <| .nil <| h515 _ _ <| .if rfl (fun p527 => ?_) (fun p527 => ?_)
      ·
       refine Run.seq fun K528 h529 => .region <| .q rfl (qbuild rfl (buildV_struct u46 z46 pl46 rfl)) <| .l rfl (fun _ _ hk530 _ => wstore (cs := [str ([]), num ((0 : Nat) : Int), .slice none 0 0]) (c' := [str ([]), num ((0 : Nat) : Int), .slice none 0 0]) wfq499 rfl rfl rfl rfl sz46 h501 (Nat.le_of_ble_eq_true rfl) rfl rfl fun A531 sb532 => ?_)
       have le537 := le_store le505 wfC (hide_none (by simp)) sb532.n sb532.keep
       refine hk530 _ _ <| .q rfl (qassign rfl) <| .q rfl (qassign rfl) <| .nil <| h529 _ _ <| .ret ?_
       repeat first | with_reducible refine thenQ_ret ?_ | with_reducible refine blockQ_ret ?_
       exact retQ (resCell ag46 sz46 rfl sb532.get rfl (resTmp rfl (resTmp rfl resNil))) (⟨[], [], [], 2, _, (by first | rfl | (rw [hnd]; rfl)), leC.trans le537, sb532.wf, Fresh.nil _ _ _, CyR.ok ‹¬ ¬ rasked g l w = 0› hSOq40 (by first | exact (cyF_end (by omega) (by omega) hcy).trans (if_pos ‹1000000 < conjs d ∨ 100000 < d.length›) | exact cyF_no1 hz (by omega) hcy (fitsJ_no (j := k) (by omega) (by omega)) | exact cyF_no2 hz (by omega) hcy (fitsJ_yes (by omega) hfit) (by omega))⟩)
      ·
       refine Run.skip ?_
       exact ⟨⟨f - 1, wCore ((dsh Sq40 (rot r kt)).1), jnd (jnd cj (r.take kt)) (wConj ((dsh Sq40 (rot r kt)).1)), n + ((dsh Sq40 (rot r kt)).2.length), e, ev⟩, EnvLe.cons rfl <| EnvLe.cons rfl <| EnvLe.cons rfl <| EnvLe.cons rfl <| EnvLe.cons rfl <| EnvLe.nil _, rfl, ⟨⟨by rw [he, List.take_of_length_le (l := (dsh Sq40 (rot r kt)).2) (by omega)]; exact cyF_go hz (by omega) hcy (fitsJ_yes (by omega) hfit) ⟨by omega, by omega⟩, by omega, by omega, by rw [he]; simp only [List.length_append, List.length_map, List.length_take]; omega, by rw [he]; simp only [List.length_append, List.length_map, List.length_take]; omega, by omega, fun c hc => by rw [he] at hc; rcases List.mem_append.1 hc with hc | hc; exact hdc c hc; obtain ⟨c2, hc2, rfl⟩ := List.mem_map.1 hc; obtain ⟨j, hj, rfl⟩ := List.getElem_of_mem hc2; rw [List.length_take] at hj; have := hfit j (by omega); simpa [show j < (dsh Sq40 (rot r kt)).2.length by omega, cellJ] using this⟩, le505, fr503, h500, h501, no_ev_b56378, no_ev_b9378⟩, (by (try dsimp only); omega)⟩
end Go.Proofs.YtaccklloepfemaaDoor

namespace Go.Proofs.YtaccklloepfemaaDoor
set_option linter.unusedVariables false
set_option linter.unusedSimpArgs false
open Go Go.RowKit V

/-! ### Reduced words -/
def NC (w : List UInt8) : Prop := ∀ i, i + 1 < w.length → w.getD (i + 1) 0 ≠ w.getD i 0 ^^^ 32
theorem getD_left {a b : List UInt8} {i : Nat} (h : i < a.length) : (a ++ b).getD i 0 = a.getD i 0 := by
  rw [List.getD_eq_getElem?_getD, List.getElem?_append_left h, ← List.getD_eq_getElem?_getD]
theorem getD_right {a b : List UInt8} {i : Nat} (h : a.length ≤ i) : (a ++ b).getD i 0 = b.getD (i - a.length) 0 := by
  rw [List.getD_eq_getElem?_getD, List.getElem?_append_right h, ← List.getD_eq_getElem?_getD]
theorem NC.left {a b : List UInt8} (h : NC (a ++ b)) : NC a := fun i hi => by
  have := h i (by rw [List.length_append]; omega)
  rwa [getD_left (by omega), getD_left (by omega)] at this
theorem NC.take {a : List UInt8} (h : NC a) (n : Nat) : NC (a.take n) := NC.left (b := a.drop n) (by rw [List.take_append_drop]; exact h)
theorem NC.fold : ∀ (w s : List UInt8), NC (s ++ w) → w.foldl push s = s ++ w
  | [], s, _ => by simp
  | c :: w, s, h => by
    have hp : push s c = s ++ [c] := by
      unfold push
      rw [if_neg]
      rintro ⟨q1, q2⟩
      have := h (s.length - 1) (by simp; omega)
      rw [show s.length - 1 + 1 = s.length by omega, getD_right (Nat.le_refl _), getD_left (by omega), q2, flip_flip] at this
      simp at this
    rw [List.foldl_cons, hp, NC.fold w (s ++ [c]) (by simpa using h)]
    simp
theorem NC.isRed {w : List UInt8} (h : NC w) : red w = w := NC.fold w [] (by simpa using h)
theorem NC.pushC {s : List UInt8} (h : NC s) (c : UInt8) : NC (push s c) := by
  unfold push
  split
  · exact h.take _
  · rename_i q
    intro i hi
    simp only [List.length_append, List.length_cons, List.length_nil] at hi
    by_cases e : i + 1 < s.length
    · rw [getD_left e, getD_left (by omega)]; exact h i e
    · have e2 : i + 1 = s.length := by omega
      rw [getD_right (by omega), getD_left (by omega), show i + 1 - s.length = 0 by omega]
      have e3 : i = s.length - 1 := by omega
      intro r
      refine q ⟨by omega, ?_⟩
      rw [← e3]
      have r : c = s.getD i 0 ^^^ 32 := r
      rw [r, flip_flip]
theorem NC.ofFold : ∀ (w s : List UInt8), NC s → NC (w.foldl push s)
  | [], _, h => h
  | c :: w, s, h => NC.ofFold w _ (h.pushC c)
theorem NC.ofRed (w : List UInt8) : NC (red w) := NC.ofFold w [] fun i hi => by simp at hi
theorem NC.iff (w : List UInt8) : NC w ↔ red w = w := ⟨NC.isRed, fun h => h ▸ NC.ofRed w⟩
theorem inv_get {w : List UInt8} {i : Nat} (h : i < w.length) : (inv w).getD i 0 = w.getD (w.length - 1 - i) 0 ^^^ 32 := by
  have h2 : w.length - 1 - i < w.length := by omega
  simp only [inv, List.getD_eq_getElem?_getD]
  rw [List.getElem?_reverse (by simpa using h)]
  simp [h2]
theorem NC.ofInv {w : List UInt8} (h : NC w) : NC (inv w) := fun i hi => by
  rw [inv_length] at hi
  rw [inv_get hi, inv_get (by omega), flip_flip]
  have := h (w.length - 1 - (i + 1)) (by omega)
  rw [show w.length - 1 - (i + 1) + 1 = w.length - 1 - i by omega] at this
  exact fun q => this q.symm
theorem lf_congr {p q : Nat → Bool} {b : Nat} (h : ∀ n, n < b → p n = q n) : lf p b = lf q b := by
  unfold lf
  have : ∀ l : List Nat, (∀ n ∈ l, n < b) → l.find? (fun n => !p n) = l.find? (fun n => !q n) := by
    intro l
    induction l with
    | nil => intro _; rfl
    | cons a l ih =>
      intro hl
      rw [List.find?_cons, List.find?_cons, h a (hl a List.mem_cons_self), ih fun n hn => hl n (List.mem_cons_of_mem _ hn)]
  rw [this _ fun n hn => List.mem_range.1 hn]
theorem cycN_inv (r : List UInt8) : cycN (inv r) = cycN r := by
  unfold cycN
  rw [inv_length]
  refine lf_congr fun n hn => ?_
  congr 1
  refine propext ⟨fun ⟨h1, h2⟩ => ⟨h1, ?_⟩, fun ⟨h1, h2⟩ => ⟨h1, ?_⟩⟩
  · rw [inv_get hn, inv_get (by omega), flip_flip, show r.length - 1 - (r.length - 1 - n) = n by omega] at h2
    rw [← h2]
  · rw [inv_get hn, inv_get (by omega), flip_flip, show r.length - 1 - (r.length - 1 - n) = n by omega, ← h2]
theorem mid_rev {α : Type} (l : List α) (c : Nat) : (l.reverse.take (l.length - c)).drop c = ((l.take (l.length - c)).drop c).reverse := by
  apply List.ext_getElem
  · simp
  · intro i h1 h2
    simp only [List.length_drop, List.length_take, List.length_reverse] at h1 h2
    simp only [List.getElem_drop, List.getElem_take, List.getElem_reverse, List.length_drop, List.length_take]
    congr 1; omega
theorem core_inv {r : List UInt8} (h : red r = r) : core (inv r) = inv (core r) := by
  have h2 : red (inv r) = inv r := (((NC.iff r).2 h).ofInv).isRed
  unfold core
  rw [h2, h, cycN_inv, inv_length]
  have e : ∀ l : List UInt8, inv l = (l.map (· ^^^ 32)).reverse := fun _ => rfl
  rw [e r, e (List.drop _ _)]
  have := mid_rev (r.map (· ^^^ 32)) (cycN r)
  rw [List.length_map] at this
  rw [this, List.map_drop, List.map_take]

/-! ### Shortlex -/
theorem ix_letter : ∀ c : UInt8, 0 ≤ ix c → letters.getD (ix c).toNat 0 = c := all_u8 (by decide +kernel)
theorem ix_inj {a b : UInt8} (ha : 0 ≤ ix a) (hb : 0 ≤ ix b) (h : ix a = ix b) : a = b := by
  rw [← ix_letter a ha, ← ix_letter b hb, h]
theorem cmpl_anti : ∀ a b : List UInt8, cmpl b a = - cmpl a b
  | [], [] => rfl
  | [], _ :: _ => rfl
  | _ :: _, [] => rfl
  | a :: x, b :: y => by
    have := cmpl_anti x y
    simp only [cmpl]
    split
    · rw [if_neg (by omega)]
    · split
      · rfl
      · exact this
theorem cmpw_anti (a b : List UInt8) : cmpw b a = - cmpw a b := by
  unfold cmpw
  by_cases h : a.length = b.length
  · rw [if_neg (by omega), if_neg (by omega)]; exact cmpl_anti a b
  · rw [if_pos (by omega), if_pos h]; split <;> split <;> omega
theorem cmpl_zero : ∀ a b : List UInt8, okl a → okl b → a.length = b.length → cmpl a b = 0 → a = b
  | [], [], _, _, _, _ => rfl
  | [], _ :: _, _, _, h, _ => by simp at h
  | _ :: _, [], _, _, h, _ => by simp at h
  | a :: x, b :: y, ha, hb, hl, h => by
    simp only [cmpl] at h
    split at h
    · omega
    · split at h
      · omega
      · rw [ix_inj (ha a List.mem_cons_self) (hb b List.mem_cons_self) (by omega), cmpl_zero x y (fun c hc => ha c (List.mem_cons_of_mem _ hc)) (fun c hc => hb c (List.mem_cons_of_mem _ hc)) (by simpa using hl) h]
theorem cmpw_zero {a b : List UInt8} (ha : okl a) (hb : okl b) (h : cmpw a b = 0) : a = b := by
  unfold cmpw at h
  split at h
  · split at h <;> omega
  · rename_i q; exact cmpl_zero a b ha hb (by omega) h
def SS (l : List (List UInt8)) : Prop := l.Pairwise fun x y => cmpw x y < 0
theorem SS.unique : ∀ (a b : List (List UInt8)), SS a → SS b → (∀ x, x ∈ a ↔ x ∈ b) → a = b
  | [], [], _, _, _ => rfl
  | [], y :: b, _, _, h => by have := (h y).2 List.mem_cons_self; cases this
  | x :: a, [], _, _, h => by have := (h x).1 List.mem_cons_self; cases this
  | x :: a, y :: b, ha, hb, h => by
    obtain ⟨ha1, ha2⟩ := List.pairwise_cons.1 ha
    obtain ⟨hb1, hb2⟩ := List.pairwise_cons.1 hb
    have e : x = y := by
      rcases List.mem_cons.1 ((h x).1 List.mem_cons_self) with q | q
      · exact q
      · rcases List.mem_cons.1 ((h y).2 List.mem_cons_self) with r | r
        · exact r.symm
        · have := cmpw_trans (hb1 x q) (ha1 y r)
          rw [cmpw_self] at this; omega
    subst e
    rw [SS.unique a b ha2 hb2 fun z => ⟨fun hz => ?_, fun hz => ?_⟩]
    · rcases List.mem_cons.1 ((h z).1 (List.mem_cons_of_mem _ hz)) with q | q
      · subst q; have := ha1 z hz; rw [cmpw_self] at this; omega
      · exact q
    · rcases List.mem_cons.1 ((h z).2 (List.mem_cons_of_mem _ hz)) with q | q
      · subst q; have := hb1 z hz; rw [cmpw_self] at this; omega
      · exact q

/-! ### The reference's list -/
def insw (w : List UInt8) : List (List UInt8) → List (List UInt8)
  | [] => [w]
  | x :: t => if wCompare x w = 0 then x :: t else if 0 < wCompare x w then w :: x :: t else x :: insw w t
theorem addFold_true (w : List UInt8) : ∀ (l o : List (List UInt8)), l.foldl (addStep w) (o, true) = (o ++ l, true)
  | [], o => by simp
  | x :: l, o => by
    have : addStep w (o, true) x = (o ++ [x], true) := by simp [addStep]
    rw [List.foldl_cons, this, addFold_true w l]; simp
theorem addFold_false (w : List UInt8) : ∀ (l o : List (List UInt8)), (let s := l.foldl (addStep w) (o, false); if s.2 then s.1 else s.1 ++ [w]) = o ++ insw w l
  | [], o => by simp [insw]
  | x :: l, o => by
    rw [List.foldl_cons, insw]
    by_cases h : wCompare x w = 0
    · have : addStep w (o, false) x = (o ++ [x], true) := by simp [addStep, h]
      rw [this, addFold_true, if_pos h]; simp
    · rw [if_neg h]
      by_cases h2 : 0 < wCompare x w
      · have : addStep w (o, false) x = (o ++ [w] ++ [x], true) := by simp [addStep, h, h2]
        rw [this, addFold_true, if_pos h2]; simp
      · have : addStep w (o, false) x = (o ++ [x], false) := by simp [addStep, h, h2]
        rw [this, if_neg h2]
        have ih := addFold_false w l (o ++ [x])
        simp only at ih ⊢
        rw [ih]; simp
theorem addw_ins (l : List (List UInt8)) (w : List UInt8) : addw l w = insw w l := by
  have := addFold_false w l []
  simpa [addw] using this
theorem wCompare_is {u v : List UInt8} (hu : isw u = true) (hv : isw v = true) : wCompare u v = cmpw u v := by rw [wCompare, if_pos ⟨hu, hv⟩]
def Ws (l : List (List UInt8)) : Prop := ∀ x ∈ l, isw x = true
theorem insw_spec {w : List UInt8} (hw : isw w = true) : ∀ l : List (List UInt8), Ws l → SS l → (∀ x, x ∈ insw w l ↔ x = w ∨ x ∈ l) ∧ SS (insw w l)
  | [], _, _ => by simp [insw, SS]
  | x :: t, hl, hs => by
    obtain ⟨h1, h2⟩ := List.pairwise_cons.1 hs
    have hx := hl x List.mem_cons_self
    obtain ⟨ih1, ih2⟩ := insw_spec hw t (fun y hy => hl y (List.mem_cons_of_mem _ hy)) h2
    rw [insw, wCompare_is hx hw]
    split
    · rename_i h
      have e := cmpw_zero (okl_is hx) (okl_is hw) h
      subst e
      exact ⟨fun z => ⟨.inr, fun q => q.elim (fun q => q ▸ List.mem_cons_self) id⟩, hs⟩
    · rename_i h
      split
      · rename_i h3
        refine ⟨fun z => by simp, List.pairwise_cons.2 ⟨fun z hz => ?_, hs⟩⟩
        have hwx : cmpw w x < 0 := by rw [cmpw_anti x w]; omega
        rcases List.mem_cons.1 hz with rfl | hz
        · exact hwx
        · exact cmpw_trans hwx (h1 z hz)
      · rename_i h3
        refine ⟨fun z => by simp only [List.mem_cons, ih1]; exact ⟨fun q => by rcases q with q | q | q <;> simp [q], fun q => by rcases q with q | q | q <;> simp [q]⟩, List.pairwise_cons.2 ⟨fun z hz => ?_, ih2⟩⟩
        rcases (ih1 z).1 hz with rfl | hz
        · omega
        · exact h1 z hz
theorem addw_spec {w : List UInt8} {l : List (List UInt8)} (hw : isw w = true) (hl : Ws l) (hs : SS l) : (∀ x, x ∈ addw l w ↔ x = w ∨ x ∈ l) ∧ SS (addw l w) ∧ Ws (addw l w) := by
  rw [addw_ins]
  obtain ⟨h1, h2⟩ := insw_spec hw l hl hs
  exact ⟨h1, h2, fun x hx => ((h1 x).1 hx).elim (fun q => q ▸ hw) (hl x)⟩
theorem rot_is {c : List UInt8} (h : isw c = true) (j : Nat) : isw (rot c j) = true :=
  isw_sub h (fun x hx => (List.mem_append.1 hx).elim List.mem_of_mem_drop List.mem_of_mem_take) (by rw [rot_length]; exact Nat.le_refl _)
theorem symmOf_spec {c : List UInt8} {a : List (List UInt8)} {j : Nat} (hc : isw c = true) (ha : Ws a) (hs : SS a) : (∀ x, x ∈ symmOf c a j ↔ x = rot c j ∨ x = rot (wInverse c) j ∨ x ∈ a) ∧ SS (symmOf c a j) ∧ Ws (symmOf c a j) := by
  obtain ⟨h1, h2, h3⟩ := addw_spec (rot_is hc j) ha hs
  obtain ⟨g1, g2, g3⟩ := addw_spec (rot_is (wInverse_is c) j) h3 h2
  refine ⟨fun x => ?_, g2, g3⟩
  unfold symmOf
  rw [g1, h1]
  exact ⟨fun q => by rcases q with q | q | q <;> simp [q], fun q => by rcases q with q | q | q <;> simp [q]⟩
theorem symmStep_spec {r : List UInt8} {a : List (List UInt8)} (ha : Ws a) (hs : SS a) : ∀ n, (∀ x, x ∈ (List.range n).foldl (symmOf (wCore r)) a ↔ (∃ j, j < n ∧ (x = rot (wCore r) j ∨ x = rot (wInverse (wCore r)) j)) ∨ x ∈ a) ∧ SS ((List.range n).foldl (symmOf (wCore r)) a) ∧ Ws ((List.range n).foldl (symmOf (wCore r)) a)
  | 0 => ⟨fun x => by simp, hs, ha⟩
  | n + 1 => by
    obtain ⟨h1, h2, h3⟩ := symmStep_spec (r := r) ha hs n
    rw [List.range_succ, List.foldl_append]
    obtain ⟨g1, g2, g3⟩ := symmOf_spec (j := n) (wCore_is r) h3 h2
    refine ⟨fun x => ?_, g2, g3⟩
    show x ∈ symmOf _ _ n ↔ _
    rw [g1, h1]
    constructor
    · rintro (q | q | ⟨j, hj, q⟩ | q)
      · exact .inl ⟨n, by omega, .inl q⟩
      · exact .inl ⟨n, by omega, .inr q⟩
      · exact .inl ⟨j, by omega, q⟩
      · exact .inr q
    · rintro (⟨j, hj, q⟩ | q)
      · by_cases e : j = n
        · subst e; exact q.elim .inl (fun q => .inr (.inl q))
        · exact .inr (.inr (.inl ⟨j, by omega, q⟩))
      · exact .inr (.inr (.inr q))
theorem symm_fold : ∀ (l a : List (List UInt8)), Ws a → SS a → (∀ x, x ∈ l.foldl symmStep a ↔ (∃ r ∈ l, ∃ j, j < (wCore r).length ∧ (x = rot (wCore r) j ∨ x = rot (wInverse (wCore r)) j)) ∨ x ∈ a) ∧ SS (l.foldl symmStep a) ∧ Ws (l.foldl symmStep a)
  | [], a, ha, hs => ⟨fun x => by simp, hs, ha⟩
  | r :: l, a, ha, hs => by
    obtain ⟨h1, h2, h3⟩ := symmStep_spec (r := r) ha hs (wCore r).length
    obtain ⟨g1, g2, g3⟩ := symm_fold l (symmStep a r) h3 h2
    refine ⟨fun x => ?_, g2, g3⟩
    rw [List.foldl_cons, g1]
    unfold symmStep
    rw [h1]
    constructor
    · rintro (⟨s, hs, q⟩ | q | q)
      · exact .inl ⟨s, List.mem_cons_of_mem _ hs, q⟩
      · exact .inl ⟨r, List.mem_cons_self, q⟩
      · exact .inr q
    · rintro (⟨s, hs, q⟩ | q)
      · rcases List.mem_cons.1 hs with rfl | hs
        · exact .inr (.inl q)
        · exact .inl ⟨s, hs, q⟩
      · exact .inr (.inr q)
theorem symm_spec (l : List (List UInt8)) : (∀ x, x ∈ symm l ↔ ∃ r ∈ l, ∃ j, j < (wCore r).length ∧ (x = rot (wCore r) j ∨ x = rot (inv (wCore r)) j)) ∧ SS (symm l) ∧ Ws (symm l) := by
  obtain ⟨h1, h2, h3⟩ := symm_fold l [] (fun x h => by cases h) List.Pairwise.nil
  refine ⟨fun x => ?_, h2, h3⟩
  unfold symm
  rw [h1]
  simp only [wInv_core, List.not_mem_nil, or_false]

/-! ### The program's list -/
theorem addE_words (E : List Rot) (x : Rot) : (∀ y, (∃ z ∈ addE E x, z.w = y) ↔ y = x.w ∨ ∃ z ∈ E, z.w = y) ∧ ((E.map (·.w)).Nodup → ((addE E x).map (·.w)).Nodup) := by
  unfold addE
  split
  · rename_i h
    obtain ⟨z, hz, e⟩ := List.any_eq_true.1 h
    have e : z.w = x.w := by simpa using e
    exact ⟨fun y => ⟨.inr, fun q => q.elim (fun q => ⟨z, hz, by rw [q, e]⟩) id⟩, id⟩
  · rename_i h
    refine ⟨fun y => ?_, fun hn => ?_⟩
    · constructor
      · rintro ⟨z, hz, rfl⟩
        rcases List.mem_append.1 hz with q | q
        · exact .inr ⟨z, q, rfl⟩
        · simp at q; rw [q]; exact .inl rfl
      · rintro (q | ⟨z, hz, q⟩)
        · exact ⟨x, by simp, q.symm⟩
        · exact ⟨z, List.mem_append_left _ hz, q⟩
    · rw [List.map_append]
      refine List.nodup_append.2 ⟨hn, by simp, fun a ha b hb => ?_⟩
      obtain ⟨z, hz, rfl⟩ := List.mem_map.1 ha
      simp at hb
      rw [hb]
      exact fun q => h (List.any_eq_true.2 ⟨z, hz, by simpa using q⟩)
theorem addJ_words (i : Nat) (iv : Bool) (core cj : List UInt8) (E : List Rot) : ∀ n, (∀ y, (∃ z ∈ addJ i iv core cj E n, z.w = y) ↔ (∃ j, j < n ∧ y = rot core j) ∨ ∃ z ∈ E, z.w = y) ∧ ((E.map (·.w)).Nodup → ((addJ i iv core cj E n).map (·.w)).Nodup)
  | 0 => ⟨fun y => by simp [addJ], fun h => h⟩
  | n + 1 => by
    obtain ⟨h1, h2⟩ := addJ_words i iv core cj E n
    rw [addJ_succ]
    obtain ⟨g1, g2⟩ := addE_words (addJ i iv core cj E n) (mkR i iv core cj n)
    refine ⟨fun y => ?_, fun hn => g2 (h2 hn)⟩
    rw [g1, h1]
    have e : (mkR i iv core cj n).w = rot core n := rfl
    rw [e]
    constructor
    · rintro (q | ⟨j, hj, q⟩ | q)
      · exact .inl ⟨n, by omega, q⟩
      · exact .inl ⟨j, by omega, q⟩
      · exact .inr q
    · rintro (⟨j, hj, q⟩ | q)
      · by_cases r : j = n
        · subst r; exact .inl q
        · exact .inr (.inl ⟨j, by omega, q⟩)
      · exact .inr (.inr q)
theorem addR_words {g : Int} {l : List (List UInt8)} (hp : pcheck g l = 0) {k : Nat} (hk : k < l.length) (E : List Rot) : (∀ y, (∃ z ∈ addR l E k, z.w = y) ↔ (∃ j, j < (wCore (l.getD k [])).length ∧ (y = rot (wCore (l.getD k [])) j ∨ y = rot (inv (wCore (l.getD k []))) j)) ∨ ∃ z ∈ E, z.w = y) ∧ ((E.map (·.w)).Nodup → ((addR l E k).map (·.w)).Nodup) := by
  have hz := pcheck_zero hp
  obtain ⟨_, hb⟩ := hz.2.2 _ (getD_mem (d := []) hk)
  obtain ⟨_, b2, b3⟩ := badRel_good hb
  have hi := isw_of hz.1.2 b2
  have e1 : wOf (l.getD k []) false = l.getD k [] := rfl
  have e2 : wOf (l.getD k []) true = inv (l.getD k []) := by rw [wOf, if_pos rfl, wInverse, if_pos hi]
  have e3 : wCore (inv (l.getD k [])) = inv (wCore (l.getD k [])) := by
    rw [wCore, if_pos (isw_inv hi), wCore, if_pos hi, core_inv b3]
  unfold addR addV
  rw [e1, e2, e3, inv_length]
  obtain ⟨h1, h2⟩ := addJ_words k false (wCore (l.getD k [])) (wConj (l.getD k [])) E (wCore (l.getD k [])).length
  obtain ⟨g1, g2⟩ := addJ_words k true (inv (wCore (l.getD k []))) (wConj (inv (l.getD k []))) (addJ k false (wCore (l.getD k [])) (wConj (l.getD k [])) E (wCore (l.getD k [])).length) (wCore (l.getD k [])).length
  refine ⟨fun y => ?_, fun hn => g2 (h2 hn)⟩
  rw [g1, h1]
  constructor
  · rintro (⟨j, hj, q⟩ | ⟨j, hj, q⟩ | q)
    · exact .inl ⟨j, hj, .inr q⟩
    · exact .inl ⟨j, hj, .inl q⟩
    · exact .inr q
  · rintro (⟨j, hj, q | q⟩ | q)
    · exact .inr (.inl ⟨j, hj, q⟩)
    · exact .inl ⟨j, hj, q⟩
    · exact .inr (.inr q)
theorem allR_words {g : Int} {l : List (List UInt8)} (hp : pcheck g l = 0) : ∀ n, n ≤ l.length → (∀ y, (∃ z ∈ (List.range n).foldl (addR l) [], z.w = y) ↔ ∃ k, k < n ∧ ∃ j, j < (wCore (l.getD k [])).length ∧ (y = rot (wCore (l.getD k [])) j ∨ y = rot (inv (wCore (l.getD k []))) j)) ∧ (((List.range n).foldl (addR l) []).map (·.w)).Nodup
  | 0, _ => by simp
  | n + 1, hn => by
    obtain ⟨h1, h2⟩ := allR_words hp n (by omega)
    rw [List.range_succ, List.foldl_append]
    obtain ⟨g1, g2⟩ := addR_words hp (show n < l.length by omega) ((List.range n).foldl (addR l) [])
    refine ⟨fun y => ?_, g2 h2⟩
    show (∃ z ∈ addR l _ n, z.w = y) ↔ _
    rw [g1, h1]
    constructor
    · rintro (q | ⟨k, hk, q⟩)
      · exact ⟨n, by omega, q⟩
      · exact ⟨k, by omega, q⟩
    · rintro ⟨k, hk, q⟩
      by_cases e : k = n
      · subst e; exact .inl q
      · exact .inr ⟨k, by omega, q⟩
/-- The words of the rules are the reference's. -/
theorem words_symm {g : Int} {l : List (List UInt8)} (hp : pcheck g l = 0) {S : RS} (hS : SOk l S) : S.list.map (·.w) = symm l := by
  obtain ⟨h1, h2, h3⟩ := symm_spec l
  obtain ⟨g1, g2⟩ := allR_words hp l.length (Nat.le_refl _)
  obtain ⟨hR, hP, hW⟩ := hS
  have hn : (S.list.map (·.w)).Nodup := ((hP.map (·.w)).nodup_iff).2 g2
  refine SS.unique _ _ ?_ h2 fun x => ?_
  · rw [SS, List.pairwise_map]
    have hn2 := List.pairwise_map.1 hn
    rw [List.pairwise_iff_getElem] at hn2 hW ⊢
    intro i j hi hj hij
    have a := hn2 i j hi hj hij
    have b := hW i j hi hj hij
    have c := cmpw_anti S.list[i].w S.list[j].w
    have d : cmpw S.list[i].w S.list[j].w ≠ 0 := fun q => a (cmpw_zero (okl_is (hR.isw _ (List.getElem_mem hi)).1) (okl_is (hR.isw _ (List.getElem_mem hj)).1) q)
    omega
  · rw [h1, List.mem_map]
    have e : (∃ a ∈ S.list, a.w = x) ↔ ∃ z ∈ allR l, z.w = x := ⟨fun ⟨a, ha, q⟩ => ⟨a, hP.mem_iff.1 ha, q⟩, fun ⟨a, ha, q⟩ => ⟨a, hP.mem_iff.2 ha, q⟩⟩
    rw [e]
    unfold allR
    rw [g1]
    constructor
    · rintro ⟨k, hk, q⟩; exact ⟨_, getD_mem hk, q⟩
    · rintro ⟨r, hr, q⟩
      obtain ⟨k, hk, rfl⟩ := List.getElem_of_mem hr
      refine ⟨k, hk, ?_⟩
      have : l.getD k [] = l[k] := by simp [hk]
      rw [this]; exact q
end Go.Proofs.YtaccklloepfemaaDoor

namespace Go.Proofs.YtaccklloepfemaaDoor
set_option linter.unusedVariables false
set_option linter.unusedSimpArgs false
open Go Go.RowKit V

theorem map_getD (L : List Rot) (j : Nat) : (L.map (·.w)).getD j [] = (L.getD j .zero).w := by
  by_cases h : j < L.length
  · simp [h]
  · simp [h, Rot.zero]
theorem at_pos {L : List Rot} {s : List UInt8} (h : 0 ≤ (longF L s).1) : rlongAt (L.map (·.w)) s = some (L.getD (longF L s).1.toNat .zero).w := by
  obtain ⟨h1, h2, h3⟩ := longF_pos h
  rw [← map_getD]
  refine rlongAt_found (by simpa using h1) (fun k hk => ?_) (by rw [map_getD]; exact h2)
  rw [map_getD, partOf, decide_eq_false_iff_not]
  exact h3 k hk
theorem at_neg {L : List Rot} {s : List UInt8} (h : ¬ 0 ≤ (longF L s).1) : rlongAt (L.map (·.w)) s = none := by
  refine rlongAt_none (Nat.le_refl _) fun k hk => ?_
  rw [map_getD, partOf, decide_eq_false_iff_not]
  exact longF_neg h _ (getD_mem (by simpa using hk))
theorem rlong_skip {l : List (List UInt8)} {w : List UInt8} : ∀ p, p ≤ w.length → (∀ q, q < p → rlongAt l (w.drop q) = none) → rlongFrom l w ((List.range w.length).drop p) = rlong l w
  | 0, _, _ => rfl
  | p + 1, hp, h => rlong_next (by omega) (rlong_skip p (by omega) fun q hq => h q (by omega)) (h p (by omega))
theorem putF_low : ∀ (w : List UInt8) (t : List UInt8 × Nat), t.2 ≤ t.1.length → (putF t w).1.take (putF t w).2 = t.1.take (putF t w).2 ∧ (putF t w).2 ≤ (putF t w).1.length
  | [], t, h => ⟨rfl, h⟩
  | c :: w, t, h => by
    have hm : min t.2 (push t.1 c).length ≤ (push t.1 c).length := Nat.min_le_right _ _
    obtain ⟨h1, h2⟩ := putF_low w (push t.1 c, min t.2 (push t.1 c).length) hm
    have e : putF t (c :: w) = putF (push t.1 c, min t.2 (push t.1 c).length) w := rfl
    rw [e]
    refine ⟨?_, h2⟩
    have hs := putF_snd w (push t.1 c, min t.2 (push t.1 c).length)
    simp only at hs h1
    generalize (putF (push t.1 c, min t.2 (push t.1 c).length) w).2 = m at h1 hs ⊢
    rw [h1]
    unfold push at hs ⊢
    split
    · rename_i q
      rw [if_pos q, List.length_take] at hs
      rw [List.take_take]; congr 1; omega
    · rename_i q
      rw [if_neg q, List.length_append] at hs
      rw [List.take_append_of_le_length (by omega)]
theorem NC.takeFold {l : List UInt8} (h : NC l) (p : Nat) : (l.take p).foldl push [] = l.take p := (h.take p).isRed
theorem part_take {x s : List UInt8} : s.take (cmn s x) <+: x := (cmn_prefix s x _ (cmn_le s x).1).2 (Nat.le_refl _)
section
variable {L : List Rot} {m : Nat}
theorem repl_rnext (hw : ∀ x ∈ L, isw x.w = true ∧ x.w.length ≤ m) (hm : m ≤ 200) {l : List UInt8} {p : Nat} (hl : l.length ≤ 6000) (hi : isw l = true) (hn : NC l) (hp : p < l.length) (h : 0 ≤ (longF L (l.drop p)).1) (e : rlong (L.map (·.w)) l = ⟨p, repN l p (L.getD (longF L (l.drop p)).1.toNat .zero), wInverse ((L.getD (longF L (l.drop p)).1.toNat .zero).w.drop (repN l p (L.getD (longF L (l.drop p)).1.toNat .zero))), true⟩) :
    (repl l p (L.getD (longF L (l.drop p)).1.toNat .zero)).1 = rnext (L.map (·.w)) l := by
  have hx := hw _ (getD_mem (d := Rot.zero) (longF_pos h).1)
  generalize L.getD (longF L (l.drop p)).1.toNat .zero = x at e hx
  have hs := repN_le l p x
  have h3 := wInverse_length (x.w.drop (repN l p x))
  rw [List.length_drop] at h3
  have hisw : isw (l.take p ++ wInverse (x.w.drop (repN l p x)) ++ l.drop (p + repN l p x)) = true :=
    isw_app (isw_app (isw_sub hi (fun c hc => List.mem_of_mem_take hc) (by rw [List.length_take]; omega)) (wInverse_is _) (by rw [List.length_take]; omega)) (isw_sub hi (fun c hc => List.mem_of_mem_drop hc) (by rw [List.length_drop]; omega)) (by rw [List.length_append, List.length_take, List.length_drop]; omega)
  unfold rnext
  rw [e]
  dsimp only
  rw [wReduce, if_pos hisw, red, List.foldl_append, List.foldl_append, hn.takeFold]
  unfold repl
  rw [putF_fst, putF_fst]
theorem drun_rshort (hw : ∀ x ∈ L, isw x.w = true ∧ x.w.length ≤ m) (hm : m ≤ 200) : ∀ (f : Nat) (l : List UInt8) (d : List DCell) (p F n : Nat), 100001 * l.length + (l.length - p) < f → l.length ≤ 6000 → isw l = true → NC l → p ≤ l.length → (∀ q, q < p → ¬ 0 ≤ (longF L (l.drop q)).1) → l.length < F →
    (drun L m f l d p).1 = (rshort (L.map (·.w)) F l n).1 ∧ (drun L m f l d p).2.length + n = d.length + (rshort (L.map (·.w)) F l n).2
  | 0, _, _, _, _, _, h, _, _, _, _, _, _ => by omega
  | f + 1, l, d, p, F, n, hf, hl, hi, hn, hpl, hinv, hF => by
    have hskip := rlong_skip (l := L.map (·.w)) (w := l) p hpl fun q hq => at_neg (hinv q hq)
    rw [drun]
    by_cases hp : p < l.length
    · rw [if_pos hp]
      by_cases h : 0 ≤ (longF L (l.drop p)).1
      · rw [if_pos h]
        have e := rlong_here hp hskip (at_pos h)
        have hr := repl_rnext hw hm hl hi hn hp h e
        have hlt := repl_lt hp h
        have hpi : (rlong (L.map (·.w)) l).pi = true := by rw [e]
        rw [rshort_go hF hpi, ← hr]
        have hxw := hw _ (getD_mem (d := Rot.zero) (longF_pos h).1)
        generalize hx : L.getD (longF L (l.drop p)).1.toNat .zero = x at hr hlt hxw ⊢
        have hlow := repl_low l p x
        have hlk := putF_low (l.drop (p + repN l p x)) (putF (l.take p, p) (wInverse (x.w.drop (repN l p x)))) (putF_low _ (l.take p, p) (by simp; omega)).2
        have hlk1 := putF_low (wInverse (x.w.drop (repN l p x))) (l.take p, p) (by simp; omega)
        have hle1 := putF_snd (l.drop (p + repN l p x)) (putF (l.take p, p) (wInverse (x.w.drop (repN l p x))))
        have htake : (repl l p x).1.take (repl l p x).2 = l.take (repl l p x).2 := by
          have a : (repl l p x).1.take (repl l p x).2 = (putF (l.take p, p) (wInverse (x.w.drop (repN l p x)))).1.take (repl l p x).2 := hlk.1
          have hle2 : (repl l p x).2 ≤ (putF (l.take p, p) (wInverse (x.w.drop (repN l p x)))).2 := hle1
          rw [a]
          have b : ∀ k, k ≤ (putF (l.take p, p) (wInverse (x.w.drop (repN l p x)))).2 → (putF (l.take p, p) (wInverse (x.w.drop (repN l p x)))).1.take k = (l.take p).take k := fun k hk => by
            have := congrArg (List.take k) hlk1.1
            rw [List.take_take, List.take_take, Nat.min_eq_left hk] at this
            exact this
          rw [b _ hle2, List.take_take, Nat.min_eq_left hlow]
        have hlow2 : (repl l p x).2 ≤ (repl l p x).1.length := hlk.2
        have hNC : NC (repl l p x).1 := by
          unfold repl
          rw [putF_fst, putF_fst]
          exact NC.ofFold _ _ (NC.ofFold _ _ (hn.take p))
        have hI : isw (repl l p x).1 = true := by rw [hr]; exact wReduce_is _
        have ih := drun_rshort hw hm f (repl l p x).1 (d ++ [repC l p x]) ((repl l p x).2 - m) (F - 1) (n + 1) (by omega) (by omega) hI hNC (by omega) (fun q hq h2 => ?_) (by omega)
        · refine ⟨ih.1, ?_⟩
          have := ih.2
          simp only [List.length_append, List.length_cons, List.length_nil] at this
          omega
        · obtain ⟨g1, g2, _⟩ := longF_pos h2
          have hyw := hw _ (getD_mem (d := Rot.zero) g1)
          have hym := getD_mem (d := Rot.zero) g1
          generalize L.getD (longF L ((repl l p x).1.drop q)).1.toNat .zero = y at g2 hyw hym
          have hc := cmn_le ((repl l p x).1.drop q) y.w
          have hpt := part_take (s := (repl l p x).1.drop q) (x := y.w)
          have hk : q + cmn ((repl l p x).1.drop q) y.w ≤ (repl l p x).2 := by omega
          have e2 : ((repl l p x).1.drop q).take (cmn ((repl l p x).1.drop q) y.w) = (l.drop q).take (cmn ((repl l p x).1.drop q) y.w) := by
            have := congrArg (fun z => (z.drop q).take (cmn ((repl l p x).1.drop q) y.w)) htake
            simp only [List.drop_take, List.take_take] at this
            rw [Nat.min_eq_left (by omega)] at this
            exact this
          rw [e2] at hpt
          exact hinv q (by omega) (part_pos hym (by rw [List.length_drop]; omega) hpt g2)
      · rw [if_neg h]
        exact drun_rshort hw hm f l d (p + 1) F n (by omega) hl hi hn (by omega) (fun q hq => by
          by_cases e : q = p
          · subst e; exact h
          · exact hinv q (by omega)) hF
    · rw [if_neg hp]
      have e := rlong_end (l := L.map (·.w)) (w := l) (i := p) (by omega) hskip
      rw [rshort_stop (by rw [e])]
      exact ⟨rfl, by dsimp only⟩
end
/-- What the rules' shortening gives is what the reference's gives. -/
theorem dsh_rshorten {g : Int} {l : List (List UInt8)} (hp : pcheck g l = 0) {S : RS} (hS : SOk l S) {w : List UInt8} (hw : isw w = true) (hl : w.length ≤ 6000) :
    (dsh S w).1 = (rshorten (symm l) w).1 ∧ (dsh S w).2.length = (rshorten (symm l) w).2 := by
  have hr := red_length w
  have hR := hS.1
  have key := drun_rshort (L := S.list) (m := S.most) (fun x hx => ⟨(hR.isw x hx).1, hR.most x hx⟩) hR.small.1 (fuel (red w).length) (red w) [] 0 ((red w).length + 1) 0 (by unfold fuel; omega) (by omega) (isw_sub hw red_sub hr) (NC.ofRed w) (Nat.zero_le _) (fun q h => by omega) (by omega)
  rw [words_symm hp hS] at key
  unfold rshorten
  rw [wReduce, if_pos hw]
  refine ⟨key.1, ?_⟩
  have := key.2
  simp only [List.length_nil] at this
  unfold dsh; omega
theorem rshort_zero {l : List (List UInt8)} {x : List UInt8} {F : Nat} (hF : x.length < F) : (rshort l F x 0).2 = 0 ↔ (rlong l x).pi = false := by
  by_cases h : (rlong l x).pi = true
  · rw [rshort_go hF h, h]
    have mono : ∀ (f : Nat) (y : List UInt8) (n : Nat), n ≤ (rshort l f y n).2 := by
      intro f
      induction f with
      | zero => intro y n; exact Nat.le_refl _
      | succ f ih =>
        intro y n
        rw [rshort]
        split
        · exact Nat.le_trans (Nat.le_succ n) (ih _ _)
        · exact Nat.le_refl _
    have := mono (F - 1) (rnext l x) (0 + 1)
    constructor
    · intro q; omega
    · intro q; cases q
  · have h' : (rlong l x).pi = false := by simpa using h
    rw [rshort_stop h', h']
    simp
end Go.Proofs.YtaccklloepfemaaDoor

namespace Go.Proofs.YtaccklloepfemaaDoor
set_option linter.unusedVariables false
set_option linter.unusedSimpArgs false
open Go Go.RowKit V

/-! ### Pieces -/
theorem cmn_comm : ∀ a b : List UInt8, cmn a b = cmn b a
  | [], [] => rfl
  | [], _ :: _ => rfl
  | _ :: _, [] => rfl
  | a :: x, b :: y => by
    simp only [cmn]
    by_cases h : a = b
    · subst h; simp [cmn_comm x y]
    · rw [if_neg h, if_neg (fun q => h q.symm)]
theorem cons_le {a b : UInt8} {x y : List UInt8} (h : a :: x ≤ b :: y) : ¬ b < a ∧ (a = b → x ≤ y) := by
  have h : ¬ (b :: y < a :: x) := h
  rw [List.cons_lt_cons_iff] at h
  exact ⟨fun q => h (.inl q), fun e q => h (.inr ⟨e.symm, q⟩)⟩
theorem cmn_mid : ∀ a b c : List UInt8, a ≤ b → b ≤ c → cmn a c ≤ cmn a b ∧ cmn a c ≤ cmn b c
  | [], _, c, _, _ => by simp [cmn]
  | _ :: _, _, [], _, _ => by simp [cmn]
  | a :: x, [], c :: z, h, _ => by
    exfalso
    exact h (List.nil_lt_cons _ _)
  | a :: x, b :: y, c :: z, h1, h2 => by
    obtain ⟨p1, p2⟩ := cons_le h1
    obtain ⟨q1, q2⟩ := cons_le h2
    simp only [cmn]
    by_cases e : a = c
    · subst e
      have e2 : a = b := by
        have h1 : ¬ b.toNat < a.toNat := fun r => p1 (UInt8.lt_iff_toNat_lt.2 r)
        have h2 : ¬ a.toNat < b.toNat := fun r => q1 (UInt8.lt_iff_toNat_lt.2 r)
        exact UInt8.toNat_inj.1 (by omega)
      subst e2
      have := cmn_mid x y z (p2 rfl) (q2 rfl)
      simp only [if_pos]
      omega
    · rw [if_neg e]; omega
theorem le_tr : ∀ a b c : List UInt8, a ≤ b → b ≤ c → a ≤ c := fun _ _ _ h1 h2 => List.le_trans h1 h2
theorem le_tot : ∀ a b : List UInt8, a ≤ b ∨ b ≤ a := fun a b => List.le_total a b
theorem srt_sorted (d : List (List UInt8)) : (srt d).Pairwise (· ≤ ·) := by
  have := List.pairwise_mergeSort (le := fun x y : List UInt8 => decide (x ≤ y)) (fun a b c h1 h2 => by
    simp only [decide_eq_true_eq] at h1 h2 ⊢; exact le_tr _ _ _ h1 h2) (fun a b => by
    simp only [Bool.or_eq_true, decide_eq_true_eq]; exact le_tot a b) d
  exact this.imp fun h => by simpa using h
def Small6 (l : List (List UInt8)) : Prop := ∀ x ∈ l, ∀ y ∈ l, x ≠ y → ¬ x.length ≤ 6 * cmn x y
theorem isDehn_iff {l : List (List UInt8)} (hn : l.Nodup) : isDehn l = true ↔ Small6 l := by
  unfold isDehn Small6
  simp only [List.all_eq_true, List.mem_range, Bool.not_eq_true', Bool.and_eq_false_iff, decide_eq_false_iff_not]
  constructor
  · intro h x hx y hy hne hle
    obtain ⟨i, hi, rfl⟩ := List.getElem_of_mem hx
    obtain ⟨k, hk, rfl⟩ := List.getElem_of_mem hy
    have e1 : l.getD i [] = l[i] := by simp [hi]
    have e2 : l.getD k [] = l[k] := by simp [hk]
    rcases h i hi k hk with q | q
    · exact hne (by have : i = k := Classical.byContradiction fun r => q r
                    subst this; rfl)
    · rw [e1, e2] at q; exact q hle
  · intro h i hi k hk
    by_cases e : i = k
    · exact .inl (fun q => q e)
    · refine .inr fun q => h _ (getD_mem hi) _ (getD_mem hk) (fun r => e (nodup_getD hn hi hk r)) q
theorem dver_iff {d : List (List UInt8)} (hn : d.Nodup) (hs : d.Pairwise (· ≤ ·)) : dverW d = true ↔ Small6 d := by
  have hle : ∀ i j, i < j → j < d.length → d.getD i [] ≤ d.getD j [] := fun i j hij hj => by
    have hi : i < d.length := by omega
    have := List.pairwise_iff_getElem.1 hs i j hi hj hij
    simpa [hi, hj] using this
  have hrefl : ∀ a : List UInt8, a ≤ a := fun a => (le_tot a a).elim id id
  have hle2 : ∀ i j, i ≤ j → j < d.length → d.getD i [] ≤ d.getD j [] := fun i j hij hj => by
    rcases Nat.lt_or_eq_of_le hij with q | q
    · exact hle i j q hj
    · subst q; exact hrefl _
  constructor
  · intro h
    have hg : ∀ i, 1 ≤ i → i < d.length → ¬ badAt d i := fun i h1 hi q => by
      rw [dverW_no h1 hi q] at h; cases h
    have key : ∀ i j, i < j → j < d.length → ¬ (d.getD i []).length ≤ 6 * cmn (d.getD i []) (d.getD j []) ∧ ¬ (d.getD j []).length ≤ 6 * cmn (d.getD i []) (d.getD j []) := fun i j hij hj => by
      have c1 := (cmn_mid _ _ _ (hle i (i + 1) (by omega) (by omega)) (hle2 (i + 1) j (by omega) hj)).1
      have c2 := (cmn_mid _ _ _ (hle2 i (j - 1) (by omega) (by omega)) (hle (j - 1) j (by omega) hj)).2
      have b1 := hg (i + 1) (by omega) (by omega)
      have b2 := hg j (by omega) hj
      unfold badAt at b1 b2
      rw [Nat.add_sub_cancel] at b1
      omega
    intro x hx y hy hne hq
    obtain ⟨i, hi, rfl⟩ := List.getElem_of_mem hx
    obtain ⟨k, hk, rfl⟩ := List.getElem_of_mem hy
    have e1 : d.getD i [] = d[i] := by simp [hi]
    have e2 : d.getD k [] = d[k] := by simp [hk]
    rw [← e1, ← e2] at hq
    rcases Nat.lt_trichotomy i k with r | r | r
    · exact (key i k r hk).1 hq
    · subst r; exact hne rfl
    · rw [cmn_comm] at hq; exact (key k i r hi).2 hq
  · intro h
    refine dverW_yes (Nat.le_refl _) fun i h1 hi hb => ?_
    have hne : d.getD (i - 1) [] ≠ d.getD i [] := fun q => by
      have := nodup_getD (d := []) hn (by omega) hi q; omega
    rcases hb with q | q
    · exact h _ (getD_mem (by omega)) _ (getD_mem hi) hne q
    · rw [cmn_comm] at q; exact h _ (getD_mem hi) _ (getD_mem (by omega)) hne.symm q
theorem SS.nodup {l : List (List UInt8)} (h : SS l) : l.Nodup := h.imp fun {a b} q e => by subst e; rw [cmpw_self] at q; omega
theorem dver_isDehn {g : Int} {l : List (List UInt8)} (hp : pcheck g l = 0) {S : RS} (hS : SOk l S) : dver S = isDehn (symm l) := by
  have hn := (symm_spec l).2.1.nodup
  unfold dver
  rw [words_symm hp hS]
  have hpm := srt_perm (symm l)
  have h1 := dver_iff ((hpm.nodup_iff).2 hn) (srt_sorted _)
  have h2 := isDehn_iff hn
  have h3 : Small6 (srt (symm l)) ↔ Small6 (symm l) := by
    unfold Small6
    simp only [hpm.mem_iff]
  rw [Bool.eq_iff_iff, h1, h2, h3]

/-! ### Turning -/
theorem longU_state (L : List Rot) (s : List UInt8) : ∀ i, ((longU L s i).1 < 0 → (longU L s i).2 = 0) ∧ (0 ≤ (longU L s i).1 → 0 < (longU L s i).2)
  | 0 => by simp [longU]
  | i + 1 => by
    have ih := longU_state L s i
    simp only [longU, longStep]
    split
    · split
      · dsimp only; omega
      · dsimp only; split <;> omega
    · exact ih
theorem longU_stay {L : List Rot} {s : List UInt8} {n : Nat} (h : 0 ≤ (longU L s n).1) : ∀ i, 0 ≤ (longU L s (n + i)).1 ∧ (longU L s (n + i)).2 = (longU L s n).2
  | 0 => ⟨h, rfl⟩
  | i + 1 => by
    obtain ⟨h1, h2⟩ := longU_stay h i
    rw [← Nat.add_assoc]
    simp only [longU, longStep]
    split
    · rw [if_neg (by omega)]
      dsimp only
      refine ⟨by split <;> omega, h2⟩
    · exact ⟨h1, h2⟩
theorem longF_min {L : List Rot} {s : List UInt8} {x : Rot} {n : Nat} (hx : x ∈ L) (hn : n ≤ s.length) (h0 : 0 < n) (hp : s.take n <+: x.w) (hl : x.w.length < 2 * n) : 0 < (longF L s).2 ∧ (longF L s).2 ≤ n := by
  have hb : 0 ≤ bestOf L (s.take n) := (ifl_any _ _).2 (List.any_eq_true.2 ⟨x, hx, by
    simp only [Bool.and_eq_true, List.isPrefixOf_iff_prefix, decide_eq_true_eq]
    exact ⟨hp, by rw [List.length_take, Nat.min_eq_left hn]; exact hl⟩⟩)
  have h1 : 0 ≤ (longU L s n).1 ∧ 0 < (longU L s n).2 ∧ (longU L s n).2 ≤ n := by
    cases n with
    | zero => omega
    | succ n =>
      have st := longU_state L s n
      have le := longU_le L s n
      simp only [longU, longStep]
      rw [if_pos hb]
      split
      · exact ⟨hb, by dsimp only; omega, by dsimp only; omega⟩
      · dsimp only
        refine ⟨by split <;> omega, by omega, by omega⟩
  have h2 := (longU_stay h1.1 (s.length - n)).2
  rw [show n + (s.length - n) = s.length by omega] at h2
  unfold longF
  rw [h2]; exact h1.2
theorem turnU_le {L : List Rot} {w : List UInt8} : ∀ i, i ≤ w.length → ∀ j, j < i → 0 < (longF L (rot w j)).2 → 0 ≤ turnU L w i ∧ turnU L w i ≤ turnA w j (longF L (rot w j)).2
  | 0, _, j, hj, _ => by omega
  | i + 1, hi, j, hj, hn => by
    have hA : ∀ k n, 0 ≤ turnA w k n := fun k n => by unfold turnA; split <;> omega
    rw [turnU]
    by_cases e : j = i
    · subst e
      rw [if_pos hn]
      split
      · exact ⟨hA _ _, Int.le_refl _⟩
      · omega
    · obtain ⟨h1, h2⟩ := turnU_le i (by omega) j (by omega) hn
      split
      · split
        · rename_i q; exact ⟨hA _ _, by omega⟩
        · exact ⟨h1, h2⟩
      · exact ⟨h1, h2⟩
theorem pi_iff (L : List Rot) (s : List UInt8) : (rlong (L.map (·.w)) s).pi = true ↔ ∃ q, q < s.length ∧ 0 ≤ (longF L (s.drop q)).1 := by
  constructor
  · intro h
    apply Classical.byContradiction
    intro hn
    have hskip := rlong_skip (l := L.map (·.w)) (w := s) s.length (Nat.le_refl _) fun q hq => at_neg fun r => hn ⟨q, hq, r⟩
    have e := rlong_end (l := L.map (·.w)) (w := s) (i := s.length) (Nat.le_refl _) hskip
    rw [e] at h; cases h
  · rintro ⟨q, hq, h⟩
    apply Classical.byContradiction
    intro hn
    have key : ∀ p, p ≤ s.length → ∀ r, r < p → ¬ 0 ≤ (longF L (s.drop r)).1 := by
      intro p
      induction p with
      | zero => intro _ r hr; omega
      | succ p ih =>
        intro hp r hr
        by_cases e : r = p
        · subst e
          intro hpos
          have hskip := rlong_skip (l := L.map (·.w)) (w := s) r (by omega) fun q hq => at_neg (ih (by omega) q hq)
          have e2 := rlong_here (by omega) hskip (at_pos hpos)
          exact hn (by rw [e2])
        · exact ih (by omega) r (by omega)
    exact key s.length (Nat.le_refl _) q hq h
theorem turn_pi {L : List Rot} {w : List UInt8} {k : Nat} (hk : k < w.length) (h : (rlong (L.map (·.w)) (rot w k)).pi = true) : 0 ≤ dturn L w ∧ dturn L w ≤ k := by
  obtain ⟨q, hq, hpos⟩ := (pi_iff L _).1 h
  rw [rot_length] at hq
  obtain ⟨g1, g2, _⟩ := longF_pos hpos
  have hx := getD_mem (d := Rot.zero) g1
  generalize L.getD (longF L ((rot w k).drop q)).1.toNat .zero = x at g2 hx
  have hc := (cmn_le ((rot w k).drop q) x.w).1
  rw [List.length_drop, rot_length] at hc
  have hpt := part_take (s := (rot w k).drop q) (x := x.w)
  generalize cmn ((rot w k).drop q) x.w = n at g2 hc hpt
  -- the place in w
  obtain ⟨j, hj, e, hb⟩ : ∃ j, j < w.length ∧ ((rot w k).drop q).take n = (rot w j).take n ∧ j + n ≤ w.length + k := by
    by_cases hkq : k + q < w.length
    · refine ⟨k + q, hkq, ?_, by omega⟩
      have := rot_part (w := w) (i := k + q) (k := k) (n := n) hkq (by omega) (by omega)
      rw [show k + q - k = q by omega] at this; exact this
    · refine ⟨k + q - w.length, by omega, ?_, by omega⟩
      have e1 : (rot w k).drop q = (w.take k).drop (k + q - w.length) := by
        rw [rot, List.drop_append, List.drop_eq_nil_of_le (by rw [List.length_drop]; omega), List.nil_append, List.length_drop]
        congr 1; omega
      rw [e1, rot, List.take_append_of_le_length (by rw [List.length_drop]; omega), List.drop_take, List.take_take, Nat.min_eq_left (by omega)]
  rw [e] at hpt
  have hm := longF_min (s := rot w j) hx (by rw [rot_length]; omega) (by omega) hpt g2
  have ht := turnU_le w.length (Nat.le_refl _) j hj hm.1
  unfold dturn
  refine ⟨ht.1, Int.le_trans ht.2 ?_⟩
  unfold turnA
  split <;> omega
theorem pi_turn {L : List Rot} {w : List UInt8} {k : Nat} (hz : ((k : Nat) : Int) = dturn L w) : k < w.length ∧ (rlong (L.map (·.w)) (rot w k)).pi = true := by
  have hb := turnU_bound L w w.length (Nat.le_refl _)
  unfold dturn at hz
  obtain ⟨j, hj, hn, e⟩ := turnU_mem w.length (Nat.le_refl _) (by omega : 0 ≤ turnU L w w.length)
  obtain ⟨h1, x, hx, h2, h3⟩ := longF_some hn
  rw [rot_length] at h1
  rw [e] at hz
  have hk : (k = 0 ∧ j + (longF L (rot w j)).2 ≤ w.length) ∨ k + w.length = j + (longF L (rot w j)).2 := by
    unfold turnA at hz
    split at hz <;> omega
  have hp := rot_part (w := w) (i := j) (k := k) (n := (longF L (rot w j)).2) hj (by omega) (by omega)
  refine ⟨by omega, (pi_iff L _).2 ⟨j - k, by rw [rot_length]; omega, ?_⟩⟩
  exact part_pos hx (by rw [List.length_drop, rot_length]; omega) (by rw [hp]; exact h2) h3
theorem turn_none {L : List Rot} {w : List UInt8} (h : dturn L w < 0) : rcycAt (L.map (·.w)) w = none :=
  rcycAt_none (Nat.le_refl _) fun j hj => by
    cases q : (rlong (L.map (·.w)) (rot w j)).pi with
    | false => rfl
    | true => have := turn_pi hj q; omega
theorem turn_some {L : List Rot} {w : List UInt8} {k : Nat} (hz : ((k : Nat) : Int) = dturn L w) : rcycAt (L.map (·.w)) w = some k := by
  obtain ⟨h1, h2⟩ := pi_turn hz
  refine rcycAt_found h1 (fun j hj => ?_) h2
  cases q : (rlong (L.map (·.w)) (rot w j)).pi with
  | false => rfl
  | true => have := turn_pi (by omega) q; omega
end Go.Proofs.YtaccklloepfemaaDoor

namespace Go.Proofs.YtaccklloepfemaaDoor
set_option linter.unusedVariables false
set_option linter.unusedSimpArgs false
open Go Go.RowKit V

theorem drun_near {L : List Rot} {m N : Nat} (hx : ∀ x ∈ L, x.c.length ≤ 1000) (hN : N ≤ 6000) : ∀ (f : Nat) (l : List UInt8) (d : List DCell) (p : Nat), l.length ≤ N →
    ∀ c ∈ (drun L m f l d p).2, c ∈ d ∨ c.conj.length ≤ N + 1000
  | 0, l, d, p, _ => fun c h => .inl h
  | f + 1, l, d, p, hl => by
    rw [drun]
    by_cases hp : p < l.length
    · rw [if_pos hp]
      by_cases h : 0 ≤ (longF L (l.drop p)).1
      · rw [if_pos h]
        have hlt := repl_lt hp h
        intro c hc
        rcases drun_near (m := m) hx hN f (repl l p (L.getD (longF L (l.drop p)).1.toNat .zero)).1 (d ++ [repC l p (L.getD (longF L (l.drop p)).1.toNat .zero)]) ((repl l p (L.getD (longF L (l.drop p)).1.toNat .zero)).2 - m) (by omega) c hc with q | q
        · rcases List.mem_append.1 q with q | q
          · exact .inl q
          · simp only [List.mem_singleton] at q
            subst q
            right
            have e1 := hx _ (getD_mem (d := Rot.zero) (longF_pos h).1)
            have e2 := wReduce_length (l.take p ++ (L.getD (longF L (l.drop p)).1.toNat .zero).c)
            rw [List.length_append, List.length_take] at e2
            show (wReduce _).length ≤ _
            omega
        · exact .inr q
      · rw [if_neg h]; exact drun_near (m := m) hx hN f l d (p + 1) hl
    · rw [if_neg hp]; exact fun c h => .inl h
theorem light4 {S : RS} (hS : RSok S) {w : List UInt8} (hw : w.length ≤ 400) : ¬ Heavy (dsh S w).2 := by
  obtain ⟨h1, h2, _⟩ := dsh_all hS (w := w) (by omega)
  have hr := red_length w
  have h3 : ∀ c ∈ (dsh S w).2, c.conj.length ≤ 1400 := fun c hc => by
    have := drun_near (m := S.most) (N := 400) (fun x hx => (hS.isw x hx).2.2) (by omega) (fuel (red w).length) (red w) [] 0 (by omega) c hc
    exact this.elim (fun q => by cases q) id
  have h4 := conjs_le h3
  have : (dsh S w).2.length * 1400 ≤ 400 * 1400 := Nat.mul_le_mul_right _ (by omega)
  unfold Heavy; omega
theorem light {S : RS} (hS : RSok S) {w : List UInt8} (hw : w.length ≤ 60) : ¬ Heavy (dsh S w).2 := light4 hS (by omega)
theorem isw_asked {g : Int} {l : List (List UInt8)} {w : List UInt8} (h : ¬ ¬ rasked g l w = 0) : isw w = true := by
  have hp := pcheck_zero (rasked_pres h)
  exact isw_of hp.1.2 (rasked_word h).1
section
variable {g : Int} {l : List (List UInt8)} {w : List UInt8}
theorem sh_eq {W : List UInt8} {d : List DCell} {c : Nat} (h : ShR g l w (W, d, c)) (hw : w.length ≤ 60 ∨ 5000 < w.length) : W = (rS g l w).1 ∧ d.length = (rS g l w).2.1 ∧ c = (rS g l w).2.2 := by
  unfold ShR at h
  by_cases ha : ¬ rasked g l w = 0
  · rw [if_pos ha] at h
    rw [rS, if_pos ha]
    cases h; exact ⟨rfl, rfl, rfl⟩
  · rw [if_neg ha] at h
    obtain ⟨S, hS, h⟩ := h
    have h5 := (rasked_word ha).2
    rw [shOf, if_neg (light hS.1 (by omega))] at h
    have key := dsh_rshorten (rasked_pres ha) hS (isw_asked ha) (by omega)
    rw [rS, if_neg ha]
    cases h
    exact ⟨key.1, key.2, rfl⟩
theorem st_eq {r : Bool × Nat} (h : StR g l w r) : r = rStuck g l w := by
  unfold StR at h
  unfold rStuck
  by_cases ha : ¬ rasked g l w = 0
  · rw [if_pos ha] at h ⊢; exact h
  · rw [if_neg ha] at h ⊢
    by_cases hw : wReduce w = w
    · rw [if_pos hw] at h
      obtain ⟨S, hS, h⟩ := h
      have h5 := (rasked_word ha).2
      have key := dsh_rshorten (rasked_pres ha) hS (isw_asked ha) (by omega)
      rw [h, key.2]
      unfold rshorten
      rw [hw]
      have hz := rshort_zero (l := symm l) (x := w) (F := w.length + 1) (by omega)
      congr 1
      rw [decide_eq_true (rfl : w = w), Bool.true_and, Bool.eq_iff_iff, decide_eq_true_eq, hz]
      simp
    · rw [if_neg hw] at h
      rw [h, decide_eq_false hw]; rfl
theorem ve_eq {c : Nat} (h : VeR g l c) : c = rVerified g l := by
  unfold VeR at h
  unfold rVerified
  by_cases ha : ¬ pcheck g l = 0
  · rw [if_pos ha] at h ⊢; exact h
  · rw [if_neg ha] at h ⊢
    obtain ⟨S, hS, h⟩ := h
    rw [dver_isDehn (Decidable.not_not.1 ha) hS] at h
    exact h
theorem tr_eq {b : Bool} {d : List DCell} {c : Nat} (h : TrR g l w (b, d, c)) (hw : w.length ≤ 60) : (b, c) = rTrivial g l w ∧ d.length = if b = true then (rS g l w).2.1 else 0 := by
  unfold TrR at h
  unfold rTrivial rS
  by_cases ha : ¬ rasked g l w = 0
  · rw [if_pos ha] at h ⊢
    cases h
    dsimp only
    rw [if_pos ha]; exact ⟨rfl, rfl⟩
  · rw [if_neg ha] at h ⊢
    obtain ⟨S, hS, h⟩ := h
    have h5 := (rasked_word ha).2
    have key := dsh_rshorten (rasked_pres ha) hS (isw_asked ha) (by omega)
    dsimp only
    rw [if_neg (by simp)]
    rw [trOf, dver_isDehn (rasked_pres ha) hS] at h
    by_cases hd : isDehn (symm l) = true
    · rw [if_pos hd] at h ⊢
      rw [key.1] at h
      by_cases he : (rshorten (symm l) w).1 = []
      · rw [if_pos he, if_neg (light hS.1 hw)] at h
        cases h
        exact ⟨by rw [decide_eq_true he], key.2⟩
      · rw [if_neg he] at h
        cases h
        exact ⟨by rw [decide_eq_false he], rfl⟩
    · rw [if_neg hd] at h ⊢
      cases h
      exact ⟨rfl, rfl⟩
theorem sq_step {a b : Nat} (h : a < b) : a * (a + 1) + 2 * b ≤ b * (b + 1) := by
  obtain ⟨c, rfl⟩ : ∃ c, b = c + 1 := ⟨b - 1, by omega⟩
  have h1 : a * (a + 1) ≤ c * (c + 1) := Nat.mul_le_mul (by omega) (by omega)
  have h2 : (c + 1) * (c + 1 + 1) = c * (c + 1) + 2 * (c + 1) := by
    rw [Nat.mul_add (c + 1) (c + 1) 1, Nat.add_mul c 1 (c + 1)]; omega
  omega
theorem cy_law {S : RS} (hp : pcheck g l = 0) (hS : SOk l S) : ∀ (f : Nat) (r cj : List UInt8) (d : List DCell) (F : Nat), r.length < f → r.length < F → isw r = true → d.length + r.length ≤ 60 → cj.length + r.length * (r.length + 1) ≤ 7900 → (∀ c ∈ d, c.conj.length ≤ 15000) →
    ∃ W d' cj', cyF S f r cj d = (W, d', cj', 0) ∧ (W, d'.length) = rcyc (symm l) F r d.length
  | 0, _, _, _, _, h, _, _, _, _, _ => by omega
  | f + 1, r, cj, d, F, hf, hF, hi, hd, hc, hcd => by
    have hw := words_symm hp hS
    rw [cyF]
    by_cases ht : dturn S.list r < 0
    · rw [if_pos ht]
      have h4 := conjs_le hcd
      have h5 : d.length * 15000 ≤ 60 * 15000 := Nat.mul_le_mul_right _ (by omega)
      rw [if_neg (by unfold Heavy; omega)]
      refine ⟨r, d, cj, rfl, ?_⟩
      have := turn_none ht
      rw [hw] at this
      rw [rcyc_stop this]
    · rw [if_neg ht]
      obtain ⟨k, hk⟩ : ∃ k : Nat, ((k : Nat) : Int) = dturn S.list r := ⟨(dturn S.list r).toNat, by omega⟩
      rw [← hk, Int.toNat_natCast]
      have hlt := turn_lt hk
      have hsome := turn_some hk
      rw [hw] at hsome
      have hda := dsh_all hS.1 (w := rot r k) (by rw [rot_length]; omega)
      rw [rot_length] at hda
      have key := dsh_rshorten hp hS (rot_is hi k) (by rw [rot_length]; omega)
      have j1 := jnd_len cj (r.take k)
      rw [List.length_take] at j1
      have j2 := jnd_len (jnd cj (r.take k)) (wConj (dsh S (rot r k)).1)
      have j3 := wConj_length (dsh S (rot r k)).1
      have j4 := wCore_length (dsh S (rot r k)).1
      have hsq := sq_step (show (wCore (dsh S (rot r k)).1).length < r.length by omega)
      have hfit : fitsJ (jnd cj (r.take k)) (dsh S (rot r k)).2 = true := by
        rw [fitsJ, List.all_eq_true]
        intro c hc'
        have := jnd_len (jnd cj (r.take k)) c.conj
        have := hda.2.2 c hc'
        rw [decide_eq_true_eq]; omega
      rw [if_neg (by rw [hfit]; decide), if_pos ⟨by omega, by omega⟩]
      obtain ⟨W, d', cj', e1, e2⟩ := cy_law hp hS f (wCore (dsh S (rot r k)).1) (jnd (jnd cj (r.take k)) (wConj (dsh S (rot r k)).1)) (d ++ (dsh S (rot r k)).2.map (cellJ (jnd cj (r.take k)))) (F - 1) (by omega) (by omega) (wCore_is _) (by rw [List.length_append, List.length_map]; omega) (by omega) (fun c hc' => by
        rcases List.mem_append.1 hc' with q | q
        · exact hcd c q
        · obtain ⟨c2, hc2, rfl⟩ := List.mem_map.1 q
          have a1 := jnd_len (jnd cj (r.take k)) c2.conj
          have a2 := hda.2.2 c2 hc2
          show (jnd (jnd cj (r.take k)) c2.conj).length ≤ 15000
          omega)
      refine ⟨W, d', cj', e1, ?_⟩
      rw [e2, rcyc_go hF hsome, key.1, List.length_append, List.length_map, key.2]
theorem cy_eq {W cj : List UInt8} {d : List DCell} {c : Nat} (h : CyR g l w (W, d, cj, c)) (hw : w.length ≤ 60) : (W, d.length, c) = rCyclic g l w := by
  unfold CyR at h
  unfold rCyclic rS
  by_cases ha : ¬ rasked g l w = 0
  · rw [if_pos ha] at h ⊢
    cases h
    dsimp only
    rw [if_pos ha]; rfl
  · rw [if_neg ha] at h ⊢
    obtain ⟨S, hS, h⟩ := h
    have key := dsh_rshorten (rasked_pres ha) hS (isw_asked ha) (by omega)
    have hda := dsh_all hS.1 (w := w) (by omega)
    have j3 := wConj_length (dsh S w).1
    have j4 := wCore_length (dsh S w).1
    dsimp only
    rw [if_neg (by simp)]
    have hsq : (wCore (dsh S w).1).length * ((wCore (dsh S w).1).length + 1) ≤ 60 * 61 := Nat.mul_le_mul (by omega) (by omega)
    obtain ⟨W', d', cj', e1, e2⟩ := cy_law (rasked_pres ha) hS ((wCore (dsh S w).1).length + 1) (wCore (dsh S w).1) (wConj (dsh S w).1) (dsh S w).2 ((wCore (dsh S w).1).length + 1) (by omega) (by omega) (wCore_is _) (by omega) (by omega) (fun c hc => Nat.le_trans (hda.2.2 c hc) (by decide))
    rw [cyOf, e1] at h
    cases h
    rw [key.1, key.2] at e2
    rw [← e2]
end
end Go.Proofs.YtaccklloepfemaaDoor

namespace Go.Proofs.YtaccklloepfemaaDoor
set_option linter.unusedVariables false
set_option linter.unusedSimpArgs false
open Go Go.RowKit V
def sf : List (List UInt8) := [[97, 98, 65, 66, 99, 100, 67, 68]]
theorem sane_1 : rS 4 sf [97, 98, 65, 66, 99] = ([100, 99, 68], 1, 0) := by decide +kernel
theorem sane_2 : rTrivial 4 sf [97, 98, 65, 66, 99, 100, 67, 68] = (true, 0) ∧ (rS 4 sf [97, 98, 65, 66, 99, 100, 67, 68]).2.1 = 1 := by decide +kernel
theorem sane_3 : rTrivial 4 sf [97, 98] = (false, 0) := by decide +kernel
theorem sane_4 : rStuck 4 sf [97, 98, 65, 66] = (true, 0) := by decide +kernel
theorem sane_5 : rCyclic 4 sf [98, 97, 98, 65, 66, 99, 100, 67, 68, 66] = ([], 1, 0) := by decide +kernel
theorem sane_6 : (rS 1 [[97, 97, 97, 97, 97]] [97, 97, 97]).1 = [65, 65] ∧ (rS 1 [[97, 97, 97, 97, 97]] [97, 97, 97]).2.2 = 0 := by decide +kernel
theorem sane_7 : rVerified 4 sf = 0 := by decide +kernel
theorem sane_8 : rVerified 1 [[97, 97, 97, 97, 97]] = 0 := by decide +kernel
theorem sane_9 : rVerified 2 [[97, 98, 65, 66]] = 230 := by decide +kernel
end Go.Proofs.YtaccklloepfemaaDoor

namespace Go.Proofs.YtaccklloepfemaaDoor
open Go Go.RowKit V
set_option maxRecDepth 100000
set_option linter.unusedVariables false
set_option linter.unusedSimpArgs false
theorem pl24 : structPlaces Tryd.prog 24 = some [(0, 1), (1, 1)] := by kernel_rfl
theorem u24 : type_of% @Tryd.underlying24 := @Tryd.underlying24
theorem z24 : zeroOf Tryd.prog 24 = some (.agg #[.int .i64 0, .slice none 0 0]) := by kernel_rfl

theorem s_Sh2 {g : Int} {u : Value} {l : List (List UInt8)} {w : List UInt8} {A : AH} (hn : l.length ≤ 1000000) (hL : Lets A) (hu : Slc A 1 u (strs l)) (h60 : w.length ≤ 60 ∨ 5000 < w.length) (hw : w.length ≤ 100000) : RetA Tryd.prog 19 #[.agg #[num g, u], str w] A (fun v A1 => ∃ d dv, v = .tuple #[.agg #[str (rS g l w).1, num (((rS g l w).2.1 : Nat) : Int), dv], num (((rS g l w).2.2 : Nat) : Int)] ∧ A.le A1 ∧ A1.wf ∧ Fresh A A1 dv 3 (dcells d) ∧ d.length = (rS g l w).2.1) :=
  (s_Sh g u l w A hn hL hw hu).mono fun v A1 h => by
    obtain ⟨W, d, c, dv, e1, e2, e3, e4, e5⟩ := h
    obtain ⟨a, b, c'⟩ := sh_eq e5 h60
    exact ⟨d, dv, by rw [e1, ← a, ← b, ← c'], e2, e3, e4, b⟩
theorem s_ShC {g : Int} {u : Value} {l : List (List UInt8)} {w : List UInt8} {A : AH} (hn : l.length ≤ 1000000) (hL : Lets A) (hu : Slc A 1 u (strs l)) {W : List UInt8} (e : rS g l w = (W, 1, 0)) (hw : w.length ≤ 60) : RetA Tryd.prog 19 #[.agg #[num g, u], str w] A (fun v A1 => ∃ c dv, v = .tuple #[.agg #[str W, num ((1 : Nat) : Int), dv], num ((0 : Nat) : Int)] ∧ A.le A1 ∧ A1.wf ∧ Fresh A A1 dv 3 (dcells [c])) :=
  (s_Sh2 hn hL hu (.inl hw) (by omega)).mono fun v A1 h => by
    obtain ⟨d, dv, e1, e2, e3, e4, e5⟩ := h
    rw [e] at e1 e5
    obtain ⟨c, rfl⟩ : ∃ c, d = [c] := List.length_eq_one_iff.1 e5
    exact ⟨c, dv, e1, e2, e3, e4⟩
theorem s_ShD {g : Int} {u : Value} {l : List (List UInt8)} {w : List UInt8} {A : AH} (hn : l.length ≤ 1000000) (hL : Lets A) (hu : Slc A 1 u (strs l)) {W : List UInt8} (e : (rS g l w).1 = W ∧ (rS g l w).2.2 = 0) (hw : w.length ≤ 60) : RetA Tryd.prog 19 #[.agg #[num g, u], str w] A (fun v A1 => ∃ (n : Nat) (d : List DCell) (dv : Value), v = .tuple #[.agg #[str W, num ((n : Nat) : Int), dv], num ((0 : Nat) : Int)] ∧ A.le A1 ∧ A1.wf ∧ Fresh A A1 dv 3 (dcells d)) :=
  (s_Sh2 hn hL hu (.inl hw) (by omega)).mono fun v A1 h => by
    obtain ⟨d, dv, e1, e2, e3, e4, e5⟩ := h
    rw [e.1, e.2] at e1
    exact ⟨_, d, dv, e1, e2, e3, e4⟩
theorem s_St2 {g : Int} {u : Value} {l : List (List UInt8)} {w : List UInt8} {A : AH} (hn : l.length ≤ 1000000) (hL : Lets A) (hu : Slc A 1 u (strs l)) (hw : w.length ≤ 100000) : RetA Tryd.prog 17 #[.agg #[num g, u], str w] A (fun v A1 => v = .tuple #[.bool (rStuck g l w).1, num (((rStuck g l w).2 : Nat) : Int)] ∧ A.le A1 ∧ A1.wf) :=
  (s_St g u l w A hn hL hw hu).mono fun v A1 h => by
    obtain ⟨b, c, e1, e2, e3, e4⟩ := h
    have := st_eq e4
    exact ⟨by rw [e1, ← this], e2, e3⟩
theorem s_StC {g : Int} {u : Value} {l : List (List UInt8)} {w : List UInt8} {A : AH} (hn : l.length ≤ 1000000) (hL : Lets A) (hu : Slc A 1 u (strs l)) {b : Bool} {c : Nat} (e : rStuck g l w = (b, c)) (hw : w.length ≤ 100000) : RetA Tryd.prog 17 #[.agg #[num g, u], str w] A (fun v A1 => v = .tuple #[.bool b, num ((c : Nat) : Int)] ∧ A.le A1 ∧ A1.wf) :=
  (s_St2 hn hL hu hw).mono fun v A1 h => by rw [e] at h; exact h
theorem s_Ve2 {g : Int} {u : Value} {l : List (List UInt8)} {A : AH} (hn : l.length ≤ 1000000) (hL : Lets A) (hu : Slc A 1 u (strs l)) : RetA Tryd.prog 8 #[.agg #[num g, u]] A (fun v A1 => v = num ((rVerified g l : Nat) : Int) ∧ A.le A1 ∧ A1.wf) :=
  (s_Ve g u l A hn hL hu).mono fun v A1 h => by
    obtain ⟨c, e1, e2, e3, e4⟩ := h
    exact ⟨by rw [e1, ve_eq e4], e2, e3⟩
theorem s_VeC {g : Int} {u : Value} {l : List (List UInt8)} {A : AH} (hn : l.length ≤ 1000000) (hL : Lets A) (hu : Slc A 1 u (strs l)) {c : Nat} (e : rVerified g l = c) : RetA Tryd.prog 8 #[.agg #[num g, u]] A (fun v A1 => v = num ((c : Nat) : Int) ∧ A.le A1 ∧ A1.wf) :=
  (s_Ve2 hn hL hu).mono fun v A1 h => by rw [e] at h; exact h
theorem s_Tr2 {g : Int} {u : Value} {l : List (List UInt8)} {w : List UInt8} {A : AH} (hn : l.length ≤ 1000000) (hL : Lets A) (hu : Slc A 1 u (strs l)) (hw : w.length ≤ 60) : RetA Tryd.prog 11 #[.agg #[num g, u], str w] A (fun v A1 => ∃ d dv, v = .tuple #[.bool (rTrivial g l w).1, dv, num (((rTrivial g l w).2 : Nat) : Int)] ∧ A.le A1 ∧ A1.wf ∧ Fresh A A1 dv 3 (dcells d) ∧ d.length = if (rTrivial g l w).1 = true then (rS g l w).2.1 else 0) :=
  (s_Tr g u l w A hn hL (by omega) hu).mono fun v A1 h => by
    obtain ⟨b, d, c, dv, e1, e2, e3, e4, e5⟩ := h
    obtain ⟨a, a2⟩ := tr_eq e5 hw
    have a1 : (rTrivial g l w).1 = b := by rw [← a]
    have a3 : (rTrivial g l w).2 = c := by rw [← a]
    exact ⟨d, dv, by rw [a1, a3]; exact e1, e2, e3, e4, by rw [a1]; exact a2⟩
theorem s_TrC {g : Int} {u : Value} {l : List (List UInt8)} {w : List UInt8} {A : AH} (hn : l.length ≤ 1000000) (hL : Lets A) (hu : Slc A 1 u (strs l)) (e : rTrivial g l w = (true, 0) ∧ (rS g l w).2.1 = 1) (hw : w.length ≤ 60) : RetA Tryd.prog 11 #[.agg #[num g, u], str w] A (fun v A1 => ∃ c dv, v = .tuple #[.bool true, dv, num ((0 : Nat) : Int)] ∧ A.le A1 ∧ A1.wf ∧ Fresh A A1 dv 3 (dcells [c])) :=
  (s_Tr2 hn hL hu hw).mono fun v A1 h => by
    obtain ⟨d, dv, e1, e2, e3, e4, e5⟩ := h
    rw [e.1] at e1 e5
    rw [if_pos rfl, e.2] at e5
    obtain ⟨c, rfl⟩ : ∃ c, d = [c] := List.length_eq_one_iff.1 e5
    exact ⟨c, dv, e1, e2, e3, e4⟩
theorem s_TrD {g : Int} {u : Value} {l : List (List UInt8)} {w : List UInt8} {A : AH} (hn : l.length ≤ 1000000) (hL : Lets A) (hu : Slc A 1 u (strs l)) {b : Bool} (e : rTrivial g l w = (b, 0)) (hw : w.length ≤ 60) : RetA Tryd.prog 11 #[.agg #[num g, u], str w] A (fun v A1 => ∃ d dv, v = .tuple #[.bool b, dv, num ((0 : Nat) : Int)] ∧ A.le A1 ∧ A1.wf ∧ Fresh A A1 dv 3 (dcells d)) :=
  (s_Tr2 hn hL hu hw).mono fun v A1 h => by
    obtain ⟨d, dv, e1, e2, e3, e4, e5⟩ := h
    rw [e] at e1
    exact ⟨d, dv, e1, e2, e3, e4⟩
theorem s_Cy2 {g : Int} {u : Value} {l : List (List UInt8)} {w : List UInt8} {A : AH} (hn : l.length ≤ 1000000) (hL : Lets A) (hu : Slc A 1 u (strs l)) (hw : w.length ≤ 60) : RetA Tryd.prog 20 #[.agg #[num g, u], str w] A (fun v A1 => ∃ d cj dv, v = .tuple #[.agg #[str (rCyclic g l w).1, num (((rCyclic g l w).2.1 : Nat) : Int), dv], str cj, num (((rCyclic g l w).2.2 : Nat) : Int)] ∧ A.le A1 ∧ A1.wf ∧ Fresh A A1 dv 3 (dcells d) ∧ d.length = (rCyclic g l w).2.1) :=
  (s_Cy g u l w A hn hL (by omega) hu).mono fun v A1 h => by
    obtain ⟨W, d, cj, c, dv, e1, e2, e3, e4, e5⟩ := h
    have a := cy_eq e5 hw
    exact ⟨d, cj, dv, by rw [← a]; exact e1, e2, e3, e4, by rw [← a]⟩
theorem s_CyC {g : Int} {u : Value} {l : List (List UInt8)} {w : List UInt8} {A : AH} (hn : l.length ≤ 1000000) (hL : Lets A) (hu : Slc A 1 u (strs l)) {W : List UInt8} {n c : Nat} (e : rCyclic g l w = (W, n, c)) (hw : w.length ≤ 60) : RetA Tryd.prog 20 #[.agg #[num g, u], str w] A (fun v A1 => ∃ d cj dv, v = .tuple #[.agg #[str W, num ((n : Nat) : Int), dv], str cj, num ((c : Nat) : Int)] ∧ A.le A1 ∧ A1.wf ∧ Fresh A A1 dv 3 (dcells d)) :=
  (s_Cy2 hn hL hu hw).mono fun v A1 h => by
    obtain ⟨d, cj, dv, e1, e2, e3, e4, e5⟩ := h
    rw [e] at e1
    exact ⟨d, cj, dv, e1, e2, e3, e4⟩
def small (l ws : List (List UInt8)) : Bool := decide (l.length ≤ 8) && decide (¬ 0 ≤ ifl (fun r => decide (40 < r.length)) l) && decide (¬ 0 ≤ ifl (fun r => decide (60 < r.length)) ws)
theorem small_len {l ws : List (List UInt8)} (h : small l ws = true) : l.length ≤ 8 ∧ (∀ r ∈ l, r.length ≤ 40) ∧ ∀ r ∈ ws, r.length ≤ 60 := by
  simp only [small, Bool.and_eq_true, decide_eq_true_eq] at h
  obtain ⟨⟨h1, h2⟩, h3⟩ := h
  refine ⟨h1, fun r hr => ?_, fun r hr => ?_⟩
  · apply Classical.byContradiction
    intro q
    exact h2 ((ifl_any _ _).2 (List.any_eq_true.2 ⟨r, hr, by simp; omega⟩))
  · apply Classical.byContradiction
    intro q
    exact h3 ((ifl_any _ _).2 (List.any_eq_true.2 ⟨r, hr, by simp; omega⟩))


theorem s_small (g : Int) (u : Value) (l : List (List UInt8)) (wv : Value) (ws : List (List UInt8)) (A : AH) (hn : l.length ≤ 9223372036854775807) (hnw : ws.length ≤ 9223372036854775807) (hu : Slc A 1 u (strs l)) (hv : Slc A 1 wv (strs ws)) : RetA Tryd.prog 7 #[.agg #[num (g), u], wv] A (fun v A1 => v = .bool (small l ws) ∧ A.le A1 ∧ A1.wf) := by
 refine enterA (e := [(0, .agg #[num (g), u]), (1, wv)]) (args := [.agg #[num (g), u], wv]) Tryd.call7 Tryd.func7 rfl Tryd.results7 Tryd.ntmps7 rfl rfl rfl (fun wf => ?_)
 have le_ := AH.le.refl A
 refine Run.seq fun K1 h2 => .region <| .l rfl (fun _ _ hk3 _ => wbox wf rfl rfl fun A5 b4 nb6 => ?_)
 have le7 := le_.trans nb6.le
 refine hk3 _ _ <| .q rfl (qassign rfl) <| .nil <| h2 _ _ <| .seq fun K8 h9 => .region <| .q rfl (qfieldAddr fl24_1 sz22 (by decide) rfl) <| .q rfl (qloadAt ag22 rfl rfl nb6.get rfl) <| .q rfl (qlenS (n := l.length) u22 rfl (hu.le le7) (by omega) (strs_len _)) <| .q rfl (qleqN (b := 8) rfl rfl) ?_
 refine Ops.q rfl (qmove rfl) <| .part (t := 9) rfl (fun p10 => ?_) (fun p10 => ?_)
 ·
  refine Ops.on rfl rfl <| .q rfl (qfieldAddr fl24_1 sz22 (by decide) rfl) <| .on rfl rfl <| .q rfl (qloadAt ag22 rfl rfl nb6.get rfl) <| .on rfl rfl <| .l rfl (fun _ _ hk11 _ => vcallF rfl (s_ContainsFuncL 24 #[] (fun r => decide (40 < r.length)) u l A5 (by omega) (hu.le le7) (fun s hs B le wf => s_small1 s B)) ?_)
  rintro v12 A13 ⟨rfl, leq14, wfq14⟩
  have le16 := le7.trans leq14
  refine hk11 _ _ <| .on rfl rfl <| .q rfl (qnotP rfl) <| .q rfl (qpickT rfl rfl) <| .q rfl (qmove rfl) <| .part (t := 15) rfl (fun p17 => ?_) (fun p17 => ?_)
  ·
   refine Ops.on rfl rfl <| .q rfl (qmove rfl) <| .on rfl rfl <| .l rfl (fun _ _ hk18 _ => vcallF rfl (s_ContainsFuncL 25 #[] (fun r => decide (60 < r.length)) wv ws A13 (by omega) (hv.le le16) (fun s hs B le wf => s_small2 s B)) ?_)
   rintro v19 A20 ⟨rfl, leq21, wfq21⟩
   have le23 := le16.trans leq21
   refine hk18 _ _ <| .on rfl rfl <| .q rfl (qnotP rfl) <| .q rfl (qpickT rfl rfl) <| .q rfl (qassign rfl) <| .nil <| h9 _ _ <| .ret ?_
   repeat first | with_reducible refine thenQ_ret ?_ | with_reducible refine blockQ_ret ?_
   exact retQ rfl (⟨by first | (rw [small, decide_eq_false ‹¬ l.length ≤ 8›]; rfl) | (rw [small, decide_eq_true ‹l.length ≤ 8›, decide_eq_false ‹¬ ¬ 0 ≤ ifl (fun r => decide (40 < r.length)) l›]; rfl) | (rw [small, decide_eq_true ‹l.length ≤ 8›, decide_eq_true ‹¬ 0 ≤ ifl (fun r => decide (40 < r.length)) l›]; rfl), le23, wfq21⟩)
  ·
   refine Ops.off rfl rfl rfl rfl <| .off rfl rfl rfl rfl <| .off rfl rfl rfl rfl <| .q rfl (qpickF rfl rfl) <| .q rfl (qassign rfl) <| .nil <| h9 _ _ <| .ret ?_
   repeat first | with_reducible refine thenQ_ret ?_ | with_reducible refine blockQ_ret ?_
   exact retQ rfl (⟨by first | (rw [small, decide_eq_false ‹¬ l.length ≤ 8›]; rfl) | (rw [small, decide_eq_true ‹l.length ≤ 8›, decide_eq_false ‹¬ ¬ 0 ≤ ifl (fun r => decide (40 < r.length)) l›]; rfl) | (rw [small, decide_eq_true ‹l.length ≤ 8›, decide_eq_true ‹¬ 0 ≤ ifl (fun r => decide (40 < r.length)) l›]; rfl), le16, wfq14⟩)
 ·
  refine Ops.off rfl rfl rfl rfl <| .off rfl rfl rfl rfl <| .off rfl rfl rfl rfl <| .off rfl rfl rfl rfl <| .q rfl (qpickF rfl rfl) <| .q rfl (qmove rfl) <| .off rfl rfl rfl rfl <| .off rfl rfl rfl rfl <| .off rfl rfl rfl rfl <| .q rfl (qpickF rfl rfl) ?_
  refine Ops.q rfl (qassign rfl) <| .nil <| h9 _ _ <| .ret ?_
  repeat first | with_reducible refine thenQ_ret ?_ | with_reducible refine blockQ_ret ?_
  exact retQ rfl (⟨by first | (rw [small, decide_eq_false ‹¬ l.length ≤ 8›]; rfl) | (rw [small, decide_eq_true ‹l.length ≤ 8›, decide_eq_false ‹¬ ¬ 0 ≤ ifl (fun r => decide (40 < r.length)) l›]; rfl) | (rw [small, decide_eq_true ‹l.length ≤ 8›, decide_eq_true ‹¬ 0 ≤ ifl (fun r => decide (40 < r.length)) l›]; rfl), le7, nb6.wf⟩)

theorem s_Surf (A : AH) : RetA Tryd.prog 22 #[] A (fun v A1 => ∃ u, v = .agg #[num ((4 : Nat) : Int), u] ∧ A.le A1 ∧ A1.wf ∧ Fresh A A1 u 1 (strs sf)) := by
 refine enterA (e := []) (args := []) Tryd.call22 Tryd.func22 rfl Tryd.results22 Tryd.ntmps22 rfl rfl rfl (fun wf => ?_)
 have le_ := AH.le.refl A
 refine Run.seq fun K1 h2 => .region <| .l rfl (fun _ _ hk3 _ => walloc wf z24 rfl fun A5 b4 nb6 => ?_)
 have ge_b4 := none_of wf (Nat.le_trans le_.n nb6.lo)
 have le7 := le_.trans nb6.le
 refine hk3 _ _ <| .nil <| h2 _ _ <| .seq fun K8 h9 => .region <| .l rfl (fun _ _ hk10 _ => wbuildSlice (c := [str ([97, 98, 65, 66, 99, 100, 67, 68])]) nb6.wf rfl (buildSliceV_of u22 sz9 z9 rfl (by decide) (by decide) rfl) fun A12 b11 nb13 => ?_)
 have ne_b4_b11 := ne_new nb6.wf nb6.get nb13.lo
 have ge_b11 := none_of wf (Nat.le_trans le7.n nb13.lo)
 have h14 := nb13.le.get _ _ nb6.get
 have le15 := le7.trans nb13.le
 refine hk10 _ _ <| .q rfl (qbuild rfl (buildV_struct u24 z24 pl24 rfl)) <| .l rfl (fun _ _ hk16 _ => wstore (cs := [num ((4 : Nat) : Int), .slice (some ⟨b11, 0, none⟩) 1 1]) (c' := [num ((4 : Nat) : Int), .slice (some ⟨b11, 0, none⟩) 1 1]) nb13.wf rfl rfl rfl rfl sz24 h14 (Nat.le_of_ble_eq_true rfl) rfl rfl fun A17 sb18 => ?_)
 have h19 := sb18.keep _ _ ne_b4_b11.symm nb13.get
 have le20 := le_store le15 wf ge_b4 sb18.n sb18.keep
 refine hk16 _ _ <| .nil <| h9 _ _ <| .ret ?_
 repeat first | with_reducible refine thenQ_ret ?_ | with_reducible refine blockQ_ret ?_
 exact retQ (resCell ag24 sz24 rfl sb18.get rfl resNil) (⟨_, rfl, le20, sb18.wf, (Fresh.lit h19 ge_b11 rfl (Nat.le_refl _) : Fresh A _ _ 1 [str [97, 98, 65, 66, 99, 100, 67, 68]])⟩)

theorem s_sane (A : AH) (hL : Lets A) : RetA Tryd.prog 6 #[] A (fun v A1 => v = .bool true ∧ A.le A1 ∧ A1.wf) := by
 refine enterA (e := []) (args := []) Tryd.call6 Tryd.func6 rfl Tryd.results6 Tryd.ntmps6 rfl rfl rfl (fun wf => ?_)
 have le_ := AH.le.refl A
 refine Run.seq fun K1 h2 => .region <| .q rfl (qassign rfl) <| .nil <| h2 _ _ <| .seq fun K3 h4 => .region <| .l rfl (fun _ _ hk5 _ => vcallF rfl (s_Surf A) ?_)
 rintro v6 A7 ⟨uq8, rfl, leq8, wfq8, frq8⟩
 have le9 := le_.trans leq8
 have fr10 := frq8.base le_
 refine hk5 _ _ <| .l rfl (fun _ _ hk11 _ => walloc wfq8 z24 rfl fun A13 b12 nb14 => ?_)
 have no15 := fr10.own.ne_new wfq8 nb14.lo
 have ge_b12 := none_of wf (Nat.le_trans le9.n nb14.lo)
 have fr16 := fr10.le nb14.le
 have le17 := le9.trans nb14.le
 refine hk11 _ _ ?_
 obtain ⟨p19, l19, c19, q19, _⟩ := fr16.own.slice
 subst q19
 refine Ops.l rfl (fun _ _ hk18 _ => wstore (cs := [num ((4 : Nat) : Int), .slice p19 l19 c19]) (c' := [num ((4 : Nat) : Int), .slice p19 l19 c19]) nb14.wf rfl rfl rfl rfl sz24 nb14.get (Nat.le_of_ble_eq_true rfl) rfl rfl fun A20 sb21 => ?_)
 have fr22 := fr16.keep sb21.keep no15
 have le23 := le_store le17 wf ge_b12 sb21.n sb21.keep
 refine hk18 _ _ <| .nil <| h4 _ _ <| .seq fun K24 h25 => .region <| .q rfl (qloadAggAt ag24 sz24 rfl rfl sb21.get rfl) <| .l rfl (fun _ _ hk26 _ => vcallF rfl (s_ShC (g := ((4 : Nat) : Int)) (w := [97, 98, 65, 66, 99]) (by decide) (hL.le le23) fr22.slc sane_1 (by decide)) ?_)
 rintro v27 A28 ⟨cq29, dvq29, rfl, leq29, wfq29, frq29⟩
 have h30 := leq29.get _ _ sb21.get
 have fr31 := fr22.le leq29
 have le32 := le23.trans leq29
 have fr33 := frq29.base le23
 refine hk26 _ _ <| .q rfl (qmove rfl) <| .q rfl (qextract rfl rfl) <| .q rfl (qextract rfl rfl) <| .l rfl (fun _ _ hk35 _ => walloc wfq29 z46 rfl fun A37 b36 nb38 => ?_)
 have ne_b12_b36 := ne_new wfq29 h30 nb38.lo
 have no39 := fr31.own.ne_new wfq29 nb38.lo
 have no40 := fr33.own.ne_new wfq29 nb38.lo
 have ge_b36 := none_of wf (Nat.le_trans le32.n nb38.lo)
 have h41 := nb38.le.get _ _ h30
 have fr42 := fr31.le nb38.le
 have fr43 := fr33.le nb38.le
 have le44 := le32.trans nb38.le
 refine hk35 _ _ ?_
 obtain ⟨p46, l46, c46, q46, _⟩ := fr43.own.slice
 subst q46
 refine Ops.l rfl (fun _ _ hk45 _ => wstore (cs := [str ([100, 99, 68]), num ((1 : Nat) : Int), .slice p46 l46 c46]) (c' := [str ([100, 99, 68]), num ((1 : Nat) : Int), .slice p46 l46 c46]) nb38.wf rfl rfl rfl rfl sz46 nb38.get (Nat.le_of_ble_eq_true rfl) rfl rfl fun A47 sb48 => ?_)
 have h49 := sb48.keep _ _ ne_b12_b36 h41
 have fr50 := fr42.keep sb48.keep no39
 have fr51 := fr43.keep sb48.keep no40
 have le52 := le_store le44 wf ge_b36 sb48.n sb48.keep
 refine hk45 _ _ <| .q rfl (qassign rfl) <| .nil <| h25 _ _ <| .seq fun K53 h54 => .region <| .q rfl (qloadAggAt ag24 sz24 rfl rfl h49 rfl) <| .l rfl (fun _ _ hk55 _ => vcallF rfl (s_TrC (g := ((4 : Nat) : Int)) (w := [97, 98, 65, 66, 99, 100, 67, 68]) (by decide) (hL.le le52) fr50.slc sane_2 (by decide)) ?_)
 rintro v56 A57 ⟨cq58, dvq58, rfl, leq58, wfq58, frq58⟩
 have h59 := leq58.get _ _ h49
 have h60 := leq58.get _ _ sb48.get
 have fr61 := fr50.le leq58
 have fr62 := fr51.le leq58
 have le63 := le52.trans leq58
 have fr64 := frq58.base le52
 refine hk55 _ _ <| .q rfl (qmove rfl) <| .q rfl (qextract rfl rfl) <| .q rfl (qextract rfl rfl) <| .q rfl (qextract rfl rfl) <| .q rfl (qassign rfl) <| .q rfl (qassign rfl) <| .q rfl (qassign rfl) <| .nil <| h54 _ _ ?_
 refine Run.seq fun K67 h68 => .region <| .q rfl (qloadAggAt ag24 sz24 rfl rfl h59 rfl) <| .l rfl (fun _ _ hk69 _ => vcallF rfl (s_TrD (g := ((4 : Nat) : Int)) (w := [97, 98]) (by decide) (hL.le le63) fr61.slc sane_3 (by decide)) ?_)
 rintro v70 A71 ⟨dq72, dvq72, rfl, leq72, wfq72, frq72⟩
 have h73 := leq72.get _ _ h59
 have h74 := leq72.get _ _ h60
 have fr75 := fr61.le leq72
 have fr76 := fr62.le leq72
 have fr77 := fr64.le leq72
 have le78 := le63.trans leq72
 refine hk69 _ _ <| .q rfl (qmove rfl) <| .q rfl (qextract rfl rfl) <| .q rfl (qextract rfl rfl) <| .q rfl (qextract rfl rfl) <| .q rfl (qassign rfl) <| .q rfl (qassign rfl) <| .q rfl (qassign rfl) <| .nil <| h68 _ _ ?_
 refine Run.seq fun K82 h83 => .region <| .q rfl (qloadAggAt ag24 sz24 rfl rfl h73 rfl) <| .l rfl (fun _ _ hk84 _ => vcallF rfl (s_StC (g := ((4 : Nat) : Int)) (w := [97, 98, 65, 66]) (by decide) (hL.le le78) fr75.slc sane_4 (by decide)) ?_)
 rintro v85 A86 ⟨rfl, leq87, wfq87⟩
 have h88 := leq87.get _ _ h73
 have h89 := leq87.get _ _ h74
 have fr90 := fr75.le leq87
 have fr91 := fr76.le leq87
 have fr92 := fr77.le leq87
 have le94 := le78.trans leq87
 refine hk84 _ _ <| .q rfl (qmove rfl) <| .q rfl (qextract rfl rfl) <| .q rfl (qextract rfl rfl) <| .q rfl (qassign rfl) <| .q rfl (qassign rfl) <| .nil <| h83 _ _ <| .seq fun K95 h96 => .seq fun K97 h98 => ?_
 refine Run.region <| .q rfl (qmove rfl) <| .q rfl (((qneqN (a := 0) (b := 0) rfl rfl).trans (congrArg (fun z => some (Value.bool z, [])) (decide_eq_false (fun q => q rfl))))) <| .q rfl (qmove rfl) <| .on rfl rfl <| .q rfl (qmove rfl) <| .on rfl rfl <| .q rfl (((qneqN (a := 0) (b := 0) rfl rfl).trans (congrArg (fun z => some (Value.bool z, [])) (decide_eq_false (fun q => q rfl))))) <| .q rfl (qpickF rfl rfl) <| .q rfl (qmove rfl) ?_
 refine Ops.on rfl rfl <| .q rfl (qmove rfl) <| .on rfl rfl <| .q rfl (((qneqN (a := 0) (b := 0) rfl rfl).trans (congrArg (fun z => some (Value.bool z, [])) (decide_eq_false (fun q => q rfl))))) <| .q rfl (qpickF rfl rfl) <| .q rfl (qmove rfl) <| .on rfl rfl <| .q rfl (qmove rfl) <| .on rfl rfl <| .q rfl (((qneqN (a := 0) (b := 0) rfl rfl).trans (congrArg (fun z => some (Value.bool z, [])) (decide_eq_false (fun q => q rfl))))) ?_
 refine Ops.q rfl (qpickF rfl rfl) <| .q rfl (qmove rfl) <| .on rfl rfl <| .q rfl (qfieldAddr fl46_0 sz9 (by decide) rfl) <| .on rfl rfl <| .q rfl (qloadAt ag9 rfl rfl h89 rfl) <| .on rfl rfl <| .q rfl (((qsneq rfl rfl).trans (congrArg (fun z => some (Value.bool z, [])) (decide_eq_false (fun q => q rfl))))) <| .q rfl (qpickF rfl rfl) <| .q rfl (qmove rfl) ?_
 refine Ops.on rfl rfl <| .q rfl (qfieldAddr fl46_1 sz3 (by decide) rfl) <| .on rfl rfl <| .q rfl (qloadAt ag3 rfl rfl h89 rfl) <| .on rfl rfl <| .q rfl (((qneqN (a := 1) (b := 1) rfl rfl).trans (congrArg (fun z => some (Value.bool z, [])) (decide_eq_false (fun q => q rfl))))) <| .q rfl (qpickF rfl rfl) <| .q rfl (qmove rfl) <| .on rfl rfl <| .q rfl (qfieldAddr fl46_2 sz30 (by decide) rfl) ?_
 refine Ops.on rfl rfl <| .q rfl (qloadAt ag30 rfl rfl h89 rfl) <| .on rfl rfl <| .q rfl (qlenS (n := 1) u30 rfl fr91.slc (by decide) rfl) <| .on rfl rfl <| .q rfl (((qneqN (a := 1) (b := 1) rfl rfl).trans (congrArg (fun z => some (Value.bool z, [])) (decide_eq_false (fun q => q rfl))))) <| .q rfl (qpickF rfl rfl) <| .q rfl (qmove rfl) <| .on rfl rfl <| .q rfl (qmove rfl) ?_
 refine Ops.on rfl rfl <| .q rfl (qnot rfl) <| .q rfl (qpickF rfl rfl) <| .q rfl (qmove rfl) <| .on rfl rfl <| .q rfl (qmove rfl) <| .on rfl rfl <| .q rfl (qlenS (n := 1) u30 rfl fr92.slc (by decide) rfl) <| .on rfl rfl <| .q rfl (((qneqN (a := 1) (b := 1) rfl rfl).trans (congrArg (fun z => some (Value.bool z, [])) (decide_eq_false (fun q => q rfl))))) ?_
 refine Ops.q rfl (qpickF rfl rfl) <| .q rfl (qmove rfl) <| .on rfl rfl <| .q rfl (qmove rfl) <| .q rfl (qpickF rfl rfl) <| .q rfl (qmove rfl) <| .on rfl rfl <| .q rfl (qmove rfl) <| .on rfl rfl <| .q rfl (qnot rfl) ?_
 refine Ops.q rfl (qpickF rfl rfl) <| .nil <| h98 _ _ <| .cond_false rfl <| .skip <| h96 _ _ <| .seq fun K99 h100 => .region <| .q rfl (qloadAggAt ag24 sz24 rfl rfl h88 rfl) <| .l rfl (fun _ _ hk101 _ => vcallF rfl (s_CyC (g := ((4 : Nat) : Int)) (w := [98, 97, 98, 65, 66, 99, 100, 67, 68, 66]) (by decide) (hL.le le94) fr90.slc sane_5 (by decide)) ?_)
 rintro v102 A103 ⟨dq104, cjq104, dvq104, rfl, leq104, wfq104, frq104⟩
 have h105 := leq104.get _ _ h88
 have fr107 := fr90.le leq104
 have le111 := le94.trans leq104
 have fr112 := frq104.base le94
 refine hk101 _ _ <| .q rfl (qmove rfl) <| .q rfl (qextract rfl rfl) <| .q rfl (qextract rfl rfl) <| .q rfl (qextract rfl rfl) <| .l rfl (fun _ _ hk115 _ => walloc wfq104 z46 rfl fun A117 b116 nb118 => ?_)
 have ne_b12_b116 := ne_new wfq104 h105 nb118.lo
 have no119 := fr107.own.ne_new wfq104 nb118.lo
 have ge_b116 := none_of wf (Nat.le_trans le111.n nb118.lo)
 have h124 := nb118.le.get _ _ h105
 have fr126 := fr107.le nb118.le
 have fr130 := fr112.le nb118.le
 have le131 := le111.trans nb118.le
 refine hk115 _ _ ?_
 obtain ⟨p133, l133, c133, q133, _⟩ := fr130.own.slice
 subst q133
 refine Ops.l rfl (fun _ _ hk132 _ => wstore (cs := [str ([]), num ((1 : Nat) : Int), .slice p133 l133 c133]) (c' := [str ([]), num ((1 : Nat) : Int), .slice p133 l133 c133]) nb118.wf rfl rfl rfl rfl sz46 nb118.get (Nat.le_of_ble_eq_true rfl) rfl rfl fun A134 sb135 => ?_)
 have h136 := sb135.keep _ _ ne_b12_b116 h124
 have fr138 := fr126.keep sb135.keep no119
 have le143 := le_store le131 wf ge_b116 sb135.n sb135.keep
 refine hk132 _ _ <| .q rfl (qassign rfl) <| .q rfl (qassign rfl) <| .nil <| h100 _ _ <| .seq fun K144 h145 => .region <| .l rfl (fun _ _ hk146 _ => wbuildSlice (c := [str ([97, 97, 97, 97, 97])]) sb135.wf rfl (buildSliceV_of u22 sz9 z9 rfl (by decide) (by decide) rfl) fun A148 b147 nb149 => ?_)
 have h155 := nb149.le.get _ _ h136
 have h157 := nb149.le.get _ _ sb135.get
 have fr158 := fr138.le nb149.le
 have le163 := le143.trans nb149.le
 refine hk146 _ _ <| .q rfl (qbuild rfl (buildV_struct u24 z24 pl24 rfl)) <| .l rfl (fun _ _ hk164 _ => walloc nb149.wf z24 rfl fun A166 b165 nb167 => ?_)
 have ne_b12_b165 := ne_new nb149.wf h155 nb167.lo
 have ne_b116_b165 := ne_new nb149.wf h157 nb167.lo
 have ne_b147_b165 := ne_new nb149.wf nb149.get nb167.lo
 have no168 := fr158.own.ne_new nb149.wf nb167.lo
 have ge_b165 := none_of wf (Nat.le_trans le163.n nb167.lo)
 have h173 := nb167.le.get _ _ h155
 have h175 := nb167.le.get _ _ h157
 have h176 := nb167.le.get _ _ nb149.get
 have fr177 := fr158.le nb167.le
 have le182 := le163.trans nb167.le
 refine hk164 _ _ <| .l rfl (fun _ _ hk183 _ => wstore (cs := [num ((1 : Nat) : Int), .slice (some ⟨b147, 0, none⟩) 1 1]) (c' := [num ((1 : Nat) : Int), .slice (some ⟨b147, 0, none⟩) 1 1]) nb167.wf rfl rfl rfl rfl sz24 nb167.get (Nat.le_of_ble_eq_true rfl) rfl rfl fun A184 sb185 => ?_)
 have h186 := sb185.keep _ _ ne_b12_b165 h173
 have h188 := sb185.keep _ _ ne_b116_b165 h175
 have h189 := sb185.keep _ _ ne_b147_b165 h176
 have fr190 := fr177.keep sb185.keep no168
 have le195 := le_store le182 wf ge_b165 sb185.n sb185.keep
 refine hk183 _ _ <| .nil <| h145 _ _ <| .seq fun K196 h197 => .region <| .q rfl (qloadAggAt ag24 sz24 rfl rfl sb185.get rfl) <| .l rfl (fun _ _ hk198 _ => vcallF rfl (s_ShD (g := ((1 : Nat) : Int)) (w := [97, 97, 97]) (by simp) (hL.le le195) (slc_row (n := 1) h189 rfl (Nat.le_refl _)) sane_6 (by decide)) ?_)
 rintro v199 A200 ⟨nq201, dq201, dvq201, rfl, leq201, wfq201, frq201⟩
 have h202 := leq201.get _ _ h186
 have h204 := leq201.get _ _ h188
 have h205 := leq201.get _ _ h189
 have h206 := leq201.get _ _ sb185.get
 have fr207 := fr190.le leq201
 have le212 := le195.trans leq201
 have fr213 := frq201.base le195
 refine hk198 _ _ <| .q rfl (qmove rfl) <| .q rfl (qextract rfl rfl) <| .q rfl (qextract rfl rfl) <| .l rfl (fun _ _ hk219 _ => walloc wfq201 z46 rfl fun A221 b220 nb222 => ?_)
 have ne_b12_b220 := ne_new wfq201 h202 nb222.lo
 have ne_b116_b220 := ne_new wfq201 h204 nb222.lo
 have ne_b147_b220 := ne_new wfq201 h205 nb222.lo
 have ne_b165_b220 := ne_new wfq201 h206 nb222.lo
 have no223 := fr207.own.ne_new wfq201 nb222.lo
 have ge_b220 := none_of wf (Nat.le_trans le212.n nb222.lo)
 have h229 := nb222.le.get _ _ h202
 have h231 := nb222.le.get _ _ h204
 have h232 := nb222.le.get _ _ h205
 have h233 := nb222.le.get _ _ h206
 have fr234 := fr207.le nb222.le
 have fr239 := fr213.le nb222.le
 have le240 := le212.trans nb222.le
 refine hk219 _ _ ?_
 obtain ⟨p242, l242, c242, q242, _⟩ := fr239.own.slice
 subst q242
 refine Ops.l rfl (fun _ _ hk241 _ => wstore (cs := [str ([65, 65]), num ((nq201 : Nat) : Int), .slice p242 l242 c242]) (c' := [str ([65, 65]), num ((nq201 : Nat) : Int), .slice p242 l242 c242]) nb222.wf rfl rfl rfl rfl sz46 nb222.get (Nat.le_of_ble_eq_true rfl) rfl rfl fun A243 sb244 => ?_)
 have h245 := sb244.keep _ _ ne_b12_b220 h229
 have h247 := sb244.keep _ _ ne_b116_b220 h231
 have h248 := sb244.keep _ _ ne_b147_b220 h232
 have h249 := sb244.keep _ _ ne_b165_b220 h233
 have fr250 := fr234.keep sb244.keep no223
 have le256 := le_store le240 wf ge_b220 sb244.n sb244.keep
 refine hk241 _ _ <| .q rfl (qassign rfl) <| .nil <| h197 _ _ <| .seq fun K257 h258 => .region <| .q rfl (qmove rfl) <| .q rfl (((qeqlN (a := 0) (b := 0) rfl rfl).trans (congrArg (fun z => some (Value.bool z, [])) (decide_eq_true rfl)))) <| .q rfl (qmove rfl) <| .on rfl rfl ?_
 refine Ops.q rfl (qmove rfl) <| .on rfl rfl <| .q rfl (((qeqlN (a := 0) (b := 0) rfl rfl).trans (congrArg (fun z => some (Value.bool z, [])) (decide_eq_true rfl)))) <| .q rfl (qpickT rfl rfl) <| .q rfl (qmove rfl) <| .on rfl rfl <| .q rfl (qfieldAddr fl46_0 sz9 (by decide) rfl) <| .on rfl rfl <| .q rfl (qloadAt ag9 rfl rfl h247 rfl) <| .on rfl rfl ?_
 refine Ops.q rfl (((qseql rfl rfl).trans (congrArg (fun z => some (Value.bool z, [])) (decide_eq_true rfl)))) <| .q rfl (qpickT rfl rfl) <| .q rfl (qmove rfl) <| .on rfl rfl <| .q rfl (qfieldAddr fl46_1 sz3 (by decide) rfl) <| .on rfl rfl <| .q rfl (qloadAt ag3 rfl rfl h247 rfl) <| .on rfl rfl <| .q rfl (((qeqlN (a := 1) (b := 1) rfl rfl).trans (congrArg (fun z => some (Value.bool z, [])) (decide_eq_true rfl)))) <| .q rfl (qpickT rfl rfl) ?_
 refine Ops.q rfl (qmove rfl) <| .on rfl rfl <| .q rfl (qfieldAddr fl46_0 sz9 (by decide) rfl) <| .on rfl rfl <| .q rfl (qloadAt ag9 rfl rfl sb244.get rfl) <| .on rfl rfl <| .q rfl (((qseql rfl rfl).trans (congrArg (fun z => some (Value.bool z, [])) (decide_eq_true rfl)))) <| .q rfl (qpickT rfl rfl) <| .q rfl (qmove rfl) <| .on rfl rfl ?_
 refine Ops.q rfl (qloadAggAt ag24 sz24 rfl rfl h245 rfl) <| .on rfl rfl <| .l rfl (fun _ _ hk259 _ => vcallF rfl (s_VeC (g := ((4 : Nat) : Int)) (by decide) (hL.le le256) fr250.slc sane_7) ?_)
 rintro v260 A261 ⟨rfl, leq262, wfq262⟩
 have h266 := leq262.get _ _ h248
 have h267 := leq262.get _ _ h249
 have le275 := le256.trans leq262
 refine hk259 _ _ <| .on rfl rfl <| .q rfl (((qeqlN (a := 0) (b := 0) rfl rfl).trans (congrArg (fun z => some (Value.bool z, [])) (decide_eq_true rfl)))) <| .q rfl (qpickT rfl rfl) <| .q rfl (qmove rfl) <| .on rfl rfl <| .q rfl (qloadAggAt ag24 sz24 rfl rfl h267 rfl) <| .on rfl rfl <| .l rfl (fun _ _ hk276 _ => vcallF rfl (s_VeC (g := ((1 : Nat) : Int)) (by simp) (hL.le le275) (slc_row (n := 1) h266 rfl (Nat.le_refl _)) sane_8) ?_)
 rintro v277 A278 ⟨rfl, leq279, wfq279⟩
 have le292 := le275.trans leq279
 refine hk276 _ _ <| .on rfl rfl <| .q rfl (((qeqlN (a := 0) (b := 0) rfl rfl).trans (congrArg (fun z => some (Value.bool z, [])) (decide_eq_true rfl)))) <| .q rfl (qpickT rfl rfl) <| .q rfl (qmove rfl) <| .on rfl rfl <| .l rfl (fun _ _ hk293 _ => wbuildSlice (c := [str ([97, 98, 65, 66])]) wfq279 rfl (buildSliceV_of u22 sz9 z9 rfl (by decide) (by decide) rfl) fun A295 b294 nb296 => ?_)
 have le315 := le292.trans nb296.le
 refine hk293 _ _ <| .on rfl rfl <| .q rfl (qbuild rfl (buildV_struct u24 z24 pl24 rfl)) <| .on rfl rfl <| .l rfl (fun _ _ hk316 _ => vcallF rfl (s_VeC (g := ((2 : Nat) : Int)) (by simp) (hL.le le315) (slc_row (n := 1) nb296.get rfl (Nat.le_refl _)) sane_9) ?_)
 rintro v317 A318 ⟨rfl, leq319, wfq319⟩
 have le333 := le315.trans leq319
 refine hk316 _ _ <| .on rfl rfl <| .q rfl (((qeqlN (a := 230) (b := 230) rfl rfl).trans (congrArg (fun z => some (Value.bool z, [])) (decide_eq_true rfl)))) <| .q rfl (qpickT rfl rfl) <| .q rfl (qassign rfl) <| .nil <| h258 _ _ <| .ret ?_
 repeat first | with_reducible refine thenQ_ret ?_ | with_reducible refine blockQ_ret ?_
 exact retQ rfl (⟨rfl, le333, wfq319⟩)
end Go.Proofs.YtaccklloepfemaaDoor
