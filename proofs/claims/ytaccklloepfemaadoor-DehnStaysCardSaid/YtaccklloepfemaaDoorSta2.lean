/- A part of the proof: what the last text needs of the library, the laws and the walks. -/
import Derived.Test.YtaccklloepfemaaDoorSta1
import Derived.RangeFuncSeq
import Derived.RangeFuncRecord
import Derived.TacticsIn
import Derived.OrdersIn
import Derived.Test.YtaccklloepfemaaDoorProg
import Derived.KernelRfl
namespace Go.Proofs.YtaccklloepfemaaDoor
set_option linter.unusedVariables false
set_option linter.unusedSimpArgs false
open Go Go.RowKit
namespace V

abbrev FR (l : Nat) : Fence := Fence.wide.inRound l
def okF (F : Fence) : Prop := F = Fence.wide ∨ ∃ l, F = FR l
theorem okF_wide : okF Fence.wide := .inl rfl
theorem okF_round (l : Nat) : okF (FR l) := .inr ⟨l, rfl⟩
def noDefer (o : Oper) : Bool := match o.op with | .defer _ => false | _ => true

section
variable {P : Program} {F : Fence} {n : Nat}
theorem calls_in (hF : okF F) {g : FuncId} {args : Array Value} {w : World} {R : Ending → World → Prop} (h : Calls P g args w R) : CallsIn F n P g args w R := by
  have := callsIn_wide (n := n).2 h
  rcases hF with rfl | ⟨l, rfl⟩
  · exact this
  · exact this
theorem rows_in (hF : okF F) {row : String} {args : Array Value} {w : World} {R : Value → World → Prop} (h : Rows P row args w R) : RowsIn F n P row args w R := fun c cs _ => by
  obtain ⟨v, w', r, s⟩ := h c cs
  have s' := stepsIn_wide.2 s
  rcases hF with rfl | ⟨l, rfl⟩
  · exact ⟨v, w', r, s'⟩
  · exact ⟨v, w', r, s'⟩
theorem okF_fn (hF : okF F) (f : FuncId) : F.fn f := by rcases hF with rfl | ⟨l, rfl⟩ <;> trivial
theorem okF_dep (hF : okF F) : F.depth.isSome = true → 1 ≤ n := by rcases hF with rfl | ⟨l, rfl⟩ <;> (intro q; cases q)
theorem op_in (hF : okF F) {o : Oper} {a : Act} {w : World} {K : Act → World → Prop} {Q : Exit → Act → World → Prop} (hd : noDefer o = true) (h : o.wp P a w K Q) : o.wpIn F n P a w K Q := by
  have hs : o.semAt F.round a.eval = execOp a.eval o := Oper.semAt_eq _ _ _ (fun c hc => by simp [noDefer, hc] at hd)
  refine ⟨fun f _ => okF_fn hF f, ?_⟩
  rw [hs]
  unfold Oper.wp at h
  generalize (execOp a.eval o).run P w = r at h ⊢
  cases r with
  | ok x w' =>
    cases x <;> simp only [Oper.upon] at h <;> simp only [Oper.uponIn] <;>
      first | exact h | exact h.elim | exact ⟨okF_dep hF, calls_in hF h⟩ | exact ⟨okF_dep hF, rows_in hF h⟩
  | halt x w' => cases x <;> simp only [Oper.upon] at h <;> simp only [Oper.uponIn] <;> first | exact h | exact h.elim

theorem list_in (hF : okF F) {all : Array Oper} {Q : Exit → Act → World → Prop} (hQ : ¬ LetsOut Q) : ∀ (os : List Oper) (a : Act) (w : World), os.all noDefer = true → wpList P all Q os a w → wpListIn F n P all Q os a w
  | [], _, _, _, h => h
  | o :: os, a, w, hd, h => by
    simp only [List.all_cons, Bool.and_eq_true] at hd
    unfold wpList at h
    unfold wpListIn
    split
    · rename_i hw
      rw [if_pos hw] at h
      rcases h with h | ⟨_, h⟩
      · exact op_in hF hd.1 (Oper.wp_mono (fun a w => list_in hF hQ os a w hd.2) h)
      · exact absurd h hQ
    · rename_i hw
      rw [if_neg hw] at h
      exact ⟨fun f _ => okF_fn hF f, list_in hF hQ os _ w hd.2 h⟩

theorem any_in (hF : okF F) {ops : Array Oper} {Q : Exit → Act → World → Prop} (hQ : ¬ LetsOut Q) (hd : ops.toList.all noDefer = true) : ∀ (fuel : Nat) (l : Array Bool) (a : Act) (w : World), wpAny P .any ops Q fuel l a w → wpAnyIn F n P .any ops Q fuel l a w
  | 0, _, _, _, h => h
  | fuel + 1, l, a, w, h => ⟨h.1, fun i hi => by
      have h2 := h.2 i hi
      unfold wpOp at h2
      unfold wpOpIn
      split
      · rename_i q; simp only [q] at h2; exact any_in hF hQ hd fuel _ a w h2
      · rename_i o q
        simp only [q] at h2
        have ho : noDefer o = true := List.all_eq_true.1 hd o (by
          obtain ⟨hlt, e⟩ := Array.getElem?_eq_some_iff.1 q
          rw [← e]; exact Array.getElem_mem_toList hlt)
        split
        · rename_i hw
          rw [if_pos hw] at h2
          rcases h2 with h2 | ⟨_, h2⟩
          · exact op_in hF ho (Oper.wp_mono (fun a w => any_in hF hQ hd fuel _ a w) h2)
          · exact absurd h2 hQ
        · rename_i hw
          rw [if_neg hw] at h2
          exact ⟨fun f _ => okF_fn hF f, any_in hF hQ hd fuel _ _ w h2⟩⟩
end

/-! ### Code in a round's frame -/
def RunI (P : Program) (nt : Nat) (F : Fence) (c : Code) (Q : Exit → Fr → AH → Prop) (f : Fr) (A : AH) : Prop :=
  ∀ a w, ActOk nt f a → View A w → c.wpIn F 0 P (PostQ nt Q A w) a w
def noOut (Q : Exit → Fr → AH → Prop) : Prop := ∀ f A, ¬ Q .outgrown f A
theorem no_thenQ {K : Fr → AH → Prop} {Q : Exit → Fr → AH → Prop} (h : noOut Q) : noOut (thenQ K Q) := fun f A => h f A
theorem no_blockQ {i : Nat} {Q : Exit → Fr → AH → Prop} (h : noOut Q) : noOut (blockQ i Q) := fun f A => h f A
/-- A round that comes to its end. -/
def roundQ (R : Fr → AH → Prop) : Exit → Fr → AH → Prop
  | .normal, f, A => R f A
  | _, _, _ => False
theorem no_roundQ {R : Fr → AH → Prop} : noOut (roundQ R) := fun _ _ h => h
theorem noOut_post {nt : Nat} {Q : Exit → Fr → AH → Prop} (h : noOut Q) {A : AH} {w : World} : ¬ LetsOut (PostQ nt Q A w) := fun ⟨_, _, _, _, _, _, _, q, _⟩ => h _ _ q

section
variable {P : Program} {nt : Nat} {F : Fence} {Q : Exit → Fr → AH → Prop} {f : Fr} {A : AH} {e : Env} {ds : List Deferred}
theorem RunI.skip (h : Q .normal f A) : RunI P nt F .skip Q f A := fun _ _ ha hw => wpIn_skip (.self ha hw h fun _ q => by cases q)
theorem RunI.seq {x y : Code} (h : ∀ K : Fr → AH → Prop, (∀ f A, RunI P nt F y Q f A → K f A) → RunI P nt F x (thenQ K Q) f A) : RunI P nt F (x.seq y) Q f A := by
  intro a w ha hw
  refine wpIn_seq (wpIn_mono (h _ (fun _ _ h => h) a w ha hw) ?_)
  rintro e a' w' ⟨f', A', h1, h2, h3, h4, h5⟩
  cases e with
  | normal => exact wpIn_mono (h4 a' w' h1 h2) fun x a'' w'' g => g.step h3
  | _ => exact ⟨f', A', h1, h2, h3, h4, h5⟩
theorem RunI.cond {c : Operand} {x y : Code} {t : Bool} (hc : opd f.e c = some (.bool t)) (h1 : t = true → RunI P nt F x Q f A) (h2 : t = false → RunI P nt F y Q f A) :
    RunI P nt F (.cond c x y) Q f A := fun a w ha hw =>
  wpIn_cond_split (opd_eval ha hc) (fun e => h1 e a w ha hw) (fun e => h2 e a w ha hw)
theorem RunI.cond_true {c : Operand} {x y : Code} (hc : opd f.e c = some (.bool true)) (h1 : RunI P nt F x Q f A) : RunI P nt F (.cond c x y) Q f A :=
  RunI.cond hc (fun _ => h1) (fun e => by cases e)
theorem RunI.cond_false {c : Operand} {x y : Code} (hc : opd f.e c = some (.bool false)) (h1 : RunI P nt F y Q f A) : RunI P nt F (.cond c x y) Q f A :=
  RunI.cond hc (fun e => by cases e) (fun _ => h1)
theorem RunI.block {i : Nat} {c : Code} (h : RunI P nt F c (blockQ i Q) f A) : RunI P nt F (.block i c) Q f A := fun a w ha hw => by
  refine wpIn_block (wpIn_mono (h a w ha hw) ?_)
  rintro e a' w' ⟨f', A', h1, h2, h3, h4, h5⟩
  cases e with
  | exit j =>
    simp only [Exit.inBlock, blockQ] at h4 ⊢
    split
    · rename_i q; rw [if_pos q] at h4; exact ⟨f', A', h1, h2, h3, h4, fun _ q => by cases q⟩
    · rename_i q; rw [if_neg q] at h4; exact ⟨f', A', h1, h2, h3, h4, h5⟩
  | _ => exact ⟨f', A', h1, h2, h3, h4, h5⟩
theorem RunI.region {id : Nat} {l : List Oper} (hF : okF F) (hQ : noOut Q) (hd : l.all noDefer = true) (h : Ops P nt l.toArray l Q f A) : RunI P nt F (.region id l.toArray false) Q f A :=
  fun a w ha hw => wpIn_region_lit (list_in hF (noOut_post hQ) l a w hd (h a w ha hw A w (.refl _ _)))
theorem RunI.drawn {id : Nat} {ops : Array Oper} (C : List Nat) (hF : okF F) (hQ : noOut Q) (hd : ops.toList.all noDefer = true) (hm : P.follows .mixedOrders = true) (hc : canon ops (Array.replicate ops.size false) C = true) (hn : Region.noSelect ops = true) (hl : C.length = ops.size)
    (h : DOps P nt ops Q (Array.replicate ops.size false) [] C f A) : RunI P nt F (.region id ops true) Q f A := by
  intro a w ha hw
  obtain ⟨v1, s1⟩ := view_drawn hw
  refine wpIn_region_any hm (any_in hF (noOut_post hQ) hd _ _ _ _ (wpAny_of_S (S := heldS ops []) _ _ _ _ ?_))
  have key := h hc hn a _ ha v1 (fun p hp => by cases hp) (fun j o _ hj => by
    exfalso
    rcases Nat.lt_or_ge j ops.size with q | q
    · simp [q] at hj
    · simp [q] at hj) A w s1
  rw [hl] at key
  exact key
theorem Run.into {c : Code} (h : Run P nt c Q f A) : RunI P nt Fence.wide c Q f A := fun a w ha hw => wpIn_wide.2 (h a w ha hw)
end

/-! ### Calls of yield -/
def YieldA (P : Program) (l : Nat) (args : Array Value) (A : AH) (R : Value → AH → Prop) : Prop :=
  ∀ w, View A w → YieldAt Fence.wide 0 P l args w fun e w' => ∃ A' v, e = .returned v ∧ View A' w' ∧ Step A w A' w' ∧ R v A'
section
variable {P : Program} {nt : Nat} {all : Array Oper} {Q : Exit → Fr → AH → Prop} {f : Fr} {A : AH} {e : Env} {ds : List Deferred} {d t : Nat} {op : Op} {ty : TypeId} {ps : String} {af : Array Edge} {os : List Oper} {v : Value} {T : Held}
end

/-! ### The statement -/
def mark (D : Nat) : Deferred := { target := .collected D, args := #[] }
def roundE (ps : List Nat) (xs : List Value) (e : Env) : Env := (ps.zip xs).foldl (fun e p => (p.1, p.2) :: e) e
section
variable {P : Program} {nt : Nat} {Q : Exit → Fr → AH → Prop} {A : AH} {e : Env} {ds : List Deferred}
theorem roundE_ok : ∀ (l : List (Nat × Value)) (e : Env) (t : Array Value), (∀ p ∈ l, p.1 < nt) → ActOk nt ⟨e, []⟩ { tmps := t, defers := [] } →
    ActOk nt ⟨l.foldl (fun e p => (p.1, p.2) :: e) e, []⟩ { tmps := l.foldl (fun t p => t.setIfInBounds p.1 p.2) t, defers := [] }
  | [], _, _, _, h => h
  | p :: l, e, t, hp, h => roundE_ok l _ _ (fun q hq => hp q (List.mem_cons_of_mem _ hq)) (by
      have := h.put (some p.1) p.2 (fun t q => by cases q; exact hp p List.mem_cons_self)
      exact this)
theorem view_put (P : Program) {w : World} {b : Nat} {x y : Obj} (h : View A w) (g : A.get b = some (.obj true x)) (hy : ∀ c e f, y ≠ .cells c e f) : View (A.set b (.obj true y)) (w.putObj b y) ∧ Step A w (A.set b (.obj true y)) (w.putObj b y) := by
  obtain ⟨w', r, v1, s1⟩ := view_setObj (P := P) h g (y := y) hy
  obtain ⟨g1, g2⟩ := h.obj g
  have : (setObj b y).run P w = .ok () (w.putObj b y) := by simp [setObj, Sem.run, g1, World.putObj]
  rw [r] at this
  have e : w' = w.putObj b y := by injection this
  rw [← e]; exact ⟨v1, s1⟩
theorem Run.rangeFunc {g : Operand} {gf : Nat} {lb : Array Value} {ps : Array Tmp} {assign body : Code} (n : Nat) (xs : Nat → List Value) (I : Nat → AH → Prop) (e1 : Nat → Env)
    (hg : opd e g = some (.func (.func gf) #[] lb)) (eg : Enters P gf) (hps : ∀ i, (xs i).length = ps.size) (hpn : ∀ p ∈ ps.toList, p < nt)
    (hI : ∀ i B B', I i B → B'.wf → B.n ≤ B'.n → (∀ b o, b < A.n → B.get b = some o → B'.get b = some o) → I i B') (h0 : I 0 A)
    (hiter : ∀ l (J : Nat → AH → Prop) B, (∀ i C, J i C → I i C) → (∀ i C C', J i C → C.le C' → C'.wf → J i C') → B.wf → J 0 B →
      (∀ i C, i < n → C.wf → J i C → YieldA P l (xs i).toArray C (fun v C' => v = .bool true ∧ J (i + 1) C' ∧ C'.wf)) → RetA P gf (#[.func (.yield l) #[] #[]] ++ lb) B (fun _ C => J n C ∧ C.wf))
    (hassign : ∀ F i B, okF F → i < n → RunI P nt F assign (roundQ fun f C => EnvLe (e1 i) f.e ∧ f.ds = [] ∧ B = C) ⟨roundE ps.toList (xs i) e, []⟩ B)
    (hbody : ∀ F i B l D rl rd, okF F → i < n → I i B → B.wf → A.n ≤ l → A.n ≤ D → B.get l = some (.obj true rl) → B.get D = some (.obj true rd) →
      RunI P nt F body (roundQ fun _ C => I (i + 1) C ∧ C.wf ∧ C.get l = some (.obj true rl) ∧ C.get D = some (.obj true rd)) ⟨e1 i, []⟩ B)
    (hK : ∀ B D, I n B → B.wf → A.n ≤ D → A.n ≤ B.n → B.get D = some (.obj true (.deferred (some []))) → Q .normal ⟨e, mark D :: ds⟩ B) :
    Run P nt (.rangeFunc g ps assign body) Q ⟨e, ds⟩ A := by
  intro a w ha hw
  refine wpIn_wide.1 (wpIn_rangeFunc (n := 0) ?_)
  intro fn _
  rw [show Fence.wide.round = none from rfl]
  obtain ⟨rec, hrec⟩ : ∃ rec : LoopState → Option Code → Loop, rec = fun st pe => { state := st, pending := pe, fn, tmps := a.tmps, params := ps, assign, body, defers := w.heap.size } := ⟨_, rfl⟩
  have hsz : w.heap.size = A.n := hw.size
  obtain ⟨v1, s1⟩ := view_new (o := .obj true (.deferred (some []))) (x := .deferred (some [])) hw ⟨rfl, fun _ _ _ q => by cases q⟩
  obtain ⟨v2, s2⟩ := view_new (o := .obj true (.loop (rec .ready none))) (x := .loop (rec .ready none)) v1 ⟨rfl, fun _ _ _ q => by cases q⟩
  have hgl : ((A.new (.obj true (.deferred (some [])))).new (.obj true (.loop (rec .ready none)))).get (A.n + 1) = some (.obj true (.loop (rec .ready none))) := AH.new_get_same _ _
  have hgd : ((A.new (.obj true (.deferred (some [])))).new (.obj true (.loop (rec .ready none)))).get A.n = some (.obj true (.deferred (some []))) := by
    rw [AH.new_get_ne _ _ (by simp)]; exact AH.new_get_same _ _
  have hI2 : I 0 ((A.new (.obj true (.deferred (some [])))).new (.obj true (.loop (rec .ready none)))) := hI 0 A _ h0 v2.wf (by simp; omega) fun b o hb hgb => by
    rw [AH.new_get_ne _ _ (by simp; omega), AH.new_get_ne _ _ (by omega)]; exact hgb
  have hgev : a.eval g = .func (.func gf) #[] lb := opd_eval ha hg
  refine ⟨w.heap.size + 1, [mark w.heap.size], (w.alloc (.deferred (some []))).alloc (.loop (rec .ready none)), { target := .fn (.func gf) lb, args := #[.func (.yield (w.heap.size + 1)) #[] #[]] }, (w.alloc (.deferred (some []))).alloc (.loop (rec .ready none)), gf,
    #[.func (.yield (w.heap.size + 1)) #[] #[]] ++ lb, (w.alloc (.deferred (some []))).alloc (.loop (rec .ready none)), ?_, ?_, fun _ _ => trivial, ?_, fun q => (by cases q), ?_⟩
  · rw [hrec]; exact run_enterLoop_outer _ _ _ _ _
  · simp only [resolve, hgev]
    simp [go_sem]
  · have eg' := eg
    unfold Enters at eg'
    simp [invoke, go_sem, eg']
  · rw [hsz]
    have hcall := hiter (A.n + 1) (fun i C => I i C ∧ C.get (A.n + 1) = some (.obj true (.loop (rec .ready none))) ∧ C.get A.n = some (.obj true (.deferred (some [])))) _ (fun i C h => h.1)
      (fun i C C' h le wf => ⟨hI i C C' h.1 wf le.n (fun b o _ hb => le.get b o hb), le.get _ _ h.2.1, le.get _ _ h.2.2⟩) v2.wf ⟨hI2, hgl, hgd⟩ ?_
    · refine (callsIn_wide.2 (hcall.2 _ v2)).mono ?_
      rintro en w' ⟨A', hv', hs', v, rfl, ⟨⟨hIn, hgl', hgd'⟩, hwf'⟩⟩
      obtain ⟨q1, _⟩ := hv'.obj hgl'
      obtain ⟨v3, s3⟩ := view_put P (y := .loop { rec .ready none with state := .exhausted }) hv' hgl' (fun _ _ _ q => by cases q)
      refine ⟨none, w'.putObj (A.n + 1) (.loop { rec .ready none with state := .exhausted }), by
        have h7 := run_endLoop (P := P) q1 (by rw [hrec]; simp)
        have h8 : (rec .ready none).pending = none := by rw [hrec]
        exact h7.trans (congrArg (fun j => Result.ok j _) h8), ?_⟩
      have hl' := hwf' _ _ hgl'
      refine ⟨⟨e, mark A.n :: ds⟩, _, ⟨ha.size, ha.slot, by show [mark _] ++ a.defers = _; rw [ha.ds]; rfl⟩, v3, ((s1.trans s2).trans hs').trans s3, ?_, fun _ q => by cases q⟩
      refine hK _ A.n (hI n A' _ hIn v3.wf (Nat.le_refl _) fun b o hb hgb => ?_) v3.wf (Nat.le_refl _) (by simp; omega) ?_
      · rw [AH.set_get_ne _ _ (by omega)]; exact hgb
      · rw [AH.set_get_ne _ _ (by omega)]; exact hgd'
    · intro i C hi hwfC ⟨hIC, hgl', hgd'⟩ w' hv'
      obtain ⟨q1, _⟩ := hv'.obj hgl'
      have hy := run_yield (P := P) (args := (xs i).toArray) q1 (by rw [hrec]; simpa using hps i)
      refine ⟨fn, _, assign, body, (by rw [hrec] at hy; exact hy), roundIn_of_wpIn trivial ?_⟩
      have hact : ActOk nt ⟨roundE ps.toList (xs i) e, []⟩ { tmps := (ps.zip (xs i).toArray).foldl (fun t p => t.setIfInBounds p.1 p.2) a.tmps, defers := [] } := by
        have := roundE_ok (nt := nt) (ps.toList.zip (xs i)) e a.tmps (fun p hp => hpn _ (List.of_mem_zip hp).1) ⟨ha.size, ha.slot, rfl⟩
        rw [← Array.foldl_toList, Array.toList_zip]
        exact this
      have hw1 := hassign (FR (A.n + 1)) i C (okF_round _) hi _ w' hact hv'
      refine wpIn_mono hw1 ?_
      rintro x a1 w1 ⟨f1, A1, h1, h2, h3, h4, h5⟩
      cases x <;> (try exact h4.elim)
      obtain ⟨hE, hds, rfl⟩ := h4
      obtain ⟨fe, fds⟩ := f1
      simp only at hE hds
      subst hds
      obtain ⟨q2, _⟩ := h2.obj hgl'
      obtain ⟨v4, s4⟩ := view_put P (y := .loop { rec .ready none with state := .busy }) h2 hgl' (fun _ _ _ q => by cases q)
      refine ⟨_, run_beginRound q2 (by rw [hrec]), ?_⟩
      have hl' := hwfC _ _ hgl'
      have hb := hbody (FR (A.n + 1)) i _ (A.n + 1) A.n _ _ (okF_round _) hi (hI i C _ hIC v4.wf (Nat.le_refl _) fun b o hb hgb => by rw [AH.set_get_ne _ _ (by omega)]; exact hgb) v4.wf (by omega) (Nat.le_refl _) (AH.set_get_same _ _ _) (by rw [AH.set_get_ne _ _ (by omega)]; exact hgd')
      refine wpIn_mono (hb _ _ (h1.le hE) v4) ?_
      rintro x a2 w2 ⟨f2, A2, g1, g2, g3, g4, g5⟩
      cases x <;> (try exact g4.elim)
      obtain ⟨hI3, hwf3, hl3, hd3⟩ := g4
      obtain ⟨q3, _⟩ := g2.obj hl3
      obtain ⟨v5, s5⟩ := view_put P (y := .loop { ({ rec .ready none with state := .busy } : Loop) with state := .ready, pending := none }) g2 hl3 (fun _ _ _ q => by cases q)
      refine ⟨_, _, run_endRound (P := P) none q3, _, _, rfl, v5, ((h3.trans s4).trans g3).trans s5, rfl, ⟨?_, ?_, ?_⟩, v5.wf⟩
      · exact hI (i + 1) A2 _ hI3 v5.wf (Nat.le_refl _) fun b o hb hgb => by rw [AH.set_get_ne _ _ (by omega)]; exact hgb
      · rw [AH.set_get_same, hrec]
      · rw [AH.set_get_ne _ _ (by omega)]; exact hd3

/-! ### Functions that leave with marks -/
def bodyQM (P : Program) (rs : List ResultVar) (Q : Ending → AH → Prop) : Exit → Fr → AH → Prop
  | .normal, f, A | .ret, f, A => ∃ Ds : List Nat, f.ds = Ds.map mark ∧ Ds.Nodup ∧ (∀ D ∈ Ds, A.get D = some (.obj true (.deferred (some [])))) ∧
      ∃ vs, ∀ A', A'.wf → A'.n = A.n → (∀ b o, b ∉ Ds → A.get b = some o → A'.get b = some o) → resV P f.e A' rs = some vs ∧ Q (.returned (oneV vs)) A'
  | _, _, _ => False

theorem CallsA.enterM {g : FuncId} {fn : Func} {c : Code} {args : List Value} {Qe : Ending → AH → Prop} (he : Enters P g) (hf : P.funcs[g]? = some fn) (hb : fn.body = some c) (hn : args.length ≤ fn.ntmps)
    (h : A.wf → Run P fn.ntmps c (bodyQM P fn.results.toList Qe) ⟨argE args 0, []⟩ A) : CallsA P g args.toArray A Qe := by
  refine ⟨he, fun w hw => callsIn_wide.1 (callsIn_of_wp_marks (F := Fence.wide) (n := 0) hf hb trivial ?_)⟩
  have ha : ActOk fn.ntmps ⟨argE args 0, []⟩ { tmps := args.toArray ++ Array.replicate (fn.ntmps - args.toArray.size) undef, defers := [] } := by
    refine ⟨by simp; omega, fun t v q => ?_, rfl⟩
    obtain ⟨_, h2⟩ := argE_get args 0 t v q
    simp only [Nat.sub_zero] at h2
    have hlt : t < args.length := (List.getElem?_eq_some_iff.1 h2).1
    refine ⟨?_, by omega⟩
    simp only [Array.getD_eq_getD_getElem?]
    rw [Array.getElem?_append_left (by simpa using hlt)]
    simp [h2]
  have leave : ∀ (Ds : List Nat) (B : AH) (f : Fr) (a : Act) (w' : World) (vs : List Value), (∀ t v, getE f.e t = some v → a.tmps.getD t undef = v ∧ t < fn.ntmps) → a.tmps.size = fn.ntmps → View B w' → Step A w B w' → Ds.Nodup → (∀ D ∈ Ds, B.get D = some (.obj true (.deferred (some [])))) →
      (∀ A', A'.wf → A'.n = B.n → (∀ b o, b ∉ Ds → B.get b = some o → A'.get b = some o) → resV P f.e A' fn.results.toList = some vs ∧ Qe (.returned (oneV vs)) A') →
      LeavesInM Fence.wide 0 P fn a.tmps (fun e w'' => ∃ A', View A' w'' ∧ Step A w A' w'' ∧ Qe e A') (Ds.map mark) .returning w' := by
    intro Ds
    induction Ds with
    | nil =>
      intro B f a w' vs hsl hsz hv hs _ _ hq
      obtain ⟨r1, r2⟩ := hq B hv.wf rfl (fun _ _ _ h => h)
      have := run_results (nt := fn.ntmps) (f := ⟨f.e, a.defers⟩) (a := a) ⟨hsz, hsl, rfl⟩ hv r1
      exact ⟨_, this, B, hv, hs, r2⟩
    | cons D Ds ih =>
      intro B f a w' vs hsl hsz hv hs hnd hD hq
      have gD := hD D List.mem_cons_self
      obtain ⟨q1, _⟩ := hv.obj gD
      obtain ⟨v1, s1⟩ := view_put P (y := .deferred none) hv gD (fun _ _ _ q => by cases q)
      refine ⟨by simp, .inl ⟨D, _, rfl, run_takeDeferred q1, ?_⟩⟩
      have hnd' := List.nodup_cons.1 hnd
      refine ih _ f a _ vs hsl hsz v1 (hs.trans s1) hnd'.2 (fun E hE => ?_) (fun A' wf' hn' hk' => ?_)
      · rw [AH.set_get_ne _ _ (by rintro rfl; exact hnd'.1 hE)]; exact hD E (List.mem_cons_of_mem _ hE)
      · exact hq A' wf' hn' fun b o hb hgb => hk' b o (fun q => hb (List.mem_cons_of_mem _ q)) (by rw [AH.set_get_ne _ _ (by rintro rfl; exact hb List.mem_cons_self)]; exact hgb)
  refine wpIn_mono (Run.into (h hw.wf) _ w ha hw) ?_
  rintro x a' w' ⟨f', A', h1, h2, h3, h4, h5⟩
  cases x <;> simp only [bodyQM] at h4 <;> (try exact h4.elim)
  case normal => obtain ⟨Ds, e1, e2, e3, vs, e4⟩ := h4; simp only [bodyPostM]; rw [h1.ds, e1]; exact leave Ds A' f' a' w' vs h1.slot h1.size h2 h3 e2 e3 e4
  case ret => obtain ⟨Ds, e1, e2, e3, vs, e4⟩ := h4; simp only [bodyPostM]; rw [h1.ds, e1]; exact leave Ds A' f' a' w' vs h1.slot h1.size h2 h3 e2 e3 e4
theorem enterM {g : FuncId} {fn : Func} {c : Code} {rs : Array ResultVar} {nt : Nat} {args : List Value} {a : Array Value} {e : Env} {A : AH} {R : Value → AH → Prop} (he : Enters P g) (hf : P.funcs[g]? = some fn) (hb : fn.body = some c)
    (hr : fn.results = rs) (hnt : fn.ntmps = nt) (ha : args.toArray = a) (hn : Nat.ble args.length nt = true) (hE : argE args 0 = e) (h : A.wf → Run P nt c (bodyQM P rs.toList fun en A' => ∃ v, en = .returned v ∧ R v A') ⟨e, []⟩ A) : RetA P g a A R := by
  subst hr; subst hnt; subst ha; subst hE
  exact CallsA.enterM he hf hb (Nat.le_of_ble_eq_true hn) h
/-- A loop in whose rounds marks are pushed. -/
theorem Run.loopD {c : Code} {X : Type} (E : X → Env) (D : X → List Deferred) (I : X → AH → Prop) (μ : X → Nat) (x₀ : X) (hE : EnvLe (E x₀) e) (hD : D x₀ = ds) (h₀ : I x₀ A)
    (round : ∀ x B, I x B → Run P nt c (thenQ (fun f B' => ∃ y, EnvLe (E y) f.e ∧ f.ds = D y ∧ I y B' ∧ μ y < μ x) Q) ⟨E x, D x⟩ B) :
    Run P nt (.loop c) Q ⟨e, ds⟩ A := by
  subst hD
  intro a w ha hw b k cs
  have run : ∀ m a w₁, (∃ x B, μ x = m ∧ I x B ∧ ActOk nt ⟨E x, D x⟩ a ∧ View B w₁ ∧ Step A w B w₁) →
      ∃ e a' w', PostQ nt Q A w e a' w' ∧ Arrives P (lone (b.at a (.code c :: .inLoop c :: k)) cs w₁) b k cs e a' w' := by
    intro m
    induction m using Nat.strongRecOn with
    | _ m ih =>
      rintro a w₁ ⟨x, B, hm, hI, ha₁, hw₁, hs₁⟩
      obtain ⟨e, a₂, w₂, ⟨f', A', h1, h2, h3, h4, h5⟩, harr⟩ := round x B hI a w₁ ha₁ hw₁ b (.inLoop c :: k) cs
      cases e with
      | normal =>
        obtain ⟨y, g1, g2, g3, g4⟩ := h4
        obtain ⟨fe, fds⟩ := f'
        simp only at g1 g2
        subst g2
        obtain ⟨e₂, a₃, w₃, hq, harr₂⟩ := ih (μ y) (hm ▸ g4) a₂ w₂ ⟨y, A', rfl, g3, h1.le g1, h2, hs₁.trans h3⟩
        exact ⟨e₂, a₃, w₃, hq, .of_steps (Steps.trans harr (.one step_inLoop)) harr₂⟩
      | exit id => exact ⟨_, a₂, w₂, ⟨f', A', h1, h2, hs₁.trans h3, h4, h5⟩, .pass (x := .inLoop c) rfl (fun _ _ => .inl (by simp)) harr⟩
      | goto l => exact ⟨_, a₂, w₂, ⟨f', A', h1, h2, hs₁.trans h3, h4, h5⟩, .pass (x := .inLoop c) rfl (fun _ _ => .inl (by simp)) harr⟩
      | ret => exact ⟨_, a₂, w₂, ⟨f', A', h1, h2, hs₁.trans h3, h4, h5⟩, .pass (x := .inLoop c) rfl (fun _ _ => .inl (by simp)) harr⟩
      | panic ch => exact ⟨_, a₂, w₂, ⟨f', A', h1, h2, hs₁.trans h3, h4, h5⟩, .pass (x := .inLoop c) rfl (fun _ _ => .inl (by simp)) harr⟩
      | outgrown => exact ⟨_, a₂, w₂, ⟨f', A', h1, h2, hs₁.trans h3, h4, h5⟩, .pass (x := .inLoop c) rfl (fun _ _ => .inl (by simp)) harr⟩
  obtain ⟨e, a', w', hq, harr⟩ := run _ a w ⟨x₀, A, rfl, h₀, ha.le hE, hw, .refl _ _⟩
  exact ⟨e, a', w', hq, .of_steps (.one step_loop) harr⟩
end
end V
end Go.Proofs.YtaccklloepfemaaDoor

namespace Go.Proofs.YtaccklloepfemaaDoor
set_option linter.unusedVariables false
set_option linter.unusedSimpArgs false
open Go Go.RowKit
namespace V

/-- The view without some blocks. -/
def AH.hide (A : AH) (bs : List (Option Nat)) : AH := ⟨A.n, fun k => if some k ∈ bs then none else A.get k⟩
section
variable {A B C A0 A1 : AH} {bs : List (Option Nat)} {b k n : Nat} {o : AObj} {v u : Value} {size : Nat} {xs ys : List Value}
theorem hide_none (h : some b ∈ bs) : (A.hide bs).get b = none := if_pos h
theorem hide_get (h : A.get k = some o) (hk : some k ∉ bs) : (A.hide bs).get k = some o := by
  show (if some k ∈ bs then none else A.get k) = some o
  rw [if_neg hk]; exact h
theorem hide_le (A : AH) (bs : List (Option Nat)) : (A.hide bs).le A := ⟨Nat.le_refl _, fun b o g => by
  have g : (if some b ∈ bs then none else A.get b) = some o := g
  split at g
  · cases g
  · exact g⟩
theorem hide_wf (wf : A.wf) : (A.hide bs).wf := fun b o g => wf b o ((hide_le A bs).get b o g)
theorem le_hide (le : A0.le A) (h : ∀ b, some b ∈ bs → A0.get b = none) : A0.le (A.hide bs) :=
  ⟨le.n, fun b o g => hide_get (le.get b o g) fun q => by rw [h b q] at g; cases g⟩
theorem nm0 : some k ∉ ([] : List (Option Nat)) := fun h => by cases h
theorem nmB (h : k ≠ b) (t : some k ∉ bs) : some k ∉ some b :: bs := fun q => by
  rcases List.mem_cons.1 q with q | q
  · exact h (Option.some.inj q)
  · exact t q
theorem nmV (h : blk v ≠ some k) (t : some k ∉ bs) : some k ∉ blk v :: bs := fun q => by
  rcases List.mem_cons.1 q with q | q
  · exact h q.symm
  · exact t q
theorem ho0 : ∀ b, some b ∈ ([] : List (Option Nat)) → A0.get b = none := fun _ h => by cases h
theorem hoB (h : A0.get k = none) (t : ∀ b, some b ∈ bs → A0.get b = none) : ∀ b, some b ∈ some k :: bs → A0.get b = none := fun b q => by
  rcases List.mem_cons.1 q with q | q
  · cases q; exact h
  · exact t b q
theorem hoV (h : ∀ b, blk v = some b → A0.get b = none) (t : ∀ b, some b ∈ bs → A0.get b = none) : ∀ b, some b ∈ blk v :: bs → A0.get b = none := fun b q => by
  rcases List.mem_cons.1 q with q | q
  · exact h b q.symm
  · exact t b q
/-- Slices in different blocks. -/
def Sep (v u : Value) : Prop := ∀ c, blk v = some c → blk u ≠ some c
theorem Sep.symm (h : Sep v u) : Sep u v := fun c hu hv => h c hv hu
theorem Sep.nil : Sep (.slice none 0 0) u := fun c h => by cases h
theorem Fresh.hide (h : Fresh A0 A v size xs) (hb : blk v ∈ bs) : Fresh (A.hide bs) A v size xs := ⟨h.own, fun b q => hide_none (by rw [← q]; exact hb)⟩
/-- What a slice's block is apart from. -/
def Off (u : Value) (bs : List (Option Nat)) : Prop := ∀ c, blk u = some c → some c ∉ bs
theorem off0 : Off u [] := fun _ _ => nm0
theorem offB (h : blk u ≠ some b) (t : Off u bs) : Off u (some b :: bs) := fun c hc => nmB (fun q => h (q ▸ hc)) (t c hc)
theorem offV (h : Sep v u) (t : Off u bs) : Off u (blk v :: bs) := fun c hc => nmV (fun q => h c q hc) (t c hc)
theorem Own.blkget (h : Own A v size xs) (hb : blk v = some b) : ∃ o, A.get b = some o := by
  rcases h with ⟨rfl, _⟩ | ⟨b', n, k, r, rcap, rfl, h2, _⟩
  · cases hb
  · cases hb; exact ⟨_, h2⟩
theorem Own.off (h : Own A u size xs) (o : Off u bs) (le : (A.hide bs).le B) : Own B u size xs := by
  rcases h with h | ⟨b', n, k, r, rcap, rfl, h2, h3⟩
  · exact .inl h
  · exact .inr ⟨b', n, k, r, rcap, rfl, le.get _ _ (hide_get h2 (o b' rfl)), h3⟩
theorem Fresh.off (h : Fresh A0 A u size xs) (o : Off u bs) (le : (A.hide bs).le B) : Fresh A0 B u size xs := ⟨h.own.off o le, h.lo⟩
theorem Fresh.sep {s2 : Nat} (h : Fresh (A.hide bs) B v size xs) (hu : Own A u s2 ys) (o : Off u bs) : Sep v u := fun c hv hc => by
  obtain ⟨x, hx⟩ := hu.blkget hc
  have := h.lo c hv
  rw [hide_get hx (o c hc)] at this; cases this
theorem Own.appd {s2 : Nat} {v' : Value} {zs : List Value} (h : Own A u size xs) (ap : Appd A v s2 zs v' A1) (hs : Sep v u) : Own A1 u size xs := by
  rcases h with h | ⟨b', n, k, r, rcap, rfl, h2, h3⟩
  · exact .inl h
  · exact .inr ⟨b', n, k, r, rcap, rfl, ap.get _ _ h2 (fun q => hs b' q rfl), h3⟩
theorem Fresh.appd {s2 : Nat} {v' : Value} {zs : List Value} (h : Fresh A0 A u size xs) (ap : Appd A v s2 zs v' A1) (hs : Sep v u) : Fresh A0 A1 u size xs := ⟨h.own.appd ap hs, h.lo⟩
theorem Sep.appd {s2 : Nat} {v' : Value} {zs : List Value} (h : Sep v u) (hu : Own A u size xs) (wf : A.wf) (ap : Appd A v s2 zs v' A1) : Sep v' u := fun c hc hq => by
  rcases ap.blk c hc with q | q
  · exact h c q hq
  · obtain ⟨o, ho⟩ := hu.blkget hq
    have := wf _ _ ho; omega
theorem Fresh.seph (h : Fresh A0 A v size xs) (g : A0.get b = some o) : blk v ≠ some b := fun q => by rw [h.lo b q] at g; cases g
/-- A cell of a row of a call's own is written. -/
theorem Fresh.setc {A0 A A1 : AH} {b n c i size : Nat} {xs : List Value} {r : List Value} {rcap : Nat} {w : Value} (h : Fresh A0 A (.slice (some ⟨b, 0, none⟩) n c) size xs) (g : A.get b = some (.row true r rcap)) (sb : SetB A A1 b (.row true (r.set i w) rcap)) :
    Fresh A0 A1 (.slice (some ⟨b, 0, none⟩) n c) size (xs.set i w) := by
  refine ⟨?_, h.lo⟩
  rcases h.own with ⟨q, _⟩ | ⟨b', n', k, r', rcap', h1, h2, h3, h4, h5, h6⟩
  · cases q
  · cases h1
    rw [g] at h2; cases h2
    refine .inr ⟨b, n, c, r.set i w, rcap, rfl, sb.get, by simpa using h3, ?_, h5, h6⟩
    rw [List.take_set, h4]
/-- Bytes turned to a string where nothing else is known of the order. -/
theorem run_conv_str {P : Program} {A : AH} {v : Value} {l : List UInt8} {sr dd el : TypeId} (hs : P.underlying sr = some (.slice el)) (hd : P.underlying dd = some .string) (hu : P.underlying el = some (.int .u8)) (h : Slc A 1 v (byteCells l)) :
    ∃ T : Held, ∀ w, View A w → holds T w ∧ ∀ w', holds T w' → (convert sr dd v).run P w' = .ok (str l) w' := by
  obtain ⟨p, n, c, rfl, h2, h3, h4⟩ := h
  have hl : l.length = n := by simpa [byteCells] using h2
  by_cases h0 : n = 0
  · subst h0
    have : l = [] := List.length_eq_zero_iff.1 hl
    subst this
    refine ⟨[], fun w hw => ⟨fun _ h => (by cases h), fun w' _ => ?_⟩⟩
    rw [run_convert_bytes_string w' sr dd el p 0 c hs hu hd]
    exact congrArg (fun r : Result Value => r) (by rw [run_bytesToStr (P := P) (A := ⟨w'.heap.size, fun _ => none⟩) (s := []) (n := 0) ⟨rfl, fun _ _ q => by cases q⟩ (by cases p <;> rfl) (fun _ q => by cases q)]; rfl)
  · rcases h4 with h4 | ⟨b, off, rw, r, rcap, rfl, g2, g3⟩
    · exact absurd h4 h0
    · have hlen : off + n ≤ r.length := by
        have := congrArg List.length g3
        rw [List.length_take, List.length_drop, bytes_length] at this; omega
      refine ⟨heldOf ⟨b, off, none⟩ 0 ((r.drop (off + 0)).take n), fun w hw => ⟨held_of_cells hw rfl g2 n 0 (by simpa using hlen), fun w' hT => ?_⟩⟩
      have e : (r.drop (off + 0)).take n = byteCells l := by simpa [Nat.mul_one] using g3
      have hc : (loadCells ⟨b, off, none⟩ n).run P w' = .ok (byteCells l).toArray w' := by
        have := cell_of_held (P := P) ((r.drop (off + 0)).take n) 0 hT #[]
        rw [e, bytes_length, hl] at this
        simpa [loadCells] using this
      have e2 : byteCells l = (l.map fun b => (b.toNat : Int)).map (Value.int .u8) := by simp [byteCells]
      rw [run_convert_bytes_string w' sr dd el _ n c hs hu hd]
      rw [e2] at hc
      rw [Go.run_bytesToString w' _ n c _ hc, fold_bytes]
      simp only [ByteArray.empty, ByteArray.emptyWithCapacity, List.size_toArray]
      show Result.ok (Value.string ⟨(#[] : Array UInt8) ++ l.toArray⟩) w' = .ok (.string ⟨⟨l⟩⟩) w'
      rw [Array.empty_append]
theorem DOps.qstr {P : Program} {nt : Nat} {ops : Array Oper} {Q : Exit → Fr → AH → Prop} {e : Env} {ds : List Deferred} {A : AH} {d : Nat} {x : Operand} {ty : TypeId} {ps : String} {af : Array Edge} {listed : Array Bool} {held : List (Nat × Held)} {i : Nat} {C : List Nat} {v : Value} {l : List UInt8} {sr dd el : TypeId}
    (ho : ops[i]? = some { dst := some d, op := .convert sr dd x, type := ty, pos := ps, after := af, guard := none }) (hlt : Nat.blt d nt = true) (hx : opd e x = some v) (hs : P.underlying sr = some (.slice el)) (hd : P.underlying dd = some .string) (hu : P.underlying el = some (.int .u8)) (h : Slc A 1 v (byteCells l))
    (hk : ∀ T, DOps P nt ops Q (listed.setIfInBounds i true) ((i, T) :: held) C ⟨(d, str l) :: e, ds⟩ A) : DOps P nt ops Q listed held (i :: C) ⟨e, ds⟩ A := by
  obtain ⟨T, hT⟩ := run_conv_str (P := P) hs hd hu h
  refine DOps.quiet (T := T) (v := str l) ho rfl (dstOk_spec hlt) (fun a w ha hw => ⟨(hT w hw).1, .inl ⟨by simp [Region.wanted], fun w' hw' => ?_⟩⟩) (hk T)
  have := (hT w hw).2 w' hw'
  simp only [execOp, opd_eval ha hx, Sem.run_bind, this, Result.andThen_ok]; rfl
theorem thenQ_exit {i : Nat} {K : Fr → AH → Prop} {Q : Exit → Fr → AH → Prop} {f : Fr} {A : AH} (h : Q (.exit i) f A) : thenQ K Q (.exit i) f A := h
theorem blockQ_same {i : Nat} {Q : Exit → Fr → AH → Prop} {f : Fr} {A : AH} (h : Q .normal f A) : blockQ i Q (.exit i) f A := by show (if i = i then _ else _); rw [if_pos rfl]; exact h
theorem blockQ_other {i j : Nat} {Q : Exit → Fr → AH → Prop} {f : Fr} {A : AH} (hne : j ≠ i) (h : Q (.exit j) f A) : blockQ i Q (.exit j) f A := by show (if j = i then _ else _); rw [if_neg hne]; exact h
theorem noGotoQ_exit {i : Nat} {Q : Exit → Fr → AH → Prop} {f : Fr} {A : AH} (h : Q (.exit i) f A) : noGotoQ Q (.exit i) f A := h
theorem noGotoQ_normal {Q : Exit → Fr → AH → Prop} {f : Fr} {A : AH} (h : Q .normal f A) : noGotoQ Q .normal f A := h
theorem noGotoQ_ret {Q : Exit → Fr → AH → Prop} {f : Fr} {A : AH} (h : Q .ret f A) : noGotoQ Q .ret f A := h
theorem Appd.cell {A A1 : AH} {s v u : Value} {size : Nat} {xs : List Value} {b off : Nat} (ap : Appd A s size xs v A1) (ne : V.blk s ≠ some b) (h : A.cell ⟨b, off, none⟩ = some u) : A1.cell ⟨b, off, none⟩ = some u := by
  unfold AH.cell at h ⊢
  simp only [Option.isSome_none] at h ⊢
  cases hg : A.get b with
  | none => rw [hg] at h; cases h
  | some o => rw [hg] at h; rw [ap.get _ _ hg ne]; exact h
/-- A slice from a place on. -/
def loV : Value → Nat → Nat → Value
  | .slice p n c, size, j => .slice (if c = j then p else p.map (·.add (j * size))) (n - j) (c - j)
  | v, _, _ => v
theorem Slc.lo {A : AH} {size j : Nat} {v : Value} {xs : List Value} (s : Slc A size v xs) (h0 : 0 < size) (hj : j * size ≤ xs.length) : Slc A size (loV v size j) (xs.drop (j * size)) := by
  obtain ⟨p, n, c, rfl, h2, h3, h4⟩ := s
  have hjn : j ≤ n := by rw [h2] at hj; exact Nat.le_of_mul_le_mul_right hj h0
  refine ⟨_, n - j, c - j, rfl, by rw [List.length_drop, h2, Nat.sub_mul], by omega, ?_⟩
  rcases h4 with h4 | ⟨b, off, rw, r, rcap, rfl, g2, g3⟩
  · left; omega
  · by_cases q : n = j
    · left; omega
    · right
      refine ⟨b, off + j * size, rw, r, rcap, ?_, g2, ?_⟩
      · rw [if_neg (by omega)]
        simp only [Option.map_some]
        rw [add_off _ _ rfl]
      · rw [← g3, List.drop_take, List.drop_drop, Nat.sub_mul]
theorem qsliceLo {P : Program} {e : Env} {A : AH} {x lo : Operand} {t el : TypeId} {size j : Nat} {v : Value} {xs : List Value} (hu : P.underlying t = some (.slice el)) (hs : szOf P el = some size) (h : opd e x = some v) (s : Slc A size v xs) (hlo : opd e lo = some (num (j : Nat))) (h0 : 0 < size) (hj : j * size ≤ xs.length) :
    quietV P e A (.slice t x (some lo) none none) = some (loV v size j, []) := by
  obtain ⟨p, n, c, rfl, h2, h3, h4⟩ := s
  have hjn : j ≤ n := by rw [h2] at hj; exact Nat.le_of_mul_le_mul_right hj h0
  simp [quietV, pureOp, h, sliceV, hu, hs, boundV, hlo, loV]
  omega
theorem bytes_drop (a : List UInt8) (n : Nat) : (byteCells a).drop n = byteCells (a.drop n) := by simp [byteCells, List.map_drop]
end
end V
end Go.Proofs.YtaccklloepfemaaDoor

namespace Go.Proofs.YtaccklloepfemaaDoor
set_option linter.unusedVariables false
set_option linter.unusedSimpArgs false
open Go V

/-- How many letters two words have in common at the beginning. -/
def cmn : List UInt8 → List UInt8 → Nat
  | a :: x, b :: y => if a = b then cmn x y + 1 else 0
  | _, _ => 0
theorem cmn_le : ∀ x y : List UInt8, cmn x y ≤ x.length ∧ cmn x y ≤ y.length
  | [], _ => by simp [cmn]
  | _ :: _, [] => by simp [cmn]
  | a :: x, b :: y => by
    have := cmn_le x y
    simp only [cmn, List.length_cons]
    split <;> omega
theorem cmn_go : ∀ {x y : List UInt8} {k : Nat}, k ≤ cmn x y → k < x.length ∧ k < y.length ∧ x.getD k 0 = y.getD k 0 → k + 1 ≤ cmn x y
  | [], _, _, _, h => by simp at h
  | _ :: _, [], _, _, h => by simp at h
  | a :: x, b :: y, 0, _, h => by
    simp only [List.getD_cons_zero] at h
    simp [cmn, h.2.2]
  | a :: x, b :: y, k + 1, hk, h => by
    simp only [cmn] at hk ⊢
    split at hk
    · rename_i e
      have := cmn_go (x := x) (y := y) (k := k) (by omega) ⟨by simpa using h.1, by simpa using h.2.1, by simpa using h.2.2⟩
      simp [e]; omega
    · omega
theorem cmn_stop {x y : List UInt8} {k : Nat} (hk : k ≤ cmn x y) (h : ¬ (k < x.length ∧ k < y.length ∧ x.getD k 0 = y.getD k 0)) : k = cmn x y := by
  induction x generalizing y k with
  | nil => simp [cmn] at hk ⊢; omega
  | cons a x ih =>
    cases y with
    | nil => simp [cmn] at hk ⊢; omega
    | cons b y =>
      simp only [cmn] at hk ⊢
      split at hk
      · rename_i e
        cases k with
        | zero => exact absurd ⟨by simp, by simp, by simpa using e⟩ h
        | succ k => rw [ih (y := y) (k := k) (by omega) (fun q => h ⟨by simpa using q.1, by simpa using q.2.1, by simpa using q.2.2⟩), if_pos e]
      · rename_i e; simp [e]; omega

/-! ### Loops that count while something is so -/
/-- The least number at which p does not hold, up to b. -/
def lf (p : Nat → Bool) (b : Nat) : Nat := ((List.range b).find? fun n => !p n).getD b
theorem lf_le (p : Nat → Bool) (b : Nat) : lf p b ≤ b := by
  unfold lf
  cases h : (List.range b).find? fun n => !p n with
  | none => exact Nat.le_refl _
  | some n => have := List.mem_of_find?_eq_some h; simp at this; simp; omega
theorem lf_all {p : Nat → Bool} {b i : Nat} (h : i < lf p b) : p i = true := by
  have hb := lf_le p b
  unfold lf at h hb
  cases q : (List.range b).find? fun n => !p n with
  | none =>
    rw [q] at h; simp only [Option.getD_none] at h
    rw [List.find?_eq_none] at q
    have := q i (by simp; omega)
    simpa using this
  | some n =>
    rw [q] at h; simp only [Option.getD_some] at h
    rw [List.find?_eq_some_iff_getElem] at q
    obtain ⟨_, m, hm, e, hall⟩ := q
    simp at e
    have := hall i (by omega)
    simpa using this
theorem lf_not {p : Nat → Bool} {b : Nat} (h : lf p b < b) : p (lf p b) = false := by
  unfold lf at h ⊢
  cases q : (List.range b).find? fun n => !p n with
  | none => rw [q] at h; simp at h
  | some n =>
    have := List.find?_some q
    simpa using this
theorem lf_go {p : Nat → Bool} {b n : Nat} (h : n ≤ lf p b) (hp : p n = true) (hb : n < b) : n + 1 ≤ lf p b := by
  rcases Nat.lt_or_eq_of_le h with h | h
  · exact h
  · have := lf_not (p := p) (b := b) (by omega)
    rw [← h, hp] at this; cases this
theorem lf_stop {p : Nat → Bool} {b n : Nat} (h : n ≤ lf p b) (hp : p n = false) : n = lf p b := by
  rcases Nat.lt_or_eq_of_le h with h | h
  · have := lf_all h; rw [hp] at this; cases this
  · exact h
/-! ### Letters and words -/
def letters : List UInt8 := [97, 65, 98, 66, 99, 67, 100, 68, 101, 69, 102, 70, 103, 71, 104, 72]
/-- The index of a letter; -1 of what is none. -/
def ix (c : UInt8) : Int := match letters.findIdx? (· == c) with | some i => i | none => -1
theorem ix_found {c : UInt8} {k : Nat} (hk : k < 16) (h : ∀ j, j < k → letters.getD j 0 ≠ c) (e : letters.getD k 0 = c) : ix c = k := by
  have : letters.findIdx? (· == c) = some k := by
    rw [List.findIdx?_eq_some_iff_getElem]
    refine ⟨hk, ?_, fun j hj => ?_⟩
    · have := e; simp [List.getD_eq_getElem?_getD, hk, letters] at this ⊢; exact this
    · have := h j hj
      have hj' : j < letters.length := Nat.lt_trans hj hk
      rw [List.getD_eq_getElem?_getD, List.getElem?_eq_getElem hj', Option.getD_some] at this
      simpa using this
  simp [ix, this]
theorem ix_none {c : UInt8} (h : ∀ j, j < 16 → letters.getD j 0 ≠ c) : ix c = -1 := by
  have : letters.findIdx? (· == c) = none := by
    rw [List.findIdx?_eq_none_iff]
    intro x hx
    obtain ⟨j, hj, rfl⟩ := List.getElem_of_mem hx
    have := h j hj
    rw [List.getD_eq_getElem?_getD, List.getElem?_eq_getElem hj, Option.getD_some] at this
    simpa using this
  simp [ix, this]
theorem all_u8 {p : UInt8 → Prop} (h : ∀ n : Fin 256, p (UInt8.ofNat n.1)) (c : UInt8) : p c := by
  have := h ⟨c.toNat, c.toNat_lt⟩
  simpa using this
theorem dle (a b : Int) : decide (b ≤ a) = !decide (a < b) := by rw [← decide_not]; simp
theorem dlt127 (r : Nat) (h : r ≤ 127) : decide (127 < r) = false := by simp; omega
theorem u8_ge {c : UInt8} (h : ¬ c < 128) : 128 ≤ c.toNat := by rw [UInt8.lt_iff_toNat_lt] at h; simpa using h
theorem ix_ascii : ∀ c : UInt8, 0 ≤ ix c → c.toNat ≤ 127 := all_u8 (by decide +kernel)
theorem flip_flip (c : UInt8) : c ^^^ 32 ^^^ 32 = c := by rw [UInt8.xor_assoc]; simp
/-- Is a byte a letter of k generators. -/
def okc (k : Int) (c : UInt8) : Bool := decide (0 ≤ ix c) && decide (ix c < 2 * k)
/-- The inverse of a word. -/
def inv (w : List UInt8) : List UInt8 := (w.map (· ^^^ 32)).reverse
/-- One letter more, behind a reduced word. -/
def push (s : List UInt8) (c : UInt8) : List UInt8 := if 0 < s.length ∧ s.getD (s.length - 1) 0 = c ^^^ 32 then s.take (s.length - 1) else s ++ [c]
def red (w : List UInt8) : List UInt8 := w.foldl push []
/-- What Check says of a word. -/
def wcheck (k : Int) (w : List UInt8) : Nat := if k < 1 ∨ 8 < k then 1 else if 100000 < w.length then 2 else if w.all (okc k) then 0 else 4
def isw (w : List UInt8) : Bool := decide (w.length ≤ 100000) && w.all (okc 8)
theorem wcheck8 (w : List UInt8) : wcheck 8 w = 0 ↔ isw w = true := by
  simp only [wcheck, isw, Bool.and_eq_true, decide_eq_true_eq]
  rw [if_neg (by omega)]
  split
  · simp; omega
  · split <;> rename_i h <;> simp [h] <;> omega
theorem push_length (s : List UInt8) (c : UInt8) : (push s c).length ≤ s.length + 1 := by
  unfold push; split <;> simp <;> omega
theorem foldl_push_length : ∀ (w s : List UInt8), (w.foldl push s).length ≤ s.length + w.length
  | [], s => by simp
  | c :: w, s => by
    have := foldl_push_length w (push s c); have := push_length s c
    simp only [List.foldl_cons, List.length_cons]; omega
theorem red_length (w : List UInt8) : (red w).length ≤ w.length := by have := foldl_push_length w []; simpa [red] using this
theorem inv_length (w : List UInt8) : (inv w).length = w.length := by simp [inv]
theorem drop_cons {w : List UInt8} {i : Nat} (h : i < w.length) : w.drop i = w.getD i 0 :: w.drop (i + 1) := by
  rw [List.drop_eq_getElem_cons h]; simp [h]
theorem drop_consL {l : List (List UInt8)} {i : Nat} (h : i < l.length) : l.drop i = l.getD i [] :: l.drop (i + 1) := by
  rw [List.drop_eq_getElem_cons h]; simp [h]
/-- The core of a word, and its conjugator. -/
def cycN (r : List UInt8) : Nat := lf (fun n => decide (2 * n + 2 ≤ r.length ∧ r.getD n 0 = r.getD (r.length - 1 - n) 0 ^^^ 32)) r.length
def core (w : List UInt8) : List UInt8 := ((red w).take ((red w).length - cycN (red w))).drop (cycN (red w))
def conj (w : List UInt8) : List UInt8 := (red w).take (cycN (red w))
/-- Words in shortlex. -/
def cmpl : List UInt8 → List UInt8 → Int
  | a :: x, b :: y => if ix a < ix b then -1 else if ix b < ix a then 1 else cmpl x y
  | _, _ => 0
def cmpw (u v : List UInt8) : Int := if u.length ≠ v.length then (if u.length < v.length then -1 else 1) else cmpl u v
def wInverse (w : List UInt8) : List UInt8 := if isw w then inv w else []
def wReduce (w : List UInt8) : List UInt8 := if isw w then red w else []
def wCore (w : List UInt8) : List UInt8 := if isw w then core w else []
def wConj (w : List UInt8) : List UInt8 := if isw w then conj w else []
def wCompare (u v : List UInt8) : Int := if isw u ∧ isw v then cmpw u v else 0
/-- The index of the first byte of some kind; -1 if there is none. -/
def ifc (q : Nat → Bool) (s : List UInt8) : Int := match s.findIdx? (fun c => q c.toNat) with | some i => i | none => -1
theorem ifc_found {q : Nat → Bool} {s : List UInt8} {k : Nat} (hk : k < s.length) (h : ∀ j, j < k → q (s.getD j 0).toNat = false) (e : q (s.getD k 0).toNat = true) : ifc q s = k := by
  have : s.findIdx? (fun c => q c.toNat) = some k := by
    rw [List.findIdx?_eq_some_iff_getElem]
    refine ⟨hk, by simpa [hk] using e, fun j hj => ?_⟩
    have := h j hj
    have hj' : j < s.length := Nat.lt_trans hj hk
    simpa [hj'] using this
  simp [ifc, this]
theorem ifc_none {q : Nat → Bool} {s : List UInt8} (h : ∀ j, j < s.length → q (s.getD j 0).toNat = false) : ifc q s = -1 := by
  have : s.findIdx? (fun c => q c.toNat) = none := by
    rw [List.findIdx?_eq_none_iff]
    intro x hx
    obtain ⟨j, hj, rfl⟩ := List.getElem_of_mem hx
    have := h j hj
    simpa [hj] using this
  simp [ifc, this]
theorem ifc_any (q : Nat → Bool) (s : List UInt8) : decide (0 ≤ ifc q s) = s.any (fun c => q c.toNat) := by
  unfold ifc
  cases h : s.findIdx? (fun c => q c.toNat) with
  | none =>
    rw [List.findIdx?_eq_none_iff] at h
    rw [List.any_eq_false.2 (by simpa using h)]; rfl
  | some i =>
    rw [List.findIdx?_eq_some_iff_getElem] at h
    obtain ⟨hi, e, _⟩ := h
    rw [List.any_eq_true.2 ⟨_, List.getElem_mem hi, e⟩]; simp
theorem contains_ok (k : Int) (w : List UInt8) : 0 ≤ ifc (fun r => decide (127 < r) || !okc k (UInt8.ofNat r)) w ↔ w.all (okc k) = false := by
  have h := ifc_any (fun r => decide (127 < r) || !okc k (UInt8.ofNat r)) w
  have e : (w.any fun c => decide (127 < c.toNat) || !okc k (UInt8.ofNat c.toNat)) = !w.all (okc k) := by
    rw [List.not_all_eq_any_not]
    congr 1
    funext c
    rw [UInt8.ofNat_toNat]
    by_cases q : okc k c = true
    · have : 0 ≤ ix c := by simp [okc] at q; exact q.1
      have := ix_ascii c this
      simp [q]; omega
    · simp [q]
  rw [e] at h
  constructor
  · intro q; rw [decide_eq_true q] at h; simpa using h
  · intro q; rw [q] at h; simpa using h
theorem wcheck8d (w : List UInt8) : decide (wcheck 8 w = 0) = isw w := by
  rw [Bool.eq_iff_iff, decide_eq_true_iff]; exact wcheck8 w
theorem push_go {w o R : List UInt8} {i : Nat} (hi : i < w.length) (h : (w.drop i).foldl push o = R) (hc : 0 < o.length ∧ o.getD (o.length - 1) 0 = w.getD i 0 ^^^ 32) : (w.drop (i + 1)).foldl push (o.take (o.length - 1)) = R := by
  rw [drop_cons hi, List.foldl_cons, push, if_pos hc] at h; exact h
theorem push_no {w o R : List UInt8} {i : Nat} (hi : i < w.length) (h : (w.drop i).foldl push o = R) (hc : ¬ (0 < o.length ∧ o.getD (o.length - 1) 0 = w.getD i 0 ^^^ 32)) : (w.drop (i + 1)).foldl push (o ++ [w.getD i 0]) = R := by
  rw [drop_cons hi, List.foldl_cons, push, if_neg hc] at h; exact h
theorem drop_end {w : List UInt8} {i : Nat} (h : w.length ≤ i) : w.drop i = [] := List.drop_eq_nil_of_le h
theorem dropL_end {α : Type} {w : List α} {i : Nat} (h : w.length ≤ i) : w.drop i = [] := List.drop_eq_nil_of_le h
theorem red_outer {l : List (List UInt8)} {k : Nat} {o o2 R : List UInt8} (hk : k < l.length) (h : (l.drop k).flatten.foldl push o = R) (h2 : (l.getD k []).foldl push o = o2) : (l.drop (k + 1)).flatten.foldl push o2 = R := by
  rw [drop_consL hk, List.flatten_cons, List.foldl_append, h2] at h; exact h
theorem flat_drop {l : List (List UInt8)} {k : Nat} (hk : k < l.length) : (l.drop k).flatten.length = (l.getD k []).length + (l.drop (k + 1)).flatten.length := by
  rw [drop_consL hk, List.flatten_cons, List.length_append]
/-- The inverse, as far as it is written. -/
def revbuf (w : List UInt8) (k : Nat) : List UInt8 := List.replicate (w.length - k) 0 ++ ((w.take k).map (· ^^^ 32)).reverse
theorem revbuf_zero (w : List UInt8) : List.replicate w.length 0 = revbuf w 0 := by simp [revbuf]
theorem revbuf_end (w : List UInt8) {k : Nat} (h : w.length ≤ k) : revbuf w k = inv w := by
  simp [revbuf, inv, List.take_of_length_le h, Nat.sub_eq_zero_of_le h]
theorem revbuf_length (w : List UInt8) {k : Nat} (h : k ≤ w.length) : (revbuf w k).length = w.length := by simp [revbuf]; omega
theorem revbuf_set (w : List UInt8) {k : Nat} (h : k < w.length) : (revbuf w k).set (w.length - 1 - k) (w.getD k 0 ^^^ 32) = revbuf w (k + 1) := by
  have e : List.replicate (w.length - k) (0 : UInt8) = List.replicate (w.length - 1 - k) 0 ++ [0] := by
    rw [show w.length - k = (w.length - 1 - k) + 1 by omega, List.replicate_succ']
  have t : w.take (k + 1) = w.take k ++ [w.getD k 0] := by
    rw [List.take_add_one, List.getElem?_eq_getElem h]; simp [h]
  unfold revbuf
  rw [e, List.append_assoc, t, List.map_append, List.reverse_append, show w.length - (k + 1) = w.length - 1 - k by omega]
  rw [List.set_append_right (w.length - 1 - k) _ (by simp)]
  simp
theorem cycN_half (r : List UInt8) : 2 * cycN r ≤ r.length := by
  by_cases h : cycN r = 0
  · omega
  · have := lf_all (p := fun n => decide (2 * n + 2 ≤ r.length ∧ r.getD n 0 = r.getD (r.length - 1 - n) 0 ^^^ 32)) (b := r.length) (i := cycN r - 1) (by unfold cycN at h ⊢; omega)
    simp only [decide_eq_true_eq] at this
    omega
theorem cycN_go {r : List UInt8} {n : Nat} (h : n ≤ cycN r) (hp : 2 * n + 2 ≤ r.length ∧ r.getD n 0 = r.getD (r.length - 1 - n) 0 ^^^ 32) : n + 1 ≤ cycN r := lf_go h (by simpa using hp) (by omega)
theorem cycN_stop {r : List UInt8} {n : Nat} (h : n ≤ cycN r) (hp : ¬ (2 * n + 2 ≤ r.length ∧ r.getD n 0 = r.getD (r.length - 1 - n) 0 ^^^ 32)) : n = cycN r := lf_stop h (by simpa using hp)
theorem cmpl_step {u v : List UInt8} {k : Nat} (hu : k < u.length) (hv : k < v.length) : cmpl (u.drop k) (v.drop k) = if ix (u.getD k 0) < ix (v.getD k 0) then -1 else if ix (v.getD k 0) < ix (u.getD k 0) then 1 else cmpl (u.drop (k + 1)) (v.drop (k + 1)) := by
  rw [drop_cons hu, drop_cons hv, cmpl]
theorem cmpl_end {u v : List UInt8} {k : Nat} (hu : u.length ≤ k) : cmpl (u.drop k) (v.drop k) = 0 := by
  rw [drop_end hu]; rfl
theorem cmpw_eq {u v : List UInt8} (h : ¬ ¬ u.length = v.length) : cmpw u v = cmpl u v := by unfold cmpw; rw [if_neg h]
/-- The index of the first element of some kind; -1 if there is none. -/
def ifl {α : Type} (q : α → Bool) (l : List α) : Int := match l.findIdx? q with | some i => i | none => -1
theorem ifl_found {α : Type} {q : α → Bool} {l : List α} {k : Nat} {d : α} (hk : k < l.length) (h : ∀ j, j < k → q (l.getD j d) = false) (e : q (l.getD k d) = true) : ifl q l = k := by
  have : l.findIdx? q = some k := by
    rw [List.findIdx?_eq_some_iff_getElem]
    refine ⟨hk, by simpa [hk] using e, fun j hj => ?_⟩
    have := h j hj
    have hj' : j < l.length := Nat.lt_trans hj hk
    simpa [hj'] using this
  simp [ifl, this]
theorem ifl_none {α : Type} {q : α → Bool} {l : List α} {d : α} (h : ∀ j, j < l.length → q (l.getD j d) = false) : ifl q l = -1 := by
  have : l.findIdx? q = none := by
    rw [List.findIdx?_eq_none_iff]
    intro x hx
    obtain ⟨j, hj, rfl⟩ := List.getElem_of_mem hx
    have := h j hj
    simpa [hj] using this
  simp [ifl, this]
theorem ifl_any {α : Type} (q : α → Bool) (l : List α) : 0 ≤ ifl q l ↔ l.any q = true := by
  unfold ifl
  cases h : l.findIdx? q with
  | none =>
    rw [List.findIdx?_eq_none_iff] at h
    rw [List.any_eq_false.2 (by simpa using h)]; simp
  | some i =>
    rw [List.findIdx?_eq_some_iff_getElem] at h
    obtain ⟨hi, e, _⟩ := h
    rw [List.any_eq_true.2 ⟨_, List.getElem_mem hi, e⟩]; simp
theorem short {n : Nat} {l : List (List UInt8)} (h : ¬ 0 ≤ ifl (fun r => decide (n < r.length)) l) : ∀ s ∈ l, s.length ≤ n := fun s hs => by
  rw [ifl_any] at h
  simp only [List.any_eq_true, not_exists, decide_eq_true_eq] at h
  have := h s
  simp [hs] at this; exact this
theorem getD_mem {α : Type} {l : List α} {k : Nat} {d : α} (h : k < l.length) : l.getD k d ∈ l := by simp [h]
/-- What is wrong with a presentation. -/
def badRel (g : Int) (r : List UInt8) : Bool := decide (r = []) || !decide (wcheck g r = 0) || !decide (red r = r)
def pcheck (g : Int) (l : List (List UInt8)) : Nat :=
  if g < 1 ∨ 8 < g then 1 else if 60 < l.length ∨ l.any (fun r => decide (200 < r.length)) = true then 2 else if l.any (badRel g) = true then 4 else 0
theorem red_sub {w : List UInt8} : ∀ c ∈ red w, c ∈ w := by
  have key : ∀ (w s : List UInt8), ∀ c ∈ w.foldl push s, c ∈ s ∨ c ∈ w := by
    intro w
    induction w with
    | nil => intro s c h; exact .inl h
    | cons a w ih =>
      intro s c h
      rcases ih _ c h with q | q
      · unfold push at q
        split at q
        · exact .inl (List.mem_of_mem_take q)
        · rcases List.mem_append.1 q with q | q
          · exact .inl q
          · exact .inr (by simp at q; simp [q])
      · exact .inr (List.mem_cons_of_mem _ q)
  intro c h
  rcases key w [] c h with q | q
  · cases q
  · exact q
/-- Words of letters. -/
def okl (w : List UInt8) : Prop := ∀ c ∈ w, 0 ≤ ix c
theorem okl_is {w : List UInt8} (h : isw w = true) : okl w := fun c hc => by
  simp only [isw, Bool.and_eq_true, List.all_eq_true] at h
  have := h.2 c hc
  simp [okc] at this; exact this.1
theorem natI {a : Int} (h : 0 ≤ a) : some (num a) = some (num ((a.toNat : Nat) : Int)) := by rw [Int.toNat_of_nonneg h]
/-- The letters' table in memory. -/
def Lets (A : AH) : Prop := ∃ rw cap, A.get 0 = some (.row rw (byteCells letters) cap)
theorem Lets.le {A B : AH} (h : Lets A) (le : A.le B) : Lets B := by obtain ⟨r, c, h⟩ := h; exact ⟨r, c, le.get _ _ h⟩
end Go.Proofs.YtaccklloepfemaaDoor

namespace Go.Proofs.YtaccklloepfemaaDoor
set_option linter.unusedVariables false
set_option linter.unusedSimpArgs false
open Go V

theorem no_long {l : List (List UInt8)} {i n : Nat} (hi : l.length ≤ i) (h : ∀ j, j < i → (l.getD j []).length ≤ n) : ∀ s ∈ l, s.length ≤ n := fun s hs => by
  obtain ⟨j, hj, rfl⟩ := List.getElem_of_mem hs
  have := h j (by omega)
  simpa [hj] using this
theorem isw_of {g : Int} {r : List UInt8} (hg : g ≤ 8) (h : wcheck g r = 0) : isw r = true := by
  unfold wcheck at h
  split at h
  · cases h
  · split at h
    · cases h
    · split at h
      · rename_i h1 h2 h3
        simp only [isw, Bool.and_eq_true, decide_eq_true_eq, List.all_eq_true] at h3 ⊢
        refine ⟨by omega, fun c hc => ?_⟩
        have := h3 c hc
        simp only [okc, Bool.and_eq_true, decide_eq_true_eq] at this ⊢
        omega
      · cases h
theorem pcheck_zero {g : Int} {l : List (List UInt8)} (h : pcheck g l = 0) : (1 ≤ g ∧ g ≤ 8) ∧ l.length ≤ 60 ∧ ∀ r ∈ l, r.length ≤ 200 ∧ badRel g r = false := by
  unfold pcheck at h
  split at h
  · cases h
  · split at h
    · cases h
    · split at h
      · cases h
      · rename_i h1 h2 h3
        refine ⟨by omega, by omega, fun r hr => ⟨?_, ?_⟩⟩
        · have : ¬ l.any (fun r => decide (200 < r.length)) = true := fun q => h2 (.inr q)
          rw [Bool.not_eq_true, List.any_eq_false] at this
          have := this r hr
          simpa using this
        · rw [Bool.not_eq_true, List.any_eq_false] at h3
          have := h3 r hr
          simpa using this
theorem badRel_good {g : Int} {r : List UInt8} (h : badRel g r = false) : r ≠ [] ∧ wcheck g r = 0 ∧ red r = r := by
  simpa [badRel, and_assoc] using h
/-! ### The closure -/
def addStep (w : List UInt8) (s : List (List UInt8) × Bool) (x : List UInt8) : List (List UInt8) × Bool :=
  let c := wCompare x w
  let d := s.2 || decide (c = 0)
  if 0 < c ∧ d = false then (s.1 ++ [w] ++ [x], true) else (s.1 ++ [x], d)
def addw (l : List (List UInt8)) (w : List UInt8) : List (List UInt8) :=
  let s := l.foldl (addStep w) ([], false)
  if s.2 then s.1 else s.1 ++ [w]
def rot (w : List UInt8) (j : Nat) : List UInt8 := w.drop j ++ w.take j
theorem rot_length (w : List UInt8) (j : Nat) : (rot w j).length = w.length := by simp [rot]; omega
def symmOf (c : List UInt8) (a : List (List UInt8)) (j : Nat) : List (List UInt8) := addw (addw a (rot c j)) (rot (wInverse c) j)
def symmStep (a : List (List UInt8)) (r : List UInt8) : List (List UInt8) := (List.range (wCore r).length).foldl (symmOf (wCore r)) a
def symm (l : List (List UInt8)) : List (List UInt8) := l.foldl symmStep []
theorem core_length (w : List UInt8) : (core w).length ≤ w.length := by
  have := red_length w
  simp only [core, List.length_drop, List.length_take]; omega
theorem wCore_length (w : List UInt8) : (wCore w).length ≤ w.length := by
  unfold wCore; split
  · exact core_length w
  · simp
theorem wInverse_length (w : List UInt8) : (wInverse w).length ≤ w.length := by
  unfold wInverse; split
  · rw [inv_length]; exact Nat.le_refl _
  · simp
theorem isw_core {w : List UInt8} (h : isw w = true) : isw (core w) = true := by
  simp only [isw, Bool.and_eq_true, decide_eq_true_eq, List.all_eq_true] at h ⊢
  refine ⟨Nat.le_trans (core_length w) h.1, fun c hc => h.2 c (red_sub c ?_)⟩
  exact List.mem_of_mem_take (List.mem_of_mem_drop hc)
theorem wCore_is (w : List UInt8) : isw (wCore w) = true := by
  unfold wCore; split
  · rename_i h; exact isw_core h
  · rfl
theorem wInv_core (w : List UInt8) : wInverse (wCore w) = inv (wCore w) := by rw [wInverse, if_pos (wCore_is w)]

theorem range_drop {n i : Nat} (h : i < n) : (List.range n).drop i = i :: (List.range n).drop (i + 1) := by
  rw [List.drop_eq_getElem_cons (by simpa using h)]; simp
/-! ### Long parts -/
structure Part where
  pa : Nat
  pn : Nat
  pb : List UInt8
  pi : Bool
def partOf (s x : List UInt8) : Bool := decide (x.length < 2 * cmn s x)
def rlongAt (l : List (List UInt8)) (s : List UInt8) : Option (List UInt8) := l.find? (partOf s)
def rlongFrom (l : List (List UInt8)) (w : List UInt8) : List Nat → Part
  | [] => ⟨0, 0, [], false⟩
  | a :: r => match rlongAt l (w.drop a) with
    | some x => ⟨a, cmn (w.drop a) x, wInverse (x.drop (cmn (w.drop a) x)), true⟩
    | none => rlongFrom l w r
def rlong (l : List (List UInt8)) (w : List UInt8) : Part := rlongFrom l w (List.range w.length)
theorem rlongAt_found {l : List (List UInt8)} {s : List UInt8} {j : Nat} (hj : j < l.length) (h : ∀ k, k < j → partOf s (l.getD k []) = false) (e : (l.getD j []).length < 2 * cmn s (l.getD j [])) : rlongAt l s = some (l.getD j []) := by
  unfold rlongAt
  rw [List.find?_eq_some_iff_getElem]
  refine ⟨decide_eq_true e, j, hj, by simp [hj], fun k hk => ?_⟩
  have := h k hk
  have hk' : k < l.length := Nat.lt_trans hk hj
  simp [hk'] at this
  simp [this]
theorem rlongAt_none {l : List (List UInt8)} {s : List UInt8} {j : Nat} (hj : l.length ≤ j) (h : ∀ k, k < j → partOf s (l.getD k []) = false) : rlongAt l s = none := by
  unfold rlongAt
  rw [List.find?_eq_none]
  intro x hx
  obtain ⟨k, hk, rfl⟩ := List.getElem_of_mem hx
  have := h k (by omega)
  simp [hk] at this
  simp [this]
theorem rlong_here {l : List (List UInt8)} {w x : List UInt8} {i : Nat} (hi : i < w.length) (h : rlongFrom l w ((List.range w.length).drop i) = rlong l w) (e : rlongAt l (w.drop i) = some x) : rlong l w = ⟨i, cmn (w.drop i) x, wInverse (x.drop (cmn (w.drop i) x)), true⟩ := by
  rw [← h, range_drop hi, rlongFrom, e]
theorem rlong_next {l : List (List UInt8)} {w : List UInt8} {i : Nat} (hi : i < w.length) (h : rlongFrom l w ((List.range w.length).drop i) = rlong l w) (e : rlongAt l (w.drop i) = none) : rlongFrom l w ((List.range w.length).drop (i + 1)) = rlong l w := by
  rw [range_drop hi, rlongFrom, e] at h; exact h
theorem rlong_end {l : List (List UInt8)} {w : List UInt8} {i : Nat} (hi : w.length ≤ i) (h : rlongFrom l w ((List.range w.length).drop i) = rlong l w) : rlong l w = ⟨0, 0, [], false⟩ := by
  rw [List.drop_eq_nil_of_le (by simpa using hi)] at h; exact h.symm
/-- One replacement. -/
def rnext (l : List (List UInt8)) (w : List UInt8) : List UInt8 := wReduce (w.take (rlong l w).pa ++ (rlong l w).pb ++ w.drop ((rlong l w).pa + (rlong l w).pn))
def rshort (l : List (List UInt8)) : Nat → List UInt8 → Nat → List UInt8 × Nat
  | 0, w, n => (w, n)
  | f + 1, w, n => if (rlong l w).pi then rshort l f (rnext l w) (n + 1) else (w, n)
def rshorten (l : List (List UInt8)) (w : List UInt8) : List UInt8 × Nat := rshort l ((wReduce w).length + 1) (wReduce w) 0
theorem wReduce_length (w : List UInt8) : (wReduce w).length ≤ w.length := by
  unfold wReduce; split
  · exact red_length w
  · simp
theorem rshort_go {l : List (List UInt8)} {f n : Nat} {x : List UInt8} (hf : x.length < f) (h : (rlong l x).pi = true) : rshort l f x n = rshort l (f - 1) (rnext l x) (n + 1) := by
  cases f with
  | zero => omega
  | succ f => rw [rshort, if_pos h]; rfl
theorem rshort_stop {l : List (List UInt8)} {f n : Nat} {x : List UInt8} (h : (rlong l x).pi = false) : rshort l f x n = (x, n) := by
  cases f with
  | zero => rfl
  | succ f => rw [rshort, if_neg (by rw [h]; decide)]
/-- Pieces are short. -/
def isDehn (l : List (List UInt8)) : Bool := (List.range l.length).all fun i => (List.range l.length).all fun k => !(decide (i ≠ k) && decide ((l.getD i []).length ≤ 6 * cmn (l.getD i []) (l.getD k [])))
/-! ### The functions of the reference -/
def rasked (g : Int) (l : List (List UInt8)) (w : List UInt8) : Nat := if ¬ pcheck g l = 0 then pcheck g l else if ¬ wcheck g w = 0 then 41 else if 5000 < w.length then 2 else 0
def rS (g : Int) (l : List (List UInt8)) (w : List UInt8) : List UInt8 × Nat × Nat := if ¬ rasked g l w = 0 then ([], 0, rasked g l w) else ((rshorten (symm l) w).1, (rshorten (symm l) w).2, 0)
def rStuck (g : Int) (l : List (List UInt8)) (w : List UInt8) : Bool × Nat := if ¬ rasked g l w = 0 then (false, rasked g l w) else (decide (wReduce w = w) && !(rlong (symm l) w).pi, 0)
def rVerified (g : Int) (l : List (List UInt8)) : Nat := if ¬ pcheck g l = 0 then pcheck g l else if isDehn (symm l) then 0 else 230
def rTrivial (g : Int) (l : List (List UInt8)) (w : List UInt8) : Bool × Nat := if ¬ (rS g l w).2.2 = 0 then (false, (rS g l w).2.2) else if isDehn (symm l) then (decide ((rS g l w).1 = []), 0) else (false, 230)
theorem rasked_pres {g : Int} {l : List (List UInt8)} {w : List UInt8} (h : ¬ ¬ rasked g l w = 0) : pcheck g l = 0 := by
  unfold rasked at h
  split at h
  · rename_i q; exact absurd h (fun r => r q)
  · rename_i q; exact Decidable.not_not.1 q
theorem rasked_word {g : Int} {l : List (List UInt8)} {w : List UInt8} (h : ¬ ¬ rasked g l w = 0) : wcheck g w = 0 ∧ w.length ≤ 5000 := by
  have hp := rasked_pres h
  have h := Decidable.not_not.1 h
  unfold rasked at h
  rw [if_neg (by simp [hp])] at h
  split at h
  · cases h
  · split at h
    · cases h
    · rename_i q r; exact ⟨Decidable.not_not.1 q, by omega⟩
/-! ### Words and their rotations -/
theorem push_par (s : List UInt8) (c : UInt8) : (push s c).length = s.length + 1 ∧ push s c = s ++ [c] ∨ (push s c).length + 1 = s.length := by
  unfold push
  split
  · rename_i h; right; simp; omega
  · left; simp
theorem red_len_eq : ∀ (w s : List UInt8), (w.foldl push s).length ≤ s.length + w.length ∧ ((w.foldl push s).length = s.length + w.length → w.foldl push s = s ++ w)
  | [], s => by simp
  | c :: w, s => by
    have h := red_len_eq w (push s c)
    rcases push_par s c with ⟨h1, h2⟩ | h1
    · simp only [List.foldl_cons, List.length_cons]
      refine ⟨by omega, fun q => ?_⟩
      rw [h.2 (by omega), h2]; simp
    · simp only [List.foldl_cons, List.length_cons]
      exact ⟨by omega, fun q => by omega⟩
def rcycAt (l : List (List UInt8)) (c : List UInt8) : Option Nat := (List.range c.length).find? fun i => (rlong l (rot c i)).pi
def rcyc (l : List (List UInt8)) : Nat → List UInt8 → Nat → List UInt8 × Nat
  | 0, c, n => (c, n)
  | f + 1, c, n => match rcycAt l c with
    | none => (c, n)
    | some i => rcyc l f (wCore (rshorten l (rot c i)).1) (n + (rshorten l (rot c i)).2)
theorem rcycAt_found {l : List (List UInt8)} {c : List UInt8} {i : Nat} (hi : i < c.length) (h : ∀ j, j < i → (rlong l (rot c j)).pi = false) (e : (rlong l (rot c i)).pi = true) : rcycAt l c = some i := by
  unfold rcycAt
  rw [List.find?_eq_some_iff_getElem]
  exact ⟨e, i, by simpa using hi, by simp, fun j hj => by simp [h j hj]⟩
theorem rcycAt_none {l : List (List UInt8)} {c : List UInt8} {i : Nat} (hi : c.length ≤ i) (h : ∀ j, j < i → (rlong l (rot c j)).pi = false) : rcycAt l c = none := by
  unfold rcycAt
  rw [List.find?_eq_none]
  intro j hj
  simp at hj
  simp [h j (by omega)]
theorem rcyc_go {l : List (List UInt8)} {c : List UInt8} {i f n : Nat} (hf : c.length < f) (e : rcycAt l c = some i) : rcyc l f c n = rcyc l (f - 1) (wCore (rshorten l (rot c i)).1) (n + (rshorten l (rot c i)).2) := by
  cases f with
  | zero => omega
  | succ f => rw [rcyc, e]; rfl
theorem rcyc_stop {l : List (List UInt8)} {c : List UInt8} {f n : Nat} (e : rcycAt l c = none) : rcyc l f c n = (c, n) := by
  cases f with
  | zero => rfl
  | succ f => rw [rcyc, e]
def rCyclic (g : Int) (l : List (List UInt8)) (w : List UInt8) : List UInt8 × Nat × Nat := if ¬ (rS g l w).2.2 = 0 then rS g l w else let c := wCore (rS g l w).1; let y := rcyc (symm l) (c.length + 1) c (rS g l w).2.1; (y.1, y.2, 0)
end Go.Proofs.YtaccklloepfemaaDoor

namespace Go.Proofs.YtaccklloepfemaaDoor
open Go Go.RowKit V
set_option maxRecDepth 100000
set_option linter.unusedVariables false
set_option linter.unusedSimpArgs false
theorem mixed : Tryd.prog.follows .mixedOrders = true := by kernel_rfl
theorem ag132 : aggOf Tryd.prog 132 = some true := by kernel_rfl
theorem ag3 : aggOf Tryd.prog 3 = some false := by kernel_rfl
theorem ag5 : aggOf Tryd.prog 5 = some false := by kernel_rfl
theorem ag9 : aggOf Tryd.prog 9 = some false := by kernel_rfl
theorem inf5 : Tryd.prog.info? 5 = some Tryd.t5 := by kernel_rfl
theorem sz132 : szOf Tryd.prog 132 = some 16 := by kernel_rfl
theorem sz5 : szOf Tryd.prog 5 = some 1 := by kernel_rfl
theorem sz9 : szOf Tryd.prog 9 = some 1 := by kernel_rfl
theorem u132 : type_of% @Tryd.underlying132 := @Tryd.underlying132
theorem u21 : type_of% @Tryd.underlying21 := @Tryd.underlying21
theorem u22 : type_of% @Tryd.underlying22 := @Tryd.underlying22
theorem u38 : type_of% @Tryd.underlying38 := @Tryd.underlying38
theorem u4 : type_of% @Tryd.underlying4 := @Tryd.underlying4
theorem u5 : type_of% @Tryd.underlying5 := @Tryd.underlying5
theorem u9 : type_of% @Tryd.underlying9 := @Tryd.underlying9
theorem z5 : zeroOf Tryd.prog 5 = some (.int .u8 0) := by kernel_rfl
theorem z9 : zeroOf Tryd.prog 9 = some (.string ⟨⟨[]⟩⟩) := by kernel_rfl

theorem s_other (c : UInt8) (A : AH) : RetA Tryd.prog 75 #[byt (c)] A (fun v A1 => v = byt (c ^^^ 32) ∧ A = A1) := by
 refine enterA (e := [(0, byt (c))]) (args := [byt (c)]) Tryd.call75 Tryd.func75 rfl Tryd.results75 Tryd.ntmps75 rfl rfl rfl (fun wf => ?_)
 have le_ := AH.le.refl A
 refine Run.seq fun K1 h2 => .region <| .q rfl (qassign rfl) <| .nil <| h2 _ _ <| .seq fun K3 h4 => .region <| .q rfl (qmove rfl) <| .q rfl (qxorB (d := 32) rfl rfl) <| .q rfl (qassign rfl) ?_
 refine Ops.nil <| h4 _ _ <| .ret ?_
 repeat first | with_reducible refine thenQ_ret ?_ | with_reducible refine blockQ_ret ?_
 exact retQ rfl (⟨rfl, rfl⟩)

theorem s_common (x y : List UInt8) (A : AH) (hx : x.length ≤ 1000000) (hy : y.length ≤ 1000000) : RetA Tryd.prog 53 #[str (x), str (y)] A (fun v A1 => v = num ((cmn x y : Nat) : Int) ∧ A = A1) := by
 refine enterA (e := [(0, str (x)), (1, str (y))]) (args := [str (x), str (y)]) Tryd.call53 Tryd.func53 rfl Tryd.results53 Tryd.ntmps53 rfl rfl rfl (fun wf => ?_)
 have le_ := AH.le.refl A
 refine Run.seq fun K1 h2 => .region <| .q rfl (qassign rfl) <| .nil <| h2 _ _ <| .seq fun K3 h4 => .region <| .q rfl (qassign rfl) <| .nil <| h4 _ _ ?_
 refine Run.seq fun K5 h6 => .block <| .loop (X := Nat) (fun k => [(0, str (x)), (1, str (y)), (5, num ((k : Nat) : Int))]) (fun k B => (k ≤ cmn x y) ∧ A = B) (fun k => x.length - k) 0 (EnvLe.cons rfl <| EnvLe.cons rfl <| EnvLe.cons rfl <| EnvLe.nil _) (⟨Nat.zero_le _, rfl⟩) ?_
 rintro k B8 ⟨hk, rfl⟩
 have hl := cmn_le x y
 refine Run.seq fun K9 h10 => .join (fun f A1 => EnvLe [(24, .bool (decide (k < x.length ∧ k < y.length ∧ x.getD k 0 = y.getD k 0))), (0, str (x)), (1, str (y)), (5, num ((k : Nat) : Int))] f.e ∧ f.ds = [] ∧ A = A1) ?_ ?_
 ·
  refine Run.drawn [0, 1, 2, 3, 4, 5, 6, 7, 8, 9, 10, 11, 12, 13, 14, 15, 16, 17, 18] mixed (by kernel_rfl) (by kernel_rfl) rfl <| .q rfl rfl rfl (qmove rfl) <| .q rfl rfl rfl (qmove rfl) <| .q rfl rfl rfl (qslen u9 rfl) <| .q rfl rfl rfl (qlssN rfl rfl) <| .q rfl rfl rfl (qmove rfl) <| .part (t := 10) rfl (fun p13 => ?_) (fun p13 => ?_)
  ·
   refine DOps.qOn rfl rfl rfl rfl rfl (qmove rfl) <| .qOn rfl rfl rfl rfl rfl (qmove rfl) <| .qOn rfl rfl rfl rfl rfl (qslen u9 rfl) <| .qOn rfl rfl rfl rfl rfl (qlssN rfl rfl) <| .q rfl rfl rfl (qpickT rfl rfl) <| .q rfl rfl rfl (qmove rfl) <| .part (t := 16) rfl (fun p14 => ?_) (fun p14 => ?_)
   ·
    refine DOps.qOn rfl rfl rfl rfl rfl (qmove rfl) <| .qOn rfl rfl rfl rfl rfl (qmove rfl) <| .qOn rfl rfl rfl rfl rfl (qsix u9 rfl rfl (by omega)) <| .qOn rfl rfl rfl rfl rfl (qmove rfl) <| .qOn rfl rfl rfl rfl rfl (qmove rfl) <| .qOn rfl rfl rfl rfl rfl (qsix u9 rfl rfl (by omega)) <| .qOn rfl rfl rfl rfl rfl (qeqlB rfl rfl) <| .q rfl rfl rfl (qpickT rfl rfl) <| .done ?_
    exact ⟨EnvLe.cons (show some _ = some _ from congrArg (fun b => some (Value.bool b)) (show (decide ((x.getD k 0) = (y.getD k 0))) = decide (k < x.length ∧ k < y.length ∧ x.getD k 0 = y.getD k 0) from (by simp [*]))) <| EnvLe.cons rfl <| EnvLe.cons rfl <| EnvLe.cons rfl <| EnvLe.nil _, rfl, rfl⟩
   ·
    refine DOps.qOff rfl rfl rfl rfl rfl rfl <| .qOff rfl rfl rfl rfl rfl rfl <| .qOff rfl rfl rfl rfl rfl rfl <| .qOff rfl rfl rfl rfl rfl rfl <| .qOff rfl rfl rfl rfl rfl rfl <| .qOff rfl rfl rfl rfl rfl rfl <| .qOff rfl rfl rfl rfl rfl rfl <| .q rfl rfl rfl (qpickF rfl rfl) <| .done ?_
    exact ⟨EnvLe.cons (show some _ = some _ from congrArg (fun b => some (Value.bool b)) (show (false) = decide (k < x.length ∧ k < y.length ∧ x.getD k 0 = y.getD k 0) from (by simp [*]))) <| EnvLe.cons rfl <| EnvLe.cons rfl <| EnvLe.cons rfl <| EnvLe.nil _, rfl, rfl⟩
  ·
   refine DOps.qOff rfl rfl rfl rfl rfl rfl <| .qOff rfl rfl rfl rfl rfl rfl <| .qOff rfl rfl rfl rfl rfl rfl <| .qOff rfl rfl rfl rfl rfl rfl <| .q rfl rfl rfl (qpickF rfl rfl) <| .q rfl rfl rfl (qmove rfl) <| .qOff rfl rfl rfl rfl rfl rfl <| .qOff rfl rfl rfl rfl rfl rfl <| .qOff rfl rfl rfl rfl rfl rfl <| .qOff rfl rfl rfl rfl rfl rfl ?_
   refine DOps.qOff rfl rfl rfl rfl rfl rfl <| .qOff rfl rfl rfl rfl rfl rfl <| .qOff rfl rfl rfl rfl rfl rfl <| .q rfl rfl rfl (qpickF rfl rfl) <| .done ?_
   exact ⟨EnvLe.cons (show some _ = some _ from congrArg (fun b => some (Value.bool b)) (show (false) = decide (k < x.length ∧ k < y.length ∧ x.getD k 0 = y.getD k 0) from (by simp [*]))) <| EnvLe.cons rfl <| EnvLe.cons rfl <| EnvLe.cons rfl <| EnvLe.nil _, rfl, rfl⟩
 ·
  rintro ⟨fe, fd⟩ _ ⟨hE, rfl, rfl⟩
  refine Run.forget hE <| .if rfl (fun p15 => ?_) (fun p15 => ?_)
  ·
   refine Run.skip <| h10 _ _ <| .block <| .region <| .q rfl (qmove rfl) <| .q rfl (qaddN (b := 1) rfl rfl (by omega)) <| .q rfl (qassign rfl) <| .nil ?_
   exact ⟨k + 1, EnvLe.cons rfl <| EnvLe.cons rfl <| EnvLe.cons rfl <| EnvLe.nil _, rfl, ⟨cmn_go hk (by assumption), rfl⟩, (by (try dsimp only); omega)⟩
  ·
   refine Run.exit <| h6 _ _ <| .seq fun K16 h17 => .region <| .q rfl (qmove rfl) <| .q rfl (qassign rfl) <| .nil <| h17 _ _ <| .ret ?_
   repeat first | with_reducible refine thenQ_ret ?_ | with_reducible refine blockQ_ret ?_
   exact retQ rfl (⟨by rw [cmn_stop hk (by assumption)]; rfl, rfl⟩)

theorem s_Index (c : UInt8) (A : AH) (hL : Lets A) : RetA Tryd.prog 72 #[byt (c)] A (fun v A1 => v = num (ix c) ∧ A = A1) := by
 refine enterA (e := [(0, byt (c))]) (args := [byt (c)]) Tryd.call72 Tryd.func72 rfl Tryd.results72 Tryd.ntmps72 rfl rfl rfl (fun wf => ?_)
 have le_ := AH.le.refl A
 obtain ⟨rwL, capL, gL⟩ := hL
 refine Run.seq fun K1 h2 => .region <| .q rfl (qassign rfl) <| .nil <| h2 _ _ <| .seq fun K3 h4 => .seq fun K5 h6 => .region <| .q rfl (qloadAggAt ag132 sz132 rfl rfl (le_.get _ _ gL) rfl) <| .q rfl (qmove rfl) ?_
 refine Ops.nil <| h6 _ _ <| .block <| .loop (X := Nat) (fun k => [(0, byt (c)), (5, .agg #[byt (97), byt (65), byt (98), byt (66), byt (99), byt (67), byt (100), byt (68), byt (101), byt (69), byt (102), byt (70), byt (103), byt (71), byt (104), byt (72)]), (6, num ((k : Nat) : Int))]) (fun k B => (k ≤ 16 ∧ ∀ j, j < k → letters.getD j 0 ≠ c) ∧ A = B) (fun k => 16 - k) 0 (EnvLe.cons rfl <| EnvLe.cons rfl <| EnvLe.cons rfl <| EnvLe.nil _) (⟨⟨by omega, fun j h => by omega⟩, rfl⟩) ?_
 rintro k B8 ⟨⟨hk, hn⟩, rfl⟩
 refine Run.seq fun K9 h10 => .region <| .q rfl (qlssN (b := 16) rfl rfl) <| .nil <| h10 _ _ <| .seq fun K11 h12 => .if rfl (fun p13 => ?_) (fun p13 => ?_)
 ·
  refine Run.skip <| h12 _ _ <| .seq fun K14 h15 => .block <| .seq fun K16 h17 => .region <| .q rfl (qmove rfl) <| .q rfl (qindexBy (l := letters) u132 sz5 ag5 rfl rfl (by omega) rfl) <| .q rfl (qassign rfl) <| .q rfl (qassign rfl) ?_
  refine Ops.nil <| h17 _ _ <| .seq fun K18 h19 => .region <| .q rfl (qmove rfl) <| .q rfl (qmove rfl) <| .q rfl (qeqlB rfl rfl) <| .nil <| h19 _ _ <| .if rfl (fun p20 => ?_) (fun p20 => ?_)
  ·
   refine Run.seq fun K21 h22 => .region <| .q rfl (qmove rfl) <| .q rfl (qassign rfl) <| .nil <| h22 _ _ <| .ret ?_
   repeat first | with_reducible refine thenQ_ret ?_ | with_reducible refine blockQ_ret ?_
   exact retQ rfl (⟨by rw [ix_found (by omega) hn (by assumption)]; rfl, rfl⟩)
  ·
   refine Run.skip <| h15 _ _ <| .region <| .q rfl (qaddN (b := 1) rfl rfl (by omega)) <| .q rfl (qmove rfl) <| .nil ?_
   exact ⟨k + 1, EnvLe.cons rfl <| EnvLe.cons rfl <| EnvLe.cons rfl <| EnvLe.nil _, rfl, ⟨⟨by omega, fun j h => (Nat.lt_succ_iff_lt_or_eq.1 h).elim (hn j) (fun q => by subst q; assumption)⟩, rfl⟩, (by (try dsimp only); omega)⟩
 ·
  refine Run.exit <| h4 _ _ <| .seq fun K23 h24 => .region <| .q rfl (qassign rfl) <| .nil <| h24 _ _ <| .ret ?_
  repeat first | with_reducible refine thenQ_ret ?_ | with_reducible refine blockQ_ret ?_
  exact retQ rfl (⟨by rw [ix_none (fun j h => hn j (by omega))]; rfl, rfl⟩)

theorem s_check1 (r : Nat) (k : Int) (b cap : Nat) (rw : Bool) (A : AH) (hk : 1 ≤ k ∧ k ≤ 8) (hL : Lets A) (hb : A.get b = some (.row rw [num k] cap)) : RetA Tryd.prog 71 #[.int .i32 ((r : Nat) : Int), .pointer (some ⟨b, 0, none⟩)] A (fun v A1 => v = .bool (decide (127 < r) || !okc k (UInt8.ofNat r)) ∧ A = A1) := by
 refine enterA (e := [(0, .int .i32 ((r : Nat) : Int)), (1, .pointer (some ⟨b, 0, none⟩))]) (args := [.int .i32 ((r : Nat) : Int), .pointer (some ⟨b, 0, none⟩)]) Tryd.call71 Tryd.func71 rfl Tryd.results71 Tryd.ntmps71 rfl rfl rfl (fun wf => ?_)
 have le_ := AH.le.refl A
 refine Run.seq fun K1 h2 => .region <| .q rfl (qassign rfl) <| .nil <| h2 _ _ <| .seq fun K3 h4 => .drawn [0, 1, 2, 3, 4, 5, 6, 7, 8, 9, 10, 12, 13, 11, 14, 15, 16] mixed (by kernel_rfl) (by kernel_rfl) rfl <| .q rfl rfl rfl (qmove rfl) <| .q rfl rfl rfl (qgtrN (b := 127) rfl rfl) <| .q rfl rfl rfl (qmove rfl) ?_
 refine DOps.part (t := 6) rfl (fun p5 => ?_) (fun p5 => ?_)
 ·
  refine DOps.qOff rfl rfl rfl rfl rfl rfl <| .qOff rfl rfl rfl rfl rfl rfl <| .lOff rfl rfl rfl rfl rfl rfl <| .qOff rfl rfl rfl rfl rfl rfl <| .q rfl rfl rfl (qpickT rfl rfl) <| .q rfl rfl rfl (qmove rfl) <| .qOff rfl rfl rfl rfl rfl rfl <| .qOff rfl rfl rfl rfl rfl rfl <| .qOff rfl rfl rfl rfl rfl rfl <| .qOff rfl rfl rfl rfl rfl rfl ?_
  refine DOps.lOff rfl rfl rfl rfl rfl rfl <| .qOff rfl rfl rfl rfl rfl rfl <| .q rfl rfl rfl (qpickT rfl rfl) <| .q rfl rfl rfl (qassign rfl) <| .done <| h4 _ _ <| .ret ?_
  repeat first | with_reducible refine thenQ_ret ?_ | with_reducible refine blockQ_ret ?_
  exact retQ rfl (⟨by simp_all [okc, oneV, dle, dlt127], rfl⟩)
 ·
  refine DOps.qOn rfl rfl rfl rfl rfl (qmove rfl) <| .qOn rfl rfl rfl rfl rfl (qconv8 u21 u5 rfl) <| .lOn rfl rfl rfl rfl rfl (fun _ _ hk6 _ => vcallF rfl (s_Index (UInt8.ofNat (r)) A hL) ?_)
  rintro v7 A8 ⟨rfl, rfl⟩
  refine hk6 _ _ (HeldNow.none (by kernel_rfl)) <| .qOn rfl rfl rfl rfl rfl (qlss rfl rfl) <| .q rfl rfl rfl (qpickF rfl rfl) <| .q rfl rfl rfl (qmove rfl) <| .part (t := 12) rfl (fun p10 => ?_) (fun p10 => ?_)
  ·
   refine DOps.qOff rfl rfl rfl rfl rfl rfl <| .qOff rfl rfl rfl rfl rfl rfl <| .qOff rfl rfl rfl rfl rfl rfl <| .qOff rfl rfl rfl rfl rfl rfl <| .lOff rfl rfl rfl rfl rfl rfl <| .qOff rfl rfl rfl rfl rfl rfl <| .q rfl rfl rfl (qpickT rfl rfl) <| .q rfl rfl rfl (qassign rfl) <| .done <| h4 _ _ ?_
   refine Run.ret ?_
   repeat first | with_reducible refine thenQ_ret ?_ | with_reducible refine blockQ_ret ?_
   exact retQ rfl (⟨by simp_all [okc, oneV, dle, dlt127], rfl⟩)
  ·
   refine DOps.qOn rfl rfl rfl rfl rfl (qmove rfl) <| .qOn rfl rfl rfl rfl rfl (qconv8 u21 u5 rfl) ?_
   have hc11 := cellOf (off := 0) (le_.get _ _ hb) (show _ = some (num (k)) from rfl)
   refine DOps.qOn rfl rfl rfl rfl rfl (qloadAt ag3 rfl rfl (le_.get _ _ hb) rfl) <| .qOn rfl rfl rfl rfl rfl (qmul rfl rfl (by omega)) <| .lOn rfl rfl rfl rfl rfl (fun _ _ hk12 _ => vcallF rfl (s_Index (UInt8.ofNat (r)) A hL) ?_)
   rintro v13 A14 ⟨rfl, rfl⟩
   refine hk12 _ _ (HeldNow.list (L := [(⟨b, 0, none⟩, num (k))]) (by kernel_rfl) (heldCons hc11 heldNil)) <| .qOn rfl rfl rfl rfl rfl (qgeq rfl rfl) <| .q rfl rfl rfl (qpickF rfl rfl) <| .q rfl rfl rfl (qassign rfl) <| .done <| h4 _ _ <| .ret ?_
   repeat first | with_reducible refine thenQ_ret ?_ | with_reducible refine blockQ_ret ?_
   exact retQ rfl (⟨by simp_all [okc, oneV, dle, dlt127], rfl⟩)

theorem s_indexFunc (g : Nat) (caps : Array Value) (q : Nat → Bool) (hq : ∀ r, 128 ≤ r → q r = true) (s : List UInt8) (A : AH) (hs : s.length ≤ 100000) (hf : ∀ r B, A.le B → B.wf → RetA Tryd.prog g (#[] ++ #[.int .i32 ((r : Nat) : Int)] ++ caps) B (fun v B1 => v = .bool (q r) ∧ B = B1)) : RetA Tryd.prog 107 #[str (s), .func (.func g) #[] caps, .bool (true)] A (fun v A1 => v = num (ifc q s) ∧ A.le A1 ∧ A1.wf) := by
 refine enterA (e := [(0, str (s)), (1, .func (.func g) #[] caps), (2, .bool (true))]) (args := [str (s), .func (.func g) #[] caps, .bool (true)]) Tryd.call107 Tryd.func107 rfl Tryd.results107 Tryd.ntmps107 rfl rfl rfl (fun wf => ?_)
 have le_ := AH.le.refl A
 refine Run.seq fun K1 h2 => .region <| .q rfl (qassign rfl) <| .nil <| h2 _ _ <| .seq fun K3 h4 => .seq fun K5 h6 => .region <| .q rfl (qmove rfl) <| .l rfl (fun _ _ hk7 _ => wrangeS wf rfl u9 fun A9 b8 nb10 => ?_)
 have ge_b8 := none_of wf (Nat.le_trans le_.n nb10.lo)
 have le11 := le_.trans nb10.le
 refine hk7 _ _ <| .nil <| h6 _ _ <| .block <| .loop (X := Nat) (fun k => [(1, .func (.func g) #[] caps), (2, .bool (true)), (10, .pointer (some ⟨b8, 0, none⟩))]) (fun k B => (k ≤ s.length ∧ ∀ j, j < k → q (s.getD j 0).toNat = false) ∧ A.le B ∧ B.get b8 = some (.obj true (.stringIter (bs s) (k)))) (fun k => s.length - k) 0 (EnvLe.cons rfl <| EnvLe.cons rfl <| EnvLe.cons rfl <| EnvLe.nil _) (⟨⟨by omega, fun j h => by omega⟩, le11, nb10.get⟩) ?_
 rintro k B13 ⟨⟨hk, hn⟩, le12, hr_b812⟩
 refine Run.wf fun wf14 => .seq fun K15 h16 => .region <| .l rfl (fun _ _ hk17 _ => wnextS wf14 rfl hr_b812 (fun p20 A18 sb19 => ?_) (fun p20 => ?_))
 ·
  by_cases hc21 : s.getD k 0 < 128
  ·
   rw [decode_lo p20 hc21] at sb19 ⊢
   have le22 := le_store le12 wf ge_b8 sb19.n sb19.keep
   refine hk17 _ _ <| .q rfl (qextract rfl rfl) <| .nil <| h16 _ _ <| .seq fun K23 h24 => .cond_true rfl <| .skip <| h24 _ _ <| .block <| .seq fun K25 h26 => ?_
   refine Run.region <| .q rfl (qextract rfl rfl) <| .q rfl (qextract rfl rfl) <| .q rfl (qassign rfl) <| .q rfl (qassign rfl) <| .nil <| h26 _ _ <| .seq fun K27 h28 => .region <| .q rfl (qmove rfl) ?_
   refine Ops.q rfl (qmove rfl) <| .l rfl (fun _ _ hk29 _ => vcall rfl rfl (hf ((s.getD k 0).toNat) A18 le22 sb19.wf) ?_)
   rintro v30 A31 ⟨rfl, rfl⟩
   refine hk29 _ _ <| .q rfl (qmove rfl) <| .q rfl (qbeql u4 rfl rfl) <| .nil <| h28 _ _ <| .ifB rfl (fun p33 => ?_) (fun p33 => ?_)
   ·
    refine Run.seq fun K34 h35 => .region <| .q rfl (qmove rfl) <| .q rfl (qassign rfl) <| .nil <| h35 _ _ <| .ret ?_
    repeat first | with_reducible refine thenQ_ret ?_ | with_reducible refine blockQ_ret ?_
    exact retQ rfl (⟨by rw [ifc_found (by assumption) hn (by first | (simpa using ‹(q _ == true) = true›) | exact hq _ (u8_ge ‹_›))]; rfl, le22, sb19.wf⟩)
   ·
    refine Run.skip ?_
    exact ⟨k + 1, EnvLe.cons rfl <| EnvLe.cons rfl <| EnvLe.cons rfl <| EnvLe.nil _, rfl, ⟨(by first | exact ⟨by omega, fun j h => (Nat.lt_succ_iff_lt_or_eq.1 h).elim (hn j) (fun z => by subst z; simpa using ‹(q _ == true) = false›)⟩ | (exfalso; simp_all)), le22, sb19.get⟩, (by first | omega | (exfalso; simp_all))⟩
  ·
   have hrhc21 := decode_hi p20 hc21
   have hmhc21 := decode_max (bs s) k
   have hqT := hq _ hrhc21
   have le36 := le_store le12 wf ge_b8 sb19.n sb19.keep
   refine hk17 _ _ <| .q rfl (qextract rfl rfl) <| .nil <| h16 _ _ <| .seq fun K37 h38 => .cond_true rfl <| .skip <| h38 _ _ <| .block <| .seq fun K39 h40 => ?_
   refine Run.region <| .q rfl (qextract rfl rfl) <| .q rfl (qextract rfl rfl) <| .q rfl (qassign rfl) <| .q rfl (qassign rfl) <| .nil <| h40 _ _ <| .seq fun K41 h42 => .region <| .q rfl (qmove rfl) ?_
   refine Ops.q rfl (qmove rfl) <| .l rfl (fun _ _ hk43 _ => vcall rfl rfl (hf ((Utf8.decode (bs s) k).1) A18 le36 sb19.wf) ?_)
   rintro v44 A45 ⟨rfl, rfl⟩
   refine hk43 _ _ <| .q rfl (qmove rfl) <| .q rfl (qbeql u4 rfl rfl) <| .nil <| h42 _ _ <| .ifB rfl (fun p47 => ?_) (fun p47 => ?_)
   ·
    refine Run.seq fun K48 h49 => .region <| .q rfl (qmove rfl) <| .q rfl (qassign rfl) <| .nil <| h49 _ _ <| .ret ?_
    repeat first | with_reducible refine thenQ_ret ?_ | with_reducible refine blockQ_ret ?_
    exact retQ rfl (⟨by rw [ifc_found (by assumption) hn (by first | (simpa using ‹(q _ == true) = true›) | exact hq _ (u8_ge ‹_›))]; rfl, le36, sb19.wf⟩)
   ·
    refine Run.skip ?_
    exact ⟨k + (Utf8.decode (bs s) k).2, EnvLe.cons rfl <| EnvLe.cons rfl <| EnvLe.cons rfl <| EnvLe.nil _, rfl, ⟨(by first | exact ⟨by omega, fun j h => (Nat.lt_succ_iff_lt_or_eq.1 h).elim (hn j) (fun z => by subst z; simpa using ‹(q _ == true) = false›)⟩ | (exfalso; simp_all)), le36, sb19.get⟩, (by first | omega | (exfalso; simp_all))⟩
 ·
  refine hk17 _ _ <| .q rfl (qextract rfl rfl) <| .nil <| h16 _ _ <| .seq fun K50 h51 => .cond_false rfl <| .exit <| h4 _ _ <| .seq fun K52 h53 => .region ?_
  refine Ops.q rfl (qassign rfl) <| .nil <| h53 _ _ <| .ret ?_
  repeat first | with_reducible refine thenQ_ret ?_ | with_reducible refine blockQ_ret ?_
  exact retQ rfl (⟨by rw [ifc_none (fun j h => hn j (by omega))]; rfl, le12, wf14⟩)

theorem s_IndexFunc (g : Nat) (caps : Array Value) (q : Nat → Bool) (hq : ∀ r, 128 ≤ r → q r = true) (s : List UInt8) (A : AH) (hs : s.length ≤ 100000) (hf : ∀ r B, A.le B → B.wf → RetA Tryd.prog g (#[] ++ #[.int .i32 ((r : Nat) : Int)] ++ caps) B (fun v B1 => v = .bool (q r) ∧ B = B1)) : RetA Tryd.prog 95 #[str (s), .func (.func g) #[] caps] A (fun v A1 => v = num (ifc q s) ∧ A.le A1 ∧ A1.wf) := by
 refine enterA (e := [(0, str (s)), (1, .func (.func g) #[] caps)]) (args := [str (s), .func (.func g) #[] caps]) Tryd.call95 Tryd.func95 rfl Tryd.results95 Tryd.ntmps95 rfl rfl rfl (fun wf => ?_)
 have le_ := AH.le.refl A
 refine Run.seq fun K1 h2 => .region <| .q rfl (qassign rfl) <| .nil <| h2 _ _ <| .seq fun K3 h4 => .region <| .q rfl (qmove rfl) <| .q rfl (qmove rfl) <| .l rfl (fun _ _ hk5 _ => vcallF rfl (s_indexFunc g caps q hq s A hs (fun r B le wf => hf r B (le_.trans le) wf)) ?_)
 rintro v6 A7 ⟨rfl, leq8, wfq8⟩
 have le9 := le_.trans leq8
 refine hk5 _ _ <| .q rfl (qassign rfl) <| .nil <| h4 _ _ <| .ret ?_
 repeat first | with_reducible refine thenQ_ret ?_ | with_reducible refine blockQ_ret ?_
 exact retQ rfl (⟨rfl, le9, wfq8⟩)

theorem s_ContainsFunc (g : Nat) (caps : Array Value) (q : Nat → Bool) (hq : ∀ r, 128 ≤ r → q r = true) (s : List UInt8) (A : AH) (hs : s.length ≤ 100000) (hf : ∀ r B, A.le B → B.wf → RetA Tryd.prog g (#[] ++ #[.int .i32 ((r : Nat) : Int)] ++ caps) B (fun v B1 => v = .bool (q r) ∧ B = B1)) : RetA Tryd.prog 70 #[str (s), .func (.func g) #[] caps] A (fun v A1 => v = .bool (decide (0 ≤ ifc q s)) ∧ A.le A1 ∧ A1.wf) := by
 refine enterA (e := [(0, str (s)), (1, .func (.func g) #[] caps)]) (args := [str (s), .func (.func g) #[] caps]) Tryd.call70 Tryd.func70 rfl Tryd.results70 Tryd.ntmps70 rfl rfl rfl (fun wf => ?_)
 have le_ := AH.le.refl A
 refine Run.seq fun K1 h2 => .region <| .q rfl (qassign rfl) <| .nil <| h2 _ _ <| .seq fun K3 h4 => .region <| .q rfl (qmove rfl) <| .q rfl (qmove rfl) <| .l rfl (fun _ _ hk5 _ => vcallF rfl (s_IndexFunc g caps q hq s A hs (fun r B le wf => hf r B (le_.trans le) wf)) ?_)
 rintro v6 A7 ⟨rfl, leq8, wfq8⟩
 have le9 := le_.trans leq8
 refine hk5 _ _ <| .q rfl (qgeq rfl rfl) <| .q rfl (qassign rfl) <| .nil <| h4 _ _ <| .ret ?_
 repeat first | with_reducible refine thenQ_ret ?_ | with_reducible refine blockQ_ret ?_
 exact retQ rfl (⟨rfl, le9, wfq8⟩)

theorem s_wCheck (k : Int) (w : List UInt8) (A : AH) (hL : Lets A) : RetA Tryd.prog 54 #[num (k), str (w)] A (fun v A1 => v = num ((wcheck k w : Nat) : Int) ∧ A.le A1 ∧ A1.wf) := by
 refine enterA (e := [(0, num (k)), (1, str (w))]) (args := [num (k), str (w)]) Tryd.call54 Tryd.func54 rfl Tryd.results54 Tryd.ntmps54 rfl rfl rfl (fun wf => ?_)
 have le_ := AH.le.refl A
 refine Run.seq fun K1 h2 => .region <| .l rfl (fun _ _ hk3 _ => wbox wf rfl rfl fun A5 b4 nb6 => ?_)
 have le7 := le_.trans nb6.le
 refine hk3 _ _ <| .q rfl (qassign rfl) <| .nil <| h2 _ _ <| .seq fun K8 h9 => .block <| .seq fun K10 h11 => .region <| .q rfl (qloadAt ag3 rfl rfl nb6.get rfl) <| .q rfl (qlss rfl rfl) ?_
 refine Ops.q rfl (qmove rfl) <| .part (t := 8) rfl (fun p12 => ?_) (fun p12 => ?_)
 ·
  refine Ops.off rfl rfl rfl rfl <| .off rfl rfl rfl rfl <| .q rfl (qpickT rfl rfl) <| .q rfl (qassign rfl) <| .nil <| h11 _ _ <| .cond_true rfl <| .seq fun K13 h14 => .region <| .q rfl (qassign rfl) ?_
  refine Ops.nil <| h14 _ _ <| .ret ?_
  repeat first | with_reducible refine thenQ_ret ?_ | with_reducible refine blockQ_ret ?_
  exact retQ rfl (⟨by first | (rw [wcheck, if_pos (by omega)]; rfl) | (rw [wcheck, if_neg (by omega), if_pos (by omega)]; rfl) | (rw [wcheck, if_neg (by omega), if_neg (by omega), if_neg (by rw [(contains_ok k w).1 ‹_›]; decide)]; rfl) | (rw [wcheck, if_neg (by omega), if_neg (by omega), if_pos (by have := mt (contains_ok k w).2 ‹_›; simpa using this)]; rfl), le7, nb6.wf⟩)
 ·
  refine Ops.on rfl rfl <| .q rfl (qloadAt ag3 rfl rfl nb6.get rfl) <| .on rfl rfl <| .q rfl (qgtr rfl rfl) <| .q rfl (qpickF rfl rfl) <| .q rfl (qassign rfl) <| .nil <| h11 _ _ <| .if rfl (fun p15 => ?_) (fun p15 => ?_)
  ·
   refine Run.seq fun K16 h17 => .region <| .q rfl (qassign rfl) <| .nil <| h17 _ _ <| .ret ?_
   repeat first | with_reducible refine thenQ_ret ?_ | with_reducible refine blockQ_ret ?_
   exact retQ rfl (⟨by first | (rw [wcheck, if_pos (by omega)]; rfl) | (rw [wcheck, if_neg (by omega), if_pos (by omega)]; rfl) | (rw [wcheck, if_neg (by omega), if_neg (by omega), if_neg (by rw [(contains_ok k w).1 ‹_›]; decide)]; rfl) | (rw [wcheck, if_neg (by omega), if_neg (by omega), if_pos (by have := mt (contains_ok k w).2 ‹_›; simpa using this)]; rfl), le7, nb6.wf⟩)
  ·
   refine Run.seq fun K18 h19 => .region <| .q rfl (qmove rfl) <| .q rfl (qslen u9 rfl) <| .q rfl (qgtrN (b := 100000) rfl rfl) <| .q rfl (qassign rfl) <| .nil <| h19 _ _ <| .if rfl (fun p20 => ?_) (fun p20 => ?_)
   ·
    refine Run.seq fun K21 h22 => .region <| .q rfl (qassign rfl) <| .nil <| h22 _ _ <| .ret ?_
    repeat first | with_reducible refine thenQ_ret ?_ | with_reducible refine blockQ_ret ?_
    exact retQ rfl (⟨by first | (rw [wcheck, if_pos (by omega)]; rfl) | (rw [wcheck, if_neg (by omega), if_pos (by omega)]; rfl) | (rw [wcheck, if_neg (by omega), if_neg (by omega), if_neg (by rw [(contains_ok k w).1 ‹_›]; decide)]; rfl) | (rw [wcheck, if_neg (by omega), if_neg (by omega), if_pos (by have := mt (contains_ok k w).2 ‹_›; simpa using this)]; rfl), le7, nb6.wf⟩)
   ·
    refine Run.seq fun K23 h24 => .region <| .q rfl (qmove rfl) <| .q rfl (qfunc rfl rfl) <| .l rfl (fun _ _ hk25 _ => vcallF rfl (s_ContainsFunc 71 #[.pointer (some ⟨b4, 0, none⟩)] (fun r => decide (127 < r) || !okc (k) (UInt8.ofNat r)) (fun r h => by simp; omega) w A5 (by omega) (fun r B le wf => s_check1 r (k) b4 _ _ B (by omega) ((hL.le le7).le le) (le.get _ _ nb6.get))) ?_)
    rintro v26 A27 ⟨rfl, leq28, wfq28⟩
    have le30 := le7.trans leq28
    refine hk25 _ _ <| .q rfl (qassign rfl) <| .nil <| h24 _ _ <| .if rfl (fun p31 => ?_) (fun p31 => ?_)
    ·
     refine Run.seq fun K32 h33 => .region <| .q rfl (qassign rfl) <| .nil <| h33 _ _ <| .ret ?_
     repeat first | with_reducible refine thenQ_ret ?_ | with_reducible refine blockQ_ret ?_
     exact retQ rfl (⟨by first | (rw [wcheck, if_pos (by omega)]; rfl) | (rw [wcheck, if_neg (by omega), if_pos (by omega)]; rfl) | (rw [wcheck, if_neg (by omega), if_neg (by omega), if_neg (by rw [(contains_ok k w).1 ‹_›]; decide)]; rfl) | (rw [wcheck, if_neg (by omega), if_neg (by omega), if_pos (by have := mt (contains_ok k w).2 ‹_›; simpa using this)]; rfl), le30, wfq28⟩)
    ·
     refine Run.skip <| h9 _ _ <| .seq fun K34 h35 => .region <| .q rfl (qassign rfl) <| .nil <| h35 _ _ <| .ret ?_
     repeat first | with_reducible refine thenQ_ret ?_ | with_reducible refine blockQ_ret ?_
     exact retQ rfl (⟨by first | (rw [wcheck, if_pos (by omega)]; rfl) | (rw [wcheck, if_neg (by omega), if_pos (by omega)]; rfl) | (rw [wcheck, if_neg (by omega), if_neg (by omega), if_neg (by rw [(contains_ok k w).1 ‹_›]; decide)]; rfl) | (rw [wcheck, if_neg (by omega), if_neg (by omega), if_pos (by have := mt (contains_ok k w).2 ‹_›; simpa using this)]; rfl), le30, wfq28⟩)

theorem s_is (w : List UInt8) (A : AH) (hL : Lets A) : RetA Tryd.prog 58 #[str (w)] A (fun v A1 => v = .bool (isw w) ∧ A.le A1 ∧ A1.wf) := by
 refine enterA (e := [(0, str (w))]) (args := [str (w)]) Tryd.call58 Tryd.func58 rfl Tryd.results58 Tryd.ntmps58 rfl rfl rfl (fun wf => ?_)
 have le_ := AH.le.refl A
 refine Run.seq fun K1 h2 => .region <| .q rfl (qassign rfl) <| .nil <| h2 _ _ <| .seq fun K3 h4 => .region <| .q rfl (qmove rfl) <| .l rfl (fun _ _ hk5 _ => vcallF rfl (s_wCheck ((8 : Nat) : Int) w A hL) ?_)
 rintro v6 A7 ⟨rfl, leq8, wfq8⟩
 have le9 := le_.trans leq8
 refine hk5 _ _ <| .q rfl (qeqlN (b := 0) rfl rfl) <| .q rfl (qassign rfl) <| .nil <| h4 _ _ <| .ret ?_
 repeat first | with_reducible refine thenQ_ret ?_ | with_reducible refine blockQ_ret ?_
 exact retQ rfl (⟨by rw [← wcheck8d]; rfl, le9, wfq8⟩)

theorem s_inverse (w : List UInt8) (A : AH) (hw : w.length ≤ 1000000) : RetA Tryd.prog 64 #[str (w)] A (fun v A1 => v = str (inv w) ∧ A.le A1 ∧ A1.wf) := by
 refine enterA (e := [(0, str (w))]) (args := [str (w)]) Tryd.call64 Tryd.func64 rfl Tryd.results64 Tryd.ntmps64 rfl rfl rfl (fun wf => ?_)
 have le_ := AH.le.refl A
 refine Run.seq fun K1 h2 => .region <| .q rfl (qassign rfl) <| .nil <| h2 _ _ <| .seq fun K3 h4 => .region <| .q rfl (qmove rfl) <| .q rfl (qslen u9 rfl) <| .l rfl (fun _ _ hk5 _ => wmake1 (n := w.length) (k := w.length) wf le_ rfl rfl u38 sz5 z5 inf5 rfl (Nat.le_refl _) (by show 1 * _ ≤ _; omega) (by omega) fun A7 b6 nb8 fr9 => ?_)
 have h10 := nb8.get; rw [bytes_replicate] at h10 fr9
 have ge_b6 := none_of wf (Nat.le_trans le_.n nb8.lo)
 have le11 := le_.trans nb8.le
 refine hk5 _ _ <| .q rfl (qassign rfl) <| .nil <| h4 _ _ <| .seq fun K12 h13 => .seq fun K14 h15 => .region <| .q rfl (qmove rfl) <| .q rfl (qslen u9 rfl) <| .q rfl (qmove rfl) ?_
 refine Ops.nil <| h15 _ _ <| .block <| .loop (X := Nat) (fun k => [(0, str (w)), (3, .slice (some ⟨b6, 0, none⟩) w.length w.length), (9, num ((w.length : Nat) : Int)), (10, num ((k : Nat) : Int))]) (fun k B => (k ≤ w.length) ∧ A.le B ∧ B.get b6 = some (.row true (byteCells (revbuf w k)) w.length)) (fun k => w.length - k) 0 (EnvLe.cons rfl <| EnvLe.cons rfl <| EnvLe.cons rfl <| EnvLe.cons rfl <| EnvLe.nil _) (⟨Nat.zero_le _, le11, (row_eq h10 (congrArg byteCells ((by first | exact revbuf_zero w | exact revbuf_set w (by omega)))))⟩) ?_
 rintro k B17 ⟨hk, le16, hr_b616⟩
 refine Run.wf fun wf18 => ?_
 have hrl := revbuf_length w hk
 refine Run.seq fun K19 h20 => .region <| .q rfl (qlssN rfl rfl) <| .nil <| h20 _ _ <| .seq fun K21 h22 => .if rfl (fun p23 => ?_) (fun p23 => ?_)
 ·
  refine Run.skip <| h22 _ _ <| .seq fun K24 h25 => .block <| .seq fun K26 h27 => .region <| .q rfl (qmove rfl) <| .q rfl (qassign rfl) <| .nil <| h27 _ _ ?_
  refine Run.region <| .q rfl (qmove rfl) <| .q rfl (qmove rfl) <| .q rfl (qslen u9 rfl) <| .q rfl (qsubN (b := 1) rfl rfl (by omega)) <| .q rfl (qmove rfl) <| .q rfl (qsubN rfl rfl (by omega)) <| .q rfl (qmove rfl) <| .q rfl (qmove rfl) <| .q rfl (qsix u9 rfl rfl (by omega)) ?_
  refine Ops.l rfl (fun _ _ hk28 _ => vcallF rfl (s_other (w.getD k 0) B17) ?_)
  rintro v29 A30 ⟨rfl, rfl⟩
  refine hk28 _ _ <| .q rfl (qindexS u38 sz5 rfl rfl rfl (by omega)) <| .l rfl (fun _ _ hk32 _ => wstore (off := ((w.length - 1) - k)) wf18 rfl (by simp) rfl rfl sz5 hr_b616 (by simp only [bytes_length, List.length_cons, List.length_nil]; omega) rfl (bytes_set _ _ _) fun A33 sb34 => ?_)
  have le35 := le_store le16 wf ge_b6 sb34.n sb34.keep
  refine hk32 _ _ <| .nil <| h25 _ _ <| .region <| .q rfl (qaddN (b := 1) rfl rfl (by omega)) <| .q rfl (qmove rfl) <| .nil ?_
  exact ⟨k + 1, EnvLe.cons rfl <| EnvLe.cons rfl <| EnvLe.cons rfl <| EnvLe.cons rfl <| EnvLe.nil _, rfl, ⟨(by omega), le35, (row_eq sb34.get (congrArg byteCells ((by first | exact revbuf_zero w | exact revbuf_set w (by omega)))))⟩, (by (try dsimp only); omega)⟩
 ·
  refine Run.exit <| h13 _ _ <| .seq fun K36 h37 => .region <| .q rfl (qmove rfl) <| .l rfl (fun _ _ hk38 _ => wtoString (s := revbuf w k) rfl u38 u9 u5 (slc_row (n := w.length) hr_b616 (by simp only [bytes_length]; omega) (Nat.le_refl _)) ?_)
  refine hk38 _ _ <| .q rfl (qassign rfl) <| .nil <| h37 _ _ <| .ret ?_
  repeat first | with_reducible refine thenQ_ret ?_ | with_reducible refine blockQ_ret ?_
  exact retQ rfl (⟨by rw [revbuf_end w (by omega)]; rfl, le16, wf18⟩)

theorem s_reduce (u : Value) (l : List (List UInt8)) (r : List UInt8) (A : AH) (hr : red l.flatten = r) (hT : l.flatten.length ≤ 1000000) (hn : l.length ≤ 1000000) (hu : Slc A 1 u (strs l)) : RetA Tryd.prog 59 #[u] A (fun v A1 => v = str r ∧ A.le A1 ∧ A1.wf) := by
 refine enterA (e := [(0, u)]) (args := [u]) Tryd.call59 Tryd.func59 rfl Tryd.results59 Tryd.ntmps59 rfl rfl rfl (fun wf => ?_)
 have le_ := AH.le.refl A
 refine Run.seq fun K1 h2 => .region <| .q rfl (qassign rfl) <| .nil <| h2 _ _ <| .seq fun K3 h4 => .region <| .q rfl (qassign rfl) <| .nil <| h4 _ _ ?_
 refine Run.seq fun K5 h6 => .seq fun K7 h8 => .region <| .q rfl (qmove rfl) <| .q rfl (qlenS (n := l.length) u22 rfl (hu.le le_) (by omega) (strs_len _)) <| .q rfl (qmove rfl) <| .nil <| h8 _ _ <| .block <| .loop (X := Nat × List UInt8 × Value) (fun ⟨k, o, s⟩ => [(3, s), (8, u), (9, num ((l.length : Nat) : Int)), (10, num ((k : Nat) : Int))]) (fun ⟨k, o, s⟩ B => (k ≤ l.length ∧ (l.drop k).flatten.foldl push o = r ∧ o.length + (l.drop k).flatten.length ≤ 1000000) ∧ A.le B ∧ Fresh A B s 1 (byteCells o)) (fun ⟨k, o, s⟩ => l.length - k) (⟨0, [], .slice none 0 0⟩) (EnvLe.cons rfl <| EnvLe.cons rfl <| EnvLe.cons rfl <| EnvLe.cons rfl <| EnvLe.nil _) (⟨⟨Nat.zero_le _, by simpa [red] using hr, by simpa using hT⟩, le_, (Fresh.nil A A 1)⟩) ?_
 rintro ⟨k, o, s⟩ B10 ⟨⟨hk, h1, h2⟩, le9, fr_s9⟩
 refine Run.wf fun wf11 => ?_
 have hd := fun q : k < l.length => flat_drop q
 refine Run.seq fun K12 h13 => .region <| .q rfl (qlssN rfl rfl) <| .nil <| h13 _ _ <| .seq fun K14 h15 => .if rfl (fun p16 => ?_) (fun p16 => ?_)
 ·
  refine Run.skip <| h15 _ _ <| .seq fun K17 h18 => .block <| .seq fun K19 h20 => .region ?_
  obtain ⟨b21, f21, rw21, r21, rc21, n21, k21, e21, l21, g21, cl21, cs21⟩ := Slc.at (i := k) (hu.le le9) (by simp only [strs_length]; omega) (by omega)
  refine Ops.q rfl (qindexS u22 sz9 rfl e21 rfl l21) <| .q rfl (qloadAt ag9 rfl rfl g21 ((elt0 cs21).trans (strs_get (by omega)))) <| .q rfl (qassign rfl) <| .nil <| h20 _ _ <| .seq fun K22 h23 => .region <| .q rfl (qmove rfl) <| .q rfl (qslen u9 rfl) <| .q rfl (qmove rfl) ?_
  refine Ops.nil <| h23 _ _ <| .block <| .loop (X := Nat × List UInt8 × Value) (fun ⟨i, o2, s2⟩ => [(3, s2), (5, str (l.getD k [])), (8, u), (9, num ((l.length : Nat) : Int)), (10, num ((k : Nat) : Int)), (15, num (((l.getD k []).length : Nat) : Int)), (16, num ((i : Nat) : Int))]) (fun ⟨i, o2, s2⟩ B => (i ≤ (l.getD k []).length ∧ ((l.getD k []).drop i).foldl push o2 = (l.getD k []).foldl push o ∧ o2.length ≤ o.length + i) ∧ A.le B ∧ Fresh A B s2 1 (byteCells o2)) (fun ⟨i, o2, s2⟩ => (l.getD k []).length - i) (⟨0, o, s⟩) (EnvLe.cons rfl <| EnvLe.cons rfl <| EnvLe.cons rfl <| EnvLe.cons rfl <| EnvLe.cons rfl <| EnvLe.cons rfl <| EnvLe.cons rfl <| EnvLe.nil _) (⟨⟨Nat.zero_le _, rfl, Nat.le_refl _⟩, le9, fr_s9⟩) ?_
  rintro ⟨i, o2, s2⟩ B25 ⟨⟨hi, h3, h4⟩, le24, fr_s224⟩
  refine Run.wf fun wf26 => .seq fun K27 h28 => .region <| .q rfl (qlssN rfl rfl) <| .nil <| h28 _ _ <| .seq fun K29 h30 => .if rfl (fun p31 => ?_) (fun p31 => ?_)
  ·
   refine Run.skip <| h30 _ _ <| .seq fun K32 h33 => .block <| .seq fun K34 h35 => .region <| .q rfl (qmove rfl) <| .q rfl (qassign rfl) <| .nil <| h35 _ _ ?_
   refine Run.seq fun K36 h37 => .region <| .q rfl (qmove rfl) <| .q rfl (qlenS (n := o2.length) u38 rfl fr_s224.slc (by omega) (bytes_len _)) <| .q rfl (qassign rfl) <| .nil <| h37 _ _ <| .join (fun f A1 => EnvLe [(34, .bool (decide (0 < o2.length ∧ o2.getD (o2.length - 1) 0 = (l.getD k []).getD i 0 ^^^ 32))), (3, s2), (5, str (l.getD k [])), (8, u), (9, num ((l.length : Nat) : Int)), (10, num ((k : Nat) : Int)), (15, num (((l.getD k []).length : Nat) : Int)), (16, num ((i : Nat) : Int)), (17, .bool (decide (i < (l.getD k []).length))), (18, num ((i : Nat) : Int)), (6, num ((i : Nat) : Int)), (19, s2), (20, num ((o2.length : Nat) : Int)), (7, num ((o2.length : Nat) : Int))] f.e ∧ f.ds = [] ∧ B25 = A1) ?_ ?_
   ·
    refine Run.drawn [0, 1, 2, 3, 4, 5, 6, 7, 8, 9, 10, 11, 12, 13] mixed (by kernel_rfl) (by kernel_rfl) rfl <| .q rfl rfl rfl (qmove rfl) <| .q rfl rfl rfl (qgtrN (b := 0) rfl rfl) <| .q rfl rfl rfl (qmove rfl) <| .part (t := 23) rfl (fun p40 => ?_) (fun p40 => ?_)
    ·
     refine DOps.qOn rfl rfl rfl rfl rfl (qmove rfl) <| .qOn rfl rfl rfl rfl rfl (qmove rfl) <| .qOn rfl rfl rfl rfl rfl (qsubN (b := 1) rfl rfl (by omega)) ?_
     obtain ⟨b41, f41, rw41, r41, rc41, n41, k41, e41, l41, g41, cl41, cs41⟩ := Slc.at (i := o2.length - 1) fr_s224.slc (by simp only [bytes_length]; omega) (by omega)
     refine DOps.qOn rfl rfl rfl rfl rfl (qindexS u38 sz5 rfl e41 rfl l41) ?_
     have hc42 := cellOf (off := f41 + (o2.length - 1) * 1) g41 ((elt0 cs41).trans (bytes_get (by omega)))
     refine DOps.qOn rfl rfl rfl rfl rfl (qloadAt ag5 rfl rfl g41 ((elt0 cs41).trans (bytes_get (by omega)))) <| .qOn rfl rfl rfl rfl rfl (qmove rfl) <| .qOn rfl rfl rfl rfl rfl (qmove rfl) <| .qOn rfl rfl rfl rfl rfl (qsix u9 rfl rfl (by omega)) <| .lOn rfl rfl rfl rfl rfl (fun _ _ hk43 _ => vcallF rfl (s_other ((l.getD k []).getD i 0) B25) ?_)
     rintro v44 A45 ⟨rfl, rfl⟩
     refine hk43 _ _ (HeldNow.list (L := [(⟨b41, f41 + (o2.length - 1) * 1, none⟩, byt (o2.getD (o2.length - 1) 0))]) (by kernel_rfl) (heldCons hc42 heldNil)) <| .qOn rfl rfl rfl rfl rfl (qeqlB rfl rfl) <| .q rfl rfl rfl (qpickT rfl rfl) <| .done ?_
     exact ⟨EnvLe.cons (show some _ = some _ from congrArg (fun b => some (Value.bool b)) (show (decide ((o2.getD (o2.length - 1) 0) = (((l.getD k []).getD i 0) ^^^ 32))) = decide (0 < o2.length ∧ o2.getD (o2.length - 1) 0 = (l.getD k []).getD i 0 ^^^ 32) from (by first | rfl | simp only [‹0 < _›, true_and] | simp only [‹¬ 0 < _›, false_and, decide_false]))) <| EnvLe.cons rfl <| EnvLe.cons rfl <| EnvLe.cons rfl <| EnvLe.cons rfl <| EnvLe.cons rfl <| EnvLe.cons rfl <| EnvLe.cons rfl <| EnvLe.cons rfl <| EnvLe.cons rfl <| EnvLe.cons rfl <| EnvLe.cons rfl <| EnvLe.cons rfl <| EnvLe.cons rfl <| EnvLe.nil _, rfl, rfl⟩
    ·
     refine DOps.qOff rfl rfl rfl rfl rfl rfl <| .qOff rfl rfl rfl rfl rfl rfl <| .qOff rfl rfl rfl rfl rfl rfl <| .qOff rfl rfl rfl rfl rfl rfl <| .qOff rfl rfl rfl rfl rfl rfl <| .qOff rfl rfl rfl rfl rfl rfl <| .qOff rfl rfl rfl rfl rfl rfl <| .qOff rfl rfl rfl rfl rfl rfl <| .lOff rfl rfl rfl rfl rfl rfl <| .qOff rfl rfl rfl rfl rfl rfl ?_
     refine DOps.q rfl rfl rfl (qpickF rfl rfl) <| .done ?_
     exact ⟨EnvLe.cons (show some _ = some _ from congrArg (fun b => some (Value.bool b)) (show (false) = decide (0 < o2.length ∧ o2.getD (o2.length - 1) 0 = (l.getD k []).getD i 0 ^^^ 32) from (by first | rfl | simp only [‹0 < _›, true_and] | simp only [‹¬ 0 < _›, false_and, decide_false]))) <| EnvLe.cons rfl <| EnvLe.cons rfl <| EnvLe.cons rfl <| EnvLe.cons rfl <| EnvLe.cons rfl <| EnvLe.cons rfl <| EnvLe.cons rfl <| EnvLe.cons rfl <| EnvLe.cons rfl <| EnvLe.cons rfl <| EnvLe.cons rfl <| EnvLe.cons rfl <| EnvLe.cons rfl <| EnvLe.nil _, rfl, rfl⟩
   ·
    rintro ⟨fe, fd⟩ _ ⟨hE, rfl, rfl⟩
    refine Run.forget hE <| .if rfl (fun p47 => ?_) (fun p47 => ?_)
    ·
     refine Run.region <| .q rfl (qmove rfl) <| .q rfl (qmove rfl) <| .q rfl (qsubN (b := 1) rfl rfl (by omega)) ?_
     obtain ⟨b48, n48, c48, q48, m48, d48⟩ := fr_s224.nonnil (by intro q; have := congrArg List.length q; simp only [bytes_length, List.length_nil] at this; omega)
     subst q48
     rw [bytes_length, Nat.mul_one] at m48
     have fr49 := fr_s224.take (k := o2.length - 1) (by omega)
     rw [Nat.mul_one, bytes_take] at fr49
     refine Ops.q rfl (qsliceHi u38 sz5 rfl rfl (by omega)) <| .q rfl (qassign rfl) <| .nil <| h33 _ _ <| .region <| .q rfl (qaddN (b := 1) rfl rfl (by omega)) <| .q rfl (qmove rfl) <| .nil ?_
     exact ⟨⟨i + 1, o2.take (o2.length - 1), .slice (some ⟨b48, 0, none⟩) (o2.length - 1) c48⟩, EnvLe.cons rfl <| EnvLe.cons rfl <| EnvLe.cons rfl <| EnvLe.cons rfl <| EnvLe.cons rfl <| EnvLe.cons rfl <| EnvLe.cons rfl <| EnvLe.nil _, rfl, ⟨⟨by omega, by first | exact push_go (by assumption) h3 ‹_› | exact push_no (by assumption) h3 ‹_›, by simp only [List.length_append, List.length_take, List.length_cons, List.length_nil]; omega⟩, le24, fr49⟩, (by (try dsimp only); omega)⟩
    ·
     refine Run.region <| .q rfl (qmove rfl) <| .q rfl (qmove rfl) <| .q rfl (qmove rfl) <| .q rfl (qsix u9 rfl rfl (by omega)) <| .l rfl (fun _ _ hk50 _ => wbuildSlice (c := [byt ((l.getD k []).getD i 0)]) wf26 rfl (buildSliceV_of u38 sz5 z5 rfl (by decide) (by decide) rfl) fun A52 b51 nb53 => ?_)
     have fr55 := fr_s224.le nb53.le
     have le56 := le24.trans nb53.le
     refine hk50 _ _ <| .l rfl (fun _ _ hk57 _ => wappend (ys := [byt ((l.getD k []).getD i 0)]) rfl rfl u38 sz5 inf5 z5 rfl (by decide) u38 (fun _ h => by cases h) fr55.own (listOf_row (n := 1) nb53.get rfl) rfl rfl (by show (_ + _) * 1 ≤ _; simp only [bytes_length, List.length_cons, List.length_nil]; have := hd (by assumption); omega) (by simp only [bytes_length, List.length_cons, List.length_nil]; have := hd (by assumption); omega) fun A58 v59 ap60 => ?_)
     rw [show ([byt ((l.getD k []).getD i 0)] : List Value) = byteCells [(l.getD k []).getD i 0] from rfl, bytes_append] at ap60
     obtain ⟨fr63, le64⟩ := Fresh.grow fr55 le56 wf ap60
     refine hk57 _ _ <| .q rfl (qassign rfl) <| .nil <| h33 _ _ <| .region <| .q rfl (qaddN (b := 1) rfl rfl (by omega)) <| .q rfl (qmove rfl) <| .nil ?_
     exact ⟨⟨i + 1, o2 ++ [(l.getD k []).getD i 0], v59⟩, EnvLe.cons rfl <| EnvLe.cons rfl <| EnvLe.cons rfl <| EnvLe.cons rfl <| EnvLe.cons rfl <| EnvLe.cons rfl <| EnvLe.cons rfl <| EnvLe.nil _, rfl, ⟨⟨by omega, by first | exact push_go (by assumption) h3 ‹_› | exact push_no (by assumption) h3 ‹_›, by simp only [List.length_append, List.length_take, List.length_cons, List.length_nil]; omega⟩, le64, fr63⟩, (by (try dsimp only); omega)⟩
  ·
   refine Run.exit <| h18 _ _ <| .region <| .q rfl (qaddN (b := 1) rfl rfl (by omega)) <| .q rfl (qmove rfl) <| .nil ?_
   exact ⟨⟨k + 1, o2, s2⟩, EnvLe.cons rfl <| EnvLe.cons rfl <| EnvLe.cons rfl <| EnvLe.cons rfl <| EnvLe.nil _, rfl, ⟨⟨by omega, red_outer (by assumption) h1 (by rw [drop_end (by omega)] at h3; exact h3.symm), by omega⟩, le24, fr_s224⟩, (by (try dsimp only); omega)⟩
 ·
  refine Run.exit <| h6 _ _ <| .seq fun K65 h66 => .region <| .q rfl (qmove rfl) <| .l rfl (fun _ _ hk67 _ => wtoString (s := o) rfl u38 u9 u5 fr_s9.slc ?_)
  refine hk67 _ _ <| .q rfl (qassign rfl) <| .nil <| h66 _ _ <| .ret ?_
  repeat first | with_reducible refine thenQ_ret ?_ | with_reducible refine blockQ_ret ?_
  exact retQ rfl (⟨by rw [dropL_end (by omega)] at h1; rw [← h1]; rfl, le9, wf11⟩)

theorem s_Reduce (w : List UInt8) (A : AH) (hw : w.length ≤ 1000000) (hL : Lets A) : RetA Tryd.prog 37 #[str (w)] A (fun v A1 => v = str (wReduce w) ∧ A.le A1 ∧ A1.wf) := by
 refine enterA (e := [(0, str (w))]) (args := [str (w)]) Tryd.call37 Tryd.func37 rfl Tryd.results37 Tryd.ntmps37 rfl rfl rfl (fun wf => ?_)
 have le_ := AH.le.refl A
 refine Run.seq fun K1 h2 => .region <| .q rfl (qassign rfl) <| .nil <| h2 _ _ <| .seq fun K3 h4 => .seq fun K5 h6 => .region <| .q rfl (qmove rfl) <| .l rfl (fun _ _ hk7 _ => vcallF rfl (s_is w A hL) ?_)
 rintro v8 A9 ⟨rfl, leq10, wfq10⟩
 have le11 := le_.trans leq10
 refine hk7 _ _ <| .q rfl (qnot rfl) <| .nil <| h6 _ _ <| .ifB rfl (fun p12 => ?_) (fun p12 => ?_)
 ·
  refine Run.seq fun K13 h14 => .region <| .q rfl (qassign rfl) <| .nil <| h14 _ _ <| .ret ?_
  repeat first | with_reducible refine thenQ_ret ?_ | with_reducible refine blockQ_ret ?_
  exact retQ rfl (⟨by unfold wReduce; first | (rw [if_pos (by simpa using ‹(!isw w) = false›)]; rfl) | (rw [if_neg (by simpa using ‹(!isw w) = true›)]; rfl), le11, wfq10⟩)
 ·
  refine Run.skip <| h4 _ _ <| .seq fun K15 h16 => .region <| .q rfl (qmove rfl) <| .l rfl (fun _ _ hk17 _ => wbuildSlice (c := [str (w)]) wfq10 rfl (buildSliceV_of u22 sz9 z9 rfl (by decide) (by decide) rfl) fun A19 b18 nb20 => ?_)
  have le21 := le11.trans nb20.le
  refine hk17 _ _ <| .l rfl (fun _ _ hk22 _ => vcallF rfl (s_reduce _ ([w]) (red w) A19 (by simp) (by simp; omega) (by simp) (slc_row (n := 1) nb20.get rfl (Nat.le_refl _))) ?_)
  rintro v23 A24 ⟨rfl, leq25, wfq25⟩
  have le27 := le21.trans leq25
  refine hk22 _ _ <| .q rfl (qassign rfl) <| .nil <| h16 _ _ <| .ret ?_
  repeat first | with_reducible refine thenQ_ret ?_ | with_reducible refine blockQ_ret ?_
  exact retQ rfl (⟨by unfold wReduce; first | (rw [if_pos (by simpa using ‹(!isw w) = false›)]; rfl) | (rw [if_neg (by simpa using ‹(!isw w) = true›)]; rfl), le27, wfq25⟩)

theorem s_Inverse (w : List UInt8) (A : AH) (hw : w.length ≤ 1000000) (hL : Lets A) : RetA Tryd.prog 47 #[str (w)] A (fun v A1 => v = str (wInverse w) ∧ A.le A1 ∧ A1.wf) := by
 refine enterA (e := [(0, str (w))]) (args := [str (w)]) Tryd.call47 Tryd.func47 rfl Tryd.results47 Tryd.ntmps47 rfl rfl rfl (fun wf => ?_)
 have le_ := AH.le.refl A
 refine Run.seq fun K1 h2 => .region <| .q rfl (qassign rfl) <| .nil <| h2 _ _ <| .seq fun K3 h4 => .seq fun K5 h6 => .region <| .q rfl (qmove rfl) <| .l rfl (fun _ _ hk7 _ => vcallF rfl (s_is w A hL) ?_)
 rintro v8 A9 ⟨rfl, leq10, wfq10⟩
 have le11 := le_.trans leq10
 refine hk7 _ _ <| .q rfl (qnot rfl) <| .nil <| h6 _ _ <| .ifB rfl (fun p12 => ?_) (fun p12 => ?_)
 ·
  refine Run.seq fun K13 h14 => .region <| .q rfl (qassign rfl) <| .nil <| h14 _ _ <| .ret ?_
  repeat first | with_reducible refine thenQ_ret ?_ | with_reducible refine blockQ_ret ?_
  exact retQ rfl (⟨by unfold wInverse; first | (rw [if_pos (by simpa using ‹(!isw w) = false›)]; rfl) | (rw [if_neg (by simpa using ‹(!isw w) = true›)]; rfl), le11, wfq10⟩)
 ·
  refine Run.skip <| h4 _ _ <| .seq fun K15 h16 => .region <| .q rfl (qmove rfl) <| .l rfl (fun _ _ hk17 _ => vcallF rfl (s_inverse w A9 (by first | omega | (simp only [List.length_append, List.length_drop, List.length_take, inv_length]; omega))) ?_)
  rintro v18 A19 ⟨rfl, leq20, wfq20⟩
  have le21 := le11.trans leq20
  refine hk17 _ _ <| .q rfl (qassign rfl) <| .nil <| h16 _ _ <| .ret ?_
  repeat first | with_reducible refine thenQ_ret ?_ | with_reducible refine blockQ_ret ?_
  exact retQ rfl (⟨by unfold wInverse; first | (rw [if_pos (by simpa using ‹(!isw w) = false›)]; rfl) | (rw [if_neg (by simpa using ‹(!isw w) = true›)]; rfl), le21, wfq20⟩)

theorem s_cyclic (w : List UInt8) (A : AH) (hw : w.length ≤ 1000000) : RetA Tryd.prog 61 #[str (w)] A (fun v A1 => v = .tuple #[str (core w), str (conj w)] ∧ A.le A1 ∧ A1.wf) := by
 refine enterA (e := [(0, str (w))]) (args := [str (w)]) Tryd.call61 Tryd.func61 rfl Tryd.results61 Tryd.ntmps61 rfl rfl rfl (fun wf => ?_)
 have le_ := AH.le.refl A
 refine Run.seq fun K1 h2 => .region <| .q rfl (qassign rfl) <| .q rfl (qassign rfl) <| .nil <| h2 _ _ <| .seq fun K3 h4 => .region <| .q rfl (qmove rfl) <| .l rfl (fun _ _ hk5 _ => wbuildSlice (c := [str (w)]) wf rfl (buildSliceV_of u22 sz9 z9 rfl (by decide) (by decide) rfl) fun A7 b6 nb8 => ?_)
 have le9 := le_.trans nb8.le
 refine hk5 _ _ <| .l rfl (fun _ _ hk10 _ => vcallF rfl (s_reduce _ ([w]) (red w) A7 (by simp) (by simp; omega) (by simp) (slc_row (n := 1) nb8.get rfl (Nat.le_refl _))) ?_)
 rintro v11 A12 ⟨rfl, leq13, wfq13⟩
 have le15 := le9.trans leq13
 refine hk10 _ _ <| .q rfl (qassign rfl) <| .nil <| h4 _ _ <| .seq fun K16 h17 => .region <| .q rfl (qassign rfl) <| .nil <| h17 _ _ <| .seq fun K18 h19 => ?_
 refine Run.block <| .loop (X := Nat) (fun n => [(2, str (red w)), (4, num ((n : Nat) : Int))]) (fun n B => (n ≤ cycN (red w)) ∧ A12 = B) (fun n => (red w).length - n) 0 (EnvLe.cons rfl <| EnvLe.cons rfl <| EnvLe.nil _) (⟨Nat.zero_le _, rfl⟩) ?_
 rintro n B21 ⟨hn, rfl⟩
 have hc := cycN_half (red w)
 have hrl := red_length w
 refine Run.seq fun K22 h23 => .join (fun f A1 => EnvLe [(27, .bool (decide (2 * n + 2 ≤ (red w).length ∧ (red w).getD n 0 = (red w).getD ((red w).length - 1 - n) 0 ^^^ 32))), (2, str (red w)), (4, num ((n : Nat) : Int))] f.e ∧ f.ds = [] ∧ A12 = A1) ?_ ?_
 ·
  refine Run.drawn [0, 1, 2, 3, 4, 5, 6, 7, 8, 9, 10, 11, 12, 13, 14, 15, 16, 17, 18, 19] mixed (by kernel_rfl) (by kernel_rfl) rfl <| .q rfl rfl rfl (qmove rfl) <| .q rfl rfl rfl (qslen u9 rfl) <| .q rfl rfl rfl (qmove rfl) <| .q rfl rfl rfl (qmulN (a := 2) rfl rfl (by omega)) <| .q rfl rfl rfl (qsubN rfl rfl (by omega)) <| .q rfl rfl rfl (qgeqN (b := 2) rfl rfl) <| .q rfl rfl rfl (qmove rfl) <| .part (t := 14) rfl (fun p26 => ?_) (fun p26 => ?_)
  ·
   refine DOps.qOn rfl rfl rfl rfl rfl (qmove rfl) <| .qOn rfl rfl rfl rfl rfl (qmove rfl) <| .qOn rfl rfl rfl rfl rfl (qsix u9 rfl rfl (by omega)) <| .qOn rfl rfl rfl rfl rfl (qmove rfl) <| .qOn rfl rfl rfl rfl rfl (qmove rfl) <| .qOn rfl rfl rfl rfl rfl (qslen u9 rfl) <| .qOn rfl rfl rfl rfl rfl (qsubN (b := 1) rfl rfl (by omega)) <| .qOn rfl rfl rfl rfl rfl (qmove rfl) <| .qOn rfl rfl rfl rfl rfl (qsubN rfl rfl (by omega)) <| .qOn rfl rfl rfl rfl rfl (qsix u9 rfl rfl (by omega)) ?_
   refine DOps.lOn rfl rfl rfl rfl rfl (fun _ _ hk27 _ => vcallF rfl (s_other ((red w).getD ((((red w).length) - 1) - n) 0) A12) ?_)
   rintro v28 A29 ⟨rfl, rfl⟩
   refine hk27 _ _ (HeldNow.none (by kernel_rfl)) <| .qOn rfl rfl rfl rfl rfl (qeqlB rfl rfl) <| .q rfl rfl rfl (qpickT rfl rfl) <| .done ?_
   exact ⟨EnvLe.cons (show some _ = some _ from congrArg (fun b => some (Value.bool b)) (show (decide (((red w).getD n 0) = (((red w).getD ((((red w).length) - 1) - n) 0) ^^^ 32))) = decide (2 * n + 2 ≤ (red w).length ∧ (red w).getD n 0 = (red w).getD ((red w).length - 1 - n) 0 ^^^ 32) from (by first | simp only [show 2 * n + 2 ≤ (red w).length from by omega, true_and] | simp only [show ¬ 2 * n + 2 ≤ (red w).length from by omega, false_and, decide_false]))) <| EnvLe.cons rfl <| EnvLe.cons rfl <| EnvLe.nil _, rfl, rfl⟩
  ·
   refine DOps.qOff rfl rfl rfl rfl rfl rfl <| .qOff rfl rfl rfl rfl rfl rfl <| .qOff rfl rfl rfl rfl rfl rfl <| .qOff rfl rfl rfl rfl rfl rfl <| .qOff rfl rfl rfl rfl rfl rfl <| .qOff rfl rfl rfl rfl rfl rfl <| .qOff rfl rfl rfl rfl rfl rfl <| .qOff rfl rfl rfl rfl rfl rfl <| .qOff rfl rfl rfl rfl rfl rfl <| .qOff rfl rfl rfl rfl rfl rfl ?_
   refine DOps.lOff rfl rfl rfl rfl rfl rfl <| .qOff rfl rfl rfl rfl rfl rfl <| .q rfl rfl rfl (qpickF rfl rfl) <| .done ?_
   exact ⟨EnvLe.cons (show some _ = some _ from congrArg (fun b => some (Value.bool b)) (show (false) = decide (2 * n + 2 ≤ (red w).length ∧ (red w).getD n 0 = (red w).getD ((red w).length - 1 - n) 0 ^^^ 32) from (by first | simp only [show 2 * n + 2 ≤ (red w).length from by omega, true_and] | simp only [show ¬ 2 * n + 2 ≤ (red w).length from by omega, false_and, decide_false]))) <| EnvLe.cons rfl <| EnvLe.cons rfl <| EnvLe.nil _, rfl, rfl⟩
 ·
  rintro ⟨fe, fd⟩ _ ⟨hE, rfl, rfl⟩
  refine Run.forget hE <| .if rfl (fun p31 => ?_) (fun p31 => ?_)
  ·
   refine Run.skip <| h23 _ _ <| .block <| .region <| .q rfl (qmove rfl) <| .q rfl (qaddN (b := 1) rfl rfl (by omega)) <| .q rfl (qassign rfl) <| .nil ?_
   exact ⟨n + 1, EnvLe.cons rfl <| EnvLe.cons rfl <| EnvLe.nil _, rfl, ⟨(cycN_go hn ‹_›), rfl⟩, (by (try dsimp only); omega)⟩
  ·
   refine Run.exit <| h19 _ _ <| .seq fun K32 h33 => .drawn [0, 1, 2, 3, 4, 5, 6, 7, 8, 9, 10, 11] mixed (by kernel_rfl) (by kernel_rfl) rfl <| .q rfl rfl rfl (qmove rfl) <| .q rfl rfl rfl (qmove rfl) <| .q rfl rfl rfl (qmove rfl) <| .q rfl rfl rfl (qslen u9 rfl) <| .q rfl rfl rfl (qmove rfl) <| .q rfl rfl rfl (qsubN rfl rfl (by omega)) ?_
   refine DOps.q rfl rfl rfl (qsl u9 rfl rfl rfl (by omega)) <| .q rfl rfl rfl (qmove rfl) <| .q rfl rfl rfl (qmove rfl) <| .q rfl rfl rfl (qslHi u9 rfl rfl (by omega)) <| .q rfl rfl rfl (qassign rfl) <| .q rfl rfl rfl (qassign rfl) <| .done <| h33 _ _ <| .ret ?_
   repeat first | with_reducible refine thenQ_ret ?_ | with_reducible refine blockQ_ret ?_
   exact retQ rfl (⟨by rw [cycN_stop hn ‹_›]; rfl, le15, wfq13⟩)

theorem s_Cyclic (w : List UInt8) (A : AH) (hw : w.length ≤ 1000000) (hL : Lets A) : RetA Tryd.prog 39 #[str (w)] A (fun v A1 => v = .tuple #[str (wCore w), str (wConj w)] ∧ A.le A1 ∧ A1.wf) := by
 refine enterA (e := [(0, str (w))]) (args := [str (w)]) Tryd.call39 Tryd.func39 rfl Tryd.results39 Tryd.ntmps39 rfl rfl rfl (fun wf => ?_)
 have le_ := AH.le.refl A
 refine Run.seq fun K1 h2 => .region <| .q rfl (qassign rfl) <| .q rfl (qassign rfl) <| .nil <| h2 _ _ <| .seq fun K3 h4 => .seq fun K5 h6 => .region <| .q rfl (qmove rfl) ?_
 refine Ops.l rfl (fun _ _ hk7 _ => vcallF rfl (s_is w A hL) ?_)
 rintro v8 A9 ⟨rfl, leq10, wfq10⟩
 have le11 := le_.trans leq10
 refine hk7 _ _ <| .q rfl (qnot rfl) <| .nil <| h6 _ _ <| .ifB rfl (fun p12 => ?_) (fun p12 => ?_)
 ·
  refine Run.seq fun K13 h14 => .region <| .q rfl (qassign rfl) <| .q rfl (qassign rfl) <| .nil <| h14 _ _ <| .ret ?_
  repeat first | with_reducible refine thenQ_ret ?_ | with_reducible refine blockQ_ret ?_
  exact retQ rfl (⟨by unfold wCore wConj; first | (rw [if_pos (by simpa using ‹(!isw w) = false›), if_pos (by simpa using ‹(!isw w) = false›)]; rfl) | (rw [if_neg (by simpa using ‹(!isw w) = true›), if_neg (by simpa using ‹(!isw w) = true›)]; rfl), le11, wfq10⟩)
 ·
  refine Run.skip <| h4 _ _ <| .seq fun K15 h16 => .region <| .q rfl (qmove rfl) <| .l rfl (fun _ _ hk17 _ => vcallF rfl (s_cyclic w A9 (by first | omega | (simp only [List.length_append, List.length_drop, List.length_take, inv_length]; omega))) ?_)
  rintro v18 A19 ⟨rfl, leq20, wfq20⟩
  have le21 := le11.trans leq20
  refine hk17 _ _ <| .q rfl (qextract rfl rfl) <| .q rfl (qextract rfl rfl) <| .q rfl (qassign rfl) <| .q rfl (qassign rfl) <| .nil <| h16 _ _ <| .ret ?_
  repeat first | with_reducible refine thenQ_ret ?_ | with_reducible refine blockQ_ret ?_
  exact retQ rfl (⟨by unfold wCore wConj; first | (rw [if_pos (by simpa using ‹(!isw w) = false›), if_pos (by simpa using ‹(!isw w) = false›)]; rfl) | (rw [if_neg (by simpa using ‹(!isw w) = true›), if_neg (by simpa using ‹(!isw w) = true›)]; rfl), le21, wfq20⟩)

theorem s_compare (x y : List UInt8) (A : AH) (hx : x.length ≤ 1000000) (hy : y.length ≤ 1000000) (hL : Lets A) : RetA Tryd.prog 68 #[str (x), str (y)] A (fun v A1 => v = num (cmpw x y) ∧ A = A1) := by
 refine enterA (e := [(0, str (x)), (1, str (y))]) (args := [str (x), str (y)]) Tryd.call68 Tryd.func68 rfl Tryd.results68 Tryd.ntmps68 rfl rfl rfl (fun wf => ?_)
 have le_ := AH.le.refl A
 refine Run.seq fun K1 h2 => .region <| .q rfl (qassign rfl) <| .nil <| h2 _ _ <| .seq fun K3 h4 => .seq fun K5 h6 => .region <| .q rfl (qmove rfl) <| .q rfl (qslen u9 rfl) ?_
 refine Ops.q rfl (qmove rfl) <| .q rfl (qslen u9 rfl) <| .q rfl (qneqN rfl rfl) <| .nil <| h6 _ _ <| .if rfl (fun p7 => ?_) (fun p7 => ?_)
 ·
  refine Run.seq fun K8 h9 => .seq fun K10 h11 => .region <| .q rfl (qmove rfl) <| .q rfl (qslen u9 rfl) <| .q rfl (qmove rfl) <| .q rfl (qslen u9 rfl) <| .q rfl (qlssN rfl rfl) <| .nil <| h11 _ _ ?_
  refine Run.if rfl (fun p12 => ?_) (fun p12 => ?_)
  ·
   refine Run.seq fun K13 h14 => .region <| .q rfl (qassign rfl) <| .nil <| h14 _ _ <| .ret ?_
   repeat first | with_reducible refine thenQ_ret ?_ | with_reducible refine blockQ_ret ?_
   exact retQ rfl (⟨by first | (rw [cmpl_end (by omega)] at hc; rw [← hc]; rfl) | (rw [cmpl_step (by omega) (by omega), if_pos ‹_›] at hc; rw [← hc]; rfl) | (rw [cmpl_step (by omega) (by omega), if_neg ‹_›, if_pos ‹_›] at hc; rw [← hc]; rfl) | simp_all [oneV, cmpw], rfl⟩)
  ·
   refine Run.skip <| h9 _ _ <| .seq fun K15 h16 => .region <| .q rfl (qassign rfl) <| .nil <| h16 _ _ <| .ret ?_
   repeat first | with_reducible refine thenQ_ret ?_ | with_reducible refine blockQ_ret ?_
   exact retQ rfl (⟨by first | (rw [cmpl_end (by omega)] at hc; rw [← hc]; rfl) | (rw [cmpl_step (by omega) (by omega), if_pos ‹_›] at hc; rw [← hc]; rfl) | (rw [cmpl_step (by omega) (by omega), if_neg ‹_›, if_pos ‹_›] at hc; rw [← hc]; rfl) | simp_all [oneV, cmpw], rfl⟩)
 ·
  refine Run.skip <| h4 _ _ <| .seq fun K17 h18 => .seq fun K19 h20 => .region <| .q rfl (qmove rfl) <| .q rfl (qslen u9 rfl) <| .q rfl (qmove rfl) <| .nil <| h20 _ _ ?_
  refine Run.block <| .loop (X := Nat) (fun k => [(0, str (x)), (1, str (y)), (19, num ((x.length : Nat) : Int)), (20, num ((k : Nat) : Int))]) (fun k B => (k ≤ x.length ∧ cmpl (x.drop k) (y.drop k) = cmpw x y) ∧ A = B) (fun k => x.length - k) 0 (EnvLe.cons rfl <| EnvLe.cons rfl <| EnvLe.cons rfl <| EnvLe.cons rfl <| EnvLe.nil _) (⟨⟨Nat.zero_le _, (cmpw_eq ‹_›).symm⟩, rfl⟩) ?_
  rintro k B22 ⟨⟨hk, hc⟩, rfl⟩
  refine Run.seq fun K23 h24 => .region <| .q rfl (qlssN rfl rfl) <| .nil <| h24 _ _ <| .seq fun K25 h26 => .if rfl (fun p27 => ?_) (fun p27 => ?_)
  ·
   refine Run.skip <| h26 _ _ <| .seq fun K28 h29 => .block <| .seq fun K30 h31 => .region <| .q rfl (qmove rfl) <| .q rfl (qassign rfl) <| .nil <| h31 _ _ ?_
   refine Run.seq fun K32 h33 => .drawn [0, 1, 2, 4, 5, 6, 3, 7, 8, 9] mixed (by kernel_rfl) (by kernel_rfl) rfl <| .q rfl rfl rfl (qmove rfl) <| .q rfl rfl rfl (qmove rfl) <| .q rfl rfl rfl (qsix u9 rfl rfl (by omega)) <| .q rfl rfl rfl (qmove rfl) <| .q rfl rfl rfl (qmove rfl) <| .q rfl rfl rfl (qsix u9 rfl rfl (by omega)) <| .l rfl rfl rfl (fun _ _ hk34 _ => vcallF rfl (s_Index (x.getD k 0) A hL) ?_)
   rintro v35 A36 ⟨rfl, rfl⟩
   refine hk34 _ _ (HeldNow.none (by kernel_rfl)) <| .l rfl rfl rfl (fun _ _ hk38 _ => vcallF rfl (s_Index (y.getD k 0) A hL) ?_)
   rintro v39 A40 ⟨rfl, rfl⟩
   refine hk38 _ _ (HeldNow.none (by kernel_rfl)) <| .q rfl rfl rfl (qassign rfl) <| .q rfl rfl rfl (qassign rfl) <| .done <| h33 _ _ <| .block <| .seq fun K42 h43 => .region <| .q rfl (qmove rfl) <| .q rfl (qmove rfl) ?_
   refine Ops.q rfl (qlss rfl rfl) <| .q rfl (qassign rfl) <| .nil <| h43 _ _ <| .if rfl (fun p44 => ?_) (fun p44 => ?_)
   ·
    refine Run.seq fun K45 h46 => .region <| .q rfl (qassign rfl) <| .nil <| h46 _ _ <| .ret ?_
    repeat first | with_reducible refine thenQ_ret ?_ | with_reducible refine blockQ_ret ?_
    exact retQ rfl (⟨by first | (rw [cmpl_end (by omega)] at hc; rw [← hc]; rfl) | (rw [cmpl_step (by omega) (by omega), if_pos ‹_›] at hc; rw [← hc]; rfl) | (rw [cmpl_step (by omega) (by omega), if_neg ‹_›, if_pos ‹_›] at hc; rw [← hc]; rfl) | simp_all [oneV, cmpw], rfl⟩)
   ·
    refine Run.seq fun K47 h48 => .region <| .q rfl (qmove rfl) <| .q rfl (qmove rfl) <| .q rfl (qgtr rfl rfl) <| .q rfl (qassign rfl) <| .nil <| h48 _ _ <| .if rfl (fun p49 => ?_) (fun p49 => ?_)
    ·
     refine Run.seq fun K50 h51 => .region <| .q rfl (qassign rfl) <| .nil <| h51 _ _ <| .ret ?_
     repeat first | with_reducible refine thenQ_ret ?_ | with_reducible refine blockQ_ret ?_
     exact retQ rfl (⟨by first | (rw [cmpl_end (by omega)] at hc; rw [← hc]; rfl) | (rw [cmpl_step (by omega) (by omega), if_pos ‹_›] at hc; rw [← hc]; rfl) | (rw [cmpl_step (by omega) (by omega), if_neg ‹_›, if_pos ‹_›] at hc; rw [← hc]; rfl) | simp_all [oneV, cmpw], rfl⟩)
    ·
     refine Run.skip <| h29 _ _ <| .region <| .q rfl (qaddN (b := 1) rfl rfl (by omega)) <| .q rfl (qmove rfl) <| .nil ?_
     exact ⟨k + 1, EnvLe.cons rfl <| EnvLe.cons rfl <| EnvLe.cons rfl <| EnvLe.cons rfl <| EnvLe.nil _, rfl, ⟨⟨by omega, by rw [cmpl_step (by omega) (by omega), if_neg ‹_›, if_neg ‹_›] at hc; exact hc⟩, rfl⟩, (by (try dsimp only); omega)⟩
  ·
   refine Run.exit <| h18 _ _ <| .seq fun K52 h53 => .region <| .q rfl (qassign rfl) <| .nil <| h53 _ _ <| .ret ?_
   repeat first | with_reducible refine thenQ_ret ?_ | with_reducible refine blockQ_ret ?_
   exact retQ rfl (⟨by first | (rw [cmpl_end (by omega)] at hc; rw [← hc]; rfl) | (rw [cmpl_step (by omega) (by omega), if_pos ‹_›] at hc; rw [← hc]; rfl) | (rw [cmpl_step (by omega) (by omega), if_neg ‹_›, if_pos ‹_›] at hc; rw [← hc]; rfl) | simp_all [oneV, cmpw], rfl⟩)

theorem s_Compare (x y : List UInt8) (A : AH) (hx : x.length ≤ 1000000) (hy : y.length ≤ 1000000) (hL : Lets A) : RetA Tryd.prog 51 #[str (x), str (y)] A (fun v A1 => v = num (wCompare x y) ∧ A.le A1 ∧ A1.wf) := by
 refine enterA (e := [(0, str (x)), (1, str (y))]) (args := [str (x), str (y)]) Tryd.call51 Tryd.func51 rfl Tryd.results51 Tryd.ntmps51 rfl rfl rfl (fun wf => ?_)
 have le_ := AH.le.refl A
 refine Run.seq fun K1 h2 => .region <| .q rfl (qassign rfl) <| .nil <| h2 _ _ <| .seq fun K3 h4 => .seq fun K5 h6 => .region <| .q rfl (qmove rfl) <| .l rfl (fun _ _ hk7 _ => vcallF rfl (s_is x A hL) ?_)
 rintro v8 A9 ⟨rfl, leq10, wfq10⟩
 have le11 := le_.trans leq10
 refine hk7 _ _ <| .q rfl (qnot rfl) <| .q rfl (qmove rfl) <| .partB (t := 8) rfl (fun p12 => ?_) (fun p12 => ?_)
 ·
  refine Ops.off rfl rfl rfl rfl <| .off rfl rfl rfl rfl <| .off rfl rfl rfl rfl <| .q rfl (qpickT rfl rfl) <| .nil <| h6 _ _ <| .cond_true rfl <| .seq fun K13 h14 => .region <| .q rfl (qassign rfl) ?_
  refine Ops.nil <| h14 _ _ <| .ret ?_
  repeat first | with_reducible refine thenQ_ret ?_ | with_reducible refine blockQ_ret ?_
  exact retQ rfl (⟨by simp_all [oneV, wCompare], le11, wfq10⟩)
 ·
  refine Ops.on rfl rfl <| .q rfl (qmove rfl) <| .on rfl rfl <| .l rfl (fun _ _ hk15 _ => vcallF rfl (s_is y A9 (hL.le le11)) ?_)
  rintro v16 A17 ⟨rfl, leq18, wfq18⟩
  have le19 := le11.trans leq18
  refine hk15 _ _ <| .on rfl rfl <| .q rfl (qnot rfl) <| .q rfl (qpickF rfl rfl) <| .nil <| h6 _ _ <| .ifB rfl (fun p20 => ?_) (fun p20 => ?_)
  ·
   refine Run.seq fun K21 h22 => .region <| .q rfl (qassign rfl) <| .nil <| h22 _ _ <| .ret ?_
   repeat first | with_reducible refine thenQ_ret ?_ | with_reducible refine blockQ_ret ?_
   exact retQ rfl (⟨by simp_all [oneV, wCompare], le19, wfq18⟩)
  ·
   refine Run.skip <| h4 _ _ <| .seq fun K23 h24 => .region <| .q rfl (qmove rfl) <| .q rfl (qmove rfl) <| .l rfl (fun _ _ hk25 _ => vcallF rfl (s_compare x y A17 (by first | omega | (simp only [List.length_append, List.length_drop, List.length_take, inv_length]; omega)) (by first | omega | (simp only [List.length_append, List.length_drop, List.length_take, inv_length]; omega)) (hL.le le19)) ?_)
   rintro v26 A27 ⟨rfl, rfl⟩
   refine hk25 _ _ <| .q rfl (qassign rfl) <| .nil <| h24 _ _ <| .ret ?_
   repeat first | with_reducible refine thenQ_ret ?_ | with_reducible refine blockQ_ret ?_
   exact retQ rfl (⟨by simp_all [oneV, wCompare], le19, wfq18⟩)
end Go.Proofs.YtaccklloepfemaaDoor

namespace Go.Proofs.YtaccklloepfemaaDoor
open Go Go.RowKit V
set_option maxRecDepth 100000
set_option linter.unusedVariables false
set_option linter.unusedSimpArgs false
theorem ag22 : aggOf Tryd.prog 22 = some false := by kernel_rfl
theorem fl24_0 : fldOf Tryd.prog 24 0 = some (3, 0) := by kernel_rfl
theorem fl24_1 : fldOf Tryd.prog 24 1 = some (22, 1) := by kernel_rfl
theorem sz22 : szOf Tryd.prog 22 = some 1 := by kernel_rfl
theorem sz3 : szOf Tryd.prog 3 = some 1 := by kernel_rfl

theorem s_IndexFuncL (g : Nat) (caps : Array Value) (q : List UInt8 → Bool) (u : Value) (l : List (List UInt8)) (A : AH) (hn : l.length ≤ 9223372036854775807) (hu : Slc A 1 u (strs l)) (hf : ∀ s, s ∈ l → ∀ B, A.le B → B.wf → RetA Tryd.prog g (#[] ++ #[str s] ++ caps) B (fun v B1 => v = .bool (q s) ∧ B.le B1 ∧ B1.wf)) : RetA Tryd.prog 42 #[u, .func (.func g) #[] caps] A (fun v A1 => v = num (ifl q l) ∧ A.le A1 ∧ A1.wf) := by
 refine enterA (e := [(0, u), (1, .func (.func g) #[] caps)]) (args := [u, .func (.func g) #[] caps]) Tryd.call42 Tryd.func42 rfl Tryd.results42 Tryd.ntmps42 rfl rfl rfl (fun wf => ?_)
 have le_ := AH.le.refl A
 refine Run.seq fun K1 h2 => .region <| .q rfl (qassign rfl) <| .nil <| h2 _ _ <| .seq fun K3 h4 => .seq fun K5 h6 => .region <| .q rfl (qmove rfl) <| .q rfl (qlenS (n := l.length) u22 rfl (hu.le le_) (by omega) (strs_len _)) ?_
 refine Ops.q rfl (qmove rfl) <| .nil <| h6 _ _ <| .block <| .loop (X := Nat) (fun k => [(0, u), (1, .func (.func g) #[] caps), (7, num ((l.length : Nat) : Int)), (8, num ((k : Nat) : Int))]) (fun k B => (k ≤ l.length ∧ ∀ j, j < k → q (l.getD j []) = false) ∧ A.le B) (fun k => l.length - k) 0 (EnvLe.cons rfl <| EnvLe.cons rfl <| EnvLe.cons rfl <| EnvLe.cons rfl <| EnvLe.nil _) (⟨⟨by omega, fun j h => by omega⟩, le_⟩) ?_
 rintro k B8 ⟨⟨hk, hq⟩, le7⟩
 refine Run.wf fun wf9 => .seq fun K10 h11 => .region <| .q rfl (qlssN rfl rfl) <| .nil <| h11 _ _ <| .seq fun K12 h13 => .if rfl (fun p14 => ?_) (fun p14 => ?_)
 ·
  refine Run.skip <| h13 _ _ <| .seq fun K15 h16 => .block <| .seq fun K17 h18 => .region <| .q rfl (qmove rfl) <| .q rfl (qassign rfl) <| .nil <| h18 _ _ ?_
  refine Run.seq fun K19 h20 => .region <| .q rfl (qmove rfl) <| .q rfl (qmove rfl) <| .q rfl (qmove rfl) ?_
  obtain ⟨b21, f21, rw21, r21, rc21, n21, k21, e21, l21, g21, cl21, cs21⟩ := Slc.at (i := k) (hu.le le7) (by simp only [strs_length]; omega) (by omega)
  refine Ops.q rfl (qindexS u22 sz9 rfl e21 rfl l21) <| .q rfl (qloadAt ag9 rfl rfl g21 ((elt0 cs21).trans (strs_get (by omega)))) <| .l rfl (fun _ _ hk22 _ => vcall rfl rfl (hf _ (getD_mem (by omega)) B8 le7 wf9) ?_)
  rintro v23 A24 ⟨rfl, leq25, wfq25⟩
  have le26 := le7.trans leq25
  refine hk22 _ _ <| .nil <| h20 _ _ <| .ifB rfl (fun p27 => ?_) (fun p27 => ?_)
  ·
   refine Run.seq fun K28 h29 => .region <| .q rfl (qmove rfl) <| .q rfl (qassign rfl) <| .nil <| h29 _ _ <| .ret ?_
   repeat first | with_reducible refine thenQ_ret ?_ | with_reducible refine blockQ_ret ?_
   exact retQ rfl (⟨by rw [ifl_found (d := []) (by assumption) hq ‹_›]; rfl, le26, wfq25⟩)
  ·
   refine Run.skip <| h16 _ _ <| .region <| .q rfl (qaddN (b := 1) rfl rfl (by omega)) <| .q rfl (qmove rfl) <| .nil ?_
   exact ⟨k + 1, EnvLe.cons rfl <| EnvLe.cons rfl <| EnvLe.cons rfl <| EnvLe.cons rfl <| EnvLe.nil _, rfl, ⟨⟨by omega, fun j h => (Nat.lt_succ_iff_lt_or_eq.1 h).elim (hq j) (fun z => by subst z; assumption)⟩, le26⟩, (by (try dsimp only); omega)⟩
 ·
  refine Run.exit <| h4 _ _ <| .seq fun K30 h31 => .region <| .q rfl (qassign rfl) <| .nil <| h31 _ _ <| .ret ?_
  repeat first | with_reducible refine thenQ_ret ?_ | with_reducible refine blockQ_ret ?_
  exact retQ rfl (⟨by rw [ifl_none (d := []) (fun j h => hq j (by omega))]; rfl, le7, wf9⟩)

theorem s_ContainsFuncL (g : Nat) (caps : Array Value) (q : List UInt8 → Bool) (u : Value) (l : List (List UInt8)) (A : AH) (hn : l.length ≤ 9223372036854775807) (hu : Slc A 1 u (strs l)) (hf : ∀ s, s ∈ l → ∀ B, A.le B → B.wf → RetA Tryd.prog g (#[] ++ #[str s] ++ caps) B (fun v B1 => v = .bool (q s) ∧ B.le B1 ∧ B1.wf)) : RetA Tryd.prog 23 #[u, .func (.func g) #[] caps] A (fun v A1 => v = .bool (decide (0 ≤ ifl q l)) ∧ A.le A1 ∧ A1.wf) := by
 refine enterA (e := [(0, u), (1, .func (.func g) #[] caps)]) (args := [u, .func (.func g) #[] caps]) Tryd.call23 Tryd.func23 rfl Tryd.results23 Tryd.ntmps23 rfl rfl rfl (fun wf => ?_)
 have le_ := AH.le.refl A
 refine Run.seq fun K1 h2 => .region <| .q rfl (qassign rfl) <| .nil <| h2 _ _ <| .seq fun K3 h4 => .region <| .q rfl (qmove rfl) <| .q rfl (qmove rfl) <| .l rfl (fun _ _ hk5 _ => vcallF rfl (s_IndexFuncL g caps q u l A hn (hu.le le_) (fun s hs B le wf => hf s hs B (le_.trans le) wf)) ?_)
 rintro v6 A7 ⟨rfl, leq8, wfq8⟩
 have le9 := le_.trans leq8
 refine hk5 _ _ <| .q rfl (qgeq rfl rfl) <| .q rfl (qassign rfl) <| .nil <| h4 _ _ <| .ret ?_
 repeat first | with_reducible refine thenQ_ret ?_ | with_reducible refine blockQ_ret ?_
 exact retQ rfl (⟨rfl, le9, wfq8⟩)

theorem s_pcheck1 (s : List UInt8) (A : AH) : RetA Tryd.prog 43 #[str (s)] A (fun v A1 => v = .bool (decide (200 < s.length)) ∧ A.le A1 ∧ A1.wf) := by
 refine enterA (e := [(0, str (s))]) (args := [str (s)]) Tryd.call43 Tryd.func43 rfl Tryd.results43 Tryd.ntmps43 rfl rfl rfl (fun wf => ?_)
 have le_ := AH.le.refl A
 refine Run.seq fun K1 h2 => .region <| .q rfl (qassign rfl) <| .nil <| h2 _ _ <| .seq fun K3 h4 => .region <| .q rfl (qmove rfl) <| .q rfl (qslen u9 rfl) <| .q rfl (qgtrN (b := 200) rfl rfl) ?_
 refine Ops.q rfl (qassign rfl) <| .nil <| h4 _ _ <| .ret ?_
 repeat first | with_reducible refine thenQ_ret ?_ | with_reducible refine blockQ_ret ?_
 exact retQ rfl (⟨rfl, le_, wf⟩)

theorem s_small1 (s : List UInt8) (A : AH) : RetA Tryd.prog 24 #[str (s)] A (fun v A1 => v = .bool (decide (40 < s.length)) ∧ A.le A1 ∧ A1.wf) := by
 refine enterA (e := [(0, str (s))]) (args := [str (s)]) Tryd.call24 Tryd.func24 rfl Tryd.results24 Tryd.ntmps24 rfl rfl rfl (fun wf => ?_)
 have le_ := AH.le.refl A
 refine Run.seq fun K1 h2 => .region <| .q rfl (qassign rfl) <| .nil <| h2 _ _ <| .seq fun K3 h4 => .region <| .q rfl (qmove rfl) <| .q rfl (qslen u9 rfl) <| .q rfl (qgtrN (b := 40) rfl rfl) ?_
 refine Ops.q rfl (qassign rfl) <| .nil <| h4 _ _ <| .ret ?_
 repeat first | with_reducible refine thenQ_ret ?_ | with_reducible refine blockQ_ret ?_
 exact retQ rfl (⟨rfl, le_, wf⟩)

theorem s_small2 (s : List UInt8) (A : AH) : RetA Tryd.prog 25 #[str (s)] A (fun v A1 => v = .bool (decide (60 < s.length)) ∧ A.le A1 ∧ A1.wf) := by
 refine enterA (e := [(0, str (s))]) (args := [str (s)]) Tryd.call25 Tryd.func25 rfl Tryd.results25 Tryd.ntmps25 rfl rfl rfl (fun wf => ?_)
 have le_ := AH.le.refl A
 refine Run.seq fun K1 h2 => .region <| .q rfl (qassign rfl) <| .nil <| h2 _ _ <| .seq fun K3 h4 => .region <| .q rfl (qmove rfl) <| .q rfl (qslen u9 rfl) <| .q rfl (qgtrN (b := 60) rfl rfl) ?_
 refine Ops.q rfl (qassign rfl) <| .nil <| h4 _ _ <| .ret ?_
 repeat first | with_reducible refine thenQ_ret ?_ | with_reducible refine blockQ_ret ?_
 exact retQ rfl (⟨rfl, le_, wf⟩)

theorem s_isWord (k : Int) (w : List UInt8) (A : AH) (hL : Lets A) : RetA Tryd.prog 45 #[num (k), str (w)] A (fun v A1 => v = .bool (decide (wcheck k w = 0)) ∧ A.le A1 ∧ A1.wf) := by
 refine enterA (e := [(0, num (k)), (1, str (w))]) (args := [num (k), str (w)]) Tryd.call45 Tryd.func45 rfl Tryd.results45 Tryd.ntmps45 rfl rfl rfl (fun wf => ?_)
 have le_ := AH.le.refl A
 refine Run.seq fun K1 h2 => .region <| .q rfl (qassign rfl) <| .nil <| h2 _ _ <| .seq fun K3 h4 => .region <| .q rfl (qmove rfl) <| .q rfl (qmove rfl) <| .l rfl (fun _ _ hk5 _ => vcallF rfl (s_wCheck (k) w A hL) ?_)
 rintro v6 A7 ⟨rfl, leq8, wfq8⟩
 have le9 := le_.trans leq8
 refine hk5 _ _ <| .q rfl (qeqlN (b := 0) rfl rfl) <| .q rfl (qassign rfl) <| .nil <| h4 _ _ <| .ret ?_
 repeat first | with_reducible refine thenQ_ret ?_ | with_reducible refine blockQ_ret ?_
 exact retQ rfl (⟨rfl, le9, wfq8⟩)

theorem s_preduce (u : Value) (l : List (List UInt8)) (r : List UInt8) (A : AH) (hr : red l.flatten = r) (hT : l.flatten.length ≤ 1000000) (hn : l.length ≤ 1000000) (hu : Slc A 1 u (strs l)) : RetA Tryd.prog 46 #[u] A (fun v A1 => v = str r ∧ A.le A1 ∧ A1.wf) := by
 refine enterA (e := [(0, u)]) (args := [u]) Tryd.call46 Tryd.func46 rfl Tryd.results46 Tryd.ntmps46 rfl rfl rfl (fun wf => ?_)
 have le_ := AH.le.refl A
 refine Run.seq fun K1 h2 => .region <| .q rfl (qassign rfl) <| .nil <| h2 _ _ <| .seq fun K3 h4 => .region <| .q rfl (qassign rfl) <| .nil <| h4 _ _ ?_
 refine Run.seq fun K5 h6 => .seq fun K7 h8 => .region <| .q rfl (qmove rfl) <| .q rfl (qlenS (n := l.length) u22 rfl (hu.le le_) (by omega) (strs_len _)) <| .q rfl (qmove rfl) <| .nil <| h8 _ _ <| .block <| .loop (X := Nat × List UInt8 × Value) (fun ⟨k, o, s⟩ => [(3, s), (8, u), (9, num ((l.length : Nat) : Int)), (10, num ((k : Nat) : Int))]) (fun ⟨k, o, s⟩ B => (k ≤ l.length ∧ (l.drop k).flatten.foldl push o = r ∧ o.length + (l.drop k).flatten.length ≤ 1000000) ∧ A.le B ∧ Fresh A B s 1 (byteCells o)) (fun ⟨k, o, s⟩ => l.length - k) (⟨0, [], .slice none 0 0⟩) (EnvLe.cons rfl <| EnvLe.cons rfl <| EnvLe.cons rfl <| EnvLe.cons rfl <| EnvLe.nil _) (⟨⟨Nat.zero_le _, by simpa [red] using hr, by simpa using hT⟩, le_, (Fresh.nil A A 1)⟩) ?_
 rintro ⟨k, o, s⟩ B10 ⟨⟨hk, h1, h2⟩, le9, fr_s9⟩
 refine Run.wf fun wf11 => ?_
 have hd := fun q : k < l.length => flat_drop q
 refine Run.seq fun K12 h13 => .region <| .q rfl (qlssN rfl rfl) <| .nil <| h13 _ _ <| .seq fun K14 h15 => .if rfl (fun p16 => ?_) (fun p16 => ?_)
 ·
  refine Run.skip <| h15 _ _ <| .seq fun K17 h18 => .block <| .seq fun K19 h20 => .region ?_
  obtain ⟨b21, f21, rw21, r21, rc21, n21, k21, e21, l21, g21, cl21, cs21⟩ := Slc.at (i := k) (hu.le le9) (by simp only [strs_length]; omega) (by omega)
  refine Ops.q rfl (qindexS u22 sz9 rfl e21 rfl l21) <| .q rfl (qloadAt ag9 rfl rfl g21 ((elt0 cs21).trans (strs_get (by omega)))) <| .q rfl (qassign rfl) <| .nil <| h20 _ _ <| .seq fun K22 h23 => .region <| .q rfl (qmove rfl) <| .q rfl (qslen u9 rfl) <| .q rfl (qmove rfl) ?_
  refine Ops.nil <| h23 _ _ <| .block <| .loop (X := Nat × List UInt8 × Value) (fun ⟨i, o2, s2⟩ => [(3, s2), (5, str (l.getD k [])), (8, u), (9, num ((l.length : Nat) : Int)), (10, num ((k : Nat) : Int)), (15, num (((l.getD k []).length : Nat) : Int)), (16, num ((i : Nat) : Int))]) (fun ⟨i, o2, s2⟩ B => (i ≤ (l.getD k []).length ∧ ((l.getD k []).drop i).foldl push o2 = (l.getD k []).foldl push o ∧ o2.length ≤ o.length + i) ∧ A.le B ∧ Fresh A B s2 1 (byteCells o2)) (fun ⟨i, o2, s2⟩ => (l.getD k []).length - i) (⟨0, o, s⟩) (EnvLe.cons rfl <| EnvLe.cons rfl <| EnvLe.cons rfl <| EnvLe.cons rfl <| EnvLe.cons rfl <| EnvLe.cons rfl <| EnvLe.cons rfl <| EnvLe.nil _) (⟨⟨Nat.zero_le _, rfl, Nat.le_refl _⟩, le9, fr_s9⟩) ?_
  rintro ⟨i, o2, s2⟩ B25 ⟨⟨hi, h3, h4⟩, le24, fr_s224⟩
  refine Run.wf fun wf26 => .seq fun K27 h28 => .region <| .q rfl (qlssN rfl rfl) <| .nil <| h28 _ _ <| .seq fun K29 h30 => .if rfl (fun p31 => ?_) (fun p31 => ?_)
  ·
   refine Run.skip <| h30 _ _ <| .seq fun K32 h33 => .block <| .seq fun K34 h35 => .region <| .q rfl (qmove rfl) <| .q rfl (qassign rfl) <| .nil <| h35 _ _ ?_
   refine Run.seq fun K36 h37 => .region <| .q rfl (qmove rfl) <| .q rfl (qlenS (n := o2.length) u38 rfl fr_s224.slc (by omega) (bytes_len _)) <| .q rfl (qassign rfl) <| .nil <| h37 _ _ <| .join (fun f A1 => EnvLe [(34, .bool (decide (0 < o2.length ∧ o2.getD (o2.length - 1) 0 = (l.getD k []).getD i 0 ^^^ 32))), (3, s2), (5, str (l.getD k [])), (8, u), (9, num ((l.length : Nat) : Int)), (10, num ((k : Nat) : Int)), (15, num (((l.getD k []).length : Nat) : Int)), (16, num ((i : Nat) : Int)), (17, .bool (decide (i < (l.getD k []).length))), (18, num ((i : Nat) : Int)), (6, num ((i : Nat) : Int)), (19, s2), (20, num ((o2.length : Nat) : Int)), (7, num ((o2.length : Nat) : Int))] f.e ∧ f.ds = [] ∧ B25 = A1) ?_ ?_
   ·
    refine Run.drawn [0, 1, 2, 3, 4, 5, 6, 7, 8, 9, 10, 11, 12, 13] mixed (by kernel_rfl) (by kernel_rfl) rfl <| .q rfl rfl rfl (qmove rfl) <| .q rfl rfl rfl (qgtrN (b := 0) rfl rfl) <| .q rfl rfl rfl (qmove rfl) <| .part (t := 23) rfl (fun p40 => ?_) (fun p40 => ?_)
    ·
     refine DOps.qOn rfl rfl rfl rfl rfl (qmove rfl) <| .qOn rfl rfl rfl rfl rfl (qmove rfl) <| .qOn rfl rfl rfl rfl rfl (qsubN (b := 1) rfl rfl (by omega)) ?_
     obtain ⟨b41, f41, rw41, r41, rc41, n41, k41, e41, l41, g41, cl41, cs41⟩ := Slc.at (i := o2.length - 1) fr_s224.slc (by simp only [bytes_length]; omega) (by omega)
     refine DOps.qOn rfl rfl rfl rfl rfl (qindexS u38 sz5 rfl e41 rfl l41) <| .qOn rfl rfl rfl rfl rfl (qloadAt ag5 rfl rfl g41 ((elt0 cs41).trans (bytes_get (by omega)))) <| .qOn rfl rfl rfl rfl rfl (qmove rfl) <| .qOn rfl rfl rfl rfl rfl (qmove rfl) <| .qOn rfl rfl rfl rfl rfl (qsix u9 rfl rfl (by omega)) <| .qOn rfl rfl rfl rfl rfl (qxorB (d := 32) rfl rfl) <| .qOn rfl rfl rfl rfl rfl (qeqlB rfl rfl) <| .q rfl rfl rfl (qpickT rfl rfl) <| .done ?_
     exact ⟨EnvLe.cons (show some _ = some _ from congrArg (fun b => some (Value.bool b)) (show (decide ((o2.getD (o2.length - 1) 0) = (((l.getD k []).getD i 0) ^^^ 32))) = decide (0 < o2.length ∧ o2.getD (o2.length - 1) 0 = (l.getD k []).getD i 0 ^^^ 32) from (by first | rfl | simp only [‹0 < _›, true_and] | simp only [‹¬ 0 < _›, false_and, decide_false]))) <| EnvLe.cons rfl <| EnvLe.cons rfl <| EnvLe.cons rfl <| EnvLe.cons rfl <| EnvLe.cons rfl <| EnvLe.cons rfl <| EnvLe.cons rfl <| EnvLe.cons rfl <| EnvLe.cons rfl <| EnvLe.cons rfl <| EnvLe.cons rfl <| EnvLe.cons rfl <| EnvLe.cons rfl <| EnvLe.nil _, rfl, rfl⟩
    ·
     refine DOps.qOff rfl rfl rfl rfl rfl rfl <| .qOff rfl rfl rfl rfl rfl rfl <| .qOff rfl rfl rfl rfl rfl rfl <| .qOff rfl rfl rfl rfl rfl rfl <| .qOff rfl rfl rfl rfl rfl rfl <| .qOff rfl rfl rfl rfl rfl rfl <| .qOff rfl rfl rfl rfl rfl rfl <| .qOff rfl rfl rfl rfl rfl rfl <| .qOff rfl rfl rfl rfl rfl rfl <| .qOff rfl rfl rfl rfl rfl rfl ?_
     refine DOps.q rfl rfl rfl (qpickF rfl rfl) <| .done ?_
     exact ⟨EnvLe.cons (show some _ = some _ from congrArg (fun b => some (Value.bool b)) (show (false) = decide (0 < o2.length ∧ o2.getD (o2.length - 1) 0 = (l.getD k []).getD i 0 ^^^ 32) from (by first | rfl | simp only [‹0 < _›, true_and] | simp only [‹¬ 0 < _›, false_and, decide_false]))) <| EnvLe.cons rfl <| EnvLe.cons rfl <| EnvLe.cons rfl <| EnvLe.cons rfl <| EnvLe.cons rfl <| EnvLe.cons rfl <| EnvLe.cons rfl <| EnvLe.cons rfl <| EnvLe.cons rfl <| EnvLe.cons rfl <| EnvLe.cons rfl <| EnvLe.cons rfl <| EnvLe.cons rfl <| EnvLe.nil _, rfl, rfl⟩
   ·
    rintro ⟨fe, fd⟩ _ ⟨hE, rfl, rfl⟩
    refine Run.forget hE <| .if rfl (fun p43 => ?_) (fun p43 => ?_)
    ·
     refine Run.region <| .q rfl (qmove rfl) <| .q rfl (qmove rfl) <| .q rfl (qsubN (b := 1) rfl rfl (by omega)) ?_
     obtain ⟨b44, n44, c44, q44, m44, d44⟩ := fr_s224.nonnil (by intro q; have := congrArg List.length q; simp only [bytes_length, List.length_nil] at this; omega)
     subst q44
     rw [bytes_length, Nat.mul_one] at m44
     have fr45 := fr_s224.take (k := o2.length - 1) (by omega)
     rw [Nat.mul_one, bytes_take] at fr45
     refine Ops.q rfl (qsliceHi u38 sz5 rfl rfl (by omega)) <| .q rfl (qassign rfl) <| .nil <| h33 _ _ <| .region <| .q rfl (qaddN (b := 1) rfl rfl (by omega)) <| .q rfl (qmove rfl) <| .nil ?_
     exact ⟨⟨i + 1, o2.take (o2.length - 1), .slice (some ⟨b44, 0, none⟩) (o2.length - 1) c44⟩, EnvLe.cons rfl <| EnvLe.cons rfl <| EnvLe.cons rfl <| EnvLe.cons rfl <| EnvLe.cons rfl <| EnvLe.cons rfl <| EnvLe.cons rfl <| EnvLe.nil _, rfl, ⟨⟨by omega, by first | exact push_go (by assumption) h3 ‹_› | exact push_no (by assumption) h3 ‹_›, by simp only [List.length_append, List.length_take, List.length_cons, List.length_nil]; omega⟩, le24, fr45⟩, (by (try dsimp only); omega)⟩
    ·
     refine Run.region <| .q rfl (qmove rfl) <| .q rfl (qmove rfl) <| .q rfl (qmove rfl) <| .q rfl (qsix u9 rfl rfl (by omega)) <| .l rfl (fun _ _ hk46 _ => wbuildSlice (c := [byt ((l.getD k []).getD i 0)]) wf26 rfl (buildSliceV_of u38 sz5 z5 rfl (by decide) (by decide) rfl) fun A48 b47 nb49 => ?_)
     have fr51 := fr_s224.le nb49.le
     have le52 := le24.trans nb49.le
     refine hk46 _ _ <| .l rfl (fun _ _ hk53 _ => wappend (ys := [byt ((l.getD k []).getD i 0)]) rfl rfl u38 sz5 inf5 z5 rfl (by decide) u38 (fun _ h => by cases h) fr51.own (listOf_row (n := 1) nb49.get rfl) rfl rfl (by show (_ + _) * 1 ≤ _; simp only [bytes_length, List.length_cons, List.length_nil]; have := hd (by assumption); omega) (by simp only [bytes_length, List.length_cons, List.length_nil]; have := hd (by assumption); omega) fun A54 v55 ap56 => ?_)
     rw [show ([byt ((l.getD k []).getD i 0)] : List Value) = byteCells [(l.getD k []).getD i 0] from rfl, bytes_append] at ap56
     obtain ⟨fr59, le60⟩ := Fresh.grow fr51 le52 wf ap56
     refine hk53 _ _ <| .q rfl (qassign rfl) <| .nil <| h33 _ _ <| .region <| .q rfl (qaddN (b := 1) rfl rfl (by omega)) <| .q rfl (qmove rfl) <| .nil ?_
     exact ⟨⟨i + 1, o2 ++ [(l.getD k []).getD i 0], v55⟩, EnvLe.cons rfl <| EnvLe.cons rfl <| EnvLe.cons rfl <| EnvLe.cons rfl <| EnvLe.cons rfl <| EnvLe.cons rfl <| EnvLe.cons rfl <| EnvLe.nil _, rfl, ⟨⟨by omega, by first | exact push_go (by assumption) h3 ‹_› | exact push_no (by assumption) h3 ‹_›, by simp only [List.length_append, List.length_take, List.length_cons, List.length_nil]; omega⟩, le60, fr59⟩, (by (try dsimp only); omega)⟩
  ·
   refine Run.exit <| h18 _ _ <| .region <| .q rfl (qaddN (b := 1) rfl rfl (by omega)) <| .q rfl (qmove rfl) <| .nil ?_
   exact ⟨⟨k + 1, o2, s2⟩, EnvLe.cons rfl <| EnvLe.cons rfl <| EnvLe.cons rfl <| EnvLe.cons rfl <| EnvLe.nil _, rfl, ⟨⟨by omega, red_outer (by assumption) h1 (by rw [drop_end (by omega)] at h3; exact h3.symm), by omega⟩, le24, fr_s224⟩, (by (try dsimp only); omega)⟩
 ·
  refine Run.exit <| h6 _ _ <| .seq fun K61 h62 => .region <| .q rfl (qmove rfl) <| .l rfl (fun _ _ hk63 _ => wtoString (s := o) rfl u38 u9 u5 fr_s9.slc ?_)
  refine hk63 _ _ <| .q rfl (qassign rfl) <| .nil <| h62 _ _ <| .ret ?_
  repeat first | with_reducible refine thenQ_ret ?_ | with_reducible refine blockQ_ret ?_
  exact retQ rfl (⟨by rw [dropL_end (by omega)] at h1; rw [← h1]; rfl, le9, wf11⟩)

theorem s_pcheck2 (s : List UInt8) (g : Int) (b cap : Nat) (rw : Bool) (c1 : Value) (A : AH) (hg : 1 ≤ g ∧ g ≤ 8) (hs : s.length ≤ 200) (hL : Lets A) (hb : A.get b = some (.row rw [num g, c1] cap)) : RetA Tryd.prog 44 #[str (s), .pointer (some ⟨b, 0, none⟩)] A (fun v A1 => v = .bool (badRel g s) ∧ A.le A1 ∧ A1.wf) := by
 refine enterA (e := [(0, str (s)), (1, .pointer (some ⟨b, 0, none⟩))]) (args := [str (s), .pointer (some ⟨b, 0, none⟩)]) Tryd.call44 Tryd.func44 rfl Tryd.results44 Tryd.ntmps44 rfl rfl rfl (fun wf => ?_)
 have le_ := AH.le.refl A
 refine Run.seq fun K1 h2 => .region <| .q rfl (qassign rfl) <| .nil <| h2 _ _ <| .seq fun K3 h4 => .region <| .q rfl (qmove rfl) <| .q rfl (qseql rfl rfl) <| .q rfl (qmove rfl) ?_
 refine Ops.part (t := 6) rfl (fun p5 => ?_) (fun p5 => ?_)
 ·
  refine Ops.off rfl rfl rfl rfl <| .off rfl rfl rfl rfl <| .off rfl rfl rfl rfl <| .off rfl rfl rfl rfl <| .off rfl rfl rfl rfl <| .q rfl (qpickT rfl rfl) <| .q rfl (qmove rfl) <| .off rfl rfl rfl rfl <| .off rfl rfl rfl rfl <| .off rfl rfl rfl rfl ?_
  refine Ops.off rfl rfl rfl rfl <| .off rfl rfl rfl rfl <| .q rfl (qpickT rfl rfl) <| .q rfl (qassign rfl) <| .nil <| h4 _ _ <| .ret ?_
  repeat first | with_reducible refine thenQ_ret ?_ | with_reducible refine blockQ_ret ?_
  exact retQ rfl (⟨by simp_all [oneV, badRel], le_, wf⟩)
 ·
  refine Ops.on rfl rfl <| .q rfl (qfieldAddr fl24_0 sz3 (by decide) rfl) <| .on rfl rfl <| .q rfl (qloadAt ag3 rfl rfl (le_.get _ _ hb) rfl) <| .on rfl rfl <| .q rfl (qmove rfl) <| .on rfl rfl <| .l rfl (fun _ _ hk6 _ => vcallF rfl (s_isWord (g) s A hL) ?_)
  rintro v7 A8 ⟨rfl, leq9, wfq9⟩
  have le10 := le_.trans leq9
  refine hk6 _ _ <| .on rfl rfl <| .q rfl (qnotP rfl) <| .q rfl (qpickF rfl rfl) <| .q rfl (qmove rfl) <| .part (t := 13) rfl (fun p11 => ?_) (fun p11 => ?_)
  ·
   refine Ops.off rfl rfl rfl rfl <| .off rfl rfl rfl rfl <| .off rfl rfl rfl rfl <| .off rfl rfl rfl rfl <| .off rfl rfl rfl rfl <| .q rfl (qpickT rfl rfl) <| .q rfl (qassign rfl) <| .nil <| h4 _ _ <| .ret ?_
   repeat first | with_reducible refine thenQ_ret ?_ | with_reducible refine blockQ_ret ?_
   exact retQ rfl (⟨by simp_all [oneV, badRel], le10, wfq9⟩)
  ·
   refine Ops.on rfl rfl <| .q rfl (qmove rfl) <| .on rfl rfl <| .l rfl (fun _ _ hk12 _ => wbuildSlice (c := [str (s)]) wfq9 rfl (buildSliceV_of u22 sz9 z9 rfl (by decide) (by decide) rfl) fun A14 b13 nb15 => ?_)
   have le16 := le10.trans nb15.le
   refine hk12 _ _ <| .on rfl rfl <| .l rfl (fun _ _ hk17 _ => vcallF rfl (s_preduce _ ([s]) (red s) A14 (by simp) (by simp; omega) (by simp) (slc_row (n := 1) nb15.get rfl (Nat.le_refl _))) ?_)
   rintro v18 A19 ⟨rfl, leq20, wfq20⟩
   have le22 := le16.trans leq20
   refine hk17 _ _ <| .on rfl rfl <| .q rfl (qmove rfl) <| .on rfl rfl <| .q rfl (qsneq rfl rfl) <| .q rfl (qpickF rfl rfl) <| .q rfl (qassign rfl) <| .nil <| h4 _ _ <| .ret ?_
   repeat first | with_reducible refine thenQ_ret ?_ | with_reducible refine blockQ_ret ?_
   exact retQ rfl (⟨by simp_all [oneV, badRel], le22, wfq20⟩)

theorem s_pCheck (g : Int) (u : Value) (l : List (List UInt8)) (A : AH) (hn : l.length ≤ 1000000) (hL : Lets A) (hu : Slc A 1 u (strs l)) : RetA Tryd.prog 26 #[.agg #[num (g), u]] A (fun v A1 => v = num ((pcheck g l : Nat) : Int) ∧ A.le A1 ∧ A1.wf) := by
 refine enterA (e := [(0, .agg #[num (g), u])]) (args := [.agg #[num (g), u]]) Tryd.call26 Tryd.func26 rfl Tryd.results26 Tryd.ntmps26 rfl rfl rfl (fun wf => ?_)
 have le_ := AH.le.refl A
 refine Run.seq fun K1 h2 => .region <| .l rfl (fun _ _ hk3 _ => wbox wf rfl rfl fun A5 b4 nb6 => ?_)
 have le7 := le_.trans nb6.le
 refine hk3 _ _ <| .q rfl (qassign rfl) <| .nil <| h2 _ _ <| .seq fun K8 h9 => .seq fun K10 h11 => .region <| .q rfl (qfieldAddr fl24_0 sz3 (by decide) rfl) <| .q rfl (qloadAt ag3 rfl rfl nb6.get rfl) <| .q rfl (qlss rfl rfl) ?_
 refine Ops.q rfl (qmove rfl) <| .part (t := 6) rfl (fun p12 => ?_) (fun p12 => ?_)
 ·
  refine Ops.off rfl rfl rfl rfl <| .off rfl rfl rfl rfl <| .off rfl rfl rfl rfl <| .q rfl (qpickT rfl rfl) <| .nil <| h11 _ _ <| .cond_true rfl <| .seq fun K13 h14 => .region <| .q rfl (qassign rfl) ?_
  refine Ops.nil <| h14 _ _ <| .ret ?_
  repeat first | with_reducible refine thenQ_ret ?_ | with_reducible refine blockQ_ret ?_
  exact retQ rfl (⟨by first | (rw [pcheck, if_pos (by omega)]; rfl) | (rw [pcheck, if_neg (by omega), if_pos (by first | (left; omega) | exact .inr ((ifl_any _ _).1 ‹0 ≤ ifl (fun r => decide (200 < r.length)) l›))]; rfl) | (rw [pcheck, if_neg (by omega), if_neg (fun h => h.elim (by omega) (fun h => ‹¬ 0 ≤ ifl (fun r => decide (200 < r.length)) l› ((ifl_any _ _).2 h))), if_pos ((ifl_any _ _).1 ‹0 ≤ ifl (badRel g) l›)]; rfl) | (rw [pcheck, if_neg (by omega), if_neg (fun h => h.elim (by omega) (fun h => ‹¬ 0 ≤ ifl (fun r => decide (200 < r.length)) l› ((ifl_any _ _).2 h))), if_neg (fun h => ‹¬ 0 ≤ ifl (badRel g) l› ((ifl_any _ _).2 h))]; rfl), le7, nb6.wf⟩)
 ·
  refine Ops.on rfl rfl <| .q rfl (qfieldAddr fl24_0 sz3 (by decide) rfl) <| .on rfl rfl <| .q rfl (qloadAt ag3 rfl rfl nb6.get rfl) <| .on rfl rfl <| .q rfl (qgtr rfl rfl) <| .q rfl (qpickF rfl rfl) <| .nil <| h11 _ _ <| .if rfl (fun p15 => ?_) (fun p15 => ?_)
  ·
   refine Run.seq fun K16 h17 => .region <| .q rfl (qassign rfl) <| .nil <| h17 _ _ <| .ret ?_
   repeat first | with_reducible refine thenQ_ret ?_ | with_reducible refine blockQ_ret ?_
   exact retQ rfl (⟨by first | (rw [pcheck, if_pos (by omega)]; rfl) | (rw [pcheck, if_neg (by omega), if_pos (by first | (left; omega) | exact .inr ((ifl_any _ _).1 ‹0 ≤ ifl (fun r => decide (200 < r.length)) l›))]; rfl) | (rw [pcheck, if_neg (by omega), if_neg (fun h => h.elim (by omega) (fun h => ‹¬ 0 ≤ ifl (fun r => decide (200 < r.length)) l› ((ifl_any _ _).2 h))), if_pos ((ifl_any _ _).1 ‹0 ≤ ifl (badRel g) l›)]; rfl) | (rw [pcheck, if_neg (by omega), if_neg (fun h => h.elim (by omega) (fun h => ‹¬ 0 ≤ ifl (fun r => decide (200 < r.length)) l› ((ifl_any _ _).2 h))), if_neg (fun h => ‹¬ 0 ≤ ifl (badRel g) l› ((ifl_any _ _).2 h))]; rfl), le7, nb6.wf⟩)
  ·
   refine Run.skip <| h9 _ _ <| .seq fun K18 h19 => .seq fun K20 h21 => .region <| .q rfl (qfieldAddr fl24_1 sz22 (by decide) rfl) <| .q rfl (qloadAt ag22 rfl rfl nb6.get rfl) <| .q rfl (qlenS (n := l.length) u22 rfl (hu.le le7) (by omega) (strs_len _)) <| .q rfl (qgtrN (b := 60) rfl rfl) <| .q rfl (qmove rfl) ?_
   refine Ops.part (t := 15) rfl (fun p22 => ?_) (fun p22 => ?_)
   ·
    refine Ops.off rfl rfl rfl rfl <| .off rfl rfl rfl rfl <| .off rfl rfl rfl rfl <| .q rfl (qpickT rfl rfl) <| .nil <| h21 _ _ <| .cond_true rfl <| .seq fun K23 h24 => .region <| .q rfl (qassign rfl) ?_
    refine Ops.nil <| h24 _ _ <| .ret ?_
    repeat first | with_reducible refine thenQ_ret ?_ | with_reducible refine blockQ_ret ?_
    exact retQ rfl (⟨by first | (rw [pcheck, if_pos (by omega)]; rfl) | (rw [pcheck, if_neg (by omega), if_pos (by first | (left; omega) | exact .inr ((ifl_any _ _).1 ‹0 ≤ ifl (fun r => decide (200 < r.length)) l›))]; rfl) | (rw [pcheck, if_neg (by omega), if_neg (fun h => h.elim (by omega) (fun h => ‹¬ 0 ≤ ifl (fun r => decide (200 < r.length)) l› ((ifl_any _ _).2 h))), if_pos ((ifl_any _ _).1 ‹0 ≤ ifl (badRel g) l›)]; rfl) | (rw [pcheck, if_neg (by omega), if_neg (fun h => h.elim (by omega) (fun h => ‹¬ 0 ≤ ifl (fun r => decide (200 < r.length)) l› ((ifl_any _ _).2 h))), if_neg (fun h => ‹¬ 0 ≤ ifl (badRel g) l› ((ifl_any _ _).2 h))]; rfl), le7, nb6.wf⟩)
   ·
    refine Ops.on rfl rfl <| .q rfl (qfieldAddr fl24_1 sz22 (by decide) rfl) <| .on rfl rfl <| .q rfl (qloadAt ag22 rfl rfl nb6.get rfl) <| .on rfl rfl <| .l rfl (fun _ _ hk25 _ => vcallF rfl (s_ContainsFuncL 43 #[] (fun r => decide (200 < r.length)) u l A5 (by omega) (hu.le le7) (fun s hs B le wf => s_pcheck1 s B)) ?_)
    rintro v26 A27 ⟨rfl, leq28, wfq28⟩
    have h29 := leq28.get _ _ nb6.get
    have le30 := le7.trans leq28
    refine hk25 _ _ <| .q rfl (qpickF rfl rfl) <| .nil <| h21 _ _ <| .if rfl (fun p31 => ?_) (fun p31 => ?_)
    ·
     refine Run.seq fun K32 h33 => .region <| .q rfl (qassign rfl) <| .nil <| h33 _ _ <| .ret ?_
     repeat first | with_reducible refine thenQ_ret ?_ | with_reducible refine blockQ_ret ?_
     exact retQ rfl (⟨by first | (rw [pcheck, if_pos (by omega)]; rfl) | (rw [pcheck, if_neg (by omega), if_pos (by first | (left; omega) | exact .inr ((ifl_any _ _).1 ‹0 ≤ ifl (fun r => decide (200 < r.length)) l›))]; rfl) | (rw [pcheck, if_neg (by omega), if_neg (fun h => h.elim (by omega) (fun h => ‹¬ 0 ≤ ifl (fun r => decide (200 < r.length)) l› ((ifl_any _ _).2 h))), if_pos ((ifl_any _ _).1 ‹0 ≤ ifl (badRel g) l›)]; rfl) | (rw [pcheck, if_neg (by omega), if_neg (fun h => h.elim (by omega) (fun h => ‹¬ 0 ≤ ifl (fun r => decide (200 < r.length)) l› ((ifl_any _ _).2 h))), if_neg (fun h => ‹¬ 0 ≤ ifl (badRel g) l› ((ifl_any _ _).2 h))]; rfl), le30, wfq28⟩)
    ·
     refine Run.skip <| h19 _ _ <| .seq fun K34 h35 => .seq fun K36 h37 => .region <| .q rfl (qfieldAddr fl24_1 sz22 (by decide) rfl) <| .q rfl (qloadAt ag22 rfl rfl h29 rfl) <| .q rfl (qfunc rfl rfl) <| .l rfl (fun _ _ hk38 _ => vcallF rfl (s_ContainsFuncL 44 #[.pointer (some ⟨b4, 0, none⟩)] (badRel g) u l A27 (by omega) (hu.le le30) (fun s hs B le wf => s_pcheck2 s g b4 _ _ _ B (by omega) (by have := short ‹¬ 0 ≤ ifl (fun r => decide (200 < r.length)) l› s hs; omega) ((hL.le le30).le le) (le.get _ _ h29))) ?_)
     rintro v39 A40 ⟨rfl, leq41, wfq41⟩
     have le43 := le30.trans leq41
     refine hk38 _ _ <| .nil <| h37 _ _ <| .if rfl (fun p44 => ?_) (fun p44 => ?_)
     ·
      refine Run.seq fun K45 h46 => .region <| .q rfl (qassign rfl) <| .nil <| h46 _ _ <| .ret ?_
      repeat first | with_reducible refine thenQ_ret ?_ | with_reducible refine blockQ_ret ?_
      exact retQ rfl (⟨by first | (rw [pcheck, if_pos (by omega)]; rfl) | (rw [pcheck, if_neg (by omega), if_pos (by first | (left; omega) | exact .inr ((ifl_any _ _).1 ‹0 ≤ ifl (fun r => decide (200 < r.length)) l›))]; rfl) | (rw [pcheck, if_neg (by omega), if_neg (fun h => h.elim (by omega) (fun h => ‹¬ 0 ≤ ifl (fun r => decide (200 < r.length)) l› ((ifl_any _ _).2 h))), if_pos ((ifl_any _ _).1 ‹0 ≤ ifl (badRel g) l›)]; rfl) | (rw [pcheck, if_neg (by omega), if_neg (fun h => h.elim (by omega) (fun h => ‹¬ 0 ≤ ifl (fun r => decide (200 < r.length)) l› ((ifl_any _ _).2 h))), if_neg (fun h => ‹¬ 0 ≤ ifl (badRel g) l› ((ifl_any _ _).2 h))]; rfl), le43, wfq41⟩)
     ·
      refine Run.skip <| h35 _ _ <| .seq fun K47 h48 => .region <| .q rfl (qassign rfl) <| .nil <| h48 _ _ <| .ret ?_
      repeat first | with_reducible refine thenQ_ret ?_ | with_reducible refine blockQ_ret ?_
      exact retQ rfl (⟨by first | (rw [pcheck, if_pos (by omega)]; rfl) | (rw [pcheck, if_neg (by omega), if_pos (by first | (left; omega) | exact .inr ((ifl_any _ _).1 ‹0 ≤ ifl (fun r => decide (200 < r.length)) l›))]; rfl) | (rw [pcheck, if_neg (by omega), if_neg (fun h => h.elim (by omega) (fun h => ‹¬ 0 ≤ ifl (fun r => decide (200 < r.length)) l› ((ifl_any _ _).2 h))), if_pos ((ifl_any _ _).1 ‹0 ≤ ifl (badRel g) l›)]; rfl) | (rw [pcheck, if_neg (by omega), if_neg (fun h => h.elim (by omega) (fun h => ‹¬ 0 ≤ ifl (fun r => decide (200 < r.length)) l› ((ifl_any _ _).2 h))), if_neg (fun h => ‹¬ 0 ≤ ifl (badRel g) l› ((ifl_any _ _).2 h))]; rfl), le43, wfq41⟩)
end Go.Proofs.YtaccklloepfemaaDoor

namespace Go.Proofs.YtaccklloepfemaaDoor
open Go Go.RowKit V
set_option maxRecDepth 100000
set_option linter.unusedVariables false
set_option linter.unusedSimpArgs false
end Go.Proofs.YtaccklloepfemaaDoor

namespace Go.Proofs.YtaccklloepfemaaDoor
open Go Go.RowKit V
set_option maxRecDepth 100000
set_option linter.unusedVariables false
set_option linter.unusedSimpArgs false


end Go.Proofs.YtaccklloepfemaaDoor

namespace Go.Proofs.YtaccklloepfemaaDoor
set_option linter.unusedVariables false
set_option linter.unusedSimpArgs false
open Go V

/-- A cell of a disk. -/
structure DCell where
  conj : List UInt8
  rel : Int
  inv : Bool
def DCell.zero : DCell := ⟨[], 0, false⟩
def dcell (c : DCell) : List Value := [str c.conj, num c.rel, .bool c.inv]
def dcells (l : List DCell) : List Value := l.flatMap dcell
theorem dcells_length (l : List DCell) : (dcells l).length = l.length * 3 := by
  induction l with
  | nil => rfl
  | cons c l ih => simp only [dcells, List.flatMap_cons, List.length_append, List.length_cons] at ih ⊢; rw [ih]; simp [dcell]; omega
theorem dcells_len (l : List DCell) : (dcells l).length = l.length * 3 := dcells_length l
theorem dcells_append (a b : List DCell) : dcells a ++ dcells b = dcells (a ++ b) := by simp [dcells]
theorem dcells_drop (l : List DCell) (i : Nat) : (dcells l).drop (i * 3) = dcells (l.drop i) := by
  induction l generalizing i with
  | nil => simp [dcells]
  | cons c l ih =>
    cases i with
    | zero => simp
    | succ i =>
      have : (i + 1) * 3 = (dcell c).length + i * 3 := by simp [dcell]; omega
      show (dcell c ++ dcells l).drop ((i + 1) * 3) = _
      rw [this, ← List.drop_drop, List.drop_left]
      exact ih i
theorem dcells_at {l : List DCell} {i : Nat} (h : i < l.length) : ((dcells l).drop (i * 3)).take 3 = dcell (l.getD i .zero) := by
  rw [dcells_drop, List.drop_eq_getElem_cons h]
  have e : l.getD i .zero = l[i] := by simp [h]
  rw [e]
  show (dcell l[i] ++ dcells (l.drop (i + 1))).take 3 = _
  exact List.take_left' rfl
def conjs (d : List DCell) : Nat := (d.map fun c => c.conj.length).sum
theorem conjs_drop {d : List DCell} {i : Nat} (h : i < d.length) : conjs (d.drop i) = (d.getD i .zero).conj.length + conjs (d.drop (i + 1)) := by
  have e : d.getD i .zero = d[i] := by simp [h]
  rw [List.drop_eq_getElem_cons h, e, conjs, List.map_cons, List.sum_cons]; rfl
end Go.Proofs.YtaccklloepfemaaDoor

namespace Go.Proofs.YtaccklloepfemaaDoor
set_option linter.unusedVariables false
set_option linter.unusedSimpArgs false
open Go Go.RowKit V

/-- A word of the closure: it is conj r conj^-1 for a relator or its inverse. -/
structure Rot where
  w : List UInt8
  c : List UInt8
  r : Nat
  i : Bool
def Rot.zero : Rot := ⟨[], [], 0, false⟩
def rcell (x : Rot) : List Value := [str x.w, str x.c, num ((x.r : Nat) : Int), .bool x.i]
def rcells (l : List Rot) : List Value := l.flatMap rcell
theorem rcells_length (l : List Rot) : (rcells l).length = l.length * 4 := by
  induction l with
  | nil => rfl
  | cons c l ih => simp only [rcells, List.flatMap_cons, List.length_append, List.length_cons] at ih ⊢; rw [ih]; simp [rcell]; omega
theorem rcells_len (l : List Rot) : (rcells l).length = l.length * 4 := rcells_length l
theorem rcells_append (a b : List Rot) : rcells a ++ rcells b = rcells (a ++ b) := by simp [rcells]
theorem rcells_drop (l : List Rot) (i : Nat) : (rcells l).drop (i * 4) = rcells (l.drop i) := by
  induction l generalizing i with
  | nil => simp [rcells]
  | cons c l ih =>
    cases i with
    | zero => simp
    | succ i =>
      have : (i + 1) * 4 = (rcell c).length + i * 4 := by simp [rcell]; omega
      show (rcell c ++ rcells l).drop ((i + 1) * 4) = _
      rw [this, ← List.drop_drop, List.drop_left]
      exact ih i
theorem rcells_at {l : List Rot} {i : Nat} (h : i < l.length) : ((rcells l).drop (i * 4)).take 4 = rcell (l.getD i .zero) := by
  rw [rcells_drop, List.drop_eq_getElem_cons h]
  have e : l.getD i .zero = l[i] := by simp [h]
  rw [e]
  show (rcell l[i] ++ rcells (l.drop (i + 1))).take 4 = _
  exact List.take_left' rfl
def ncell (p : Nat × Int) : List Value := [.map (some p.1), num p.2]
def ncells (l : List (Nat × Int)) : List Value := l.flatMap ncell
theorem ncells_length (l : List (Nat × Int)) : (ncells l).length = l.length * 2 := by
  induction l with
  | nil => rfl
  | cons c l ih => simp only [ncells, List.flatMap_cons, List.length_append, List.length_cons] at ih ⊢; rw [ih]; simp [ncell]; omega
theorem ncells_len (l : List (Nat × Int)) : (ncells l).length = l.length * 2 := ncells_length l
theorem ncells_append (a b : List (Nat × Int)) : ncells a ++ ncells b = ncells (a ++ b) := by simp [ncells]
theorem ncells_drop (l : List (Nat × Int)) (i : Nat) : (ncells l).drop (i * 2) = ncells (l.drop i) := by
  induction l generalizing i with
  | nil => simp [ncells]
  | cons c l ih =>
    cases i with
    | zero => simp
    | succ i =>
      have : (i + 1) * 2 = (ncell c).length + i * 2 := by simp [ncell]; omega
      show (ncell c ++ ncells l).drop ((i + 1) * 2) = _
      rw [this, ← List.drop_drop, List.drop_left]
      exact ih i
theorem ncells_get2 {l : List (Nat × Int)} {i k : Nat} (h : i < l.length) (hk : k < 2) : (ncells l)[i * 2 + k]? = (ncell (l.getD i (0, 0)))[k]? := by
  have e1 : (ncells l)[i * 2 + k]? = ((ncells l).drop (i * 2))[k]? := by rw [List.getElem?_drop]
  rw [e1, ncells_drop, List.drop_eq_getElem_cons h]
  have e : l.getD i (0, 0) = l[i] := by simp [h]
  rw [e]
  show (ncell l[i] ++ ncells (l.drop (i + 1)))[k]? = _
  exact List.getElem?_append_left (by simpa [ncell] using hk)
theorem ncells_f0 {l : List (Nat × Int)} {i : Nat} (h : i < l.length) : (ncells l)[i * 2 + 0]? = some (.map (some (l.getD i (0, 0)).1)) := ncells_get2 h (by omega)
theorem ncells_f1 {l : List (Nat × Int)} {i : Nat} (h : i < l.length) : (ncells l)[i * 2 + 1]? = some (num (l.getD i (0, 0)).2) := ncells_get2 h (by omega)

/-! ### What is found -/
/-- The first word of which a path is a prefix and more than half. -/
def bestOf (l : List Rot) (p : List UInt8) : Int := ifl (fun x : Rot => p.isPrefixOf x.w && decide (x.w.length < 2 * p.length)) l
def longStep (l : List Rot) (s : List UInt8) (i : Nat) (t : Int × Nat) : Int × Nat :=
  let b := bestOf l (s.take (i + 1))
  if 0 ≤ b then (if t.1 < 0 then (b, i + 1) else (if b < t.1 then b else t.1, t.2)) else t
def longU (l : List Rot) (s : List UInt8) : Nat → Int × Nat
  | 0 => (-1, 0)
  | i + 1 => longStep l s i (longU l s i)
def longF (l : List Rot) (s : List UInt8) : Int × Nat := longU l s s.length

structure RS where
  list : List Rot
  most : Nat
  pf : List (List UInt8)
  best : List Int
/-- The entries of a node's map: where letters lead. -/
def Ents (pf : List (List UInt8)) (p : List UInt8) (es : Array MapEntry) : Prop :=
  ∃ l : List (UInt8 × Nat × Nat), es.toList = l.map (fun x => { key := byt x.1, val := num ((x.2.1 : Nat) : Int), born := x.2.2 }) ∧ ∀ c, (l.find? fun x => x.1 == c).map (fun x => x.2.1) = if p ++ [c] ∈ pf then some (pf.idxOf (p ++ [c])) else none
def Nodes (A : AH) (S : RS) (bl : List Nat) : Prop :=
  bl.length = S.pf.length ∧ S.best.length = S.pf.length ∧ ∀ j, j < S.pf.length → ∃ rw es clock, A.get (bl.getD j 0) = some (.obj rw (.map es clock)) ∧ Ents S.pf (S.pf.getD j []) es
/-- The rules in memory. -/
def Rules (A : AH) (br : Nat) (S : RS) : Prop :=
  ∃ rw cap lsv nv bl, A.get br = some (.row rw [lsv, nv, num ((S.most : Nat) : Int)] cap) ∧ Slc A 4 lsv (rcells S.list) ∧ Slc A 2 nv (ncells (bl.zip S.best)) ∧ Nodes A S bl
theorem Rules.le {A B : AH} {br : Nat} {S : RS} (h : Rules A br S) (le : A.le B) : Rules B br S := by
  obtain ⟨rw, cap, lsv, nv, bl, h1, h2, h3, h4, h5, h6⟩ := h
  refine ⟨rw, cap, lsv, nv, bl, le.get _ _ h1, h2.le le, h3.le le, h4, h5, fun j hj => ?_⟩
  obtain ⟨r, es, k, g1, g2⟩ := h6 j hj
  exact ⟨r, es, k, le.get _ _ g1, g2⟩
/-- What is so of rules: the trie is that of the words. -/
structure RSok (S : RS) : Prop where
  root : S.pf.getD 0 [] = [] ∧ 0 < S.pf.length
  nodup : S.pf.Nodup
  mem : ∀ p, p ∈ S.pf ↔ p = [] ∨ ∃ x ∈ S.list, p <+: x.w
  best : ∀ j, j < S.pf.length → S.best.getD j 0 = bestOf S.list (S.pf.getD j [])
  most : ∀ x ∈ S.list, x.w.length ≤ S.most
  small : S.most ≤ 200 ∧ S.list.length ≤ 30000
  isw : ∀ x ∈ S.list, isw x.w = true ∧ isw x.c = true ∧ x.c.length ≤ 1000
theorem take_next {s : List UInt8} {i : Nat} (h : i < s.length) : s.take i ++ [s.getD i 0] = s.take (i + 1) := by
  rw [List.take_add_one, List.getElem?_eq_getElem h]; simp [h]
theorem idxOf_lt {l : List (List UInt8)} {p : List UInt8} (h : p ∈ l) : l.idxOf p < l.length := List.idxOf_lt_length_of_mem h
theorem getD_idxOf {l : List (List UInt8)} {p : List UInt8} (h : p ∈ l) : l.getD (l.idxOf p) [] = p := by
  have := idxOf_lt h
  rw [List.getD_eq_getElem?_getD, List.getElem?_eq_getElem this]
  simp
theorem RSok.best_at {S : RS} (h : RSok S) {bl : List Nat} (hb : bl.length = S.pf.length ∧ S.best.length = S.pf.length) {p : List UInt8} (hp : p ∈ S.pf) : ((bl.zip S.best).getD (S.pf.idxOf p) (0, 0)).2 = bestOf S.list p := by
  have hi := idxOf_lt hp
  have h1 := h.best _ hi
  rw [getD_idxOf hp] at h1
  rw [← h1]
  have hz : S.pf.idxOf p < (bl.zip S.best).length := by simp; omega
  have h2 : S.pf.idxOf p < S.best.length := by omega
  have h3 : S.pf.idxOf p < bl.length := by omega
  rw [List.getD_eq_getElem?_getD, List.getElem?_eq_getElem hz, Option.getD_some, List.getElem_zip, List.getD_eq_getElem?_getD, List.getElem?_eq_getElem h2, Option.getD_some]
theorem RSok.blk_at {S : RS} {bl : List Nat} (hb : bl.length = S.pf.length ∧ S.best.length = S.pf.length) {j : Nat} (hj : j < S.pf.length) : ((bl.zip S.best).getD j (0, 0)).1 = bl.getD j 0 := by
  have hz : j < (bl.zip S.best).length := by simp; omega
  have h2 : j < bl.length := by omega
  rw [List.getD_eq_getElem?_getD, List.getElem?_eq_getElem hz, Option.getD_some, List.getElem_zip, List.getD_eq_getElem?_getD, List.getElem?_eq_getElem h2, Option.getD_some]
theorem bestOf_none {l : List Rot} {p : List UInt8} (h : ∀ x ∈ l, ¬ p <+: x.w) : bestOf l p = -1 := by
  unfold bestOf
  refine ifl_none (d := .zero) fun j hj => ?_
  have := h _ (getD_mem (d := .zero) hj)
  simp only [Bool.and_eq_false_iff]
  left
  rw [← Bool.not_eq_true, List.isPrefixOf_iff_prefix]; exact this
theorem longU_stop {S : RS} (h : RSok S) {s : List UInt8} {i : Nat} (hi : i < s.length) (hn : ¬ s.take (i + 1) ∈ S.pf) : longU S.list s i = longF S.list s := by
  have key : ∀ n, i ≤ n → n ≤ s.length → longU S.list s n = longU S.list s i := by
    intro n
    induction n with
    | zero => intro h1 _; rw [show i = 0 by omega]
    | succ n ih =>
      intro h1 h2
      rcases Nat.lt_or_eq_of_le h1 with q | q
      · have e := ih (by omega) (by omega)
        have hb : bestOf S.list (s.take (n + 1)) = -1 := bestOf_none fun x hx hp => hn ((h.mem _).2 (.inr ⟨x, hx, by
          refine List.IsPrefix.trans ?_ hp
          exact List.take_prefix_take_left (by omega)⟩))
        rw [longU, longStep, hb, if_neg (by decide), e]
      · rw [q]
  exact (key s.length (by omega) (Nat.le_refl _)).symm
theorem same_byt (a c : UInt8) : Instr.sameNow (.int .u8) (byt a) (byt c) = some (decide (a = c)) := by
  have : decide ((a.toNat : Int) = (c.toNat : Int)) = decide (a = c) := by simp only [u8_inj]
  simp only [Instr.sameNow]
  rw [← this]
  rfl
theorem find_key (c : UInt8) : ∀ (l : List (UInt8 × Nat × Nat)) (n : Nat), ∃ r, Instr.findNow (.int .u8) (byt c) (l.map fun x => { key := byt x.1, val := num ((x.2.1 : Nat) : Int), born := x.2.2 }) n = some r ∧ r.map (fun p => p.2) = (l.find? fun x => x.1 == c).map fun x => num ((x.2.1 : Nat) : Int) := by
  intro l
  induction l with
  | nil => intro n; exact ⟨none, rfl, rfl⟩
  | cons x l ih =>
    intro n
    by_cases q : c = x.1
    · refine ⟨some (n, num ((x.2.1 : Nat) : Int)), ?_, by simp [q]⟩
      simp only [List.map_cons, Instr.findNow, same_byt, decide_eq_true q]
    · obtain ⟨r, h1, h2⟩ := ih (n + 1)
      refine ⟨r, ?_, ?_⟩
      · simp only [List.map_cons, Instr.findNow, same_byt, decide_eq_false q]; exact h1
      · rw [h2, List.find?_cons_of_neg]
        simp only [beq_iff_eq]; exact fun h => q h.symm
theorem wlookupB {P : Program} {e : Env} {A : AH} {x y : Operand} {t kt et : TypeId} {ty : TypeId} {ps : String} {af : Array Edge} {dst : Option Nat} {K : Value → AH → Prop} {Kp : List PanicEntry → AH → Prop} {g : Option (Nat × Bool)} {m clock : Nat} {rw : Bool} {es : Array MapEntry} {pf : List (List UInt8)} {p q : List UInt8} {c : UInt8}
    (hx : opd e x = some (.map (some m))) (hy : opd e y = some (byt c)) (hu : P.underlying t = some (.map kt et)) (hk : P.underlying kt = some (.int .u8)) (hz : zeroOf P et = some (num 0)) (hg : A.get m = some (.obj rw (.map es clock))) (hE : Ents pf p es) (hq : p ++ [c] = q)
    (h1 : q ∈ pf → K (.tuple #[num ((pf.idxOf q : Nat) : Int), .bool true]) A) (h2 : ¬ q ∈ pf → K (.tuple #[num ((0 : Nat) : Int), .bool false]) A) : opV P e A { dst := dst, op := .lookup t x y true, type := ty, pos := ps, after := af, guard := g } K Kp := by
  subst hq
  obtain ⟨l, hl, hf⟩ := hE
  obtain ⟨r, g1, g2⟩ := find_key c l 0
  refine ⟨_, _, hx, hy, kt, et, .int .u8, num 0, es, r, hu, hk, rfl, hz, .inr ⟨m, rw, clock, rfl, hg⟩, by rw [hl]; exact g1, ?_⟩
  have hf := hf c
  by_cases hp : p ++ [c] ∈ pf
  · rw [if_pos hp] at hf
    cases hfind : l.find? fun x => x.1 == c with
    | none => rw [hfind] at hf; cases hf
    | some z =>
      rw [hfind] at hf g2
      simp only [Option.map_some, Option.some.injEq] at hf g2
      cases r with
      | none => cases g2
      | some w =>
        simp only [Option.map_some, Option.some.injEq] at g2
        have := h1 hp
        rw [← hf] at this
        obtain ⟨w1, w2⟩ := w
        simp only at g2
        subst g2
        exact this
  · rw [if_neg hp] at hf
    cases hfind : l.find? fun x => x.1 == c with
    | some z => rw [hfind] at hf; cases hf
    | none =>
      rw [hfind] at g2
      cases r with
      | some w => cases g2
      | none => exact h2 hp

/-! ### Replacing -/
/-- Letters are put onto a reduced word; how short it has been. -/
def putF (t : List UInt8 × Nat) (w : List UInt8) : List UInt8 × Nat := w.foldl (fun t c => (push t.1 c, min t.2 (push t.1 c).length)) t
def repN (l : List UInt8) (p : Nat) (x : Rot) : Nat := cmn (l.drop p) x.w
def repl (l : List UInt8) (p : Nat) (x : Rot) : List UInt8 × Nat := putF (putF (l.take p, p) (wInverse (x.w.drop (repN l p x)))) (l.drop (p + repN l p x))
def repC (l : List UInt8) (p : Nat) (x : Rot) : DCell := ⟨wReduce (l.take p ++ x.c), ((x.r : Nat) : Int), x.i⟩
def drun (L : List Rot) (most : Nat) : Nat → List UInt8 → List DCell → Nat → List UInt8 × List DCell
  | 0, l, d, _ => (l, d)
  | f + 1, l, d, p => if p < l.length then
      (if 0 ≤ (longF L (l.drop p)).1 then drun L most f (repl l p (L.getD (longF L (l.drop p)).1.toNat .zero)).1 (d ++ [repC l p (L.getD (longF L (l.drop p)).1.toNat .zero)]) ((repl l p (L.getD (longF L (l.drop p)).1.toNat .zero)).2 - most)
       else drun L most f l d (p + 1))
    else (l, d)
theorem at_none {l : List UInt8} {p i : Nat} (h : l.length ≤ p + i) : (l.drop p).getD i 0 = 0 ∧ decide (i < (l.drop p).length) = false := by
  refine ⟨?_, decide_eq_false (by rw [List.length_drop]; omega)⟩
  rw [List.getD_eq_getElem?_getD, List.getElem?_drop, List.getElem?_eq_none (by omega)]; rfl
theorem at_some {l : List UInt8} {p i : Nat} (h : ¬ l.length ≤ p + i) : (l.drop p).getD i 0 = l.getD (p + i) 0 ∧ decide (i < (l.drop p).length) = true := by
  refine ⟨?_, decide_eq_true (by rw [List.length_drop]; omega)⟩
  rw [List.getD_eq_getElem?_getD, List.getElem?_drop, List.getD_eq_getElem?_getD]
theorem letter_of {w : List UInt8} {k : Nat} (h : k < w.length) : (w.take (k + 1)).drop k = [w.getD k 0] := by
  rw [← take_next h, List.drop_left' (by simp; omega)]
theorem putF_fst (w : List UInt8) : ∀ t : List UInt8 × Nat, (putF t w).1 = w.foldl push t.1 := by
  induction w with
  | nil => intro t; rfl
  | cons c w ih => intro t; exact ih _
theorem putF_step {w : List UInt8} {t R : List UInt8 × Nat} {k : Nat} (h : k < w.length) (e : putF t (w.drop k) = R) : putF (push t.1 (w.getD k 0), min t.2 (push t.1 (w.getD k 0)).length) (w.drop (k + 1)) = R := by
  rw [drop_cons h] at e; exact e
theorem putF_end {w : List UInt8} {t R : List UInt8 × Nat} {k : Nat} (h : w.length ≤ k) (e : putF t (w.drop k) = R) : R = t := by
  rw [drop_end h] at e; exact e.symm
theorem ifl_le {α : Type} (q : α → Bool) (l : List α) : -1 ≤ ifl q l ∧ ifl q l < l.length := by
  unfold ifl
  split
  · rename_i i h; rw [List.findIdx?_eq_some_iff_getElem] at h; obtain ⟨h, _⟩ := h; omega
  · omega
theorem longU_bound (l : List Rot) (s : List UInt8) (i : Nat) : -1 ≤ (longU l s i).1 ∧ (longU l s i).1 < l.length := by
  induction i with
  | zero => simp [longU]; omega
  | succ i ih =>
    have hb : -1 ≤ bestOf l (s.take (i + 1)) ∧ bestOf l (s.take (i + 1)) < l.length := ifl_le _ _
    rw [longU, longStep]
    generalize bestOf l (s.take (i + 1)) = b at hb ⊢
    split
    · split
      · exact hb
      · dsimp only; split <;> omega
    · exact ih
theorem longF_bound (l : List Rot) (s : List UInt8) : -1 ≤ (longF l s).1 ∧ (longF l s).1 < l.length := longU_bound l s _
theorem repN_go {l : List UInt8} {p n : Nat} {x : Rot} (h : n ≤ repN l p x) (hc : n < x.w.length ∧ p + n < l.length ∧ l.getD (p + n) 0 = x.w.getD n 0) : n + 1 ≤ repN l p x :=
  cmn_go h ⟨by rw [List.length_drop]; omega, hc.1, by rw [(at_some (l := l) (p := p) (i := n) (by omega)).1]; exact hc.2.2⟩
theorem repN_stop {l : List UInt8} {p n : Nat} {x : Rot} (h : n ≤ repN l p x) (hc : ¬ (n < x.w.length ∧ p + n < l.length ∧ l.getD (p + n) 0 = x.w.getD n 0)) : n = repN l p x :=
  cmn_stop h fun q => hc ⟨q.2.1, by have := q.1; rw [List.length_drop] at this; omega, by rw [← (at_some (l := l) (p := p) (i := n) (by have := q.1; rw [List.length_drop] at this; omega)).1]; exact q.2.2⟩
theorem repN_le (l : List UInt8) (p : Nat) (x : Rot) : repN l p x ≤ l.length - p ∧ repN l p x ≤ x.w.length := by
  have := cmn_le (l.drop p) x.w
  rw [List.length_drop] at this; exact this
theorem putF_len (t : List UInt8 × Nat) (w : List UInt8) : (putF t w).1.length ≤ t.1.length + w.length := by rw [putF_fst]; exact foldl_push_length w t.1
theorem repl_len (l : List UInt8) (p : Nat) (x : Rot) : (repl l p x).1.length + repN l p x ≤ min p l.length + (x.w.length - repN l p x) + (l.length - p) := by
  have h1 := putF_len (putF (l.take p, p) (wInverse (x.w.drop (repN l p x)))) (l.drop (p + repN l p x))
  have h2 := putF_len (l.take p, p) (wInverse (x.w.drop (repN l p x)))
  have h3 := wInverse_length (x.w.drop (repN l p x))
  have h4 := repN_le l p x
  simp only [List.length_drop, List.length_take] at h1 h2 h3
  unfold repl
  omega
/-- A prefix that is more than half of a word is one that is found. -/
theorem cmn_prefix : ∀ (s x : List UInt8) (k : Nat), k ≤ s.length → (s.take k <+: x ↔ k ≤ cmn s x)
  | s, x, 0, _ => by simp
  | [], x, k + 1, h => by simp at h
  | a :: s, [], k + 1, _ => by simp [cmn]
  | a :: s, b :: x, k + 1, h => by
    simp only [List.take_succ_cons, List.cons_prefix_cons, cmn]
    have := cmn_prefix s x k (by simpa using h)
    split
    · rename_i q; subst q; rw [this]; simp
    · rename_i q; simp [q]
theorem bestOf_spec {l : List Rot} {p : List UInt8} (h : 0 ≤ bestOf l p) : ∃ i, bestOf l p = ((i : Nat) : Int) ∧ i < l.length ∧ p <+: (l.getD i .zero).w ∧ (l.getD i .zero).w.length < 2 * p.length ∧ ∀ j, j < i → ¬ (p <+: (l.getD j .zero).w ∧ (l.getD j .zero).w.length < 2 * p.length) := by
  unfold bestOf ifl at h ⊢
  cases hf : l.findIdx? (fun x : Rot => p.isPrefixOf x.w && decide (x.w.length < 2 * p.length)) with
  | none => rw [hf] at h; simp at h
  | some i =>
    rw [List.findIdx?_eq_some_iff_getElem] at hf
    obtain ⟨hi, h1, h2⟩ := hf
    simp only [Bool.and_eq_true, List.isPrefixOf_iff_prefix, decide_eq_true_eq] at h1
    refine ⟨i, rfl, hi, by simpa [hi] using h1.1, by simpa [hi] using h1.2, fun j hj => ?_⟩
    have := h2 j hj
    have hjl : j < l.length := by omega
    simpa [hjl] using this
theorem bestOf_neg {l : List Rot} {p : List UInt8} (h : ¬ 0 ≤ bestOf l p) : ∀ x ∈ l, ¬ (p <+: x.w ∧ x.w.length < 2 * p.length) := by
  intro x hx q
  have : 0 ≤ bestOf l p := (ifl_any _ _).2 (List.any_eq_true.2 ⟨x, hx, by simp [q.1, q.2]⟩)
  exact h this
def partB (s x : List UInt8) : Bool := partOf s x
/-- What is found is the first word with a long part at the beginning. -/
theorem longU_spec (l : List Rot) (s : List UInt8) : ∀ n, n ≤ s.length →
    ((longU l s n).1 = -1 ∧ (longU l s n).2 = 0 ∧ ∀ k, 1 ≤ k → k ≤ n → ¬ 0 ≤ bestOf l (s.take k)) ∨
    (∃ i : Nat, (longU l s n).1 = i ∧ (∃ k, 1 ≤ k ∧ k ≤ n ∧ bestOf l (s.take k) = i) ∧ (∀ k, 1 ≤ k → k ≤ n → 0 ≤ bestOf l (s.take k) → (i : Int) ≤ bestOf l (s.take k)) ∧
      1 ≤ (longU l s n).2 ∧ (longU l s n).2 ≤ n ∧ 0 ≤ bestOf l (s.take (longU l s n).2) ∧ ∀ k, 1 ≤ k → k < (longU l s n).2 → ¬ 0 ≤ bestOf l (s.take k)) := by
  intro n
  induction n with
  | zero => intro _; left; exact ⟨rfl, rfl, fun k h1 h2 => by omega⟩
  | succ n ih =>
    intro hn
    have ih := ih (by omega)
    rw [longU, longStep]
    by_cases hb : 0 ≤ bestOf l (s.take (n + 1))
    · simp only [hb, if_true]
      rcases ih with ⟨h1, h2, h3⟩ | ⟨i, h1, h2, h3, h4, h5, h6, h7⟩
      · rw [h1, if_pos (by decide)]
        right
        obtain ⟨i, e, _⟩ := bestOf_spec hb
        refine ⟨i, e, ⟨n + 1, by omega, by omega, e⟩, fun k k1 k2 k3 => ?_, by simp, by simp, hb, fun k k1 k2 => h3 k k1 (by simp at k2; omega)⟩
        rcases Nat.lt_or_eq_of_le k2 with q | q
        · exact absurd k3 (h3 k k1 (by omega))
        · rw [q]; omega
      · rw [if_neg (by omega)]
        right
        obtain ⟨j, e, _⟩ := bestOf_spec hb
        by_cases hlt : bestOf l (s.take (n + 1)) < (longU l s n).1
        · refine ⟨j, by show (if _ then _ else _) = _; rw [if_pos hlt]; exact e, ⟨n + 1, by omega, by omega, e⟩, fun k k1 k2 k3 => ?_, h4, by simp only; omega, h6, h7⟩
          rcases Nat.lt_or_eq_of_le k2 with q | q
          · have := h3 k k1 (by omega) k3; omega
          · rw [q]; omega
        · refine ⟨i, by show (if _ then _ else _) = _; rw [if_neg hlt]; exact h1, ?_, fun k k1 k2 k3 => ?_, h4, by simp only; omega, h6, h7⟩
          · obtain ⟨k, k1, k2, k3⟩ := h2; exact ⟨k, k1, by omega, k3⟩
          · rcases Nat.lt_or_eq_of_le k2 with q | q
            · exact h3 k k1 (by omega) k3
            · rw [q]; omega
    · simp only [hb, if_false]
      rcases ih with ⟨h1, h2, h3⟩ | ⟨i, h1, h2, h3, h4, h5, h6, h7⟩
      · left
        refine ⟨h1, h2, fun k k1 k2 => ?_⟩
        rcases Nat.lt_or_eq_of_le k2 with q | q
        · exact h3 k k1 (by omega)
        · rw [q]; exact hb
      · right
        refine ⟨i, h1, ?_, fun k k1 k2 k3 => ?_, h4, by omega, h6, h7⟩
        · obtain ⟨k, k1, k2, k3⟩ := h2; exact ⟨k, k1, by omega, k3⟩
        · rcases Nat.lt_or_eq_of_le k2 with q | q
          · exact h3 k k1 (by omega) k3
          · rw [q] at k3; exact absurd k3 hb
theorem longF_neg {l : List Rot} {s : List UInt8} (h : ¬ 0 ≤ (longF l s).1) : ∀ x ∈ l, ¬ x.w.length < 2 * cmn s x.w := by
  rcases longU_spec l s s.length (Nat.le_refl _) with ⟨h1, h2, h3⟩ | ⟨i, h1, _⟩
  · intro x hx q
    have hc := cmn_le s x.w
    exact bestOf_neg (h3 (cmn s x.w) (by omega) hc.1) x hx ⟨(cmn_prefix s x.w _ hc.1).2 (Nat.le_refl _), by rw [List.length_take, Nat.min_eq_left hc.1]; exact q⟩
  · exact absurd (show 0 ≤ (longF l s).1 by unfold longF; omega) h
theorem longF_pos {l : List Rot} {s : List UInt8} (h : 0 ≤ (longF l s).1) : (longF l s).1.toNat < l.length ∧ (l.getD (longF l s).1.toNat .zero).w.length < 2 * cmn s (l.getD (longF l s).1.toNat .zero).w ∧ ∀ j, j < (longF l s).1.toNat → ¬ (l.getD j .zero).w.length < 2 * cmn s (l.getD j .zero).w := by
  rcases longU_spec l s s.length (Nat.le_refl _) with ⟨h1, h2, h3⟩ | ⟨i, h1, ⟨k, k1, k2, k3⟩, h3, _⟩
  · unfold longF at h; omega
  · have e : (longF l s).1 = (i : Int) := h1
    rw [e, Int.toNat_natCast]
    obtain ⟨i', e', g1, g2, g3, g4⟩ := bestOf_spec (l := l) (p := s.take k) (by omega)
    have : i' = i := by omega
    subst this
    rw [List.length_take, Nat.min_eq_left k2] at g3
    have hk := (cmn_prefix s _ k k2).1 g2
    refine ⟨g1, by omega, fun j hj q => ?_⟩
    have hc := cmn_le s (l.getD j .zero).w
    have hjl : j < l.length := by omega
    have hb : 0 ≤ bestOf l (s.take (cmn s (l.getD j .zero).w)) := by
      refine (ifl_any _ _).2 (List.any_eq_true.2 ⟨_, getD_mem (d := .zero) hjl, ?_⟩)
      simp only [Bool.and_eq_true, List.isPrefixOf_iff_prefix, decide_eq_true_eq]
      exact ⟨(cmn_prefix s _ _ hc.1).2 (Nat.le_refl _), by rw [List.length_take, Nat.min_eq_left hc.1]; exact q⟩
    have h5 := h3 _ (by omega) hc.1 hb
    obtain ⟨i2, e2, q1, q2, q3, q4⟩ := bestOf_spec hb
    have : i2 ≤ j := by
      rcases Nat.lt_or_ge j i2 with z | z
      · exact absurd ⟨(cmn_prefix s _ _ hc.1).2 (Nat.le_refl _), by rw [List.length_take, Nat.min_eq_left hc.1]; exact q⟩ (q4 j z)
      · exact z
    omega
theorem drun_go {L : List Rot} {m f p : Nat} {l : List UInt8} {d : List DCell} {R : List UInt8 × List DCell} (hf : 0 < f) (hp : p < l.length) (h : 0 ≤ (longF L (l.drop p)).1) (e : drun L m f l d p = R) :
    drun L m (f - 1) (repl l p (L.getD (longF L (l.drop p)).1.toNat .zero)).1 (d ++ [repC l p (L.getD (longF L (l.drop p)).1.toNat .zero)]) ((repl l p (L.getD (longF L (l.drop p)).1.toNat .zero)).2 - m) = R := by
  cases f with
  | zero => omega
  | succ f => rw [drun, if_pos hp, if_pos h] at e; exact e
theorem drun_no {L : List Rot} {m f p : Nat} {l : List UInt8} {d : List DCell} {R : List UInt8 × List DCell} (hf : 0 < f) (hp : p < l.length) (h : ¬ 0 ≤ (longF L (l.drop p)).1) (e : drun L m f l d p = R) : drun L m (f - 1) l d (p + 1) = R := by
  cases f with
  | zero => omega
  | succ f => rw [drun, if_pos hp, if_neg h] at e; exact e
theorem drun_end {L : List Rot} {m f p : Nat} {l : List UInt8} {d : List DCell} {R : List UInt8 × List DCell} (hp : ¬ p < l.length) (e : drun L m f l d p = R) : R = (l, d) := by
  cases f with
  | zero => exact e.symm
  | succ f => rw [drun, if_neg hp] at e; exact e.symm
theorem repl_lt {L : List Rot} {l : List UInt8} {p : Nat} (hp : p < l.length) (h : 0 ≤ (longF L (l.drop p)).1) : (repl l p (L.getD (longF L (l.drop p)).1.toNat .zero)).1.length < l.length := by
  have h1 := longF_pos h
  have h2 := repl_len l p (L.getD (longF L (l.drop p)).1.toNat .zero)
  have h3 := repN_le l p (L.getD (longF L (l.drop p)).1.toNat .zero)
  have h4 : (L.getD (longF L (l.drop p)).1.toNat .zero).w.length < 2 * repN l p (L.getD (longF L (l.drop p)).1.toNat .zero) := h1.2.1
  omega
theorem putF_snd (w : List UInt8) : ∀ t : List UInt8 × Nat, (putF t w).2 ≤ t.2 := by
  induction w with
  | nil => intro t; exact Nat.le_refl _
  | cons c w ih => intro t; exact Nat.le_trans (ih _) (Nat.min_le_left _ _)
theorem repl_low (l : List UInt8) (p : Nat) (x : Rot) : (repl l p x).2 ≤ p := Nat.le_trans (putF_snd _ _) (putF_snd _ _)
def fuel (n : Nat) : Nat := 100001 * n + n + 1
def dsh (S : RS) (w : List UInt8) : List UInt8 × List DCell := drun S.list S.most (fuel (red w).length) (red w) [] 0
end Go.Proofs.YtaccklloepfemaaDoor

namespace Go.Proofs.YtaccklloepfemaaDoor
open Go Go.RowKit V
set_option maxRecDepth 100000
set_option linter.unusedVariables false
set_option linter.unusedSimpArgs false
theorem ag38 : aggOf Tryd.prog 38 = some false := by kernel_rfl
theorem ag82 : aggOf Tryd.prog 82 = some false := by kernel_rfl
theorem ag85 : aggOf Tryd.prog 85 = some false := by kernel_rfl
theorem ag95 : aggOf Tryd.prog 95 = some false := by kernel_rfl
theorem fl84_0 : fldOf Tryd.prog 84 0 = some (82, 0) := by kernel_rfl
theorem fl84_1 : fldOf Tryd.prog 84 1 = some (3, 1) := by kernel_rfl
theorem fl88_1 : fldOf Tryd.prog 88 1 = some (85, 1) := by kernel_rfl
theorem fl97_0 : fldOf Tryd.prog 97 0 = some (38, 0) := by kernel_rfl
theorem fl99_0 : fldOf Tryd.prog 99 0 = some (97, 0) := by kernel_rfl
theorem sz38 : szOf Tryd.prog 38 = some 1 := by kernel_rfl
theorem sz82 : szOf Tryd.prog 82 = some 1 := by kernel_rfl
theorem sz84 : szOf Tryd.prog 84 = some 2 := by kernel_rfl
theorem sz85 : szOf Tryd.prog 85 = some 1 := by kernel_rfl
theorem sz97 : szOf Tryd.prog 97 = some 1 := by kernel_rfl
theorem u82 : type_of% @Tryd.underlying82 := @Tryd.underlying82
theorem u85 : type_of% @Tryd.underlying85 := @Tryd.underlying85
theorem z3 : zeroOf Tryd.prog 3 = some (.int .i64 0) := by kernel_rfl

theorem s_long (br : Nat) (S : RS) (g : Nat) (caps : Array Value) (s : List UInt8) (A : AH) (hR : Rules A br S) (hS : RSok S) (hs : s.length ≤ 1000000000) (hf : ∀ (i : Nat) B, i ≤ s.length → A.le B → B.wf → RetA Tryd.prog g (#[] ++ #[num ((i : Nat) : Int)] ++ caps) B (fun v B1 => v = .tuple #[byt (s.getD i 0), .bool (decide (i < s.length))] ∧ B = B1)) : RetA Tryd.prog 62 #[.pointer (some ⟨br, 0, none⟩), .func (.func g) #[] caps] A (fun v A1 => v = .tuple #[num (longF S.list s).1, num (((longF S.list s).2 : Nat) : Int)] ∧ A = A1) := by
 refine enterA (e := [(0, .pointer (some ⟨br, 0, none⟩)), (1, .func (.func g) #[] caps)]) (args := [.pointer (some ⟨br, 0, none⟩), .func (.func g) #[] caps]) Tryd.call62 Tryd.func62 rfl Tryd.results62 Tryd.ntmps62 rfl rfl rfl (fun wf => ?_)
 have le_ := AH.le.refl A
 obtain ⟨rwr, capr, lsv, nv, bl, hbr, hls, hnv, hN⟩ := hR
 have hzl : (bl.zip S.best).length = S.pf.length := by rw [List.length_zip, hN.1, hN.2.1, Nat.min_self]
 refine Run.seq fun K1 h2 => .region <| .q rfl (qassign rfl) <| .q rfl (qassign rfl) <| .nil <| h2 _ _ <| .seq fun K3 h4 => .region <| .q rfl (qassign rfl) <| .nil ?_
 refine h4 _ _ <| .seq fun K5 h6 => .region <| .q rfl (qassign rfl) <| .nil <| h6 _ _ <| .seq fun K7 h8 => .region <| .q rfl (qassign rfl) <| .nil ?_
 refine h8 _ _ <| .block <| .loop (X := Int × Nat × Nat × Nat) (fun ⟨f, sh, nd, i⟩ => [(0, .pointer (some ⟨br, 0, none⟩)), (1, .func (.func g) #[] caps), (4, num (f)), (5, num ((sh : Nat) : Int)), (6, num ((nd : Nat) : Int)), (7, num ((i : Nat) : Int))]) (fun ⟨f, sh, nd, i⟩ B => (i ≤ s.length ∧ s.take i ∈ S.pf ∧ nd = S.pf.idxOf (s.take i) ∧ (f, sh) = longU S.list s i) ∧ A = B) (fun ⟨f, sh, nd, i⟩ => s.length - i) (⟨-1, 0, 0, 0⟩) (EnvLe.cons rfl <| EnvLe.cons rfl <| EnvLe.cons rfl <| EnvLe.cons rfl <| EnvLe.cons rfl <| EnvLe.cons rfl <| EnvLe.nil _) (⟨⟨Nat.zero_le _, (hS.mem _).2 (.inl rfl), (by have h := hS.root; cases hl : S.pf with | nil => (rw [hl] at h; exact absurd h.2 (Nat.lt_irrefl 0)) | cons a t => (rw [hl] at h; have h2 : a = [] := h.1; subst h2; simp)), rfl⟩, rfl⟩) ?_
 rintro ⟨f, sh, nd, i⟩ B10 ⟨⟨hi, hp, hq, hu⟩, rfl⟩
 have hnd : nd < S.pf.length := hq ▸ idxOf_lt hp
 refine Run.seq fun K11 h12 => .block <| .seq fun K13 h14 => .region <| .q rfl (qmove rfl) <| .q rfl (qmove rfl) <| .l rfl (fun _ _ hk15 _ => vcall rfl rfl (hf i A (by omega) le_ wf) ?_)
 rintro v16 A17 ⟨rfl, rfl⟩
 refine hk15 _ _ <| .q rfl (qmove rfl) <| .q rfl (qextract rfl rfl) <| .q rfl (qextract rfl rfl) <| .q rfl (qassign rfl) <| .q rfl (qassign rfl) <| .nil <| h14 _ _ <| .seq fun K19 h20 => .seq fun K21 h22 => ?_
 refine Run.region <| .q rfl (qmove rfl) <| .q rfl (qnotP rfl) <| .nil <| h22 _ _ <| .if rfl (fun p23 => ?_) (fun p23 => ?_)
 ·
  refine Run.seq fun K24 h25 => .region <| .q rfl (qmove rfl) <| .q rfl (qmove rfl) <| .q rfl (qassign rfl) <| .q rfl (qassign rfl) <| .nil <| h25 _ _ <| .ret ?_
  repeat first | with_reducible refine thenQ_ret ?_ | with_reducible refine blockQ_ret ?_
  exact retQ rfl (⟨by first | (rw [longF, show s.length = i by omega, ← hu]; rfl) | (rw [← longU_stop hS (by omega) hmem, ← hu]; rfl), rfl⟩)
 ·
  refine Run.skip <| h20 _ _ <| .seq fun K26 h27 => .seq fun K28 h29 => .region <| .q rfl (qmove rfl) <| .q rfl (qnil rfl) <| .q rfl (qfieldAddr fl88_1 sz85 (by decide) rfl) <| .q rfl (qloadAt ag85 rfl rfl (le_.get _ _ hbr) rfl) <| .q rfl (qmove rfl) ?_
  obtain ⟨b30, f30, rw30, r30, rc30, n30, k30, e30, l30, g30, cl30, cs30⟩ := Slc.at (i := nd) (hnv.le le_) (by simp only [ncells_length]; omega) (by omega)
  refine Ops.q rfl (qindexS u85 sz84 rfl e30 rfl l30) <| .q rfl (qfieldAddr fl84_0 sz82 (by decide) rfl) <| .q rfl (qloadAt ag82 rfl rfl g30 ((cs30 0 (by decide)).trans (ncells_f0 (by omega)))) <| .q rfl (qmove rfl) ?_
  obtain ⟨rwm, es, clk, hgm, hE⟩ := hN.2.2 nd hnd
  refine Ops.l rfl (fun _ _ hk31 _ => wlookupB (q := s.take (i + 1)) rfl rfl u82 u5 z3 (by rw [RSok.blk_at ⟨hN.1, hN.2.1⟩ hnd]; exact le_.get _ _ hgm) hE (by rw [hq, getD_idxOf hp]; exact take_next (by omega)) (fun hmem => ?_) (fun hmem => ?_))
  ·
   refine hk31 _ _ <| .q rfl (qmove rfl) <| .q rfl (qextract rfl rfl) <| .q rfl (qextract rfl rfl) <| .q rfl (qassign rfl) <| .q rfl (qassign rfl) <| .nil <| h29 _ _ <| .seq fun K32 h33 => .region ?_
   refine Ops.q rfl (qmove rfl) <| .q rfl (qnot rfl) <| .nil <| h33 _ _ <| .cond_false rfl <| .skip <| h27 _ _ <| .seq fun K34 h35 => .region <| .q rfl (qmove rfl) ?_
   refine Ops.q rfl (qnil rfl) <| .q rfl (qfieldAddr fl88_1 sz85 (by decide) rfl) <| .q rfl (qloadAt ag85 rfl rfl (le_.get _ _ hbr) rfl) <| .q rfl (qmove rfl) ?_
   obtain ⟨b36, f36, rw36, r36, rc36, n36, k36, e36, l36, g36, cl36, cs36⟩ := Slc.at (i := S.pf.idxOf (s.take (i + 1))) (hnv.le le_) (by simp only [ncells_length]; have := idxOf_lt hmem; omega) (by omega)
   refine Ops.q rfl (qindexS u85 sz84 rfl e36 rfl l36) <| .q rfl (qfieldAddr fl84_1 sz3 (by decide) rfl) <| .q rfl (qloadAt ag3 rfl rfl g36 (((cs36 1 (by decide)).trans (ncells_f1 (by have := idxOf_lt hmem; omega))).trans (congrArg (fun z => some (num z)) (hS.best_at ⟨hN.1, hN.2.1⟩ hmem)))) <| .q rfl (qassign rfl) <| .nil <| h35 _ _ <| .seq fun K37 h38 => .region <| .q rfl (qmove rfl) <| .q rfl (qgeq rfl rfl) ?_
   refine Ops.nil <| h38 _ _ <| .if rfl (fun p39 => ?_) (fun p39 => ?_)
   ·
    refine Run.seq fun K40 h41 => .seq fun K42 h43 => .region <| .q rfl (qmove rfl) <| .q rfl (qlss rfl rfl) <| .nil <| h43 _ _ <| .if rfl (fun p44 => ?_) (fun p44 => ?_)
    ·
     refine Run.region <| .q rfl (qmove rfl) <| .q rfl (qmove rfl) <| .q rfl (qaddN (b := 1) rfl rfl (by omega)) <| .q rfl (qassign rfl) <| .q rfl (qassign rfl) <| .nil <| h41 _ _ <| .region <| .q rfl (qmove rfl) ?_
     refine Ops.q rfl (qmove rfl) <| .q rfl (qmin rfl rfl) <| .q rfl (qassign rfl) <| .nil <| h12 _ _ <| .region <| .q rfl (qmove rfl) <| .q rfl (qaddN (b := 1) rfl rfl (by omega)) <| .q rfl (qassign rfl) <| .nil ?_
     exact ⟨⟨(if (bestOf S.list (s.take (i + 1))) < (bestOf S.list (s.take (i + 1))) then (bestOf S.list (s.take (i + 1))) else (bestOf S.list (s.take (i + 1)))), i + 1, S.pf.idxOf (s.take (i + 1)), i + 1⟩, EnvLe.cons rfl <| EnvLe.cons rfl <| EnvLe.cons rfl <| EnvLe.cons rfl <| EnvLe.cons rfl <| EnvLe.cons rfl <| EnvLe.nil _, rfl, ⟨⟨by omega, hmem, rfl, by rw [longU, ← hu]; simp only [longStep]; first | (rw [if_pos ‹0 ≤ bestOf _ _›, if_pos ‹f < 0›, if_neg (Int.lt_irrefl _)]) | (rw [if_pos ‹0 ≤ bestOf _ _›, if_neg ‹¬ f < 0›]) | (rw [if_neg ‹_›])⟩, rfl⟩, (by (try dsimp only); omega)⟩
    ·
     refine Run.skip <| h41 _ _ <| .region <| .q rfl (qmove rfl) <| .q rfl (qmove rfl) <| .q rfl (qmin rfl rfl) <| .q rfl (qassign rfl) <| .nil <| h12 _ _ <| .region ?_
     refine Ops.q rfl (qmove rfl) <| .q rfl (qaddN (b := 1) rfl rfl (by omega)) <| .q rfl (qassign rfl) <| .nil ?_
     exact ⟨⟨(if (bestOf S.list (s.take (i + 1))) < (f) then (bestOf S.list (s.take (i + 1))) else (f)), sh, S.pf.idxOf (s.take (i + 1)), i + 1⟩, EnvLe.cons rfl <| EnvLe.cons rfl <| EnvLe.cons rfl <| EnvLe.cons rfl <| EnvLe.cons rfl <| EnvLe.cons rfl <| EnvLe.nil _, rfl, ⟨⟨by omega, hmem, rfl, by rw [longU, ← hu]; simp only [longStep]; first | (rw [if_pos ‹0 ≤ bestOf _ _›, if_pos ‹f < 0›, if_neg (Int.lt_irrefl _)]) | (rw [if_pos ‹0 ≤ bestOf _ _›, if_neg ‹¬ f < 0›]) | (rw [if_neg ‹_›])⟩, rfl⟩, (by (try dsimp only); omega)⟩
   ·
    refine Run.skip <| h12 _ _ <| .region <| .q rfl (qmove rfl) <| .q rfl (qaddN (b := 1) rfl rfl (by omega)) <| .q rfl (qassign rfl) <| .nil ?_
    exact ⟨⟨(f), sh, S.pf.idxOf (s.take (i + 1)), i + 1⟩, EnvLe.cons rfl <| EnvLe.cons rfl <| EnvLe.cons rfl <| EnvLe.cons rfl <| EnvLe.cons rfl <| EnvLe.cons rfl <| EnvLe.nil _, rfl, ⟨⟨by omega, hmem, rfl, by rw [longU, ← hu]; simp only [longStep]; first | (rw [if_pos ‹0 ≤ bestOf _ _›, if_pos ‹f < 0›, if_neg (Int.lt_irrefl _)]) | (rw [if_pos ‹0 ≤ bestOf _ _›, if_neg ‹¬ f < 0›]) | (rw [if_neg ‹_›])⟩, rfl⟩, (by (try dsimp only); omega)⟩
  ·
   refine hk31 _ _ <| .q rfl (qmove rfl) <| .q rfl (qextract rfl rfl) <| .q rfl (qextract rfl rfl) <| .q rfl (qassign rfl) <| .q rfl (qassign rfl) <| .nil <| h29 _ _ <| .seq fun K45 h46 => .region ?_
   refine Ops.q rfl (qmove rfl) <| .q rfl (qnot rfl) <| .nil <| h46 _ _ <| .cond_true rfl <| .seq fun K47 h48 => .region <| .q rfl (qmove rfl) <| .q rfl (qmove rfl) <| .q rfl (qassign rfl) ?_
   refine Ops.q rfl (qassign rfl) <| .nil <| h48 _ _ <| .ret ?_
   repeat first | with_reducible refine thenQ_ret ?_ | with_reducible refine blockQ_ret ?_
   exact retQ rfl (⟨by first | (rw [longF, show s.length = i by omega, ← hu]; rfl) | (rw [← longU_stop hS (by omega) hmem, ← hu]; rfl), rfl⟩)

theorem s_at1 (i p : Nat) (l : List UInt8) (lv rv dv : Value) (b0 b1 b2 cap cap1 cap2 : Nat) (rw rw1 rw2 : Bool) (A : AH) (hi : p + i ≤ 1000000000) (gb1 : A.get b1 = some (.row rw1 [num ((p : Nat) : Int)] cap1)) (gb2 : A.get b2 = some (.row rw2 [.pointer (some ⟨b0, 0, none⟩)] cap2)) (gb0 : A.get b0 = some (.row rw [lv, rv, dv] cap)) (gl : Slc A 1 lv (byteCells l)) : RetA Tryd.prog 96 #[num ((i : Nat) : Int), .pointer (some ⟨b1, 0, none⟩), .pointer (some ⟨b2, 0, none⟩)] A (fun v A1 => v = .tuple #[byt ((l.drop p).getD i 0), .bool (decide (i < (l.drop p).length))] ∧ A = A1) := by
 refine enterA (e := [(0, num ((i : Nat) : Int)), (1, .pointer (some ⟨b1, 0, none⟩)), (2, .pointer (some ⟨b2, 0, none⟩))]) (args := [num ((i : Nat) : Int), .pointer (some ⟨b1, 0, none⟩), .pointer (some ⟨b2, 0, none⟩)]) Tryd.call96 Tryd.func96 rfl Tryd.results96 Tryd.ntmps96 rfl rfl rfl (fun wf => ?_)
 have le_ := AH.le.refl A
 refine Run.seq fun K1 h2 => .region <| .q rfl (qassign rfl) <| .q rfl (qassign rfl) <| .nil <| h2 _ _ <| .seq fun K3 h4 => .seq fun K5 h6 => .drawn [0, 1, 2, 3, 4, 5, 6, 7, 8, 9] mixed (by kernel_rfl) (by kernel_rfl) rfl <| .q rfl rfl rfl (qloadAt ag3 rfl rfl (le_.get _ _ gb1) rfl) ?_
 refine DOps.q rfl rfl rfl (qmove rfl) <| .q rfl rfl rfl (qaddN rfl rfl (by omega)) <| .q rfl rfl rfl (qloadAt ag95 rfl rfl (le_.get _ _ gb2) rfl) <| .q rfl rfl rfl (qnil rfl) <| .q rfl rfl rfl (qfieldAddr fl99_0 sz97 (by decide) rfl) <| .q rfl rfl rfl (qfieldAddr fl97_0 sz38 (by decide) rfl) <| .q rfl rfl rfl (qloadAt ag38 rfl rfl (le_.get _ _ gb0) rfl) <| .q rfl rfl rfl (qlenS (n := l.length) u38 rfl (gl.le le_) (by omega) (bytes_len _)) <| .q rfl rfl rfl (qgeqN rfl rfl) <| .done ?_
 refine h6 _ _ <| .if rfl (fun p10 => ?_) (fun p10 => ?_)
 ·
  refine Run.seq fun K11 h12 => .region <| .q rfl (qassign rfl) <| .q rfl (qassign rfl) <| .nil <| h12 _ _ <| .ret ?_
  repeat first | with_reducible refine thenQ_ret ?_ | with_reducible refine blockQ_ret ?_
  exact retQ rfl (⟨by first | (rw [(at_none (l := l) (p := p) (i := i) (by omega)).1, (at_none (l := l) (p := p) (i := i) (by omega)).2]; rfl) | (rw [(at_some (l := l) (p := p) (i := i) (by omega)).1, (at_some (l := l) (p := p) (i := i) (by omega)).2]; rfl), rfl⟩)
 ·
  refine Run.skip <| h4 _ _ <| .seq fun K13 h14 => .drawn [0, 1, 2, 3, 4, 5, 6, 7, 8, 9, 10, 11] mixed (by kernel_rfl) (by kernel_rfl) rfl <| .q rfl rfl rfl (qloadAt ag95 rfl rfl (le_.get _ _ gb2) rfl) <| .q rfl rfl rfl (qnil rfl) <| .q rfl rfl rfl (qfieldAddr fl99_0 sz97 (by decide) rfl) <| .q rfl rfl rfl (qfieldAddr fl97_0 sz38 (by decide) rfl) <| .q rfl rfl rfl (qloadAt ag38 rfl rfl (le_.get _ _ gb0) rfl) <| .q rfl rfl rfl (qloadAt ag3 rfl rfl (le_.get _ _ gb1) rfl) ?_
  refine DOps.q rfl rfl rfl (qmove rfl) <| .q rfl rfl rfl (qaddN rfl rfl (by omega)) ?_
  obtain ⟨b18, f18, rw18, r18, rc18, n18, k18, e18, l18, g18, cl18, cs18⟩ := Slc.at (i := p + i) (gl.le le_) (by simp only [bytes_length]; omega) (by omega)
  refine DOps.q rfl rfl rfl (qindexS u38 sz5 rfl e18 rfl l18) <| .q rfl rfl rfl (qloadAt ag5 rfl rfl g18 ((elt0 cs18).trans (bytes_get (by omega)))) <| .q rfl rfl rfl (qassign rfl) <| .q rfl rfl rfl (qassign rfl) <| .done <| h14 _ _ <| .ret ?_
  repeat first | with_reducible refine thenQ_ret ?_ | with_reducible refine blockQ_ret ?_
  exact retQ rfl (⟨by first | (rw [(at_none (l := l) (p := p) (i := i) (by omega)).1, (at_none (l := l) (p := p) (i := i) (by omega)).2]; rfl) | (rw [(at_some (l := l) (p := p) (i := i) (by omega)).1, (at_some (l := l) (p := p) (i := i) (by omega)).2]; rfl), rfl⟩)

theorem s_push (w l : List UInt8) (lv rv dv : Value) (b0 : Nat) (A0 A : AH) (le_ : A0.le A) (wf0 : A0.wf) (hb : A.get b0 = some (.row true [lv, rv, dv] 3)) (no0 : A0.get b0 = none) (fr : Fresh A0 A lv 1 (byteCells l)) (ne0 : blk lv ≠ some b0) (hw : w.length ≤ 1000000) (hl : l.length ≤ 1000000000) : RetA Tryd.prog 55 #[.pointer (some ⟨b0, 0, none⟩), str (w)] A (fun v A1 => ∃ lv2, v = .tuple #[] ∧ A0.le A1 ∧ A1.wf ∧ A1.get b0 = some (.row true [lv2, rv, dv] 3) ∧ Fresh A0 A1 lv2 1 (byteCells (w.foldl push l)) ∧ blk lv2 ≠ some b0) := by
 refine enterA (e := [(0, .pointer (some ⟨b0, 0, none⟩)), (1, str (w))]) (args := [.pointer (some ⟨b0, 0, none⟩), str (w)]) Tryd.call55 Tryd.func55 rfl Tryd.results55 Tryd.ntmps55 rfl rfl rfl (fun wf => ?_)
 refine Run.seq fun K1 h2 => .region <| .q rfl (qmove rfl) <| .q rfl (qslen u9 rfl) <| .q rfl (qmove rfl) <| .nil <| h2 _ _ <| .block <| .loop (X := Nat × List UInt8 × Value) (fun ⟨k, x, s⟩ => [(0, .pointer (some ⟨b0, 0, none⟩)), (1, str (w)), (7, num ((w.length : Nat) : Int)), (8, num ((k : Nat) : Int))]) (fun ⟨k, x, s⟩ B => (k ≤ w.length ∧ (w.drop k).foldl push x = w.foldl push l ∧ x.length ≤ l.length + k) ∧ A0.le B ∧ Fresh A0 B s 1 (byteCells x) ∧ B.get b0 = some (.row true [s, rv, dv] 3) ∧ V.blk s ≠ some b0) (fun ⟨k, x, s⟩ => w.length - k) (⟨0, l, lv⟩) (EnvLe.cons rfl <| EnvLe.cons rfl <| EnvLe.cons rfl <| EnvLe.cons rfl <| EnvLe.nil _) (⟨⟨Nat.zero_le _, rfl, Nat.le_refl _⟩, le_, fr, hb, ne0⟩) ?_
 rintro ⟨k, x, s⟩ B4 ⟨⟨hk, ha3, ha4⟩, le3, fr_s3, hr_b03, no_s_b03⟩
 refine Run.wf fun wf5 => .seq fun K6 h7 => .region <| .q rfl (qlssN rfl rfl) <| .nil <| h7 _ _ <| .seq fun K8 h9 => .if rfl (fun p10 => ?_) (fun p10 => ?_)
 ·
  refine Run.skip <| h9 _ _ <| .seq fun K11 h12 => .block <| .seq fun K13 h14 => .region <| .q rfl (qmove rfl) <| .q rfl (qassign rfl) <| .nil <| h14 _ _ ?_
  refine Run.seq fun K15 h16 => .region <| .q rfl (qmove rfl) <| .q rfl (qnil rfl) <| .q rfl (qfieldAddr fl97_0 sz38 (by decide) rfl) <| .q rfl (qloadAt ag38 rfl rfl hr_b03 rfl) <| .q rfl (qlenS (n := x.length) u38 rfl fr_s3.slc (by omega) (bytes_len _)) <| .q rfl (qassign rfl) <| .nil <| h16 _ _ ?_
  refine Run.join (fun f A1 => EnvLe [(32, .bool (decide (0 < x.length ∧ x.getD (x.length - 1) 0 = w.getD k 0 ^^^ 32))), (0, .pointer (some ⟨b0, 0, none⟩)), (1, str (w)), (7, num ((w.length : Nat) : Int)), (8, num ((k : Nat) : Int)), (9, .bool (decide (k < w.length))), (10, num ((k : Nat) : Int)), (4, num ((k : Nat) : Int)), (11, .pointer (some ⟨b0, 0, none⟩)), (12, .pointer (some ⟨b0, 0, none⟩)), (13, .pointer (some ⟨b0, 0, none⟩)), (14, s), (15, num ((x.length : Nat) : Int)), (5, num ((x.length : Nat) : Int))] f.e ∧ f.ds = [] ∧ B4 = A1) ?_ ?_
  ·
   refine Run.drawn [0, 1, 2, 3, 4, 5, 6, 7, 8, 9, 10, 11, 12, 13, 14, 15, 16] mixed (by kernel_rfl) (by kernel_rfl) rfl <| .q rfl rfl rfl (qmove rfl) <| .q rfl rfl rfl (qgtrN (b := 0) rfl rfl) <| .q rfl rfl rfl (qmove rfl) <| .part (t := 18) rfl (fun p19 => ?_) (fun p19 => ?_)
   ·
    refine DOps.qOn rfl rfl rfl rfl rfl (qmove rfl) <| .qOn rfl rfl rfl rfl rfl (qnil rfl) <| .qOn rfl rfl rfl rfl rfl (qfieldAddr fl97_0 sz38 (by decide) rfl) <| .qOn rfl rfl rfl rfl rfl (qloadAt ag38 rfl rfl hr_b03 rfl) <| .qOn rfl rfl rfl rfl rfl (qmove rfl) <| .qOn rfl rfl rfl rfl rfl (qsubN (b := 1) rfl rfl (by omega)) ?_
    obtain ⟨b21, f21, rw21, r21, rc21, n21, k21, e21, l21, g21, cl21, cs21⟩ := Slc.at (i := x.length - 1) fr_s3.slc (by simp only [bytes_length]; omega) (by omega)
    refine DOps.qOn rfl rfl rfl rfl rfl (qindexS u38 sz5 rfl e21 rfl l21) <| .qOn rfl rfl rfl rfl rfl (qloadAt ag5 rfl rfl g21 ((elt0 cs21).trans (bytes_get (by omega)))) <| .qOn rfl rfl rfl rfl rfl (qmove rfl) <| .qOn rfl rfl rfl rfl rfl (qmove rfl) <| .qOn rfl rfl rfl rfl rfl (qsix u9 rfl rfl (by omega)) <| .qOn rfl rfl rfl rfl rfl (qxorB (d := 32) rfl rfl) <| .qOn rfl rfl rfl rfl rfl (qeqlB rfl rfl) <| .q rfl rfl rfl (qpickT rfl rfl) <| .done ?_
    exact ⟨EnvLe.cons (show some _ = some _ from congrArg (fun b => some (Value.bool b)) (show (decide ((x.getD (x.length - 1) 0) = ((w.getD k 0) ^^^ 32))) = decide (0 < x.length ∧ x.getD (x.length - 1) 0 = w.getD k 0 ^^^ 32) from (by first | rfl | simp only [‹0 < _›, true_and] | simp only [‹¬ 0 < _›, false_and, decide_false]))) <| EnvLe.cons rfl <| EnvLe.cons rfl <| EnvLe.cons rfl <| EnvLe.cons rfl <| EnvLe.cons rfl <| EnvLe.cons rfl <| EnvLe.cons rfl <| EnvLe.cons rfl <| EnvLe.cons rfl <| EnvLe.cons rfl <| EnvLe.cons rfl <| EnvLe.cons rfl <| EnvLe.cons rfl <| EnvLe.nil _, rfl, rfl⟩
   ·
    refine DOps.qOff rfl rfl rfl rfl rfl rfl <| .qOff rfl rfl rfl rfl rfl rfl <| .qOff rfl rfl rfl rfl rfl rfl <| .qOff rfl rfl rfl rfl rfl rfl <| .qOff rfl rfl rfl rfl rfl rfl <| .qOff rfl rfl rfl rfl rfl rfl <| .qOff rfl rfl rfl rfl rfl rfl <| .qOff rfl rfl rfl rfl rfl rfl <| .qOff rfl rfl rfl rfl rfl rfl <| .qOff rfl rfl rfl rfl rfl rfl ?_
    refine DOps.qOff rfl rfl rfl rfl rfl rfl <| .qOff rfl rfl rfl rfl rfl rfl <| .qOff rfl rfl rfl rfl rfl rfl <| .q rfl rfl rfl (qpickF rfl rfl) <| .done ?_
    exact ⟨EnvLe.cons (show some _ = some _ from congrArg (fun b => some (Value.bool b)) (show (false) = decide (0 < x.length ∧ x.getD (x.length - 1) 0 = w.getD k 0 ^^^ 32) from (by first | rfl | simp only [‹0 < _›, true_and] | simp only [‹¬ 0 < _›, false_and, decide_false]))) <| EnvLe.cons rfl <| EnvLe.cons rfl <| EnvLe.cons rfl <| EnvLe.cons rfl <| EnvLe.cons rfl <| EnvLe.cons rfl <| EnvLe.cons rfl <| EnvLe.cons rfl <| EnvLe.cons rfl <| EnvLe.cons rfl <| EnvLe.cons rfl <| EnvLe.cons rfl <| EnvLe.cons rfl <| EnvLe.nil _, rfl, rfl⟩
  ·
   rintro ⟨fe, fd⟩ _ ⟨hE, rfl, rfl⟩
   refine Run.forget hE <| .if rfl (fun p23 => ?_) (fun p23 => ?_)
   ·
    refine Run.region <| .q rfl (qmove rfl) <| .q rfl (qmove rfl) <| .q rfl (qnil rfl) <| .q rfl (qfieldAddr fl97_0 sz38 (by decide) rfl) <| .q rfl (qloadAt ag38 rfl rfl hr_b03 rfl) <| .q rfl (qmove rfl) <| .q rfl (qsubN (b := 1) rfl rfl (by omega)) ?_
    obtain ⟨b24, n24, c24, q24, m24, d24⟩ := fr_s3.nonnil (by intro q; have := congrArg List.length q; simp only [bytes_length, List.length_nil] at this; omega)
    subst q24
    rw [bytes_length, Nat.mul_one] at m24
    have fr25 := fr_s3.take (k := x.length - 1) (by omega)
    rw [Nat.mul_one, bytes_take] at fr25
    refine Ops.q rfl (qsliceHi u38 sz5 rfl rfl (by omega)) <| .q rfl (qnil rfl) <| .q rfl (qfieldAddr fl97_0 sz38 (by decide) rfl) <| .l rfl (fun _ _ hk26 _ => wstore (cs := [.slice (some ⟨b24, 0, none⟩) (x.length - 1) c24]) (c' := [.slice (some ⟨b24, 0, none⟩) (x.length - 1) c24, rv, dv]) wf5 rfl rfl rfl rfl sz38 hr_b03 (Nat.le_of_ble_eq_true rfl) rfl rfl fun A27 sb28 => ?_)
    have fr30 := fr25.keep sb28.keep no_s_b03
    have le31 := le_store le3 wf0 no0 sb28.n sb28.keep
    refine hk26 _ _ <| .nil <| h12 _ _ <| .region <| .q rfl (qaddN (b := 1) rfl rfl (by omega)) <| .q rfl (qmove rfl) <| .nil ?_
    exact ⟨⟨k + 1, x.take (x.length - 1), .slice (some ⟨b24, 0, none⟩) (x.length - 1) c24⟩, EnvLe.cons rfl <| EnvLe.cons rfl <| EnvLe.cons rfl <| EnvLe.cons rfl <| EnvLe.nil _, rfl, ⟨⟨by omega, by first | exact push_go (by assumption) ha3 ‹_› | exact push_no (by assumption) ha3 ‹_›, by simp only [List.length_append, List.length_take, List.length_cons, List.length_nil]; omega⟩, le31, fr30, sb28.get, no_s_b03⟩, (by (try dsimp only); omega)⟩
   ·
    refine Run.drawn [0, 1, 2, 3, 4, 5, 6, 7, 8, 9, 10, 11, 12] mixed (by kernel_rfl) (by kernel_rfl) rfl <| .q rfl rfl rfl (qmove rfl) <| .q rfl rfl rfl (qmove rfl) <| .q rfl rfl rfl (qnil rfl) <| .q rfl rfl rfl (qfieldAddr fl97_0 sz38 (by decide) rfl) ?_
    have hc32 := cellOf (off := 0) hr_b03 (show _ = some (s) from rfl)
    refine DOps.q rfl rfl rfl (qloadAt ag38 rfl rfl hr_b03 rfl) <| .q rfl rfl rfl (qmove rfl) <| .q rfl rfl rfl (qmove rfl) <| .q rfl rfl rfl (qsix u9 rfl rfl (by omega)) <| .l rfl rfl rfl (fun _ _ hk33 _ => wbuildSlice (c := [byt (w.getD k 0)]) wf5 rfl (buildSliceV_of u38 sz5 z5 rfl (by decide) (by decide) rfl) fun A35 b34 nb36 => ?_)
    have h38 := nb36.le.get _ _ hr_b03
    have fr39 := fr_s3.le nb36.le
    have hc40 := cell_le nb36.le hc32
    have le41 := le3.trans nb36.le
    refine hk33 _ _ (HeldNow.list (L := [(⟨b0, 0, none⟩, s)]) (by kernel_rfl) (heldCons hc40 heldNil)) <| .l rfl rfl rfl (fun _ _ hk42 _ => wappend (ys := [byt (w.getD k 0)]) rfl rfl u38 sz5 inf5 z5 rfl (by decide) u38 (fun _ h => by cases h) fr39.own (listOf_row (n := 1) nb36.get rfl) rfl rfl (by show (_ + _) * 1 ≤ _; simp only [bytes_length, List.length_cons, List.length_nil]; (try simp only [List.length_append, List.length_cons, List.length_nil]); omega) (by simp only [bytes_length, List.length_cons, List.length_nil]; (try simp only [List.length_append, List.length_cons, List.length_nil]); omega) fun A43 v44 ap45 => ?_)
    rw [show ([byt (w.getD k 0)] : List Value) = byteCells [w.getD k 0] from rfl, bytes_append] at ap45
    obtain ⟨fr48, le49⟩ := Fresh.grow fr39 le41 wf0 ap45
    have h50 := ap45.keep no_s_b03 h38
    have ne51 := ap45.ne no_s_b03 nb36.wf h38
    refine hk42 _ _ (HeldNow.none (by kernel_rfl)) <| .q rfl rfl rfl (qnil rfl) <| .q rfl rfl rfl (qfieldAddr fl97_0 sz38 (by decide) rfl) ?_
    obtain ⟨p54, l54, c54, q54, _⟩ := fr48.own.slice
    subst q54
    refine DOps.l rfl rfl rfl (fun _ _ hk53 _ => wstore (cs := [.slice p54 l54 c54]) (c' := [.slice p54 l54 c54, rv, dv]) ap45.wf rfl rfl rfl rfl sz38 h50 (Nat.le_of_ble_eq_true rfl) rfl rfl fun A55 sb56 => ?_)
    have fr57 := fr48.keep sb56.keep ne51
    have le58 := le_store le49 wf0 no0 sb56.n sb56.keep
    refine hk53 _ _ (HeldNow.none (by kernel_rfl)) <| .done <| h12 _ _ <| .region <| .q rfl (qaddN (b := 1) rfl rfl (by omega)) <| .q rfl (qmove rfl) <| .nil ?_
    exact ⟨⟨k + 1, x ++ [w.getD k 0], .slice p54 l54 c54⟩, EnvLe.cons rfl <| EnvLe.cons rfl <| EnvLe.cons rfl <| EnvLe.cons rfl <| EnvLe.nil _, rfl, ⟨⟨by omega, by first | exact push_go (by assumption) ha3 ‹_› | exact push_no (by assumption) ha3 ‹_›, by simp only [List.length_append, List.length_take, List.length_cons, List.length_nil]; omega⟩, le58, fr57, sb56.get, ne51⟩, (by (try dsimp only); omega)⟩
 ·
  refine Run.exit ?_
  repeat first | with_reducible refine thenQ_ret ?_ | with_reducible refine blockQ_ret ?_
  repeat first | with_reducible refine thenQ_exit ?_ | with_reducible refine blockQ_same ?_ | with_reducible refine blockQ_other (by decide) ?_ | with_reducible refine noGotoQ_exit ?_ | with_reducible refine noGotoQ_normal ?_
  exact retQn (vs := []) rfl (⟨_, rfl, le3, wf5, hr_b03, fresh_eq fr_s3 (congrArg byteCells (by rw [drop_end (by omega)] at ha3; exact ha3)), no_s_b03⟩)

theorem s_at (b0 p : Nat) (A : AH) : RetA Tryd.prog 73 #[.pointer (some ⟨b0, 0, none⟩), num ((p : Nat) : Int)] A (fun v A1 => ∃ b2 b1, v = .func (.func 96) #[] #[.pointer (some ⟨b1, 0, none⟩), .pointer (some ⟨b2, 0, none⟩)] ∧ A.le A1 ∧ A1.wf ∧ A1.get b1 = some (.row true [num ((p : Nat) : Int)] 1) ∧ A1.get b2 = some (.row true [.pointer (some ⟨b0, 0, none⟩)] 1)) := by
 refine enterA (e := [(0, .pointer (some ⟨b0, 0, none⟩)), (1, num ((p : Nat) : Int))]) (args := [.pointer (some ⟨b0, 0, none⟩), num ((p : Nat) : Int)]) Tryd.call73 Tryd.func73 rfl Tryd.results73 Tryd.ntmps73 rfl rfl rfl (fun wf => ?_)
 have le_ := AH.le.refl A
 refine Run.seq fun K1 h2 => .region <| .l rfl (fun _ _ hk3 _ => wbox wf rfl rfl fun A5 b4 nb6 => ?_)
 have le7 := le_.trans nb6.le
 refine hk3 _ _ <| .l rfl (fun _ _ hk8 _ => wbox nb6.wf rfl rfl fun A10 b9 nb11 => ?_)
 have h12 := nb11.le.get _ _ nb6.get
 have le13 := le7.trans nb11.le
 refine hk8 _ _ <| .q rfl (qassign rfl) <| .nil <| h2 _ _ <| .seq fun K14 h15 => .region <| .q rfl (qfunc rfl rfl) <| .q rfl (qassign rfl) <| .nil <| h15 _ _ ?_
 refine Run.ret ?_
 repeat first | with_reducible refine thenQ_ret ?_ | with_reducible refine blockQ_ret ?_
 exact retQ rfl (⟨_, _, rfl, le13, nb11.wf, nb11.get, h12⟩)
end Go.Proofs.YtaccklloepfemaaDoor
