/- Ranges over functions: code in a round's frame, calls of yield, the statement itself, and functions that leave with the marks of such loops. -/
import Derived.Test.YtaccklloepfemaaGreatDoorVMore
import Derived.RangeFuncSeq
import Derived.RangeFuncRecord
import Derived.TacticsIn
import Derived.OrdersIn
namespace Go.Proofs.YtaccklloepfemaaGreatDoor
set_option linter.unusedVariables false
set_option linter.unusedSimpArgs false
open Go Go.RowKit
namespace V

abbrev FR (l : Nat) : Fence := Fence.wide.inRound l
def okF (F : Fence) : Prop := F = Fence.wide ∨ ∃ l, F = FR l
theorem okF_wide : okF Fence.wide := .inl rfl
theorem okF_round (l : Nat) : okF (FR l) := .inr ⟨l, rfl⟩
def noDefer (o : Oper) : Bool := match o.op with | .defer _ => false | _ => true

section
variable {P : Program} {F : Fence} {n : Nat}
theorem calls_in (hF : okF F) {g : FuncId} {args : Array Value} {w : World} {R : Ending → World → Prop} (h : Calls P g args w R) : CallsIn F n P g args w R := by
  have := callsIn_wide (n := n).2 h
  rcases hF with rfl | ⟨l, rfl⟩
  · exact this
  · exact this
theorem rows_in (hF : okF F) {row : String} {args : Array Value} {w : World} {R : Value → World → Prop} (h : Rows P row args w R) : RowsIn F n P row args w R := fun c cs _ => by
  obtain ⟨v, w', r, s⟩ := h c cs
  have s' := stepsIn_wide.2 s
  rcases hF with rfl | ⟨l, rfl⟩
  · exact ⟨v, w', r, s'⟩
  · exact ⟨v, w', r, s'⟩
theorem okF_fn (hF : okF F) (f : FuncId) : F.fn f := by rcases hF with rfl | ⟨l, rfl⟩ <;> trivial
theorem okF_dep (hF : okF F) : F.depth.isSome = true → 1 ≤ n := by rcases hF with rfl | ⟨l, rfl⟩ <;> (intro q; cases q)
theorem okF_room (hF : okF F) (k : Nat) : F.room k := by rcases hF with rfl | ⟨l, rfl⟩ <;> exact room_wide _

theorem op_in (hF : okF F) {o : Oper} {a : Act} {w : World} {K : Act → World → Prop} {Q : Exit → Act → World → Prop} (hd : noDefer o = true) (h : o.wp P a w K Q) : o.wpIn F n P a w K Q := by
  have hs : o.semAt F.round a.eval = execOp a.eval o := Oper.semAt_eq _ _ _ (fun c hc => by simp [noDefer, hc] at hd)
  refine ⟨fun f _ => okF_fn hF f, ?_⟩
  rw [hs]
  unfold Oper.wp at h
  generalize (execOp a.eval o).run P w = r at h ⊢
  cases r with
  | ok x w' =>
    cases x <;> simp only [Oper.upon] at h <;> simp only [Oper.uponIn] <;>
      first | exact h | exact h.elim | exact ⟨okF_dep hF, calls_in hF h⟩ | exact ⟨okF_dep hF, rows_in hF h⟩
  | halt x w' => cases x <;> simp only [Oper.upon] at h <;> simp only [Oper.uponIn] <;> first | exact h | exact h.elim

theorem list_in (hF : okF F) {all : Array Oper} {Q : Exit → Act → World → Prop} (hQ : ¬ LetsOut Q) : ∀ (os : List Oper) (a : Act) (w : World), os.all noDefer = true → wpList P all Q os a w → wpListIn F n P all Q os a w
  | [], _, _, _, h => h
  | o :: os, a, w, hd, h => by
    simp only [List.all_cons, Bool.and_eq_true] at hd
    unfold wpList at h
    unfold wpListIn
    split
    · rename_i hw
      rw [if_pos hw] at h
      rcases h with h | ⟨_, h⟩
      · exact op_in hF hd.1 (Oper.wp_mono (fun a w => list_in hF hQ os a w hd.2) h)
      · exact absurd h hQ
    · rename_i hw
      rw [if_neg hw] at h
      exact ⟨fun f _ => okF_fn hF f, list_in hF hQ os _ w hd.2 h⟩

theorem any_in (hF : okF F) {ops : Array Oper} {Q : Exit → Act → World → Prop} (hQ : ¬ LetsOut Q) (hd : ops.toList.all noDefer = true) : ∀ (fuel : Nat) (l : Array Bool) (a : Act) (w : World), wpAny P .any ops Q fuel l a w → wpAnyIn F n P .any ops Q fuel l a w
  | 0, _, _, _, h => h
  | fuel + 1, l, a, w, h => ⟨h.1, fun i hi => by
      have h2 := h.2 i hi
      unfold wpOp at h2
      unfold wpOpIn
      split
      · rename_i q; simp only [q] at h2; exact any_in hF hQ hd fuel _ a w h2
      · rename_i o q
        simp only [q] at h2
        have ho : noDefer o = true := List.all_eq_true.1 hd o (by
          obtain ⟨hlt, e⟩ := Array.getElem?_eq_some_iff.1 q
          rw [← e]; exact Array.getElem_mem_toList hlt)
        split
        · rename_i hw
          rw [if_pos hw] at h2
          rcases h2 with h2 | ⟨_, h2⟩
          · exact op_in hF ho (Oper.wp_mono (fun a w => any_in hF hQ hd fuel _ a w) h2)
          · exact absurd h2 hQ
        · rename_i hw
          rw [if_neg hw] at h2
          exact ⟨fun f _ => okF_fn hF f, any_in hF hQ hd fuel _ _ w h2⟩⟩
end

/-! ### Code in a round's frame -/
def RunI (P : Program) (nt : Nat) (F : Fence) (c : Code) (Q : Exit → Fr → AH → Prop) (f : Fr) (A : AH) : Prop :=
  ∀ a w, ActOk nt f a → View A w → c.wpIn F 0 P (PostQ nt Q A w) a w
def noOut (Q : Exit → Fr → AH → Prop) : Prop := ∀ f A, ¬ Q .outgrown f A
theorem no_thenQ {K : Fr → AH → Prop} {Q : Exit → Fr → AH → Prop} (h : noOut Q) : noOut (thenQ K Q) := fun f A => h f A
theorem no_blockQ {i : Nat} {Q : Exit → Fr → AH → Prop} (h : noOut Q) : noOut (blockQ i Q) := fun f A => h f A
/-- A round that comes to its end. -/
def roundQ (R : Fr → AH → Prop) : Exit → Fr → AH → Prop
  | .normal, f, A => R f A
  | _, _, _ => False
theorem no_roundQ {R : Fr → AH → Prop} : noOut (roundQ R) := fun _ _ h => h
theorem noOut_post {nt : Nat} {Q : Exit → Fr → AH → Prop} (h : noOut Q) {A : AH} {w : World} : ¬ LetsOut (PostQ nt Q A w) := fun ⟨_, _, _, _, _, _, _, q, _⟩ => h _ _ q

section
variable {P : Program} {nt : Nat} {F : Fence} {Q : Exit → Fr → AH → Prop} {f : Fr} {A : AH} {e : Env} {ds : List Deferred}
theorem RunI.mono {c : Code} {Q' : Exit → Fr → AH → Prop} (h : RunI P nt F c Q f A) (k : ∀ x f A, Q x f A → Q' x f A) : RunI P nt F c Q' f A :=
  fun a w ha hw => wpIn_mono (h a w ha hw) fun _ _ _ ⟨f', A', h1, h2, h3, h4, h5⟩ => ⟨f', A', h1, h2, h3, k _ _ _ h4, h5⟩
theorem RunI.wf {c : Code} (h : A.wf → RunI P nt F c Q f A) : RunI P nt F c Q f A := fun a w ha hw => h hw.wf a w ha hw
theorem RunI.forget {c : Code} {e' : Env} (k : EnvLe e e') (h : RunI P nt F c Q ⟨e, ds⟩ A) : RunI P nt F c Q ⟨e', ds⟩ A :=
  fun a w ha hw => h a w (ha.le k) hw
theorem RunI.skip (h : Q .normal f A) : RunI P nt F .skip Q f A := fun _ _ ha hw => wpIn_skip (.self ha hw h fun _ q => by cases q)
theorem RunI.label {l : Nat} (h : Q .normal f A) : RunI P nt F (.label l) Q f A := fun _ _ ha hw => wpIn_label (.self ha hw h fun _ q => by cases q)
theorem RunI.exit {i : Nat} (h : Q (.exit i) f A) : RunI P nt F (.exit i) Q f A := fun _ _ ha hw => wpIn_exit (.self ha hw h fun _ q => by cases q)
theorem RunI.ret (h : Q .ret f A) : RunI P nt F .ret Q f A := fun _ _ ha hw => wpIn_ret (.self ha hw h fun _ q => by cases q)
theorem RunI.seq {x y : Code} (h : ∀ K : Fr → AH → Prop, (∀ f A, RunI P nt F y Q f A → K f A) → RunI P nt F x (thenQ K Q) f A) : RunI P nt F (x.seq y) Q f A := by
  intro a w ha hw
  refine wpIn_seq (wpIn_mono (h _ (fun _ _ h => h) a w ha hw) ?_)
  rintro e a' w' ⟨f', A', h1, h2, h3, h4, h5⟩
  cases e with
  | normal => exact wpIn_mono (h4 a' w' h1 h2) fun x a'' w'' g => g.step h3
  | _ => exact ⟨f', A', h1, h2, h3, h4, h5⟩
theorem RunI.cond {c : Operand} {x y : Code} {t : Bool} (hc : opd f.e c = some (.bool t)) (h1 : t = true → RunI P nt F x Q f A) (h2 : t = false → RunI P nt F y Q f A) :
    RunI P nt F (.cond c x y) Q f A := fun a w ha hw =>
  wpIn_cond_split (opd_eval ha hc) (fun e => h1 e a w ha hw) (fun e => h2 e a w ha hw)
theorem RunI.cond_true {c : Operand} {x y : Code} (hc : opd f.e c = some (.bool true)) (h1 : RunI P nt F x Q f A) : RunI P nt F (.cond c x y) Q f A :=
  RunI.cond hc (fun _ => h1) (fun e => by cases e)
theorem RunI.cond_false {c : Operand} {x y : Code} (hc : opd f.e c = some (.bool false)) (h1 : RunI P nt F y Q f A) : RunI P nt F (.cond c x y) Q f A :=
  RunI.cond hc (fun e => by cases e) (fun _ => h1)
theorem RunI.if {c : Operand} {x y : Code} {p : Prop} [Decidable p] (hc : opd e c = some (.bool (decide p))) (h1 : p → RunI P nt F x Q ⟨e, ds⟩ A) (h2 : ¬ p → RunI P nt F y Q ⟨e, ds⟩ A) : RunI P nt F (.cond c x y) Q ⟨e, ds⟩ A :=
  RunI.cond hc (fun h => h1 (of_decide_eq_true h)) (fun h => h2 (of_decide_eq_false h))
theorem RunI.ifB {c : Operand} {x y : Code} {b : Bool} (hc : opd e c = some (.bool b)) (h1 : b = true → RunI P nt F x Q ⟨e, ds⟩ A) (h2 : b = false → RunI P nt F y Q ⟨e, ds⟩ A) : RunI P nt F (.cond c x y) Q ⟨e, ds⟩ A := RunI.cond hc h1 h2
theorem RunI.block {i : Nat} {c : Code} (h : RunI P nt F c (blockQ i Q) f A) : RunI P nt F (.block i c) Q f A := fun a w ha hw => by
  refine wpIn_block (wpIn_mono (h a w ha hw) ?_)
  rintro e a' w' ⟨f', A', h1, h2, h3, h4, h5⟩
  cases e with
  | exit j =>
    simp only [Exit.inBlock, blockQ] at h4 ⊢
    split
    · rename_i q; rw [if_pos q] at h4; exact ⟨f', A', h1, h2, h3, h4, fun _ q => by cases q⟩
    · rename_i q; rw [if_neg q] at h4; exact ⟨f', A', h1, h2, h3, h4, h5⟩
  | _ => exact ⟨f', A', h1, h2, h3, h4, h5⟩
theorem RunI.region {id : Nat} {l : List Oper} (hF : okF F) (hQ : noOut Q) (hd : l.all noDefer = true) (h : Ops P nt l.toArray l Q f A) : RunI P nt F (.region id l.toArray false) Q f A :=
  fun a w ha hw => wpIn_region_lit (list_in hF (noOut_post hQ) l a w hd (h a w ha hw A w (.refl _ _)))
theorem RunI.drawn {id : Nat} {ops : Array Oper} (C : List Nat) (hF : okF F) (hQ : noOut Q) (hd : ops.toList.all noDefer = true) (hm : P.follows .mixedOrders = true) (hc : canon ops (Array.replicate ops.size false) C = true) (hn : Region.noSelect ops = true) (hl : C.length = ops.size)
    (h : DOps P nt ops Q (Array.replicate ops.size false) [] C f A) : RunI P nt F (.region id ops true) Q f A := by
  intro a w ha hw
  obtain ⟨v1, s1⟩ := view_drawn hw
  refine wpIn_region_any hm (any_in hF (noOut_post hQ) hd _ _ _ _ (wpAny_of_S (S := heldS ops []) _ _ _ _ ?_))
  have key := h hc hn a _ ha v1 (fun p hp => by cases hp) (fun j o _ hj => by
    exfalso
    rcases Nat.lt_or_ge j ops.size with q | q
    · simp [q] at hj
    · simp [q] at hj) A w s1
  rw [hl] at key
  exact key
theorem RunI.run {c : Code} (h : RunI P nt Fence.wide c Q f A) : Run P nt c Q f A := fun a w ha hw => wpIn_wide.1 (h a w ha hw)
theorem Run.into {c : Code} (h : Run P nt c Q f A) : RunI P nt Fence.wide c Q f A := fun a w ha hw => wpIn_wide.2 (h a w ha hw)
end

/-! ### Calls of yield -/
def YieldA (P : Program) (l : Nat) (args : Array Value) (A : AH) (R : Value → AH → Prop) : Prop :=
  ∀ w, View A w → YieldAt Fence.wide 0 P l args w fun e w' => ∃ A' v, e = .returned v ∧ View A' w' ∧ Step A w A' w' ∧ R v A'
/-- The operations still to come of a region in which yield is called. -/
def OpsI (P : Program) (nt : Nat) (all : Array Oper) (os : List Oper) (Q : Exit → Fr → AH → Prop) (f : Fr) (A : AH) : Prop :=
  ∀ a w, ActOk nt f a → View A w → ∀ (A₀ : AH) (w₀ : World), Step A₀ w₀ A w → wpListIn Fence.wide 0 P all (PostQ nt Q A₀ w₀) os a w
section
variable {P : Program} {nt : Nat} {all : Array Oper} {Q : Exit → Fr → AH → Prop} {f : Fr} {A : AH} {e : Env} {ds : List Deferred} {d t : Nat} {op : Op} {ty : TypeId} {ps : String} {af : Array Edge} {os : List Oper} {v : Value} {T : Held}
theorem OpsI.nil (h : Q .normal f A) : OpsI P nt all [] Q f A := fun _ _ ha hw _ _ hs => ⟨f, A, ha, hw, hs, h, fun _ q => by cases q⟩
theorem OpsI.q (hd : Nat.blt d nt = true) (hv : quietV P e A op = some (v, T)) (h : OpsI P nt all os Q ⟨(d, v) :: e, ds⟩ A) :
    OpsI P nt all ({ dst := some d, op := op, type := ty, pos := ps, after := af, guard := none } :: os) Q ⟨e, ds⟩ A := by
  intro a w ha hw A₀ w₀ hs
  have := quietV_sound (o := { dst := some d, op := op, type := ty, pos := ps, after := af, guard := none }) hv ha hw
  unfold wpListIn
  rw [if_pos (by simp [Region.wanted])]
  refine ⟨fun _ _ => trivial, ?_⟩
  rw [show Fence.wide.round = none from rfl, Oper.semAt_none, this.2 w this.1]
  exact h _ w (ha.put (some d) v (dstOk_spec hd)) hw A₀ w₀ hs
/-- A call of yield. -/
theorem OpsI.y {fo : Operand} {l : Nat} {vs : List Value} {R : Value → AH → Prop} {aa : Array Operand} {tt : Array TypeId} (hd : Nat.blt d nt = true) (hf : opd e fo = some (.func (.yield l) #[] #[])) (ha : allV (opd e) aa.toList = some vs)
    (hc : YieldA P l vs.toArray A R) (h : ∀ v A', R v A' → OpsI P nt all os Q ⟨(d, v) :: e, ds⟩ A') :
    OpsI P nt all ({ dst := some d, op := .call { callee := .value fo, args := aa, argTypes := tt }, type := ty, pos := ps, after := af, guard := none } :: os) Q ⟨e, ds⟩ A := by
  intro a w hact hw A₀ w₀ hs
  unfold wpListIn
  rw [if_pos (by simp [Region.wanted])]
  refine ⟨fun _ _ => trivial, ?_⟩
  have hev : ∀ x v, opd e x = some v → a.eval x = v := fun x v g => opd_eval hact g
  have hargs : aa.map a.eval = vs.toArray := by apply Array.ext'; simp [all_eval hev _ _ ha]
  obtain ⟨fn, tmps, assign, body, hy, hr⟩ := hc w hw
  have hx : (execOp a.eval { dst := some d, op := .call { callee := .value fo, args := aa, argTypes := tt }, type := ty, pos := ps, after := af, guard := none }).run P w = .ok (.round l fn tmps assign body) w := by
    simp [execOp, resolve, hev _ _ hf, hargs, Deferred.ofValue, invoke, hy]
  rw [show Fence.wide.round = none from rfl, Oper.semAt_none, hx]
  refine ⟨fun q => (by cases q), RoundIn.mono hr ?_⟩
  rintro en w' ⟨A', v, rfl, hv, hst, hR⟩
  exact h v A' hR _ w' (hact.put (some d) v (dstOk_spec hd)) hv A₀ w₀ (hs.trans hst)
theorem Run.regionI {id : Nat} {l : List Oper} (h : OpsI P nt l.toArray l Q f A) : Run P nt (.region id l.toArray false) Q f A :=
  fun a w ha hw => wpIn_wide.1 (wpIn_region_lit (h a w ha hw A w (.refl _ _)))
end

/-! ### The statement -/
def mark (D : Nat) : Deferred := { target := .collected D, args := #[] }
def roundE (ps : List Nat) (xs : List Value) (e : Env) : Env := (ps.zip xs).foldl (fun e p => (p.1, p.2) :: e) e
section
variable {P : Program} {nt : Nat} {Q : Exit → Fr → AH → Prop} {A : AH} {e : Env} {ds : List Deferred}
theorem roundE_ok : ∀ (l : List (Nat × Value)) (e : Env) (t : Array Value), (∀ p ∈ l, p.1 < nt) → ActOk nt ⟨e, []⟩ { tmps := t, defers := [] } →
    ActOk nt ⟨l.foldl (fun e p => (p.1, p.2) :: e) e, []⟩ { tmps := l.foldl (fun t p => t.setIfInBounds p.1 p.2) t, defers := [] }
  | [], _, _, _, h => h
  | p :: l, e, t, hp, h => roundE_ok l _ _ (fun q hq => hp q (List.mem_cons_of_mem _ hq)) (by
      have := h.put (some p.1) p.2 (fun t q => by cases q; exact hp p List.mem_cons_self)
      exact this)
theorem view_put (P : Program) {w : World} {b : Nat} {x y : Obj} (h : View A w) (g : A.get b = some (.obj true x)) (hy : ∀ c e f, y ≠ .cells c e f) : View (A.set b (.obj true y)) (w.putObj b y) ∧ Step A w (A.set b (.obj true y)) (w.putObj b y) := by
  obtain ⟨w', r, v1, s1⟩ := view_setObj (P := P) h g (y := y) hy
  obtain ⟨g1, g2⟩ := h.obj g
  have : (setObj b y).run P w = .ok () (w.putObj b y) := by simp [setObj, Sem.run, g1, World.putObj]
  rw [r] at this
  have e : w' = w.putObj b y := by injection this
  rw [← e]; exact ⟨v1, s1⟩
theorem Run.rangeFunc {g : Operand} {gf : Nat} {lb : Array Value} {ps : Array Tmp} {assign body : Code} (n : Nat) (xs : Nat → List Value) (I : Nat → AH → Prop) (e1 : Nat → Env)
    (hg : opd e g = some (.func (.func gf) #[] lb)) (eg : Enters P gf) (hps : ∀ i, (xs i).length = ps.size) (hpn : ∀ p ∈ ps.toList, p < nt)
    (hI : ∀ i B B', I i B → B'.wf → B.n ≤ B'.n → (∀ b o, b < A.n → B.get b = some o → B'.get b = some o) → I i B') (h0 : I 0 A)
    (hiter : ∀ l (J : Nat → AH → Prop) B, (∀ i C, J i C → I i C) → (∀ i C C', J i C → C.le C' → C'.wf → J i C') → B.wf → J 0 B →
      (∀ i C, i < n → C.wf → J i C → YieldA P l (xs i).toArray C (fun v C' => v = .bool true ∧ J (i + 1) C' ∧ C'.wf)) → RetA P gf (#[.func (.yield l) #[] #[]] ++ lb) B (fun _ C => J n C ∧ C.wf))
    (hassign : ∀ F i B, okF F → i < n → RunI P nt F assign (roundQ fun f C => EnvLe (e1 i) f.e ∧ f.ds = [] ∧ B = C) ⟨roundE ps.toList (xs i) e, []⟩ B)
    (hbody : ∀ F i B l D rl rd, okF F → i < n → I i B → B.wf → A.n ≤ l → A.n ≤ D → B.get l = some (.obj true rl) → B.get D = some (.obj true rd) →
      RunI P nt F body (roundQ fun _ C => I (i + 1) C ∧ C.wf ∧ C.get l = some (.obj true rl) ∧ C.get D = some (.obj true rd)) ⟨e1 i, []⟩ B)
    (hK : ∀ B D, I n B → B.wf → A.n ≤ D → A.n ≤ B.n → B.get D = some (.obj true (.deferred (some []))) → Q .normal ⟨e, mark D :: ds⟩ B) :
    Run P nt (.rangeFunc g ps assign body) Q ⟨e, ds⟩ A := by
  intro a w ha hw
  refine wpIn_wide.1 (wpIn_rangeFunc (n := 0) ?_)
  intro fn _
  rw [show Fence.wide.round = none from rfl]
  obtain ⟨rec, hrec⟩ : ∃ rec : LoopState → Option Code → Loop, rec = fun st pe => { state := st, pending := pe, fn, tmps := a.tmps, params := ps, assign, body, defers := w.heap.size } := ⟨_, rfl⟩
  have hsz : w.heap.size = A.n := hw.size
  obtain ⟨v1, s1⟩ := view_new (o := .obj true (.deferred (some []))) (x := .deferred (some [])) hw ⟨rfl, fun _ _ _ q => by cases q⟩
  obtain ⟨v2, s2⟩ := view_new (o := .obj true (.loop (rec .ready none))) (x := .loop (rec .ready none)) v1 ⟨rfl, fun _ _ _ q => by cases q⟩
  have hgl : ((A.new (.obj true (.deferred (some [])))).new (.obj true (.loop (rec .ready none)))).get (A.n + 1) = some (.obj true (.loop (rec .ready none))) := AH.new_get_same _ _
  have hgd : ((A.new (.obj true (.deferred (some [])))).new (.obj true (.loop (rec .ready none)))).get A.n = some (.obj true (.deferred (some []))) := by
    rw [AH.new_get_ne _ _ (by simp)]; exact AH.new_get_same _ _
  have hI2 : I 0 ((A.new (.obj true (.deferred (some [])))).new (.obj true (.loop (rec .ready none)))) := hI 0 A _ h0 v2.wf (by simp; omega) fun b o hb hgb => by
    rw [AH.new_get_ne _ _ (by simp; omega), AH.new_get_ne _ _ (by omega)]; exact hgb
  have hgev : a.eval g = .func (.func gf) #[] lb := opd_eval ha hg
  refine ⟨w.heap.size + 1, [mark w.heap.size], (w.alloc (.deferred (some []))).alloc (.loop (rec .ready none)), { target := .fn (.func gf) lb, args := #[.func (.yield (w.heap.size + 1)) #[] #[]] }, (w.alloc (.deferred (some []))).alloc (.loop (rec .ready none)), gf,
    #[.func (.yield (w.heap.size + 1)) #[] #[]] ++ lb, (w.alloc (.deferred (some []))).alloc (.loop (rec .ready none)), ?_, ?_, fun _ _ => trivial, ?_, fun q => (by cases q), ?_⟩
  · rw [hrec]; exact run_enterLoop_outer _ _ _ _ _
  · simp only [resolve, hgev]
    simp [go_sem]
  · have eg' := eg
    unfold Enters at eg'
    simp [invoke, go_sem, eg']
  · rw [hsz]
    have hcall := hiter (A.n + 1) (fun i C => I i C ∧ C.get (A.n + 1) = some (.obj true (.loop (rec .ready none))) ∧ C.get A.n = some (.obj true (.deferred (some [])))) _ (fun i C h => h.1)
      (fun i C C' h le wf => ⟨hI i C C' h.1 wf le.n (fun b o _ hb => le.get b o hb), le.get _ _ h.2.1, le.get _ _ h.2.2⟩) v2.wf ⟨hI2, hgl, hgd⟩ ?_
    · refine (callsIn_wide.2 (hcall.2 _ v2)).mono ?_
      rintro en w' ⟨A', hv', hs', v, rfl, ⟨⟨hIn, hgl', hgd'⟩, hwf'⟩⟩
      obtain ⟨q1, _⟩ := hv'.obj hgl'
      obtain ⟨v3, s3⟩ := view_put P (y := .loop { rec .ready none with state := .exhausted }) hv' hgl' (fun _ _ _ q => by cases q)
      refine ⟨none, w'.putObj (A.n + 1) (.loop { rec .ready none with state := .exhausted }), by
        have h7 := run_endLoop (P := P) q1 (by rw [hrec]; simp)
        have h8 : (rec .ready none).pending = none := by rw [hrec]
        exact h7.trans (congrArg (fun j => Result.ok j _) h8), ?_⟩
      have hl' := hwf' _ _ hgl'
      refine ⟨⟨e, mark A.n :: ds⟩, _, ⟨ha.size, ha.slot, by show [mark _] ++ a.defers = _; rw [ha.ds]; rfl⟩, v3, ((s1.trans s2).trans hs').trans s3, ?_, fun _ q => by cases q⟩
      refine hK _ A.n (hI n A' _ hIn v3.wf (Nat.le_refl _) fun b o hb hgb => ?_) v3.wf (Nat.le_refl _) (by simp; omega) ?_
      · rw [AH.set_get_ne _ _ (by omega)]; exact hgb
      · rw [AH.set_get_ne _ _ (by omega)]; exact hgd'
    · intro i C hi hwfC ⟨hIC, hgl', hgd'⟩ w' hv'
      obtain ⟨q1, _⟩ := hv'.obj hgl'
      have hy := run_yield (P := P) (args := (xs i).toArray) q1 (by rw [hrec]; simpa using hps i)
      refine ⟨fn, _, assign, body, (by rw [hrec] at hy; exact hy), roundIn_of_wpIn trivial ?_⟩
      have hact : ActOk nt ⟨roundE ps.toList (xs i) e, []⟩ { tmps := (ps.zip (xs i).toArray).foldl (fun t p => t.setIfInBounds p.1 p.2) a.tmps, defers := [] } := by
        have := roundE_ok (nt := nt) (ps.toList.zip (xs i)) e a.tmps (fun p hp => hpn _ (List.of_mem_zip hp).1) ⟨ha.size, ha.slot, rfl⟩
        rw [← Array.foldl_toList, Array.toList_zip]
        exact this
      have hw1 := hassign (FR (A.n + 1)) i C (okF_round _) hi _ w' hact hv'
      refine wpIn_mono hw1 ?_
      rintro x a1 w1 ⟨f1, A1, h1, h2, h3, h4, h5⟩
      cases x <;> (try exact h4.elim)
      obtain ⟨hE, hds, rfl⟩ := h4
      obtain ⟨fe, fds⟩ := f1
      simp only at hE hds
      subst hds
      obtain ⟨q2, _⟩ := h2.obj hgl'
      obtain ⟨v4, s4⟩ := view_put P (y := .loop { rec .ready none with state := .busy }) h2 hgl' (fun _ _ _ q => by cases q)
      refine ⟨_, run_beginRound q2 (by rw [hrec]), ?_⟩
      have hl' := hwfC _ _ hgl'
      have hb := hbody (FR (A.n + 1)) i _ (A.n + 1) A.n _ _ (okF_round _) hi (hI i C _ hIC v4.wf (Nat.le_refl _) fun b o hb hgb => by rw [AH.set_get_ne _ _ (by omega)]; exact hgb) v4.wf (by omega) (Nat.le_refl _) (AH.set_get_same _ _ _) (by rw [AH.set_get_ne _ _ (by omega)]; exact hgd')
      refine wpIn_mono (hb _ _ (h1.le hE) v4) ?_
      rintro x a2 w2 ⟨f2, A2, g1, g2, g3, g4, g5⟩
      cases x <;> (try exact g4.elim)
      obtain ⟨hI3, hwf3, hl3, hd3⟩ := g4
      obtain ⟨q3, _⟩ := g2.obj hl3
      obtain ⟨v5, s5⟩ := view_put P (y := .loop { ({ rec .ready none with state := .busy } : Loop) with state := .ready, pending := none }) g2 hl3 (fun _ _ _ q => by cases q)
      refine ⟨_, _, run_endRound (P := P) none q3, _, _, rfl, v5, ((h3.trans s4).trans g3).trans s5, rfl, ⟨?_, ?_, ?_⟩, v5.wf⟩
      · exact hI (i + 1) A2 _ hI3 v5.wf (Nat.le_refl _) fun b o hb hgb => by rw [AH.set_get_ne _ _ (by omega)]; exact hgb
      · rw [AH.set_get_same, hrec]
      · rw [AH.set_get_ne _ _ (by omega)]; exact hd3

/-! ### Functions that leave with marks -/
def bodyQM (P : Program) (rs : List ResultVar) (Q : Ending → AH → Prop) : Exit → Fr → AH → Prop
  | .normal, f, A | .ret, f, A => ∃ Ds : List Nat, f.ds = Ds.map mark ∧ Ds.Nodup ∧ (∀ D ∈ Ds, A.get D = some (.obj true (.deferred (some [])))) ∧
      ∃ vs, ∀ A', A'.wf → A'.n = A.n → (∀ b o, b ∉ Ds → A.get b = some o → A'.get b = some o) → resV P f.e A' rs = some vs ∧ Q (.returned (oneV vs)) A'
  | _, _, _ => False

theorem CallsA.enterM {g : FuncId} {fn : Func} {c : Code} {args : List Value} {Qe : Ending → AH → Prop} (he : Enters P g) (hf : P.funcs[g]? = some fn) (hb : fn.body = some c) (hn : args.length ≤ fn.ntmps)
    (h : A.wf → Run P fn.ntmps c (bodyQM P fn.results.toList Qe) ⟨argE args 0, []⟩ A) : CallsA P g args.toArray A Qe := by
  refine ⟨he, fun w hw => callsIn_wide.1 (callsIn_of_wp_marks (F := Fence.wide) (n := 0) hf hb trivial ?_)⟩
  have ha : ActOk fn.ntmps ⟨argE args 0, []⟩ { tmps := args.toArray ++ Array.replicate (fn.ntmps - args.toArray.size) undef, defers := [] } := by
    refine ⟨by simp; omega, fun t v q => ?_, rfl⟩
    obtain ⟨_, h2⟩ := argE_get args 0 t v q
    simp only [Nat.sub_zero] at h2
    have hlt : t < args.length := (List.getElem?_eq_some_iff.1 h2).1
    refine ⟨?_, by omega⟩
    simp only [Array.getD_eq_getD_getElem?]
    rw [Array.getElem?_append_left (by simpa using hlt)]
    simp [h2]
  have leave : ∀ (Ds : List Nat) (B : AH) (f : Fr) (a : Act) (w' : World) (vs : List Value), (∀ t v, getE f.e t = some v → a.tmps.getD t undef = v ∧ t < fn.ntmps) → a.tmps.size = fn.ntmps → View B w' → Step A w B w' → Ds.Nodup → (∀ D ∈ Ds, B.get D = some (.obj true (.deferred (some [])))) →
      (∀ A', A'.wf → A'.n = B.n → (∀ b o, b ∉ Ds → B.get b = some o → A'.get b = some o) → resV P f.e A' fn.results.toList = some vs ∧ Qe (.returned (oneV vs)) A') →
      LeavesInM Fence.wide 0 P fn a.tmps (fun e w'' => ∃ A', View A' w'' ∧ Step A w A' w'' ∧ Qe e A') (Ds.map mark) .returning w' := by
    intro Ds
    induction Ds with
    | nil =>
      intro B f a w' vs hsl hsz hv hs _ _ hq
      obtain ⟨r1, r2⟩ := hq B hv.wf rfl (fun _ _ _ h => h)
      have := run_results (nt := fn.ntmps) (f := ⟨f.e, a.defers⟩) (a := a) ⟨hsz, hsl, rfl⟩ hv r1
      exact ⟨_, this, B, hv, hs, r2⟩
    | cons D Ds ih =>
      intro B f a w' vs hsl hsz hv hs hnd hD hq
      have gD := hD D List.mem_cons_self
      obtain ⟨q1, _⟩ := hv.obj gD
      obtain ⟨v1, s1⟩ := view_put P (y := .deferred none) hv gD (fun _ _ _ q => by cases q)
      refine ⟨by simp, .inl ⟨D, _, rfl, run_takeDeferred q1, ?_⟩⟩
      have hnd' := List.nodup_cons.1 hnd
      refine ih _ f a _ vs hsl hsz v1 (hs.trans s1) hnd'.2 (fun E hE => ?_) (fun A' wf' hn' hk' => ?_)
      · rw [AH.set_get_ne _ _ (by rintro rfl; exact hnd'.1 hE)]; exact hD E (List.mem_cons_of_mem _ hE)
      · exact hq A' wf' hn' fun b o hb hgb => hk' b o (fun q => hb (List.mem_cons_of_mem _ q)) (by rw [AH.set_get_ne _ _ (by rintro rfl; exact hb List.mem_cons_self)]; exact hgb)
  refine wpIn_mono (Run.into (h hw.wf) _ w ha hw) ?_
  rintro x a' w' ⟨f', A', h1, h2, h3, h4, h5⟩
  cases x <;> simp only [bodyQM] at h4 <;> (try exact h4.elim)
  case normal => obtain ⟨Ds, e1, e2, e3, vs, e4⟩ := h4; simp only [bodyPostM]; rw [h1.ds, e1]; exact leave Ds A' f' a' w' vs h1.slot h1.size h2 h3 e2 e3 e4
  case ret => obtain ⟨Ds, e1, e2, e3, vs, e4⟩ := h4; simp only [bodyPostM]; rw [h1.ds, e1]; exact leave Ds A' f' a' w' vs h1.slot h1.size h2 h3 e2 e3 e4
theorem enterM {g : FuncId} {fn : Func} {c : Code} {rs : Array ResultVar} {nt : Nat} {args : List Value} {a : Array Value} {e : Env} {A : AH} {R : Value → AH → Prop} (he : Enters P g) (hf : P.funcs[g]? = some fn) (hb : fn.body = some c)
    (hr : fn.results = rs) (hnt : fn.ntmps = nt) (ha : args.toArray = a) (hn : Nat.ble args.length nt = true) (hE : argE args 0 = e) (h : A.wf → Run P nt c (bodyQM P rs.toList fun en A' => ∃ v, en = .returned v ∧ R v A') ⟨e, []⟩ A) : RetA P g a A R := by
  subst hr; subst hnt; subst ha; subst hE
  exact CallsA.enterM he hf hb (Nat.le_of_ble_eq_true hn) h
/-- A loop in whose rounds marks are pushed. -/
theorem Run.loopD {c : Code} {X : Type} (E : X → Env) (D : X → List Deferred) (I : X → AH → Prop) (μ : X → Nat) (x₀ : X) (hE : EnvLe (E x₀) e) (hD : D x₀ = ds) (h₀ : I x₀ A)
    (round : ∀ x B, I x B → Run P nt c (thenQ (fun f B' => ∃ y, EnvLe (E y) f.e ∧ f.ds = D y ∧ I y B' ∧ μ y < μ x) Q) ⟨E x, D x⟩ B) :
    Run P nt (.loop c) Q ⟨e, ds⟩ A := by
  subst hD
  intro a w ha hw b k cs
  have run : ∀ m a w₁, (∃ x B, μ x = m ∧ I x B ∧ ActOk nt ⟨E x, D x⟩ a ∧ View B w₁ ∧ Step A w B w₁) →
      ∃ e a' w', PostQ nt Q A w e a' w' ∧ Arrives P (lone (b.at a (.code c :: .inLoop c :: k)) cs w₁) b k cs e a' w' := by
    intro m
    induction m using Nat.strongRecOn with
    | _ m ih =>
      rintro a w₁ ⟨x, B, hm, hI, ha₁, hw₁, hs₁⟩
      obtain ⟨e, a₂, w₂, ⟨f', A', h1, h2, h3, h4, h5⟩, harr⟩ := round x B hI a w₁ ha₁ hw₁ b (.inLoop c :: k) cs
      cases e with
      | normal =>
        obtain ⟨y, g1, g2, g3, g4⟩ := h4
        obtain ⟨fe, fds⟩ := f'
        simp only at g1 g2
        subst g2
        obtain ⟨e₂, a₃, w₃, hq, harr₂⟩ := ih (μ y) (hm ▸ g4) a₂ w₂ ⟨y, A', rfl, g3, h1.le g1, h2, hs₁.trans h3⟩
        exact ⟨e₂, a₃, w₃, hq, .of_steps (Steps.trans harr (.one step_inLoop)) harr₂⟩
      | exit id => exact ⟨_, a₂, w₂, ⟨f', A', h1, h2, hs₁.trans h3, h4, h5⟩, .pass (x := .inLoop c) rfl (fun _ _ => .inl (by simp)) harr⟩
      | goto l => exact ⟨_, a₂, w₂, ⟨f', A', h1, h2, hs₁.trans h3, h4, h5⟩, .pass (x := .inLoop c) rfl (fun _ _ => .inl (by simp)) harr⟩
      | ret => exact ⟨_, a₂, w₂, ⟨f', A', h1, h2, hs₁.trans h3, h4, h5⟩, .pass (x := .inLoop c) rfl (fun _ _ => .inl (by simp)) harr⟩
      | panic ch => exact ⟨_, a₂, w₂, ⟨f', A', h1, h2, hs₁.trans h3, h4, h5⟩, .pass (x := .inLoop c) rfl (fun _ _ => .inl (by simp)) harr⟩
      | outgrown => exact ⟨_, a₂, w₂, ⟨f', A', h1, h2, hs₁.trans h3, h4, h5⟩, .pass (x := .inLoop c) rfl (fun _ _ => .inl (by simp)) harr⟩
  obtain ⟨e, a', w', hq, harr⟩ := run _ a w ⟨x₀, A, rfl, h₀, ha.le hE, hw, .refl _ _⟩
  exact ⟨e, a', w', hq, .of_steps (.one step_loop) harr⟩
end
end V
end Go.Proofs.YtaccklloepfemaaGreatDoor
