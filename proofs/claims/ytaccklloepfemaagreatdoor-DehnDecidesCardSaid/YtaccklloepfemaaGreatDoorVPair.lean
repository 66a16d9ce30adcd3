/- A drawn region in which two loud operations may come up in either order, behind quiet ones. -/
import Derived.Test.YtaccklloepfemaaGreatDoorVObjs
namespace Go.Proofs.YtaccklloepfemaaGreatDoor
set_option linter.unusedVariables false
set_option linter.unusedSimpArgs false
open Go Go.RowKit
namespace V
def canonP (ops : Array Oper) : Array Bool → List Nat → Nat → Nat → List Nat → Bool
  | listed, [], i, j, C => (Region.ready .any ops listed == [i, j]) && canon ops (listed.setIfInBounds i true) (j :: C) && canon ops (listed.setIfInBounds j true) (i :: C)
  | listed, q :: Cq, i, j, C => match ops[q]? with
    | none => false
    | some o => quietOp o.op && (Region.ready .any ops listed).contains q && Region.free .any ops listed q && canonP ops (listed.setIfInBounds q true) Cq i j C
section
variable {P : Program} {nt : Nat} {ops : Array Oper} {Q : Exit → Fr → AH → Prop} {f : Fr} {A : AH}
def DPair (P : Program) (nt : Nat) (ops : Array Oper) (Q : Exit → Fr → AH → Prop) (listed : Array Bool) (held : List (Nat × Held)) (Cq : List Nat) (i j : Nat) (C : List Nat) (f : Fr) (A : AH) : Prop :=
  canonP ops listed Cq i j C = true → Region.noSelect ops = true → ∀ a w, ActOk nt f a → View A w → heldS ops held listed w → Closed ops listed →
    ∀ (A₀ : AH) (w₀ : World), Step A₀ w₀ A w → wpAnyS P ops (PostQ nt Q A₀ w₀) (heldS ops held) (Cq.length + (C.length + 2)) listed a w
theorem DPair.quiet {listed : Array Bool} {held : List (Nat × Held)} {q i j : Nat} {Cq C : List Nat} {o : Oper} {v : Value} {T : Held} (ho : ops[q]? = some o) (hq : quietOp o.op = true) (hd : ∀ t, o.dst = some t → t < nt)
    (hv : ∀ a w, ActOk nt f a → View A w → holds T w ∧ YieldsIf P ops (holds T) o v a)
    (h : DPair P nt ops Q (listed.setIfInBounds q true) ((q, T) :: held) Cq i j C ⟨putE f.e o.dst v, f.ds⟩ A) : DPair P nt ops Q listed held (q :: Cq) i j C f A := by
  intro hc hn a w ha hw hh hcl A₀ w₀ hs
  simp only [canonP, ho, Bool.and_eq_true] at hc
  obtain ⟨⟨⟨_, c1⟩, c2⟩, c3⟩ := hc
  obtain ⟨t1, t2⟩ := hv a w ha hw
  have hr : q ∈ Region.ready .any ops listed := by simpa using c1
  have hheld : heldS ops ((q, T) :: held) listed w := fun p hp hj => by
    rcases List.mem_cons.1 hp with rfl | hp
    · exact t1
    · exact hh p hp hj
  have H := h c3 hn _ w (ha.put o.dst v hd) hw ((heldS_quiet ho hq _ _).2 hheld) (closed_set hcl hr) A₀ w₀ hs
  have free := Region.free_spec ho c2
  have H' : wpAnyS P ops (PostQ nt Q A₀ w₀) (heldS ops ((q, T) :: held)) (Cq.length + (C.length + 2) + 1) listed a w :=
    wpAnyS_first (T := holds T) ho (Region.noSelect_spec hn) (fun c a w g => panic_put _ _ c a w g)
      (fun l w' hcl' hun hS => hS (q, T) (List.mem_cons_self ..) fun j hl ⟨oj, hoj, _⟩ => by
        cases e : anc ops q ops.size j with
        | false => rfl
        | true =>
          have := anc_listed hcl' ops.size j oj hoj (hcl' j oj hoj hl) e
          rw [getD_false hun] at this; cases this)
      (fun l w' => heldS_quiet ho hq l w') _ listed a w hcl (fun j oj hoj hne hun hno => free j oj hoj hne hun hno) hr t2 hheld H
  have weaken : ∀ (fuel : Nat) (l : Array Bool) (a : Act) (w : World), wpAnyS P ops (PostQ nt Q A₀ w₀) (heldS ops ((q, T) :: held)) fuel l a w → wpAnyS P ops (PostQ nt Q A₀ w₀) (heldS ops held) fuel l a w := by
    intro fuel
    induction fuel with
    | zero => intro l a w h; exact h
    | succ fuel ih => intro l a w h; exact ⟨h.1, fun j hj => wpOp_mono (fun a' w' h' => ⟨fun p hp => h'.1 p (List.mem_cons_of_mem _ hp), ih _ _ _ h'.2⟩) (h.2 j hj)⟩
  rw [List.length_cons, Nat.add_right_comm]
  exact weaken _ _ _ _ H'
/-- A loud operation's step, whatever else may come up. -/
theorem loud_step {listed : Array Bool} {held : List (Nat × Held)} {i : Nat} {C : List Nat} {o : Oper} {a : Act} {w : World} {A₀ : AH} {w₀ : World} (ho : ops[i]? = some o) (hq : quietOp o.op = false) (hd : ∀ t, o.dst = some t → t < nt) (hwn : ∀ a : Act, ActOk nt f a → Region.wanted o (yielded ops a.tmps) = true)
    (c2 : canon ops (listed.setIfInBounds i true) C = true) (hn : Region.noSelect ops = true) (ha : ActOk nt f a) (hw : View A w) (hcl : Closed ops listed) (hs : Step A₀ w₀ A w) (hr : i ∈ Region.ready .any ops listed)
    (h : ∀ (K : Value → AH → Prop) (Kp : List PanicEntry → AH → Prop),
      (∀ v A', (∀ w', View A' w' → ∀ p ∈ held, anc ops p.1 ops.size i = false → holds p.2 w') → DOps P nt ops Q (listed.setIfInBounds i true) (held.filter fun p => !anc ops p.1 ops.size i) C ⟨putE f.e o.dst v, f.ds⟩ A' → K v A') →
      (∀ ch A', Q (.panic ch) ⟨[], f.ds⟩ A' → Kp ch A') → opV P f.e A o K Kp) :
    wpOp P ops (PostQ nt Q A₀ w₀) i (fun a' w' => heldS ops held (listed.setIfInBounds i true) w' ∧ wpAnyS P ops (PostQ nt Q A₀ w₀) (heldS ops held) C.length (listed.setIfInBounds i true) a' w') a w := by
  have hlt : i < listed.size := by
    have := (mem_ready.1 hr).1
    rcases Nat.lt_or_ge i listed.size with h' | h'
    · exact h'
    · simp [Array.getElem?_eq_none h'] at this
  have hl : (listed.setIfInBounds i true).getD i false = true := by simp [hlt]
  unfold wpOp
  simp only [ho, hwn a ha, if_true]
  left
  have := opV_sound (o := o) (K := fun v A' => (∀ w', View A' w' → ∀ p ∈ held, anc ops p.1 ops.size i = false → holds p.2 w') ∧ DOps P nt ops Q (listed.setIfInBounds i true) (held.filter fun p => !anc ops p.1 ops.size i) C ⟨putE f.e o.dst v, f.ds⟩ A')
    (Kp := fun ch A' => Q (.panic ch) ⟨[], f.ds⟩ A') ha hw (h _ _ (fun v A' g1 g2 => ⟨g1, g2⟩) (fun ch A' g => g))
  unfold Oper.wp at this ⊢
  have up : ∀ r, o.upon P a (After A a w o fun v A' => (∀ w', View A' w' → ∀ p ∈ held, anc ops p.1 ops.size i = false → holds p.2 w') ∧ DOps P nt ops Q (listed.setIfInBounds i true) (held.filter fun p => !anc ops p.1 ops.size i) C ⟨putE f.e o.dst v, f.ds⟩ A') (Behind A a w fun ch A' => Q (.panic ch) ⟨[], f.ds⟩ A') r →
      o.upon P a (fun a' w' => heldS ops held (listed.setIfInBounds i true) w' ∧ wpAnyS P ops (PostQ nt Q A₀ w₀) (heldS ops held) C.length (listed.setIfInBounds i true) a' w') (PostQ nt Q A₀ w₀) r := by
    have next : ∀ a' w', (After A a w o fun v A' => (∀ w', View A' w' → ∀ p ∈ held, anc ops p.1 ops.size i = false → holds p.2 w') ∧ DOps P nt ops Q (listed.setIfInBounds i true) (held.filter fun p => !anc ops p.1 ops.size i) C ⟨putE f.e o.dst v, f.ds⟩ A') a' w' →
        heldS ops held (listed.setIfInBounds i true) w' ∧ wpAnyS P ops (PostQ nt Q A₀ w₀) (heldS ops held) C.length (listed.setIfInBounds i true) a' w' := by
      rintro a' w' ⟨v, A', rfl, hv', hs', g1, g2⟩
      have hlo : V.loud ops i := ⟨o, ho, hq⟩
      have hh' : heldS ops held (listed.setIfInBounds i true) w' := fun p hp hj => g1 w' hv' p hp (hj i hl hlo)
      refine ⟨hh', ?_⟩
      have H := g2 c2 hn _ w' (ha.put o.dst v hd) hv' (fun p hp hj => hh' p (List.mem_filter.1 hp).1 hj) (closed_set hcl hr) A₀ w₀ (hs.trans hs')
      refine wpAnyS_mono (x := i) (fun l w hx hS p hp hj => hS p (List.mem_filter.2 ⟨hp, ?_⟩) hj) _ _ _ _ hl H
      simp [hj i hx hlo]
    have pan : ∀ x a' w', Behind A a w (fun ch A' => Q (.panic ch) ⟨[], f.ds⟩ A') x a' w' → PostQ nt Q A₀ w₀ x a' w' := by
      rintro x a' w' ⟨ch, A', rfl, rfl, hv', hs', g⟩
      exact ⟨⟨[], f.ds⟩, A', ⟨ha.size, (fun _ _ q => by cases q), ha.ds⟩, hv', hs.trans hs', g, fun _ _ => rfl⟩
    intro r hr'
    cases r with
    | ok n w' =>
      cases n <;> simp only [Oper.upon] at hr' ⊢ <;> (try exact hr'.elim)
      case value v => exact next _ _ hr'
      case skip => exact next _ _ hr'
      case defer d => exact next _ _ hr'
      case enter f' args =>
        refine hr'.mono fun e w'' he => ?_
        cases e with
        | returned v => exact next _ _ he
        | panicked ch => exact pan _ _ _ he
        | outgrown => obtain ⟨a₁, w₁, ch, A', q, _⟩ := he; cases q
      case row row args => exact hr'.mono fun v w'' he => next _ _ he
    | halt x w' =>
      cases x <;> simp only [Oper.upon] at hr' ⊢ <;> (try exact hr'.elim)
      case panic v => exact pan _ _ _ hr'
  exact up _ this
variable {e : Env} {ds : List Deferred}
theorem DPair.q {listed : Array Bool} {held : List (Nat × Held)} {i j k d : Nat} {Cq C : List Nat} {op : Op} {ty : TypeId} {ps : String} {af : Array Edge} {v : Value} {T : Held} (ho : ops[k]? = some { dst := some d, op := op, type := ty, pos := ps, after := af, guard := none }) (hq : quietOp op = true) (hd : Nat.blt d nt = true) (hv : quietV P e A op = some (v, T))
    (h : DPair P nt ops Q (listed.setIfInBounds k true) ((k, T) :: held) Cq i j C ⟨(d, v) :: e, ds⟩ A) : DPair P nt ops Q listed held (k :: Cq) i j C ⟨e, ds⟩ A :=
  DPair.quiet (f := ⟨e, ds⟩) (T := T) (v := v) ho hq (dstOk_spec (d := some d) hd) (fun a w ha hw => by
    have key := quietV_sound (P := P) (f := (⟨e, ds⟩ : Fr)) (o := { dst := some d, op := op, type := ty, pos := ps, after := af, guard := none }) hv ha hw
    exact ⟨key.1, .inl ⟨by simp [Region.wanted], key.2⟩⟩) h
theorem DPair.both {listed : Array Bool} {held : List (Nat × Held)} {i j : Nat} {C : List Nat} {di dj : Option Nat} {opi opj : Op} {ti tj : TypeId} {pi pj : String} {afi afj : Array Edge}
    (hoi : ops[i]? = some { dst := di, op := opi, type := ti, pos := pi, after := afi, guard := none }) (hoj : ops[j]? = some { dst := dj, op := opj, type := tj, pos := pj, after := afj, guard := none }) (hqi : quietOp opi = false) (hqj : quietOp opj = false) (hdi : dstOk nt di = true) (hdj : dstOk nt dj = true)
    (hi : ∀ (K : Value → AH → Prop) (Kp : List PanicEntry → AH → Prop), (∀ v A', HeldNow ops held i A' → DOps P nt ops Q (listed.setIfInBounds i true) (held.filter fun p => !anc ops p.1 ops.size i) (j :: C) ⟨putE e di v, ds⟩ A' → K v A') →
      (∀ ch A', Q (.panic ch) ⟨[], ds⟩ A' → Kp ch A') → opV P e A { dst := di, op := opi, type := ti, pos := pi, after := afi, guard := none } K Kp)
    (hj : ∀ (K : Value → AH → Prop) (Kp : List PanicEntry → AH → Prop), (∀ v A', HeldNow ops held j A' → DOps P nt ops Q (listed.setIfInBounds j true) (held.filter fun p => !anc ops p.1 ops.size j) (i :: C) ⟨putE e dj v, ds⟩ A' → K v A') →
      (∀ ch A', Q (.panic ch) ⟨[], ds⟩ A' → Kp ch A') → opV P e A { dst := dj, op := opj, type := tj, pos := pj, after := afj, guard := none } K Kp) : DPair P nt ops Q listed held [] i j C ⟨e, ds⟩ A := by
  intro hc hn a w ha hw hh hcl A₀ w₀ hs
  simp only [canonP, Bool.and_eq_true, beq_iff_eq] at hc
  obtain ⟨⟨c1, c2⟩, c3⟩ := hc
  rw [List.length_nil, Nat.zero_add]
  refine ⟨fun h0 => (by rw [c1] at h0; cases h0), fun k hk => ?_⟩
  have hk' := hk
  rw [c1] at hk'
  simp only [List.mem_cons, List.not_mem_nil, or_false] at hk'
  rcases hk' with rfl | rfl
  · exact loud_step (C := j :: C) hoi hqi (dstOk_spec hdi) (fun a _ => by simp [Region.wanted]) c2 hn ha hw hcl hs hk hi
  · exact loud_step (C := i :: C) hoj hqj (dstOk_spec hdj) (fun a _ => by simp [Region.wanted]) c3 hn ha hw hcl hs hk hj
theorem Run.drawnP {id : Nat} (Cq : List Nat) (i j : Nat) (C : List Nat) (hm : P.follows .mixedOrders = true) (hc : canonP ops (Array.replicate ops.size false) Cq i j C = true) (hn : Region.noSelect ops = true) (hl : Cq.length + (C.length + 2) = ops.size)
    (h : DPair P nt ops Q (Array.replicate ops.size false) [] Cq i j C f A) : Run P nt (.region id ops true) Q f A := by
  intro a w ha hw
  obtain ⟨v1, s1⟩ := view_drawn hw
  refine wp_region_any hm (wpAny_of_S (S := heldS ops []) _ _ _ _ ?_)
  have key := h hc hn a _ ha v1 (fun p hp => by cases hp) (fun j o _ hj => by
    exfalso
    rcases Nat.lt_or_ge j ops.size with q | q
    · simp [q] at hj
    · simp [q] at hj) A w s1
  rw [hl] at key
  exact key
end
end V
end Go.Proofs.YtaccklloepfemaaGreatDoor
