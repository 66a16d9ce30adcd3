/- Statements whose order Go leaves open: operations that only compute, and loads of cells that nobody may write before them, are taken first; the others wait for one another. After the base's Derived/OrdersHeld.lean, with a condition on the world for each operation. -/
import Derived.Test.YtaccklloepfemaaGreatDoorVOpRun
namespace Go.Proofs.YtaccklloepfemaaGreatDoor
set_option linter.unusedVariables false
set_option linter.unusedSimpArgs false
open Go Go.RowKit
namespace V
section
variable {P : Program} {ops : Array Oper} {Q : Exit → Act → World → Prop}

/-- Whatever order is picked from here on, and 'S' of what has come up holds behind each operation. -/
def wpAnyS (P : Program) (ops : Array Oper) (Q : Exit → Act → World → Prop) (S : Array Bool → World → Prop) : Nat → Array Bool → Act → World → Prop
  | 0, listed, a, w => Region.ready .any ops listed = [] ∧ Q .normal a w
  | fuel + 1, listed, a, w =>
    (Region.ready .any ops listed = [] → Q .normal a w) ∧
    ∀ i ∈ Region.ready .any ops listed, wpOp P ops Q i (fun a' w' => S (listed.setIfInBounds i true) w' ∧ wpAnyS P ops Q S fuel (listed.setIfInBounds i true) a' w') a w

theorem wpAny_of_S {S : Array Bool → World → Prop} : ∀ (fuel : Nat) (listed : Array Bool) (a : Act) (w : World), wpAnyS P ops Q S fuel listed a w → wpAny P .any ops Q fuel listed a w
  | 0, _, _, _, h => h
  | fuel + 1, _, _, _, h => ⟨h.1, fun i hi => wpOp_mono (fun a' w' h' => wpAny_of_S fuel _ a' w' h'.2) (h.2 i hi)⟩

theorem wpAnyS_mono {S S' : Array Bool → World → Prop} {x : Nat} (hS : ∀ l w, l.getD x false = true → S l w → S' l w) : ∀ (fuel : Nat) (listed : Array Bool) (a : Act) (w : World), listed.getD x false = true → wpAnyS P ops Q S fuel listed a w → wpAnyS P ops Q S' fuel listed a w
  | 0, _, _, _, _, h => h
  | fuel + 1, _, _, _, hx, h => ⟨h.1, fun i hi => wpOp_mono (fun a' w' h' => ⟨hS _ w' (getD_set_true hx) h'.1, wpAnyS_mono hS fuel _ a' w' (getD_set_true hx) h'.2⟩) (h.2 i hi)⟩

/-- What operation j waits for, over at most so many edges. -/
def anc (ops : Array Oper) (i : Nat) : Nat → Nat → Bool
  | 0, _ => false
  | n + 1, j => match ops[j]? with
    | none => false
    | some o => o.after.any fun e => Region.binds .any e && (e.on == i || anc ops i n e.on)

def Closed (ops : Array Oper) (listed : Array Bool) : Prop :=
  ∀ j o, ops[j]? = some o → listed.getD j false = true → ∀ e ∈ o.after, Region.binds .any e = true → listed.getD e.on false = true

theorem anc_listed {listed : Array Bool} (hc : Closed ops listed) {i : Nat} : ∀ (n j : Nat) (o : Oper), ops[j]? = some o → (∀ e ∈ o.after, Region.binds .any e = true → listed.getD e.on false = true) → anc ops i n j = true → listed.getD i false = true := by
  intro n
  induction n with
  | zero => intro j o _ _ h; cases h
  | succ n ih =>
    intro j o ho hall h
    simp only [anc, ho] at h
    obtain ⟨e, he, h⟩ := Array.any_eq_true'.1 h
    simp only [Bool.and_eq_true, Bool.or_eq_true, beq_iff_eq] at h
    obtain ⟨hb, h⟩ := h
    rcases h with rfl | h
    · exact hall e he hb
    · cases hk : ops[e.on]? with
      | none => cases n <;> simp [anc, hk] at h
      | some ok => exact ih e.on ok hk (hc e.on ok hk (hall e he hb)) h

theorem closed_set {listed : Array Bool} (hc : Closed ops listed) {i : Nat} (hr : i ∈ Region.ready .any ops listed) : Closed ops (listed.setIfInBounds i true) := by
  intro j o ho hj e he hb
  obtain ⟨_, oi, hoi, hall⟩ := mem_ready.1 hr
  by_cases q : i = j
  · subst q; rw [hoi] at ho; cases ho; exact getD_set_true (hall e he hb)
  · rw [getD_set_ne false q] at hj; exact getD_set_true (hc j o ho hj e he hb)

theorem getD_false {listed : Array Bool} {i : Nat} (h : listed.getD i true = false) : listed.getD i false = false := by
  rcases Nat.lt_or_ge i listed.size with h' | h'
  · simp [h'] at h ⊢; exact h
  · simp [Array.getElem?_eq_none h'] at h

/-- An operation that may come up now may be taken first, if it yields its value in every world that meets T, and T holds as long as it has not come up. -/
theorem wpAnyS_first {S : Array Bool → World → Prop} {T : World → Prop} {i : Nat} {oi : Oper} {v : Value} (hi : ops[i]? = some oi) (hsel : ∀ (j : Nat) (o : Oper) cs b, ops[j]? = some o → o.op ≠ .select cs b)
    (hQ : ∀ c a w, Q (.panic c) (a.put oi.dst v) w → Q (.panic c) a w) (hST : ∀ l w, Closed ops l → l.getD i true = false → S l w → T w) (hSi : ∀ l w, S (l.setIfInBounds i true) w ↔ S l w) :
    ∀ (fuel : Nat) (listed : Array Bool) (a : Act) (w : World), Closed ops listed →
      (∀ j oj, ops[j]? = some oj → j ≠ i → listed.getD j true = false → (∀ e ∈ oj.after, Region.binds .any e = true → e.on ≠ i) → oi.apart ops oj = true) →
      i ∈ Region.ready .any ops listed → YieldsIf P ops T oi v a → S listed w →
      wpAnyS P ops Q S fuel (listed.setIfInBounds i true) (a.put oi.dst v) w → wpAnyS P ops Q S (fuel + 1) listed a w := by
  intro fuel
  induction fuel with
  | zero =>
    intro listed a w hcl _ hr hy hS H
    refine ⟨fun h => (by rw [h] at hr; cases hr), fun j hj => ?_⟩
    by_cases hji : j = i
    · subst hji; exact hy.wpOp hi (hST _ _ hcl (mem_ready.1 hr).1 hS) ⟨(hSi _ _).2 hS, H⟩
    · have := ready_mono hj hji
      rw [H.1] at this
      cases this
  | succ fuel ih =>
    intro listed a w hcl hfree hr hy hS H
    refine ⟨fun h => (by rw [h] at hr; cases hr), fun j hj => ?_⟩
    by_cases hji : j = i
    · subst hji; exact hy.wpOp hi (hST _ _ hcl (mem_ready.1 hr).1 hS) ⟨(hSi _ _).2 hS, H⟩
    · have h1 := H.2 j (ready_mono hj hji)
      obtain ⟨hjun, oj, hoj, hall⟩ := mem_ready.1 hj
      have hnot : ∀ e ∈ oj.after, Region.binds .any e = true → e.on ≠ i := fun e he hb heq => by
        have h1 := hall e he hb
        have h0 := (mem_ready.1 hr).1
        rw [heq] at h1
        rw [getD_false h0] at h1; cases h1
      have h2 := wpOp_putIf (S := T) hoj (hfree j oj hoj hji hjun hnot) (fun cs b => hsel i oi cs b hi) (fun cs b => hsel j oj cs b hoj) hQ hy h1
      have hfree' : ∀ k ok, ops[k]? = some ok → k ≠ i → (listed.setIfInBounds j true).getD k true = false →
          (∀ e ∈ ok.after, Region.binds .any e = true → e.on ≠ i) → oi.apart ops ok = true := fun k ok hk hki hun hno => by
        refine hfree k ok hk hki ?_ hno
        by_cases hjk : j = k
        · subst hjk; exact hjun
        · rw [getD_set_ne true hjk] at hun; exact hun
      refine wpOp_mono (fun a' w' h3 => ?_) h2
      have hS' : S (listed.setIfInBounds j true) w' := by
        have := h3.2.1
        rw [Array.setIfInBounds_comm _ _ (Ne.symm hji), hSi] at this
        exact this
      refine ⟨hS', ih (listed.setIfInBounds j true) a' w' (closed_set hcl hj) hfree' (ready_mono hr (Ne.symm hji)) h3.1 hS' ?_⟩
      rw [Array.setIfInBounds_comm _ _ hji]
      exact h3.2.2
end

/-- Cells that hold what they hold. -/
abbrev Held := List (Addr × Value)
def holds (T : Held) (w : World) : Prop := ∀ p ∈ T, w.cell? p.1 = some p.2

/-- Operations that only compute, and loads. -/
def quietOp : Op → Bool
  | .move _ | .assign _ | .pick .. | .nilCheck _ | .binOp .. | .unOp .. | .makeFunc .. | .fieldAddr .. | .field .. | .indexAddr .. | .index .. | .extract .. | .load .. | .slice _ _ _ _ none => true
  | .convert .. => true
  | .build .. => true
  | .call { callee := .builtin .len, .. } => true
  | .call { callee := .builtin .max, .. } => true
  | .call { callee := .builtin .min, .. } => true
  | _ => false

/-- A list of all operations in an order in which each may come up, the quiet ones apart from all that may come before them, the others alone. -/
def canon (ops : Array Oper) : Array Bool → List Nat → Bool
  | listed, [] => (Region.ready .any ops listed).isEmpty
  | listed, i :: C => match ops[i]? with
    | none => false
    | some o =>
      if quietOp o.op then (Region.ready .any ops listed).contains i && Region.free .any ops listed i && canon ops (listed.setIfInBounds i true) C
      else (Region.ready .any ops listed == [i]) && canon ops (listed.setIfInBounds i true) C

def loud (ops : Array Oper) (j : Nat) : Prop := ∃ o, ops[j]? = some o ∧ quietOp o.op = false

/-- What is held of each operation behind which no loud one has come up that waits for it. -/
def heldS (ops : Array Oper) (held : List (Nat × Held)) (l : Array Bool) (w : World) : Prop :=
  ∀ p ∈ held, (∀ j, l.getD j false = true → loud ops j → anc ops p.1 ops.size j = false) → holds p.2 w

section
variable {P : Program} {nt : Nat} {ops : Array Oper} {Q : Exit → Fr → AH → Prop} {f : Fr} {A : AH}

/-- The operations of a drawn region that are still to come, in the order C. -/
def DOps (P : Program) (nt : Nat) (ops : Array Oper) (Q : Exit → Fr → AH → Prop) (listed : Array Bool) (held : List (Nat × Held)) (C : List Nat) (f : Fr) (A : AH) : Prop :=
  canon ops listed C = true → Region.noSelect ops = true → ∀ a w, ActOk nt f a → View A w → heldS ops held listed w → Closed ops listed →
    ∀ (A₀ : AH) (w₀ : World), Step A₀ w₀ A w → wpAnyS P ops (PostQ nt Q A₀ w₀) (heldS ops held) C.length listed a w

theorem heldS_quiet {held : List (Nat × Held)} {i : Nat} {o : Oper} (ho : ops[i]? = some o) (hq : quietOp o.op = true) (l : Array Bool) (w : World) :
    heldS ops held (l.setIfInBounds i true) w ↔ heldS ops held l w := by
  have key : ∀ j, loud ops j → (l.setIfInBounds i true).getD j false = l.getD j false := fun j ⟨o', h1, h2⟩ => by
    have : i ≠ j := by rintro rfl; rw [ho] at h1; cases h1; rw [hq] at h2; cases h2
    exact getD_set_ne false this
  constructor
  · intro h p hp hj; exact h p hp fun j hl hlo => hj j (by rw [key j hlo] at hl; exact hl) hlo
  · intro h p hp hj; exact h p hp fun j hl hlo => hj j (by rw [key j hlo]; exact hl) hlo

theorem panic_put {A₀ : AH} {w₀ : World} (d : Option Nat) (v : Value) (c : List PanicEntry) (a : Act) (w : World) (h : PostQ nt Q A₀ w₀ (.panic c) (a.put d v) w) : PostQ nt Q A₀ w₀ (.panic c) a w := by
  obtain ⟨f', A', g1, g2, g3, g4, g5⟩ := h
  obtain ⟨fe, fds⟩ := f'
  have : fe = [] := g5 c rfl
  subst this
  refine ⟨⟨[], fds⟩, A', ⟨?_, (fun _ _ q => by cases q), ?_⟩, g2, g3, g4, fun _ _ => rfl⟩
  · have := g1.size; cases d <;> simp [Act.put] at this <;> exact this
  · have := g1.ds; cases d <;> simp [Act.put] at this <;> exact this

/-- A quiet operation is taken: it yields v in every world in which T holds; T is held from now on. -/
theorem DOps.quiet {listed : Array Bool} {held : List (Nat × Held)} {i : Nat} {C : List Nat} {o : Oper} {v : Value} {T : Held} (ho : ops[i]? = some o) (hq : quietOp o.op = true) (hd : ∀ t, o.dst = some t → t < nt)
    (hv : ∀ a w, ActOk nt f a → View A w → holds T w ∧ YieldsIf P ops (holds T) o v a)
    (h : DOps P nt ops Q (listed.setIfInBounds i true) ((i, T) :: held) C ⟨putE f.e o.dst v, f.ds⟩ A) : DOps P nt ops Q listed held (i :: C) f A := by
  intro hc hn a w ha hw hh hcl A₀ w₀ hs
  simp only [canon, ho, if_pos hq, Bool.and_eq_true] at hc
  obtain ⟨⟨c1, c2⟩, c3⟩ := hc
  obtain ⟨t1, t2⟩ := hv a w ha hw
  have hr : i ∈ Region.ready .any ops listed := by simpa using c1
  have hheld : heldS ops ((i, T) :: held) listed w := fun p hp hj => by
    rcases List.mem_cons.1 hp with rfl | hp
    · exact t1
    · exact hh p hp hj
  have H := h c3 hn _ w (ha.put o.dst v hd) hw ((heldS_quiet ho hq _ _).2 hheld) (closed_set hcl hr) A₀ w₀ hs
  have free := Region.free_spec ho c2
  have H' : wpAnyS P ops (PostQ nt Q A₀ w₀) (heldS ops ((i, T) :: held)) (C.length + 1) listed a w :=
    wpAnyS_first (T := holds T) ho (Region.noSelect_spec hn) (fun c a w g => panic_put _ _ c a w g)
      (fun l w' hcl' hun hS => hS (i, T) (List.mem_cons_self ..) fun j hl ⟨oj, hoj, _⟩ => by
        cases q : anc ops i ops.size j with
        | false => rfl
        | true =>
          have := anc_listed hcl' ops.size j oj hoj (hcl' j oj hoj hl) q
          rw [getD_false hun] at this; cases this)
      (fun l w' => heldS_quiet ho hq l w') _ listed a w hcl (fun j oj hoj hne hun hno => free j oj hoj hne hun hno) hr t2 hheld H
  -- less is asked
  have weaken : ∀ (fuel : Nat) (l : Array Bool) (a : Act) (w : World), wpAnyS P ops (PostQ nt Q A₀ w₀) (heldS ops ((i, T) :: held)) fuel l a w → wpAnyS P ops (PostQ nt Q A₀ w₀) (heldS ops held) fuel l a w := by
    intro fuel
    induction fuel with
    | zero => intro l a w h; exact h
    | succ fuel ih => intro l a w h; exact ⟨h.1, fun j hj => wpOp_mono (fun a' w' h' => ⟨fun p hp => h'.1 p (List.mem_cons_of_mem _ hp), ih _ _ _ h'.2⟩) (h.2 j hj)⟩
  exact weaken _ _ _ _ H'

/-- A loud operation that its guard keeps back. -/
theorem DOps.loudOff {listed : Array Bool} {held : List (Nat × Held)} {i : Nat} {C : List Nat} {o : Oper} (ho : ops[i]? = some o) (hq : quietOp o.op = false) (hd : ∀ t, o.dst = some t → t < nt) (hwn : ∀ a : Act, ActOk nt f a → Region.wanted o (yielded ops a.tmps) = false)
    (h : DOps P nt ops Q (listed.setIfInBounds i true) (held.filter fun p => !anc ops p.1 ops.size i) C ⟨putE f.e o.dst undef, f.ds⟩ A) : DOps P nt ops Q listed held (i :: C) f A := by
  intro hc hn a w ha hw hh hcl A₀ w₀ hs
  simp only [canon, ho, hq, Bool.false_eq_true, if_false, Bool.and_eq_true, beq_iff_eq] at hc
  obtain ⟨c1, c2⟩ := hc
  have hr : i ∈ Region.ready .any ops listed := by rw [c1]; simp
  have hlt : i < listed.size := by
    have := (mem_ready.1 hr).1
    rcases Nat.lt_or_ge i listed.size with h' | h'
    · exact h'
    · simp [Array.getElem?_eq_none h'] at this
  have hl : (listed.setIfInBounds i true).getD i false = true := by simp [hlt]
  simp only [List.length_cons]
  refine ⟨fun h0 => (by rw [c1] at h0; cases h0), fun j hj => ?_⟩
  rw [c1, List.mem_singleton] at hj
  subst hj
  unfold wpOp
  simp only [ho, hwn a ha, Bool.false_eq_true, if_false]
  have hh' : heldS ops held (listed.setIfInBounds j true) w := fun p hp hj => hh p hp fun k hk hlo => hj k (getD_set_true hk) hlo
  refine ⟨hh', ?_⟩
  have hlo : V.loud ops j := ⟨o, ho, hq⟩
  have H := h c2 hn _ w (ha.put o.dst undef hd) hw (fun p hp hj => hh' p (List.mem_filter.1 hp).1 hj) (closed_set hcl hr) A₀ w₀ hs
  refine wpAnyS_mono (x := j) (fun l w hx hS p hp hj => hS p (List.mem_filter.2 ⟨hp, ?_⟩) hj) _ _ _ _ hl H
  simp [hj j hx hlo]

/-- A loud operation: it comes up alone; what is held, and does not come before it, holds behind it. -/
theorem DOps.loud {listed : Array Bool} {held : List (Nat × Held)} {i : Nat} {C : List Nat} {o : Oper} (ho : ops[i]? = some o) (hq : quietOp o.op = false) (hd : ∀ t, o.dst = some t → t < nt) (hwn : ∀ a : Act, ActOk nt f a → Region.wanted o (yielded ops a.tmps) = true)
    (h : ∀ (K : Value → AH → Prop) (Kp : List PanicEntry → AH → Prop),
      (∀ v A', (∀ w', View A' w' → ∀ p ∈ held, anc ops p.1 ops.size i = false → holds p.2 w') → DOps P nt ops Q (listed.setIfInBounds i true) (held.filter fun p => !anc ops p.1 ops.size i) C ⟨putE f.e o.dst v, f.ds⟩ A' → K v A') →
      (∀ ch A', Q (.panic ch) ⟨[], f.ds⟩ A' → Kp ch A') → opV P f.e A o K Kp) : DOps P nt ops Q listed held (i :: C) f A := by
  intro hc hn a w ha hw hh hcl A₀ w₀ hs
  simp only [canon, ho, hq, Bool.false_eq_true, if_false, Bool.and_eq_true, beq_iff_eq] at hc
  obtain ⟨c1, c2⟩ := hc
  have hr : i ∈ Region.ready .any ops listed := by rw [c1]; simp
  have hlt : i < listed.size := by
    have := (mem_ready.1 hr).1
    rcases Nat.lt_or_ge i listed.size with h' | h'
    · exact h'
    · simp [Array.getElem?_eq_none h'] at this
  have hl : (listed.setIfInBounds i true).getD i false = true := by simp [hlt]
  simp only [List.length_cons]
  refine ⟨fun h0 => (by rw [c1] at h0; cases h0), fun j hj => ?_⟩
  rw [c1, List.mem_singleton] at hj
  subst hj
  unfold wpOp
  simp only [ho, hwn a ha, if_true]
  left
  have := opV_sound (o := o) (K := fun v A' => (∀ w', View A' w' → ∀ p ∈ held, anc ops p.1 ops.size j = false → holds p.2 w') ∧ DOps P nt ops Q (listed.setIfInBounds j true) (held.filter fun p => !anc ops p.1 ops.size j) C ⟨putE f.e o.dst v, f.ds⟩ A')
    (Kp := fun ch A' => Q (.panic ch) ⟨[], f.ds⟩ A') ha hw (h _ _ (fun v A' g1 g2 => ⟨g1, g2⟩) (fun ch A' g => g))
  unfold Oper.wp at this ⊢
  have up : ∀ r, o.upon P a (After A a w o fun v A' => (∀ w', View A' w' → ∀ p ∈ held, anc ops p.1 ops.size j = false → holds p.2 w') ∧ DOps P nt ops Q (listed.setIfInBounds j true) (held.filter fun p => !anc ops p.1 ops.size j) C ⟨putE f.e o.dst v, f.ds⟩ A') (Behind A a w fun ch A' => Q (.panic ch) ⟨[], f.ds⟩ A') r →
      o.upon P a (fun a' w' => heldS ops held (listed.setIfInBounds j true) w' ∧ wpAnyS P ops (PostQ nt Q A₀ w₀) (heldS ops held) C.length (listed.setIfInBounds j true) a' w') (PostQ nt Q A₀ w₀) r := by
    have next : ∀ a' w', (After A a w o fun v A' => (∀ w', View A' w' → ∀ p ∈ held, anc ops p.1 ops.size j = false → holds p.2 w') ∧ DOps P nt ops Q (listed.setIfInBounds j true) (held.filter fun p => !anc ops p.1 ops.size j) C ⟨putE f.e o.dst v, f.ds⟩ A') a' w' →
        heldS ops held (listed.setIfInBounds j true) w' ∧ wpAnyS P ops (PostQ nt Q A₀ w₀) (heldS ops held) C.length (listed.setIfInBounds j true) a' w' := by
      rintro a' w' ⟨v, A', rfl, hv', hs', g1, g2⟩
      have hlo : V.loud ops j := ⟨o, ho, hq⟩
      have hh' : heldS ops held (listed.setIfInBounds j true) w' := fun p hp hj => g1 w' hv' p hp (hj j hl hlo)
      refine ⟨hh', ?_⟩
      have H := g2 c2 hn _ w' (ha.put o.dst v hd) hv' (fun p hp hj => hh' p (List.mem_filter.1 hp).1 hj) (closed_set hcl hr) A₀ w₀ (hs.trans hs')
      refine wpAnyS_mono (x := j) (fun l w hx hS p hp hj => hS p (List.mem_filter.2 ⟨hp, ?_⟩) hj) _ _ _ _ hl H
      simp [hj j hx hlo]
    have pan : ∀ x a' w', Behind A a w (fun ch A' => Q (.panic ch) ⟨[], f.ds⟩ A') x a' w' → PostQ nt Q A₀ w₀ x a' w' := by
      rintro x a' w' ⟨ch, A', rfl, rfl, hv', hs', g⟩
      exact ⟨⟨[], f.ds⟩, A', ⟨ha.size, (fun _ _ q => by cases q), ha.ds⟩, hv', hs.trans hs', g, fun _ _ => rfl⟩
    intro r hr'
    cases r with
    | ok n w' =>
      cases n <;> simp only [Oper.upon] at hr' ⊢ <;> (try exact hr'.elim)
      case value v => exact next _ _ hr'
      case skip => exact next _ _ hr'
      case defer d => exact next _ _ hr'
      case enter f' args =>
        refine hr'.mono fun e w'' he => ?_
        cases e with
        | returned v => exact next _ _ he
        | panicked ch => exact pan _ _ _ he
        | outgrown => obtain ⟨a₁, w₁, ch, A', q, _⟩ := he; cases q
      case row row args => exact hr'.mono fun v w'' he => next _ _ he
    | halt x w' =>
      cases x <;> simp only [Oper.upon] at hr' ⊢ <;> (try exact hr'.elim)
      case panic v => exact pan _ _ _ hr'
  exact up _ this

theorem DOps.done {listed : Array Bool} {held : List (Nat × Held)} (h : Q .normal f A) : DOps P nt ops Q listed held [] f A := by
  intro hc _ a w ha hw _ _ A₀ w₀ hs
  simp only [canon, List.isEmpty_iff] at hc
  exact ⟨hc, f, A, ha, hw, hs, h, fun _ q => by cases q⟩

/-- The beginning of a drawn region. -/
theorem Run.drawn {id : Nat} (C : List Nat) (hm : P.follows .mixedOrders = true) (hc : canon ops (Array.replicate ops.size false) C = true) (hn : Region.noSelect ops = true) (hl : C.length = ops.size)
    (h : DOps P nt ops Q (Array.replicate ops.size false) [] C f A) : Run P nt (.region id ops true) Q f A := by
  intro a w ha hw
  obtain ⟨v1, s1⟩ := view_drawn hw
  refine wp_region_any hm (wpAny_of_S (S := heldS ops []) _ _ _ _ ?_)
  have key := h hc hn a _ ha v1 (fun p hp => by cases hp) (fun j o _ hj => by
    exfalso
    rcases Nat.lt_or_ge j ops.size with q | q
    · simp [q] at hj
    · simp [q] at hj) A w s1
  rw [hl] at key
  exact key
end
end V
end Go.Proofs.YtaccklloepfemaaGreatDoor
