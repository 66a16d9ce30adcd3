/- The rules by which code is gone through: lists of operations in the order of the text, drawn regions, entering a function. -/
import Derived.Test.YtaccklloepfemaaGreatDoorVDraw
namespace Go.Proofs.YtaccklloepfemaaGreatDoor
set_option linter.unusedVariables false
set_option linter.unusedSimpArgs false
open Go Go.RowKit
namespace V
section
variable {P : Program} {nt : Nat} {all ops : Array Oper} {Q : Exit → Fr → AH → Prop} {f : Fr} {A : AH}

/-- The operations that are still to come of a region in the order of the text. -/
def Ops (P : Program) (nt : Nat) (all : Array Oper) (os : List Oper) (Q : Exit → Fr → AH → Prop) (f : Fr) (A : AH) : Prop :=
  ∀ a w, ActOk nt f a → View A w → ∀ (A₀ : AH) (w₀ : World), Step A₀ w₀ A w → wpList P all (PostQ nt Q A₀ w₀) os a w

theorem Ops.nil (h : Q .normal f A) : Ops P nt all [] Q f A := fun _ _ ha hw _ _ hs => ⟨f, A, ha, hw, hs, h, fun _ q => by cases q⟩

def dstOk (nt : Nat) : Option Nat → Bool
  | none => true
  | some t => Nat.blt t nt
theorem dstOk_spec {d : Option Nat} (h : dstOk nt d = true) : ∀ t, d = some t → t < nt := by
  rintro t rfl; simpa [dstOk, Nat.blt_eq] using h

/-- One operation; K stands for what comes behind it. -/
theorem Ops.run {o : Oper} {os : List Oper} (hw : ∀ a : Act, ActOk nt f a → Region.wanted o (yielded all a.tmps) = true) (hd : dstOk nt o.dst = true)
    (h : ∀ (K : Value → AH → Prop) (Kp : List PanicEntry → AH → Prop), (∀ v A', Ops P nt all os Q ⟨putE f.e o.dst v, f.ds⟩ A' → K v A') → (∀ ch A', Q (.panic ch) ⟨[], f.ds⟩ A' → Kp ch A') → opV P f.e A o K Kp) :
    Ops P nt all (o :: os) Q f A := by
  intro a w ha hv A₀ w₀ hs
  have := opV_sound (o := o) ha hv (h (fun v A' => Ops P nt all os Q ⟨putE f.e o.dst v, f.ds⟩ A') (fun ch A' => Q (.panic ch) ⟨[], f.ds⟩ A') (fun _ _ g => g) (fun _ _ g => g))
  unfold wpList
  rw [if_pos (hw a ha)]
  left
  unfold Oper.wp at this ⊢
  generalize (execOp a.eval o).run P w = r at this ⊢
  have next : ∀ a' w', After A a w o (fun v A' => Ops P nt all os Q ⟨putE f.e o.dst v, f.ds⟩ A') a' w' → wpList P all (PostQ nt Q A₀ w₀) os a' w' := by
    rintro a' w' ⟨v, A', rfl, hv', hs', g⟩
    exact g _ w' (ha.put o.dst v (dstOk_spec hd)) hv' A₀ w₀ (hs.trans hs')
  have pan : ∀ x a' w', Behind A a w (fun ch A' => Q (.panic ch) ⟨[], f.ds⟩ A') x a' w' → PostQ nt Q A₀ w₀ x a' w' := by
    rintro x a' w' ⟨ch, A', rfl, rfl, hv', hs', g⟩
    exact ⟨⟨[], f.ds⟩, A', ⟨ha.size, (fun _ _ q => by cases q), ha.ds⟩, hv', hs.trans hs', g, fun _ _ => rfl⟩
  cases r with
  | ok n w' =>
    cases n <;> simp only [Oper.upon] at this ⊢ <;> (try exact this.elim)
    case value v => exact next _ _ this
    case skip => exact next _ _ this
    case defer d => exact next _ _ this
    case enter f' args =>
      refine this.mono fun e w'' he => ?_
      cases e with
      | returned v => exact next _ _ he
      | panicked ch => exact pan _ _ _ he
      | outgrown => obtain ⟨a₁, w₁, ch, A', q, _⟩ := he; cases q
    case row row args => exact this.mono fun v w'' he => next _ _ he
  | halt x w' =>
    cases x <;> simp only [Oper.upon] at this ⊢ <;> (try exact this.elim)
    case panic v => exact pan _ _ _ this

theorem Ops.cons {o : Oper} {os : List Oper} (hg : o.guard = none) (hd : dstOk nt o.dst = true)
    (h : ∀ (K : Value → AH → Prop) (Kp : List PanicEntry → AH → Prop), (∀ v A', Ops P nt all os Q ⟨putE f.e o.dst v, f.ds⟩ A' → K v A') → (∀ ch A', Q (.panic ch) ⟨[], f.ds⟩ A' → Kp ch A') → opV P f.e A o K Kp) :
    Ops P nt all (o :: os) Q f A := Ops.run (fun a _ => by simp [Region.wanted, hg]) hd h

def guardTmp (all : Array Oper) (j : Nat) : Option Nat := (all[j]?).bind (·.dst)

theorem yielded_of {a : Act} {j t : Nat} {b : Bool} (ha : ActOk nt f a) (ht : guardTmp all j = some t) (hv : getE f.e t = some (.bool b)) : yielded all a.tmps j = some b := by
  unfold guardTmp at ht
  obtain ⟨h1, h2⟩ := ha.slot t _ hv
  have hs := ha.size
  unfold yielded
  rw [ht]
  have : a.tmps[t]? = some (.bool b) := by
    have hlt : t < a.tmps.size := by omega
    simp [Array.getElem?_eq_getElem hlt] at h1 ⊢
    exact h1
  simp [this]

theorem yielded_not {a : Act} {j t : Nat} {v : Value} (ha : ActOk nt f a) (ht : guardTmp all j = some t) (hv : getE f.e t = some v) (hb : ∀ b, v ≠ .bool b) : yielded all a.tmps j = none := by
  unfold guardTmp at ht
  obtain ⟨h1, h2⟩ := ha.slot t _ hv
  have hs := ha.size
  unfold yielded
  rw [ht]
  have : a.tmps[t]? = some v := by
    have hlt : t < a.tmps.size := by omega
    simp [Array.getElem?_eq_getElem hlt] at h1 ⊢
    exact h1
  simp only [Option.bind_some, this]
  cases v <;> first | rfl | exact absurd rfl (hb _)

/-- An operation under a guard whose bool is known, or is parted on. -/
theorem Ops.guard {o : Oper} {os : List Oper} {j t : Nat} {want b : Bool} (hg : o.guard = some (j, want)) (ht : guardTmp all j = some t) (hv : getE f.e t = some (.bool b)) (hd : dstOk nt o.dst = true)
    (h1 : b = want → ∀ (K : Value → AH → Prop) (Kp : List PanicEntry → AH → Prop), (∀ v A', Ops P nt all os Q ⟨putE f.e o.dst v, f.ds⟩ A' → K v A') → (∀ ch A', Q (.panic ch) ⟨[], f.ds⟩ A' → Kp ch A') → opV P f.e A o K Kp)
    (h2 : b = !want → Ops P nt all os Q ⟨putE f.e o.dst undef, f.ds⟩ A) : Ops P nt all (o :: os) Q f A := by
  by_cases q : b = want
  · exact Ops.run (fun a ha => by simp [Region.wanted, hg, yielded_of ha ht hv, q]) hd (h1 q)
  · have q' : b = !want := by cases b <;> cases want <;> simp_all
    intro a w ha hw A₀ w₀ hs
    unfold wpList
    rw [if_neg (by simp [Region.wanted, hg, yielded_of ha ht hv, q])]
    exact h2 q' _ w (ha.put o.dst undef (dstOk_spec hd)) hw A₀ w₀ hs

/-- An operation under a guard that has itself not been carried out. -/
theorem Ops.unwanted {o : Oper} {os : List Oper} {j t : Nat} {want : Bool} (hg : o.guard = some (j, want)) (ht : guardTmp all j = some t) (hv : getE f.e t = some undef) (hd : dstOk nt o.dst = true)
    (h2 : Ops P nt all os Q ⟨putE f.e o.dst undef, f.ds⟩ A) : Ops P nt all (o :: os) Q f A := by
  intro a w ha hw A₀ w₀ hs
  unfold wpList
  rw [if_neg (by simp [Region.wanted, hg, yielded_not ha ht hv (fun b q => by cases q)])]
  exact h2 _ w (ha.put o.dst undef (dstOk_spec hd)) hw A₀ w₀ hs

theorem Run.region {id : Nat} {l : List Oper} (h : Ops P nt l.toArray l Q f A) : Run P nt (.region id l.toArray false) Q f A :=
  fun a w ha hw => wp_region_lit (h a w ha hw A w (.refl _ _))

/-! ### Drawn regions: one operation -/
/-- The cells of a load. -/
def heldOf (a : Addr) : Nat → List Value → Held
  | _, [] => []
  | i, v :: vs => (a.add i, v) :: heldOf a (i + 1) vs

theorem cell_of_held {a : Addr} {w : World} : ∀ (vs : List Value) (i : Nat), holds (heldOf a i vs) w → ∀ acc : Array Value, (loadCellsFrom a i vs.length acc).run P w = .ok (acc ++ vs.toArray) w := by
  intro vs
  induction vs with
  | nil => intro i _ acc; simp [loadCellsFrom]
  | cons v vs ih =>
    intro i h acc
    have h1 : w.cell? (a.add i) = some v := h (a.add i, v) (by simp [heldOf])
    simp only [List.length_cons, loadCellsFrom, Sem.run_bind, run_load, h1, Result.andThen_ok]
    rw [ih (i + 1) (fun p hp => h p (by simp [heldOf, hp])) (acc.push v)]
    simp

theorem held_of_cells {a : Addr} {w : World} {rw : Bool} {c : List Value} {cap : Nat} (hv : View A w) (hs : a.spot.isSome = false) (g : A.get a.block = some (.row rw c cap)) :
    ∀ (n i : Nat), a.off + i + n ≤ c.length → holds (heldOf a i ((c.drop (a.off + i)).take n)) w := by
  intro n
  induction n with
  | zero => intro i _ p hp; simp [heldOf] at hp
  | succ n ih =>
    intro i hn p hp
    have hlt : a.off + i < c.length := by omega
    rw [List.drop_eq_getElem_cons hlt, List.take_succ_cons] at hp
    simp only [heldOf, List.mem_cons] at hp
    rcases hp with rfl | hp
    · exact hv.cell (by rw [add_off a i hs]; simp [AH.cell, g, List.getElem?_eq_getElem hlt])
    · exact ih (i + 1) (by omega) p (by simpa [Nat.add_assoc] using hp)

/-- Cells that are loaded: those of a struct, or the one. -/
def cellsOf (P : Program) (t : TypeId) (v : Value) : List Value :=
  match aggOf P t, v with
  | some true, .agg cs => cs.toList
  | _, v => [v]

theorem load_held {t : TypeId} {a : Addr} {v : Value} {w : World} (hv : View A w) (g : loadV P A t (.pointer (some a)) = some v) :
    holds (heldOf a 0 (cellsOf P t v)) w ∧ ∀ w', holds (heldOf a 0 (cellsOf P t v)) w' → (Instr.loadAt t (.pointer (some a))).run P w' = .ok v w' := by
  simp only [loadV] at g
  cases ha : aggOf P t with
  | none => simp [ha] at g
  | some b =>
    cases b with
    | true =>
      cases hs : szOf P t with
      | none => simp [ha, hs] at g
      | some n =>
        cases hc : A.cellsAt a n with
        | none => simp [ha, hs, hc] at g
        | some cs =>
          simp [ha, hs, hc] at g; subst g
          have hcs : cellsOf P t (.agg cs.toArray) = cs := by simp [cellsOf, ha]
          rw [hcs]
          have hlen : cs.length = n ∧ holds (heldOf a 0 cs) w := by
            unfold AH.cellsAt at hc
            split at hc
            · cases hc
            · rename_i hsp
              split at hc
              · rename_i rw' c cap hb
                unfold cellsL at hc
                split at hc
                · cases hc
                  refine ⟨by simp; omega, ?_⟩
                  have := held_of_cells hv (by simpa using hsp) hb n 0 (by omega)
                  simpa using this
                · cases hc
              · cases hc
          refine ⟨hlen.2, fun w' hw' => ?_⟩
          have := cell_of_held (P := P) cs 0 hw' #[]
          rw [hlen.1] at this
          simp [Instr.loadAt, Instr.sureAddr, loadVar, run_aggOf ha, run_szOf hs, loadCells, this]
    | false =>
      simp only [ha] at g
      have hcs : cellsOf P t v = [v] := by unfold cellsOf; rw [ha]
      rw [hcs]
      have h0 : a.add 0 = a := by simp [Addr.add]
      refine ⟨fun p hp => ?_, fun w' hw' => ?_⟩
      · simp only [heldOf, List.mem_singleton] at hp; subst hp; rw [h0]; exact hv.cell g
      · have := hw' (a.add 0, v) (by simp [heldOf])
        rw [h0] at this
        simp [Instr.loadAt, Instr.sureAddr, loadVar, run_aggOf ha, this]

/-- What a quiet operation yields, and the cells by which. -/
def quietV (P : Program) (e : Env) (A : AH) : Op → Option (Value × Held)
  | .load t x => match opd e x with
    | some (.pointer (some a)) => (loadV P A t (.pointer (some a))).map fun v => (v, heldOf a 0 (cellsOf P t v))
    | _ => none
  | .call { callee := .builtin .len, args, argTypes } => match allV (opd e) args.toList, argTypes.toList with
    | some [.string s], [t] => (lenV P A t (.string s)).map fun v => (v, [])
    | some [.slice a n c], [t] => (lenV P A t (.slice a n c)).map fun v => (v, [])
    | _, _ => none
  | .call { callee := .builtin .max, args, .. } => match allV (opd e) args.toList with
    | some (.int k x :: r) => (maxL k x r).map fun v => (.int k v, [])
    | _ => none
  | .call { callee := .builtin .min, args, .. } => match allV (opd e) args.toList with
    | some (.int k x :: r) => (minL k x r).map fun v => (.int k v, [])
    | _ => none
  | .build t ps => match partsE e ps.toList with
    | some l => (buildV P t l).map fun v => (v, [])
    | none => none
  | op => (pureOp P (opd e) op).map fun v => (v, [])

theorem quietV_sound {o : Oper} {v : Value} {T : Held} (h : quietV P f.e A o.op = some (v, T)) {a : Act} {w : World} (ha : ActOk nt f a) (hw : View A w) :
    holds T w ∧ ∀ w', holds T w' → (execOp a.eval o).run P w' = .ok (.value v) w' := by
  have hev : ∀ x v, opd f.e x = some v → a.eval x = v := fun x v g => opd_eval ha g
  have none : holds [] w := fun p hp => by cases hp
  have pure : ∀ {op}, op = o.op → (pureOp P (opd f.e) op).map (fun v => (v, ([] : Held))) = some (v, T) → holds T w ∧ ∀ w', holds T w' → (execOp a.eval o).run P w' = .ok (.value v) w' := by
    rintro op rfl g
    cases hp : pureOp P (opd f.e) o.op with
    | none => simp [hp] at g
    | some u => simp [hp] at g; obtain ⟨rfl, rfl⟩ := g; exact ⟨none, fun w' _ => run_pure hev hp⟩
  have hargs : ∀ (args : Array Operand) vs, allV (opd f.e) args.toList = some vs → args.map a.eval = vs.toArray := fun args vs g => by
    apply Array.ext'; simp [all_eval hev _ _ g]
  obtain ⟨dst, op, type, pos, after, guard⟩ := o
  cases op <;> first | exact pure rfl h | skip
  case load t x =>
    simp only [quietV] at h
    split at h
    · rename_i b hx
      cases hl : loadV P A t (.pointer (some b)) with
      | none => simp [hl] at h
      | some u =>
        simp [hl] at h; obtain ⟨rfl, rfl⟩ := h
        obtain ⟨h1, h2⟩ := load_held hw hl
        exact ⟨h1, fun w' hT => by simp only [execOp, hev _ _ hx, Sem.run_bind, h2 w' hT, Result.andThen_ok]; rfl⟩
    · cases h
  case build t ps =>
    simp only [quietV] at h
    split at h
    · rename_i l hl
      cases hb : buildV P t l with
      | none => simp [hb] at h
      | some u =>
        simp [hb] at h; obtain ⟨rfl, rfl⟩ := h
        exact ⟨none, fun w' _ => by simp only [execOp, Sem.run_bind, run_build (ps := ps.map fun (i, x) => (i, a.eval x)) (by simpa using parts_eval hev _ _ hl) hb, Result.andThen_ok]; rfl⟩
    · cases h
  case call c =>
    obtain ⟨callee, args, argTypes⟩ := c
    cases callee with
    | value _ => exact pure rfl h
    | invoke _ _ => exact pure rfl h
    | builtin b =>
      cases b <;> first | exact pure rfl h | skip
      case len =>
        simp only [quietV] at h
        split at h
        · rename_i s t h1 h2
          have ht : argTypes = #[t] := by apply Array.ext'; simpa using h2
          subst ht
          cases hl : lenV P A t (.string s) with
          | none => simp [hl] at h
          | some u => simp [hl] at h; obtain ⟨rfl, rfl⟩ := h; exact ⟨none, fun w' _ => by
              have : lenV P ⟨w'.heap.size, fun _ => Option.none⟩ t (.string s) = some u := by
                unfold lenV at hl ⊢; split at hl <;> simp_all
              have := run_len (P := P) (ty := type) (A := ⟨w'.heap.size, fun _ => Option.none⟩) (w := w') ⟨rfl, fun _ _ q => by cases q⟩ this
              simp [execOp, resolve, hargs _ _ h1, invoke, builtin, this]⟩
        · rename_i b n c t h1 h2
          have ht : argTypes = #[t] := by apply Array.ext'; simpa using h2
          subst ht
          cases hl : lenV P A t (.slice b n c) with
          | none => simp [hl] at h
          | some u => simp [hl] at h; obtain ⟨rfl, rfl⟩ := h; exact ⟨none, fun w' _ => by
              have : lenV P ⟨w'.heap.size, fun _ => Option.none⟩ t (.slice b n c) = some u := by
                unfold lenV at hl ⊢; split at hl <;> simp_all
              have := run_len (P := P) (ty := type) (A := ⟨w'.heap.size, fun _ => Option.none⟩) (w := w') ⟨rfl, fun _ _ q => by cases q⟩ this
              simp [execOp, resolve, hargs _ _ h1, invoke, builtin, this]⟩
        · cases h
      case max =>
        simp only [quietV] at h
        split at h
        · rename_i k x r h1
          cases hl : maxL k x r with
          | none => simp [hl] at h
          | some u => simp [hl] at h; obtain ⟨rfl, rfl⟩ := h; exact ⟨none, fun w' _ => by simp [execOp, resolve, hargs _ _ h1, invoke, builtin, Builtin.max_, run_max r x u hl]⟩
        · cases h
      case min =>
        simp only [quietV] at h
        split at h
        · rename_i k x r h1
          cases hl : minL k x r with
          | none => simp [hl] at h
          | some u => simp [hl] at h; obtain ⟨rfl, rfl⟩ := h; exact ⟨none, fun w' _ => by simp [execOp, resolve, hargs _ _ h1, invoke, builtin, Builtin.min_, run_min r x u hl]⟩
        · cases h

theorem DOps.take {listed : Array Bool} {held : List (Nat × Held)} {i : Nat} {C : List Nat} {o : Oper} {v : Value} {T : Held} (ho : ops[i]? = some o) (hq : quietOp o.op = true) (hd : dstOk nt o.dst = true) (hg : o.guard = none)
    (hv : quietV P f.e A o.op = some (v, T))
    (h : DOps P nt ops Q (listed.setIfInBounds i true) ((i, T) :: held) C ⟨putE f.e o.dst v, f.ds⟩ A) : DOps P nt ops Q listed held (i :: C) f A :=
  DOps.quiet ho hq (dstOk_spec hd) (fun _ _ ha hw => ⟨(quietV_sound hv ha hw).1, .inl ⟨by simp [Region.wanted, hg], (quietV_sound hv ha hw).2⟩⟩) h

theorem DOps.takeOn {listed : Array Bool} {held : List (Nat × Held)} {i j t : Nat} {want : Bool} {C : List Nat} {o : Oper} {v : Value} {T : Held} (ho : ops[i]? = some o) (hq : quietOp o.op = true) (hd : dstOk nt o.dst = true) (hg : o.guard = some (j, want))
    (ht : guardTmp ops j = some t) (hb : getE f.e t = some (.bool want)) (hv : quietV P f.e A o.op = some (v, T))
    (h : DOps P nt ops Q (listed.setIfInBounds i true) ((i, T) :: held) C ⟨putE f.e o.dst v, f.ds⟩ A) : DOps P nt ops Q listed held (i :: C) f A :=
  DOps.quiet ho hq (dstOk_spec hd) (fun _ _ ha hw => ⟨(quietV_sound hv ha hw).1, .inl ⟨by simp [Region.wanted, hg, yielded_of ha ht hb], (quietV_sound hv ha hw).2⟩⟩) h

theorem DOps.takeOff {listed : Array Bool} {held : List (Nat × Held)} {i j t : Nat} {want b : Bool} {C : List Nat} {o : Oper} (ho : ops[i]? = some o) (hq : quietOp o.op = true) (hd : dstOk nt o.dst = true) (hg : o.guard = some (j, want))
    (ht : guardTmp ops j = some t) (hb : getE f.e t = some (.bool b)) (hne : b = !want)
    (h : DOps P nt ops Q (listed.setIfInBounds i true) ((i, []) :: held) C ⟨putE f.e o.dst undef, f.ds⟩ A) : DOps P nt ops Q listed held (i :: C) f A :=
  DOps.quiet ho hq (dstOk_spec hd) (fun _ _ ha _ => ⟨(fun p hp => by cases hp), .inr ⟨by simp [Region.wanted, hg, yielded_of ha ht hb, hne], rfl⟩⟩) h

theorem DOps.takeUndef {listed : Array Bool} {held : List (Nat × Held)} {i j t : Nat} {want : Bool} {C : List Nat} {o : Oper} (ho : ops[i]? = some o) (hq : quietOp o.op = true) (hd : dstOk nt o.dst = true) (hg : o.guard = some (j, want))
    (ht : guardTmp ops j = some t) (hb : getE f.e t = some undef)
    (h : DOps P nt ops Q (listed.setIfInBounds i true) ((i, []) :: held) C ⟨putE f.e o.dst undef, f.ds⟩ A) : DOps P nt ops Q listed held (i :: C) f A :=
  DOps.quiet ho hq (dstOk_spec hd) (fun _ _ ha _ => ⟨(fun p hp => by cases hp), .inr ⟨by simp [Region.wanted, hg, yielded_not ha ht hb (fun _ q => by cases q)], rfl⟩⟩) h

/-! ### Entering and leaving a function -/
def argE : List Value → Nat → Env
  | [], _ => []
  | v :: vs, i => (i, v) :: argE vs (i + 1)

theorem argE_get : ∀ (vs : List Value) (i t : Nat) (v : Value), getE (argE vs i) t = some v → i ≤ t ∧ vs[t - i]? = some v := by
  intro vs
  induction vs with
  | nil => intro i t v h; cases h
  | cons u vs ih =>
    intro i t v h
    simp only [argE, getE_cons] at h
    split at h
    · rename_i q; subst q; cases h; exact ⟨Nat.le_refl _, by simp⟩
    · obtain ⟨h1, h2⟩ := ih _ _ _ h
      refine ⟨by omega, ?_⟩
      rw [show t - i = (t - (i + 1)) + 1 by omega]
      simpa using h2

/-- The results of a function. -/
def resV (P : Program) (e : Env) (A : AH) : List ResultVar → Option (List Value)
  | [] => some []
  | .tmp t :: r => match getE e t, resV P e A r with
    | some v, some vs => some (v :: vs)
    | _, _ => none
  | .cell a t :: r => match getE e a, resV P e A r with
    | some (.pointer (some x)), some vs => (loadV P A t (.pointer (some x))).map fun v => v :: vs
    | _, _ => none
def oneV : List Value → Value
  | [v] => v
  | vs => .tuple vs.toArray

theorem run_results {fn : Func} {a : Act} {w : World} {vs : List Value} (ha : ActOk nt f a) (hw : View A w) (h : resV P f.e A fn.results.toList = some vs) : (results fn a.tmps).run P w = .ok (oneV vs) w := by
  have key : ∀ (l : List ResultVar) (vs : List Value), resV P f.e A l = some vs → Sem.run P (l.mapM (fun (r : ResultVar) => (match r with | .tmp t => Pure.pure (a.tmps.getD t undef) | .cell x t => do loadVar t (← asAddr (a.tmps.getD x undef)) : Sem Value))) w = Result.ok vs w := by
    intro l
    induction l with
    | nil => intro vs h; simp [resV] at h; simp [h]
    | cons r l ih =>
      intro vs h
      cases r with
      | tmp t =>
        simp only [resV] at h
        split at h
        · rename_i v us h1 h2; cases h
          simp only [List.mapM_cons, Sem.run_bind, Sem.run_pure, Result.andThen_ok, ih _ h2, (ha.slot t v h1).1]
        · cases h
      | cell x t =>
        simp only [resV] at h
        split at h
        · rename_i ad us h1 h2
          cases hl : loadV P A t (.pointer (some ad)) with
          | none => simp [hl] at h
          | some v =>
            simp [hl] at h; subst h
            have := run_loadV (P := P) hw hl
            simp only [Instr.loadAt, Instr.sureAddr, Sem.run_bind, Sem.run_pure, Result.andThen_ok] at this
            have hA : asAddr (a.tmps.getD x undef) = Pure.pure ad := by rw [(ha.slot x _ h1).1]; rfl
            simp only [List.mapM_cons, Sem.run_bind, Sem.run_pure, Result.andThen_ok, ih _ h2, hA, this]
        · cases h
  have k := key _ _ h
  unfold results
  rw [Array.mapM_eq_mapM_toList]
  simp only [Sem.run_bind, Sem.run_map]
  erw [k]
  simp only [Result.andThen_ok, Sem.run_pure]
  congr 1
  match vs with
  | [] => rfl
  | [v] => rfl
  | u :: v :: r => rfl

/-- Where a function's body comes to. -/
def bodyQ (P : Program) (rs : List ResultVar) (Q : Ending → AH → Prop) : Exit → Fr → AH → Prop
  | .normal, f, A | .ret, f, A => f.ds = [] ∧ ∃ vs, resV P f.e A rs = some vs ∧ Q (.returned (oneV vs)) A
  | .panic ch, f, A => f.ds = [] ∧ Q (.panicked ch) A
  | _, _, _ => False

theorem CallsA.enter {g : FuncId} {fn : Func} {c : Code} {args : List Value} {Qe : Ending → AH → Prop} (he : Enters P g) (hf : P.funcs[g]? = some fn) (hb : fn.body = some c) (hn : args.length ≤ fn.ntmps)
    (h : A.wf → Run P fn.ntmps c (bodyQ P fn.results.toList Qe) ⟨argE args 0, []⟩ A) : CallsA P g args.toArray A Qe := by
  refine ⟨he, fun w hw => calls_of_wp hf hb ?_⟩
  have ha : ActOk fn.ntmps ⟨argE args 0, []⟩ { tmps := args.toArray ++ Array.replicate (fn.ntmps - args.toArray.size) undef, defers := [] } := by
    refine ⟨by simp; omega, fun t v q => ?_, rfl⟩
    obtain ⟨_, h2⟩ := argE_get args 0 t v q
    simp only [Nat.sub_zero] at h2
    have hlt : t < args.length := (List.getElem?_eq_some_iff.1 h2).1
    refine ⟨?_, by omega⟩
    simp only [Array.getD_eq_getD_getElem?]
    rw [Array.getElem?_append_left (by simpa using hlt)]
    simp [h2]
  refine wp_mono (h hw.wf _ w ha hw) ?_
  rintro x a' w' ⟨f', A', h1, h2, h3, h4, h5⟩
  cases x <;> simp only [bodyQ] at h4 <;> (try exact h4.elim)
  case normal => obtain ⟨q, vs, hr, hq⟩ := h4; exact ⟨h1.ds.trans q, _, run_results h1 h2 hr, A', h2, h3, hq⟩
  case ret => obtain ⟨q, vs, hr, hq⟩ := h4; exact ⟨h1.ds.trans q, _, run_results h1 h2 hr, A', h2, h3, hq⟩
  case panic ch => exact ⟨h1.ds.trans h4.1, A', h2, h3, h4.2⟩
end
end V
end Go.Proofs.YtaccklloepfemaaGreatDoor
