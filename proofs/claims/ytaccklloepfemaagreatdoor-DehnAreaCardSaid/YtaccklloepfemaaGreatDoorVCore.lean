/- A logic over a partial view of memory: what is known of some blocks, and the judgements 'Run' (code) and 'CallsA' (calls) over it; the control rules. -/
import Derived.Calls
import Derived.Scope
import Derived.OrdersHeld
import Derived.Below
namespace Go.Proofs.YtaccklloepfemaaGreatDoor
set_option linter.unusedVariables false
set_option linter.unusedSimpArgs false
open Go Go.RowKit
namespace V

/-- What is known of a block: a row of cells of which a beginning is known, and how many cells it has at least, or any other object, known whole; 'rw': it may be written. -/
inductive AObj where
  | row (rw : Bool) (c : List Value) (cap : Nat)
  | obj (rw : Bool) (o : Obj)

def AObj.rw : AObj → Bool
  | .row b _ _ => b
  | .obj b _ => b

/-- A partial view of memory: how many blocks there are, and what is known of some. -/
structure AH where
  n : Nat
  get : Nat → Option AObj

def AH.rw (A : AH) (b : Nat) : Bool := match A.get b with | some o => o.rw | none => false
def AH.wf (A : AH) : Prop := ∀ b o, A.get b = some o → b < A.n
def AH.new (A : AH) (o : AObj) : AH := ⟨A.n + 1, fun b => if b = A.n then some o else A.get b⟩
def AH.set (A : AH) (b : Nat) (o : AObj) : AH := ⟨A.n, fun k => if k = b then some o else A.get k⟩
def AH.kill (A : AH) (b : Nat) : AH := ⟨A.n, fun k => if k = b then none else A.get k⟩
def AH.grow (A : AH) (n : Nat) : AH := ⟨n, A.get⟩

/-- Everything that was known is known as it was. -/
structure AH.le (A A' : AH) : Prop where
  n : A.n ≤ A'.n
  get : ∀ b o, A.get b = some o → A'.get b = some o

theorem AH.le.refl (A : AH) : A.le A := ⟨Nat.le_refl _, fun _ _ h => h⟩
theorem AH.le.trans {A B C : AH} (h : A.le B) (k : B.le C) : A.le C := ⟨Nat.le_trans h.n k.n, fun b o g => k.get b o (h.get b o g)⟩

@[simp] theorem AH.new_n (A : AH) (o : AObj) : (A.new o).n = A.n + 1 := rfl
@[simp] theorem AH.set_n (A : AH) (b : Nat) (o : AObj) : (A.set b o).n = A.n := rfl
@[simp] theorem AH.kill_n (A : AH) (b : Nat) : (A.kill b).n = A.n := rfl
@[simp] theorem AH.grow_n (A : AH) (n : Nat) : (A.grow n).n = n := rfl
theorem AH.new_get (A : AH) (o : AObj) (b : Nat) : (A.new o).get b = if b = A.n then some o else A.get b := rfl
theorem AH.set_get (A : AH) (k : Nat) (o : AObj) (b : Nat) : (A.set k o).get b = if b = k then some o else A.get b := rfl
theorem AH.kill_get (A : AH) (k : Nat) (b : Nat) : (A.kill k).get b = if b = k then none else A.get b := rfl
@[simp] theorem AH.grow_get (A : AH) (n : Nat) (b : Nat) : (A.grow n).get b = A.get b := rfl
@[simp] theorem AH.new_get_same (A : AH) (o : AObj) : (A.new o).get A.n = some o := if_pos rfl
@[simp] theorem AH.set_get_same (A : AH) (b : Nat) (o : AObj) : (A.set b o).get b = some o := if_pos rfl
theorem AH.new_get_ne (A : AH) (o : AObj) {b : Nat} (h : b ≠ A.n) : (A.new o).get b = A.get b := if_neg h
theorem AH.set_get_ne (A : AH) (o : AObj) {b k : Nat} (h : b ≠ k) : (A.set k o).get b = A.get b := if_neg h

theorem AH.le_new {A B : AH} (h : A.le B) (hwf : A.wf) (o : AObj) : A.le (B.new o) :=
  ⟨Nat.le_succ_of_le h.n, fun b x g => by rw [AH.new_get_ne]; exact h.get b x g; have := hwf b x g; have := h.n; omega⟩
theorem AH.le_set {A B : AH} (h : A.le B) (hwf : A.wf) {k : Nat} (hk : A.n ≤ k) (o : AObj) : A.le (B.set k o) :=
  ⟨h.n, fun b x g => by rw [AH.set_get_ne]; exact h.get b x g; have := hwf b x g; omega⟩
theorem AH.wf_new {A : AH} (h : A.wf) (o : AObj) : (A.new o).wf := fun b x g => by
  simp only [AH.new_get, AH.new_n] at *
  split at g
  · omega
  · exact Nat.lt_succ_of_lt (h b x g)
theorem AH.wf_set {A : AH} (h : A.wf) {k : Nat} (hk : k < A.n) (o : AObj) : (A.set k o).wf := fun b x g => by
  simp only [AH.set_get, AH.set_n] at *
  split at g
  · omega
  · exact h b x g

/-- The block of the world is as the view says. -/
def AObj.fits : AObj → Option Obj → Prop
  | .row rw c cap, o => ∃ cs elem fr, o = some (.cells cs elem fr) ∧ c.length ≤ cap ∧ cap ≤ cs.size ∧ (∀ i, i < c.length → cs[i]? = c[i]?) ∧ (rw = true → ∀ i, i < cap → ¬ (fr.1 ≤ i ∧ i < fr.2))
  | .obj _ x, o => o = some x ∧ ∀ c e f, x ≠ .cells c e f

structure View (A : AH) (w : World) : Prop where
  size : w.heap.size = A.n
  fits : ∀ b o, A.get b = some o → o.fits w.heap[b]?

theorem AObj.fits.some {o : AObj} {x : Option Obj} (h : o.fits x) : ∃ y, x = some y := by
  cases o with
  | row rw c cap => obtain ⟨cs, e, f, h, _⟩ := h; exact ⟨_, h⟩
  | obj rw x => exact ⟨_, h.1⟩

theorem View.wf {A : AH} {w : World} (h : View A w) : A.wf := fun b o g => by
  obtain ⟨y, hy⟩ := (h.fits b o g).some
  rw [← h.size]
  rcases Nat.lt_or_ge b w.heap.size with q | q
  · exact q
  · rw [Array.getElem?_eq_none q] at hy; cases hy

/-- From one world and view to the next: only blocks that may be written, and new ones, have turned. -/
structure Step (A : AH) (w : World) (A' : AH) (w' : World) : Prop where
  os : w'.os = w.os
  tape : w'.tape = w.tape
  output : w'.output = w.output ∧ w.drawn ≤ w'.drawn
  size : w.heap.size ≤ w'.heap.size
  kept : ∀ b, b < w.heap.size → A.rw b = false → w'.heap[b]? = w.heap[b]?
  rw : ∀ b, A'.rw b = true → A.rw b = true ∨ w.heap.size ≤ b

theorem Step.refl (A : AH) (w : World) : Step A w A w := ⟨rfl, rfl, ⟨rfl, Nat.le_refl _⟩, Nat.le_refl _, fun _ _ _ => rfl, fun _ h => .inl h⟩
theorem Step.trans {A B C : AH} {a b c : World} (h : Step A a B b) (k : Step B b C c) : Step A a C c := {
  os := k.os.trans h.os
  tape := k.tape.trans h.tape
  output := ⟨k.output.1.trans h.output.1, Nat.le_trans h.output.2 k.output.2⟩
  size := Nat.le_trans h.size k.size
  kept := fun i hi hr => by
    have hb : B.rw i = false := by
      cases e : B.rw i with
      | false => rfl
      | true => rcases h.rw i e with q | q
                · rw [hr] at q; cases q
                · omega
    rw [k.kept i (Nat.lt_of_lt_of_le hi h.size) hb, h.kept i hi hr]
  rw := fun i hi => by
    rcases k.rw i hi with q | q
    · exact h.rw i q
    · exact .inr (Nat.le_trans h.size q) }

/-! ### The frame -/
abbrev Env := List (Nat × Value)
def getE : Env → Nat → Option Value
  | [], _ => none
  | (t, v) :: e, k => match Nat.beq k t with
    | true => some v
    | false => getE e k

theorem getE_cons (t : Nat) (v : Value) (e : Env) (k : Nat) : getE ((t, v) :: e) k = if k = t then some v else getE e k := by
  simp only [getE]
  cases h : Nat.beq k t
  · rw [if_neg (fun q => by rw [q] at h; simp at h)]
  · rw [if_pos (Nat.eq_of_beq_eq_true h)]

/-- What the frame holds: the slots that are known, and the deferred calls. -/
structure Fr where
  e : Env
  ds : List Deferred

def putE (e : Env) (d : Option Nat) (v : Value) : Env := match d with | some t => (t, v) :: e | none => e

structure ActOk (nt : Nat) (f : Fr) (a : Act) : Prop where
  size : a.tmps.size = nt
  slot : ∀ t v, getE f.e t = some v → a.tmps.getD t undef = v ∧ t < nt
  ds : a.defers = f.ds

theorem ActOk.put {nt : Nat} {f : Fr} {a : Act} (h : ActOk nt f a) (d : Option Nat) (v : Value) (hd : ∀ t, d = some t → t < nt) :
    ActOk nt ⟨putE f.e d v, f.ds⟩ (a.put d v) := by
  cases d with
  | none => exact h
  | some t =>
    have ht := hd t rfl
    have hs := h.size
    refine ⟨by simp [Act.put, hs], fun k u g => ?_, by simp [Act.put, h.ds]⟩
    simp only [putE, getE_cons] at g
    split at g
    · rename_i e; subst e
      simp only [Option.some.injEq] at g; subst g
      exact ⟨by simp [Act.put, hs, ht], ht⟩
    · rename_i e
      obtain ⟨g1, g2⟩ := h.slot k u g
      exact ⟨by simp only [Act.put]; rw [← g1]; simp [Array.getElem?_setIfInBounds_ne (Ne.symm e)], g2⟩

/-- What remains of the slots when some are forgotten. -/
def EnvLe (e e' : Env) : Prop := ∀ t v, getE e t = some v → getE e' t = some v
theorem EnvLe.nil (e' : Env) : EnvLe [] e' := fun _ _ h => by cases h
theorem EnvLe.cons {e e' : Env} {t : Nat} {v : Value} (h : getE e' t = some v) (k : EnvLe e e') : EnvLe ((t, v) :: e) e' := fun j u g => by
  simp only [getE_cons] at g
  split at g
  · rename_i q; subst q; rw [h]; exact g
  · exact k j u g
theorem ActOk.le {nt : Nat} {e e' : Env} {ds : List Deferred} {a : Act} (h : ActOk nt ⟨e', ds⟩ a) (k : EnvLe e e') : ActOk nt ⟨e, ds⟩ a :=
  ⟨h.size, fun t v g => h.slot t v (k t v g), h.ds⟩

def opd (e : Env) : Operand → Option Value
  | .tmp t => getE e t
  | .const v => some v
  | .global g => some (.pointer (some ⟨g, 0, none⟩))
  | .func f => some (.func (.func f) #[] #[])

theorem opd_eval {nt : Nat} {f : Fr} {a : Act} (h : ActOk nt f a) {x : Operand} {v : Value} (g : opd f.e x = some v) : a.eval x = v := by
  cases x with
  | tmp t => exact (h.slot t v g).1
  | const v => simpa [opd, Act.eval] using g
  | global g' => simpa [opd, Act.eval] using g
  | func f' => simpa [opd, Act.eval] using g

/-! ### The judgements -/
/-- An end of code: what holds of the frame and the view there (of a panic's frame no slot is told). -/
def PostQ (nt : Nat) (Q : Exit → Fr → AH → Prop) (A : AH) (w : World) : Exit → Act → World → Prop :=
  fun x a' w' => ∃ f' A', ActOk nt f' a' ∧ View A' w' ∧ Step A w A' w' ∧ Q x f' A' ∧ (∀ ch, x = .panic ch → f'.e = [])

theorem PostQ.step {nt : Nat} {Q : Exit → Fr → AH → Prop} {A B : AH} {w w₁ : World} (s : Step A w B w₁) {x : Exit} {a' : Act} {w' : World} (h : PostQ nt Q B w₁ x a' w') : PostQ nt Q A w x a' w' :=
  let ⟨f', A', h1, h2, h3, h4, h5⟩ := h; ⟨f', A', h1, h2, s.trans h3, h4, h5⟩

/-- Where code of a frame of 'nt' slots comes to, from a frame and a view: each end meets Q. -/
def Run (P : Program) (nt : Nat) (c : Code) (Q : Exit → Fr → AH → Prop) (f : Fr) (A : AH) : Prop :=
  ∀ a w, ActOk nt f a → View A w → c.wp P (PostQ nt Q A w) a w

def Enters (P : Program) (g : FuncId) : Prop := ∀ args w, (callFunc g args).run P w = .ok (.enter g args) w
def CallsA (P : Program) (g : FuncId) (args : Array Value) (A : AH) (Q : Ending → AH → Prop) : Prop :=
  Enters P g ∧ ∀ w, View A w → Calls P g args w fun e w' => ∃ A', View A' w' ∧ Step A w A' w' ∧ Q e A'

theorem CallsA.mono {P : Program} {g : FuncId} {args : Array Value} {A : AH} {Q Q' : Ending → AH → Prop} (h : CallsA P g args A Q)
    (k : ∀ e A', Q e A' → Q' e A') : CallsA P g args A Q' :=
  ⟨h.1, fun w hw => (h.2 w hw).mono fun e _ ⟨A', v, s, q⟩ => ⟨A', v, s, k e A' q⟩⟩
theorem CallsA.wf {P : Program} {g : FuncId} {args : Array Value} {A : AH} {Q : Ending → AH → Prop} (he : Enters P g) (h : A.wf → CallsA P g args A Q) : CallsA P g args A Q :=
  ⟨he, fun w hw => (h hw.wf).2 w hw⟩

section
variable {P : Program} {nt : Nat} {Q : Exit → Fr → AH → Prop} {f : Fr} {A : AH}

theorem PostQ.self {x : Exit} {a : Act} {w : World} (ha : ActOk nt f a) (hw : View A w) (h : Q x f A) (hx : ∀ ch, x ≠ .panic ch) : PostQ nt Q A w x a w :=
  ⟨f, A, ha, hw, .refl _ _, h, fun ch e => absurd e (hx ch)⟩

theorem Run.mono {c : Code} {Q' : Exit → Fr → AH → Prop} (h : Run P nt c Q f A) (k : ∀ x f A, Q x f A → Q' x f A) : Run P nt c Q' f A :=
  fun a w ha hw => wp_mono (h a w ha hw) fun _ _ _ ⟨f', A', h1, h2, h3, h4, h5⟩ => ⟨f', A', h1, h2, h3, k _ _ _ h4, h5⟩
theorem Run.wf {c : Code} (h : A.wf → Run P nt c Q f A) : Run P nt c Q f A := fun a w ha hw => h hw.wf a w ha hw
theorem Run.forget {c : Code} {e' : Env} {e : Env} {ds : List Deferred} (k : EnvLe e e') (h : Run P nt c Q ⟨e, ds⟩ A) : Run P nt c Q ⟨e', ds⟩ A :=
  fun a w ha hw => h a w (ha.le k) hw

theorem Run.skip (h : Q .normal f A) : Run P nt .skip Q f A := fun _ _ ha hw => wp_skip (.self ha hw h fun _ q => by cases q)
theorem Run.label {l : Nat} (h : Q .normal f A) : Run P nt (.label l) Q f A := fun _ _ ha hw => wp_label (.self ha hw h fun _ q => by cases q)
theorem Run.exit {i : Nat} (h : Q (.exit i) f A) : Run P nt (.exit i) Q f A := fun _ _ ha hw => wp_exit (.self ha hw h fun _ q => by cases q)
theorem Run.ret (h : Q .ret f A) : Run P nt .ret Q f A := fun _ _ ha hw => wp_ret (.self ha hw h fun _ q => by cases q)

def thenQ (K : Fr → AH → Prop) (Q : Exit → Fr → AH → Prop) : Exit → Fr → AH → Prop
  | .normal, f, A => K f A
  | x, f, A => Q x f A

theorem Run.seq {x y : Code} (h : ∀ K : Fr → AH → Prop, (∀ f A, Run P nt y Q f A → K f A) → Run P nt x (thenQ K Q) f A) : Run P nt (x.seq y) Q f A := by
  intro a w ha hw
  refine wp_seq (wp_mono (h _ (fun _ _ h => h) a w ha hw) ?_)
  rintro e a' w' ⟨f', A', h1, h2, h3, h4, h5⟩
  cases e with
  | normal => exact wp_mono (h4 a' w' h1 h2) fun x a'' w'' g => g.step h3
  | _ => exact ⟨f', A', h1, h2, h3, h4, h5⟩

theorem Run.cond {c : Operand} {x y : Code} {t : Bool} (hc : opd f.e c = some (.bool t)) (h1 : t = true → Run P nt x Q f A) (h2 : t = false → Run P nt y Q f A) :
    Run P nt (.cond c x y) Q f A := fun a w ha hw =>
  wp_cond_split (opd_eval ha hc) (fun e => h1 e a w ha hw) (fun e => h2 e a w ha hw)
theorem Run.cond_true {c : Operand} {x y : Code} (hc : opd f.e c = some (.bool true)) (h1 : Run P nt x Q f A) : Run P nt (.cond c x y) Q f A :=
  Run.cond hc (fun _ => h1) (fun e => by cases e)
theorem Run.cond_false {c : Operand} {x y : Code} (hc : opd f.e c = some (.bool false)) (h1 : Run P nt y Q f A) : Run P nt (.cond c x y) Q f A :=
  Run.cond hc (fun e => by cases e) (fun _ => h1)

def blockQ (i : Nat) (Q : Exit → Fr → AH → Prop) : Exit → Fr → AH → Prop
  | .exit j, f, A => if j = i then Q .normal f A else Q (.exit j) f A
  | x, f, A => Q x f A

theorem Run.block {i : Nat} {c : Code} (h : Run P nt c (blockQ i Q) f A) : Run P nt (.block i c) Q f A := fun a w ha hw => by
  refine wp_block (wp_mono (h a w ha hw) ?_)
  rintro e a' w' ⟨f', A', h1, h2, h3, h4, h5⟩
  cases e with
  | exit j =>
    simp only [Exit.inBlock, blockQ] at h4 ⊢
    split
    · rename_i q; rw [if_pos q] at h4; exact ⟨f', A', h1, h2, h3, h4, fun _ q => by cases q⟩
    · rename_i q; rw [if_neg q] at h4; exact ⟨f', A', h1, h2, h3, h4, h5⟩
  | _ => exact ⟨f', A', h1, h2, h3, h4, h5⟩

def noGotoQ (Q : Exit → Fr → AH → Prop) : Exit → Fr → AH → Prop
  | .goto _, _, _ => False
  | x, f, A => Q x f A
theorem Run.scope {c : Code} (h : Run P nt c (noGotoQ Q) f A) : Run P nt (.scope c) Q f A := fun a w ha hw => by
  refine wp_scope_straight (wp_mono (h a w ha hw) ?_)
  rintro e a' w' ⟨f', A', h1, h2, h3, h4, h5⟩
  cases e with
  | goto l => exact h4.elim
  | _ => exact ⟨f', A', h1, h2, h3, h4, h5⟩

/-- A loop: at each round's head the known slots are 'E x', for some x of which the view and 'I' hold; each round lowers 'μ x'. -/
theorem Run.loop {c : Code} {X : Type} (E : X → Env) (I : X → AH → Prop) (μ : X → Nat) (x₀ : X) {e : Env} {ds : List Deferred} (hE : EnvLe (E x₀) e) (h₀ : I x₀ A)
    (round : ∀ x B, I x B → Run P nt c (thenQ (fun f B' => ∃ y, EnvLe (E y) f.e ∧ f.ds = ds ∧ I y B' ∧ μ y < μ x) Q) ⟨E x, ds⟩ B) :
    Run P nt (.loop c) Q ⟨e, ds⟩ A := by
  intro a w ha hw b k cs
  have run : ∀ m a w₁, (∃ x B, μ x = m ∧ I x B ∧ ActOk nt ⟨E x, ds⟩ a ∧ View B w₁ ∧ Step A w B w₁) →
      ∃ e a' w', PostQ nt Q A w e a' w' ∧ Arrives P (lone (b.at a (.code c :: .inLoop c :: k)) cs w₁) b k cs e a' w' := by
    intro m
    induction m using Nat.strongRecOn with
    | _ m ih =>
      rintro a w₁ ⟨x, B, hm, hI, ha₁, hw₁, hs₁⟩
      obtain ⟨e, a₂, w₂, ⟨f', A', h1, h2, h3, h4, h5⟩, harr⟩ := round x B hI a w₁ ha₁ hw₁ b (.inLoop c :: k) cs
      cases e with
      | normal =>
        obtain ⟨y, g1, g2, g3, g4⟩ := h4
        obtain ⟨fe, fds⟩ := f'
        simp only at g1 g2
        subst g2
        obtain ⟨e₂, a₃, w₃, hq, harr₂⟩ := ih (μ y) (hm ▸ g4) a₂ w₂ ⟨y, A', rfl, g3, h1.le g1, h2, hs₁.trans h3⟩
        exact ⟨e₂, a₃, w₃, hq, .of_steps (Steps.trans harr (.one step_inLoop)) harr₂⟩
      | exit id => exact ⟨_, a₂, w₂, ⟨f', A', h1, h2, hs₁.trans h3, h4, h5⟩, .pass (x := .inLoop c) rfl (fun _ _ => .inl (by simp)) harr⟩
      | goto l => exact ⟨_, a₂, w₂, ⟨f', A', h1, h2, hs₁.trans h3, h4, h5⟩, .pass (x := .inLoop c) rfl (fun _ _ => .inl (by simp)) harr⟩
      | ret => exact ⟨_, a₂, w₂, ⟨f', A', h1, h2, hs₁.trans h3, h4, h5⟩, .pass (x := .inLoop c) rfl (fun _ _ => .inl (by simp)) harr⟩
      | panic ch => exact ⟨_, a₂, w₂, ⟨f', A', h1, h2, hs₁.trans h3, h4, h5⟩, .pass (x := .inLoop c) rfl (fun _ _ => .inl (by simp)) harr⟩
      | outgrown => exact ⟨_, a₂, w₂, ⟨f', A', h1, h2, hs₁.trans h3, h4, h5⟩, .pass (x := .inLoop c) rfl (fun _ _ => .inl (by simp)) harr⟩
  obtain ⟨e, a', w', hq, harr⟩ := run _ a w ⟨x₀, A, rfl, h₀, ha.le hE, hw, .refl _ _⟩
  exact ⟨e, a', w', hq, .of_steps (.one step_loop) harr⟩
end
end V
end Go.Proofs.YtaccklloepfemaaGreatDoor
