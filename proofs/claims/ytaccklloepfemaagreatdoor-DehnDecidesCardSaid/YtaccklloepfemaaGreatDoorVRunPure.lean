/- An operation that only computes, run by the model in whatever world: it yields what 'pureOp' says, and leaves the world as it is. -/
import Derived.Test.YtaccklloepfemaaGreatDoorVPure
namespace Go.Proofs.YtaccklloepfemaaGreatDoor
set_option linter.unusedVariables false
set_option linter.unusedSimpArgs false
open Go Go.RowKit
namespace V
section
variable {P : Program} {w : World}

theorem run_fieldAddr {s : TypeId} {x v : Value} {i : Nat} (h : fieldAddrV P s x i = some v) : (Instr.fieldAt s x i).run P w = .ok v w := by
  unfold fieldAddrV at h
  split at h
  · rename_i a t off hf
    unfold fldOf at hf
    cases hu : P.underlying s with
    | none => simp [hu] at hf
    | some d =>
      rw [hu] at hf
      cases d <;> simp only at hf <;> (try (cases hf; done))
      rename_i fs
      cases hg : fs[i]? with
      | none => simp [hg] at hf
      | some fd =>
        simp only [hg, Option.map_some, Option.some.injEq, Prod.mk.injEq] at hf
        obtain ⟨rfl, rfl⟩ := hf
        cases hs : szOf P fd.type with
        | none => simp [hs] at h
        | some n =>
          simp only [hs, Option.bind_some] at h
          split at h
          · cases h
          · rename_i hn
            cases h
            simp [Instr.fieldAt, run_und hu, hg, Instr.sureAddr, fieldPlace, run_szOf hs, hn]
  · cases h

theorem run_field {s : TypeId} {x v : Value} {i : Nat} (h : fieldV P s x i = some v) : (Instr.field s x i).run P w = .ok v w := by
  unfold fieldV at h
  split at h
  · rename_i cs t off hf
    unfold fldOf at hf
    cases hu : P.underlying s with
    | none => simp [hu] at hf
    | some d =>
      rw [hu] at hf
      cases d <;> simp only at hf <;> (try (cases hf; done))
      rename_i fs
      cases hg : fs[i]? with
      | none => simp [hg] at hf
      | some fd =>
        simp only [hg, Option.map_some, Option.some.injEq, Prod.mk.injEq] at hf
        obtain ⟨rfl, rfl⟩ := hf
        simp [Instr.field, run_und hu, hg, asAgg, run_part h]
  · cases h

theorem run_indexAddr {t : TypeId} {x i v : Value} (h : indexAddrV P t x i = some v) : (Instr.indexAt t x i).run P w = .ok v w := by
  unfold indexAddrV at h
  split at h
  · rename_i e a len cap k i hu
    cases hs : szOf P e with
    | none => simp [hs] at h
    | some n =>
      simp only [hs, Option.bind_some] at h
      split at h
      · rename_i hi; cases h; simp [Instr.indexAt, asIntOf, run_und hu, hi, run_szOf hs]
      · cases h
  · rename_i len e a k i hu
    cases hs : szOf P e with
    | none => simp [hs] at h
    | some n =>
      simp only [hs, Option.bind_some] at h
      split at h
      · rename_i hi; cases h; simp [Instr.indexAt, asIntOf, run_und hu, hi, run_szOf hs, Instr.sureAddr]
      · cases h
  · cases h

theorem run_index {t : TypeId} {x i v : Value} (h : indexV P t x i = some v) : (Instr.index t x i).run P w = .ok v w := by
  unfold indexV at h
  split at h
  · rename_i s k i hu
    split at h
    · rename_i hi
      cases hb : s.data[i.toNat]? with
      | none => simp [hb] at h
      | some b =>
        rw [hb] at h; simp only [Option.map_some, Option.some.injEq] at h; subst h
        have hb' : s[i.toNat]? = some b := by
          have hlt : i.toNat < s.data.size := (Array.getElem?_eq_some_iff.1 hb).1
          have e1 : s.data[i.toNat]? = some s.data[i.toNat] := Array.getElem?_eq_getElem hlt
          rw [e1] at hb
          have hlt' : i.toNat < s.size := hlt
          rw [getElem?_pos s i.toNat hlt']
          exact hb
        simp [Instr.index, asIntOf, run_und hu, hi.1, hb']
    · cases h
  · rename_i len e cs k i hu
    cases hs : szOf P e with
    | none => simp [hs] at h
    | some n =>
      simp only [hs, Option.bind_some] at h
      split at h
      · rename_i hi; simp [Instr.index, asIntOf, run_und hu, hi, run_szOf hs, run_part h]
      · cases h
  · cases h

theorem run_extract {x v : Value} {i : Nat} (h : extractV x i = some v) : (Instr.extract x i).run P w = .ok v w := by
  unfold extractV at h
  split at h
  · simp [Instr.extract, h]
  · cases h

theorem run_bound {k : IntKind} {i : Int} {y : Nat} {code : BoundsCode} (h : 0 ≤ i ∧ i ≤ y) : (Instr.sliceBound (.int k i) y code).run P w = .ok i.toNat w := by
  simp [Instr.sliceBound, asIntOf, h]

theorem run_bounds {isS : Bool} {len cap : Nat} {lo hi : Option (Option Value)} {lo' hi' : Option Value} {l h : Int} (hlo : ∀ v, lo = some v → ∃ u, v = some u ∧ lo' = some u) (hlo0 : lo = none → lo' = none)
    (hhi : ∀ v, hi = some v → ∃ u, v = some u ∧ hi' = some u) (hhi0 : hi = none → hi' = none)
    (h1 : boundV hi len = some h) (h2 : boundV lo 0 = some l) (g1 : 0 ≤ l) (g2 : l ≤ h) (g3 : h ≤ cap) :
    (Instr.sliceBounds isS len cap lo' hi' none).run P w = .ok (l.toNat, h.toNat, cap) w := by
  unfold boundV at h1 h2
  unfold Instr.sliceBounds
  cases hi with
  | none =>
    rw [hhi0 rfl]; simp only [Option.some.injEq] at h1; subst h1
    cases lo with
    | none => rw [hlo0 rfl]; simp only [Option.some.injEq] at h2; subst h2; simp
    | some v =>
      obtain ⟨u, rfl, rfl⟩ := hlo v rfl
      cases u <;> simp only at h2 <;> (try (cases h2; done))
      cases h2
      have hb : 0 ≤ l ∧ l ≤ ((len : Nat) : Int) := ⟨g1, g2⟩
      simp [run_bound hb]
  | some v =>
    obtain ⟨u, rfl, rfl⟩ := hhi v rfl
    cases u <;> simp only at h1 <;> (try (cases h1; done))
    cases h1
    have hb : 0 ≤ h ∧ h ≤ ((cap : Nat) : Int) := ⟨by omega, g3⟩
    cases lo with
    | none => rw [hlo0 rfl]; simp only [Option.some.injEq] at h2; subst h2; simp [run_bound hb]
    | some v =>
      obtain ⟨u, rfl, rfl⟩ := hlo v rfl
      cases u <;> simp only at h2 <;> (try (cases h2; done))
      cases h2
      have hb2 : 0 ≤ l ∧ l ≤ ((h.toNat : Nat) : Int) := ⟨g1, by omega⟩
      simp [run_bound hb, run_bound hb2]

theorem run_slice {t : TypeId} {x v : Value} {lo hi : Option (Option Value)} {lo' hi' : Option Value} (hlo : ∀ v, lo = some v → ∀ u, v = some u → lo' = some u) (hlo0 : lo = none → lo' = none)
    (hhi : ∀ v, hi = some v → ∀ u, v = some u → hi' = some u) (hhi0 : hi = none → hi' = none) (h : sliceV P t x lo hi = some v) :
    (Instr.sliceAt t x lo' hi' none).run P w = .ok v w := by
  have hb : ∀ (q : Option (Option Value)) (q' : Option Value) d i, (∀ v, q = some v → ∀ u, v = some u → q' = some u) → boundV q d = some i → ∀ v, q = some v → ∃ u, v = some u ∧ q' = some u := by
    rintro q q' d i hq hbq v rfl
    cases v with
    | none => simp [boundV] at hbq
    | some u => exact ⟨u, rfl, hq _ rfl _ rfl⟩
  unfold sliceV at h
  split at h
  · rename_i s hu
    cases h1 : boundV hi s.size with
    | none => simp [h1] at h
    | some hh =>
      cases h2 : boundV lo 0 with
      | none => simp [h1, h2] at h
      | some l =>
        simp only [h1, h2, Option.bind_some] at h
        split at h
        · rename_i g; cases h
          simp [Instr.sliceAt, run_und hu, Instr.slice, run_bounds (hb _ _ _ _ hlo h2) hlo0 (hb _ _ _ _ hhi h1) hhi0 h1 h2 g.1 g.2.1 g.2.2]
        · cases h
  · rename_i e a len cap hu
    cases hs : szOf P e with
    | none => simp [hs] at h
    | some n =>
      cases h1 : boundV hi len with
      | none => simp [hs, h1] at h
      | some hh =>
        cases h2 : boundV lo 0 with
        | none => simp [hs, h1, h2] at h
        | some l =>
          simp only [hs, h1, h2, Option.bind_some] at h
          split at h
          · rename_i g; cases h
            simp [Instr.sliceAt, run_und hu, Instr.slice, run_szOf hs, run_bounds (hb _ _ _ _ hlo h2) hlo0 (hb _ _ _ _ hhi h1) hhi0 h1 h2 g.1 g.2.1 g.2.2.1]
          · cases h
  · cases h

theorem all_eval {ev : Operand → Option Value} {ρ : Operand → Value} (hev : ∀ x v, ev x = some v → ρ x = v) :
    ∀ (l : List Operand) (vs : List Value), allV ev l = some vs → l.map ρ = vs := by
  intro l
  induction l with
  | nil => intro vs h; simp [allV] at h; simp [h]
  | cons x xs ih =>
    intro vs h
    simp only [allV] at h
    split at h
    · rename_i v us h1 h2; cases h; simp [hev x v h1, ih us h2]
    · cases h

theorem run_pure {ev : Operand → Option Value} {ρ : Operand → Value} (hev : ∀ x v, ev x = some v → ρ x = v) {o : Oper} {v : Value} (h : pureOp P ev o.op = some v) :
    (execOp ρ o).run P w = .ok (.value v) w := by
  obtain ⟨dst, op, type, pos, after, guard⟩ := o
  simp only at h
  cases op <;> simp only [pureOp] at h <;> (try (cases h; done))
  case move x => simp [execOp, hev x v h]
  case assign x => simp [execOp, hev x v h]
  case pick c a b =>
    split at h
    · rename_i hc; simp [execOp, hev _ _ hc, asBool, hev a v h]
    · rename_i hc; simp [execOp, hev _ _ hc, asBool, hev b v h]
    · cases h
  case nilCheck x =>
    split at h
    · rename_i hc; cases h; simp [execOp, hev _ _ hc]
    · rename_i hc; cases h; simp [execOp, hev _ _ hc]
    · cases h
  case fieldAddr s x i =>
    cases hx : ev x with
    | none => simp [hx] at h
    | some u => rw [hx] at h; simp [execOp, hev _ _ hx, run_fieldAddr (w := w) h]
  case field s x i =>
    cases hx : ev x with
    | none => simp [hx] at h
    | some u => rw [hx] at h; simp [execOp, hev _ _ hx, run_field (w := w) h]
  case indexAddr t x i =>
    split at h
    · rename_i h1 h2; simp [execOp, hev _ _ h1, hev _ _ h2, run_indexAddr (w := w) h]
    · cases h
  case index t x i =>
    split at h
    · rename_i h1 h2; simp [execOp, hev _ _ h1, hev _ _ h2, run_index (w := w) h]
    · cases h
  case extract x i =>
    cases hx : ev x with
    | none => simp [hx] at h
    | some u => rw [hx] at h; simp [execOp, hev _ _ hx, run_extract (w := w) h]
  case unOp op t x =>
    cases hx : ev x with
    | none => simp [hx] at h
    | some u =>
      rw [hx] at h
      simp only [Option.bind_some, unV] at h
      split at h <;> first | (cases h; done) | (cases h; simp [execOp, hev _ _ hx, Op.unary, Op.intArith])
  case convert s d x =>
    cases hx : ev x with
    | none => simp [hx] at h
    | some u =>
      rw [hx] at h
      simp only [Option.bind_some, convV] at h
      split at h
      · rename_i k1 k2 k3 n h1 h2; cases h; simp [execOp, hev _ _ hx, convert, run_und h1, run_und h2, Conv.intToInt]
      · rename_i h1 h2; cases h; simp [execOp, hev _ _ hx, convert, run_und h1, run_und h2]
      · cases h
  case makeFunc fn first captured =>
    split at h
    · rename_i u c h1 h2
      cases h
      have e1 : first.map ρ = u.toArray := by apply Array.ext'; simp [all_eval hev _ _ h1]
      have e2 : captured.map ρ = c.toArray := by apply Array.ext'; simp [all_eval hev _ _ h2]
      simp [execOp, Instr.makeFunc, e1, e2]
    · cases h
  case slice t x lo hi mx =>
    cases mx with
    | some m => cases h
    | none =>
      simp only at h
      cases hx : ev x with
      | none => simp [hx] at h
      | some u =>
        rw [hx] at h
        have q : ∀ (y : Option Operand), (∀ v, y.map ev = some v → ∀ u, v = some u → y.map ρ = some u) ∧ (y.map ev = none → y.map ρ = none) := fun y => by
          cases y with
          | none => simp
          | some z => simp only [Option.map_some, Option.some.injEq, reduceCtorEq, false_imp_iff, and_true]; rintro v rfl u hu; exact hev _ _ hu
        have := run_slice (P := P) (w := w) (q lo).1 (q lo).2 (q hi).1 (q hi).2 h
        simp [execOp, hev _ _ hx, this]
  case binOp op t x y yt =>
    split at h
    · rename_i h1 h2
      have := run_bin (w := w) (ox := x) (oy := y) h
      simp only [execOp, hev _ _ h1, hev _ _ h2, Sem.run_bind, this, Result.andThen_ok]; rfl
    · cases h
end
end V
end Go.Proofs.YtaccklloepfemaaGreatDoor
