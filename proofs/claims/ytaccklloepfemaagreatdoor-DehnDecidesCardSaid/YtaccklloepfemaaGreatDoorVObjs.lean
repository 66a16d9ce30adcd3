/- Objects that are no rows stay as they are where rows are written; the marks' blocks; maps keyed by strings; iterators of maps. -/
import Derived.Test.YtaccklloepfemaaGreatDoorVPhase
namespace Go.Proofs.YtaccklloepfemaaGreatDoor
set_option linter.unusedVariables false
set_option linter.unusedSimpArgs false
open Go Go.RowKit
namespace V
/-- All objects that are no rows are as they were. -/
structure Objs (A B : AH) : Prop where
  n : A.n ≤ B.n
  get : ∀ b o, A.get b = some (.obj true o) → B.get b = some (.obj true o)
section
variable {A B C : AH} {b : Nat} {v v' : Value} {size : Nat} {xs ys : List Value}
theorem Objs.refl (A : AH) : Objs A A := ⟨Nat.le_refl _, fun _ _ h => h⟩
theorem Objs.le (h : Objs A B) (le : B.le C) : Objs A C := ⟨Nat.le_trans h.n le.n, fun b o g => le.get _ _ (h.get b o g)⟩
theorem Objs.trans (h : Objs A B) (k : Objs B C) : Objs A C := ⟨Nat.le_trans h.n k.n, fun b o g => k.get _ _ (h.get b o g)⟩
theorem Objs.set {c : List Value} {cap : Nat} {rw : Bool} (h : Objs A B) (g : B.get b = some (.row rw c cap)) (hn : C.n = B.n) (k : ∀ b' o, b' ≠ b → B.get b' = some o → C.get b' = some o) : Objs A C :=
  ⟨by rw [hn]; exact h.n, fun b' o g' => k b' _ (by rintro rfl; rw [h.get _ _ g'] at g; cases g) (h.get _ _ g')⟩
theorem Objs.appd (h : Objs A B) (own : Own B v size xs) (ap : Appd B v size ys v' C) : Objs A C :=
  ⟨Nat.le_trans h.n ap.n, fun b o g => ap.get b _ (h.get _ _ g) fun q => by
    rcases own with ⟨rfl, _⟩ | ⟨b', n, k, r, rcap, rfl, h2, _⟩
    · cases q
    · cases q; rw [h.get _ _ g] at h2; cases h2⟩
/-- The blocks of the marks that a function has pushed. -/
def Defs (A0 A : AH) (Ds : List Nat) : Prop := Ds.Nodup ∧ ∀ D ∈ Ds, A.get D = some (.obj true (.deferred (some []))) ∧ A0.get D = none
theorem Defs.objs {A0 : AH} {Ds : List Nat} (h : Defs A0 A Ds) (ob : Objs A B) : Defs A0 B Ds := ⟨h.1, fun D hD => ⟨ob.get _ _ (h.2 D hD).1, (h.2 D hD).2⟩⟩
theorem Defs.keep {A0 : AH} {Ds : List Nat} {o : AObj} (h : Defs A0 A Ds) (k : ∀ b' o, b' ≠ b → A.get b' = some o → B.get b' = some o) (g : A.get b = some o) (hne : o ≠ .obj true (.deferred (some []))) : Defs A0 B Ds :=
  ⟨h.1, fun D hD => ⟨k D _ (by rintro rfl; rw [(h.2 _ hD).1] at g; cases g; exact hne rfl) (h.2 D hD).1, (h.2 D hD).2⟩⟩
theorem Defs.push {A0 : AH} {Ds : List Nat} {D : Nat} (h : Defs A0 A Ds) (le : A0.le A) (hD : B.get D = some (.obj true (.deferred (some [])))) (hle : ∀ b o, A.get b = some (.obj true (.deferred o)) → B.get b = some (.obj true (.deferred o))) (hn : A.get D = none) : Defs A0 B (D :: Ds) :=
  ⟨List.nodup_cons.2 ⟨fun q => (by rw [(h.2 D q).1] at hn; cases hn), h.1⟩, fun E hE => by
    rcases List.mem_cons.1 hE with rfl | hE
    · exact ⟨hD, by
        cases q : A0.get E with
        | none => rfl
        | some o => rw [le.get _ _ q] at hn; cases hn⟩
    · exact ⟨hle _ _ (h.2 E hE).1, (h.2 E hE).2⟩⟩
theorem Defs.out {A0 : AH} {Ds : List Nat} {o : AObj} (h : Defs A0 A Ds) (g : A.get b = some o) (hne : o ≠ .obj true (.deferred (some []))) : b ∉ Ds := fun q => by
  rw [(h.2 b q).1] at g; cases g; exact hne rfl
theorem Defs.leave {A0 : AH} {Ds : List Nat} (h : Defs A0 A Ds) (le : A0.le A) (hn : B.n = A.n) (hk : ∀ b o, b ∉ Ds → A.get b = some o → B.get b = some o) : A0.le B :=
  ⟨by rw [hn]; exact le.n, fun b o g => hk b o (fun q => by rw [(h.2 b q).2] at g; cases g) (le.get _ _ g)⟩
end
end V
end Go.Proofs.YtaccklloepfemaaGreatDoor
