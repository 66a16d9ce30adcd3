/- Ranges over strings, maps, and some quiet operations more. -/
import Derived.Test.YtaccklloepfemaaGreatDoorVHeap
namespace Go.Proofs.YtaccklloepfemaaGreatDoor
set_option linter.unusedVariables false
set_option linter.unusedSimpArgs false
open Go Go.RowKit
namespace V

def pend (ops : Array Oper) (held : List (Nat × Held)) (i : Nat) : Held := (held.filter fun p => !anc ops p.1 ops.size i).flatMap (·.2)
theorem HeldNow.list {ops : Array Oper} {held : List (Nat × Held)} {i : Nat} {A : AH} {L : Held} (h : pend ops held i = L) (hL : ∀ q ∈ L, A.cell q.1 = some q.2) : HeldNow ops held i A :=
  HeldNow.of fun p hp ha q hq => hL q (by rw [← h]; exact List.mem_flatMap.2 ⟨p, List.mem_filter.2 ⟨hp, by simp [ha]⟩, hq⟩)
theorem cell_le {A B : AH} {a : Addr} {v : Value} (le : A.le B) (h : A.cell a = some v) : B.cell a = some v := by
  unfold AH.cell at h ⊢
  split at h
  · cases h
  · rename_i hs
    rw [if_neg hs]
    cases hg : A.get a.block with
    | none => simp [hg] at h
    | some o => rw [le.get _ _ hg]; simpa only [hg] using h
theorem heldNil {A : AH} : ∀ q ∈ ([] : Held), A.cell q.1 = some q.2 := fun _ h => by cases h
theorem heldCons {A : AH} {a : Addr} {v : Value} {L : Held} (h : A.cell a = some v) (t : ∀ q ∈ L, A.cell q.1 = some q.2) : ∀ q ∈ (a, v) :: L, A.cell q.1 = some q.2 := fun q hq => by
  rcases List.mem_cons.1 hq with rfl | hq
  · exact h
  · exact t q hq
theorem cellOf {A : AH} {b off cap : Nat} {rw : Bool} {c : List Value} {v : Value} (hg : A.get b = some (.row rw c cap)) (hc : c[off]? = some v) : A.cell ⟨b, off, none⟩ = some v := by simp [AH.cell, hg, hc]
theorem thenQ_ret {K : Fr → AH → Prop} {Q : Exit → Fr → AH → Prop} {f : Fr} {A : AH} (h : Q .ret f A) : thenQ K Q .ret f A := h
theorem blockQ_ret {i : Nat} {Q : Exit → Fr → AH → Prop} {f : Fr} {A : AH} (h : Q .ret f A) : blockQ i Q .ret f A := h
theorem decode_lo {l : List UInt8} {i : Nat} (h : i < l.length) (hc : l.getD i 0 < 128) : Utf8.decode (bs l) i = ((l.getD i 0).toNat, 1) := by
  have e : (bs l).get! i = l.getD i 0 := by
    show (bs l).data[i]! = _
    simp [bs, h]
  have : (l.getD i 0).toNat < 128 := by simpa [UInt8.lt_iff_toNat_lt] using hc
  simp only [Utf8.decode, Nat.add_zero, e]
  rw [if_pos this]
theorem decode_hi {l : List UInt8} {i : Nat} (h : i < l.length) (hc : ¬ l.getD i 0 < 128) : 128 ≤ (Utf8.decode (bs l) i).1 := by
  have e : (bs l).get! i = l.getD i 0 := by
    show (bs l).data[i]! = _
    simp [bs, h]
  have : ¬ (l.getD i 0).toNat < 128 := by simpa [UInt8.lt_iff_toNat_lt] using hc
  simp only [Utf8.decode, Nat.add_zero, e]
  rw [if_neg this]
  repeat' split
  all_goals simp_all [Utf8.runeError, Utf8.valid]
  all_goals omega
theorem decode_max (s : ByteArray) (pos : Nat) : (Utf8.decode s pos).1 ≤ 1114111 := by
  have hb : ∀ k, (s.get! (pos + k)).toNat < 256 := fun k => (s.get! (pos + k)).toNat_lt
  have h0 := hb 0; have h1 := hb 1; have h2 := hb 2; have h3 := hb 3
  simp only [Utf8.decode]
  repeat' split
  all_goals simp_all [Utf8.runeError, Utf8.valid]
  all_goals omega

section
variable {P : Program} {e : Env} {A : AH} {x y : Operand} {t t' : TypeId} {v : Value} {ty : TypeId} {ps : String} {af : Array Edge} {dst : Option Nat} {K : Value → AH → Prop} {Kp : List PanicEntry → AH → Prop} {g : Option (Nat × Bool)}
theorem wrangeS {s : List UInt8} (wf : A.wf) (hx : opd e x = some (str s)) (hu : P.underlying t = some .string) (h : ∀ A1 b, NewB A A1 b (.obj true (.stringIter (bs s) 0)) → K (.pointer (some ⟨b, 0, none⟩)) A1) :
    opV P e A { dst := dst, op := .range t x, type := ty, pos := ps, after := af, guard := g } K Kp :=
  ⟨_, hx, by simp only [rangeV, hu]; exact h _ _ (newB wf _)⟩
theorem wnextS {s : List UInt8} {pos b : Nat} (wf : A.wf) (hx : opd e x = some (.pointer (some ⟨b, 0, none⟩))) (hg : A.get b = some (.obj true (.stringIter (bs s) pos)))
    (h1 : pos < s.length → ∀ A1, SetB A A1 b (.obj true (.stringIter (bs s) (pos + (Utf8.decode (bs s) pos).2))) → K (.tuple #[.bool true, num (pos : Nat), .int .i32 ((Utf8.decode (bs s) pos).1 : Nat)]) A1)
    (h2 : ¬ pos < s.length → K (.tuple #[.bool false]) A) : opV P e A { dst := dst, op := .next x true, type := ty, pos := ps, after := af, guard := g } K Kp :=
  ⟨_, hx, b, rfl, .inl ⟨rfl, bs s, pos, hg, fun h => h1 h _ (setB wf hg _), fun h => h2 h⟩⟩
theorem qnegI {a : Int} (h : opd e x = some (num a)) (hr : -9223372036854775807 ≤ a ∧ a ≤ 9223372036854775807) : quietV P e A (.unOp .neg t x) = some (num (-a), []) := by
  rw [qneg h, show (0 - a) = -a by omega, i64in (by omega)]
end
theorem bytes_len (l : List UInt8) : (byteCells l).length = l.length * 1 := by rw [bytes_length, Nat.mul_one]
theorem strs_len (l : List (List UInt8)) : (strs l).length = l.length * 1 := by rw [strs_length, Nat.mul_one]
theorem Fresh.base {A0 A B : AH} {v : Value} {n : Nat} {l : List Value} (h : Fresh A B v n l) (le : A0.le A) : Fresh A0 B v n l := ⟨h.own, fun b hb => by
  have := h.lo b hb
  cases q : A0.get b with
  | none => rfl
  | some o => rw [le.get _ _ q] at this; cases this⟩
section
variable {P : Program} {e : Env} {A : AH} {x : Operand} {t : TypeId} {v : Value} {r : List ResultVar} {vs : List Value}
theorem resNil : resV P e A [] = some [] := rfl
theorem resTmp {k : Nat} (he : getE e k = some v) (h : resV P e A r = some vs) : resV P e A (.tmp k :: r) = some (v :: vs) := by simp [resV, he, h]
theorem resCell {a b n cap : Nat} {rw : Bool} {c : List Value} (ha : aggOf P t = some true) (hs : szOf P t = some n) (he : getE e a = some (.pointer (some ⟨b, 0, none⟩))) (hg : A.get b = some (.row rw c cap)) (hc : c.length = n) (h : resV P e A r = some vs) : resV P e A (.cell a t :: r) = some (.agg c.toArray :: vs) := by
  have : A.cellsAt ⟨b, 0, none⟩ n = some c := by simp [AH.cellsAt, hg, cellsL, hc]; exact List.take_of_length_le (by omega)
  simp [resV, he, h, loadV, ha, hs, this]
theorem resCell1 {a b cap : Nat} {rw : Bool} {c : List Value} (ha : aggOf P t = some false) (he : getE e a = some (.pointer (some ⟨b, 0, none⟩))) (hg : A.get b = some (.row rw c cap)) (hc : c[0]? = some v) (h : resV P e A r = some vs) : resV P e A (.cell a t :: r) = some (v :: vs) := by
  simp [resV, he, h, loadV, ha, cellOf hg hc]
theorem qfield1 {cs : List Value} {i off : Nat} {ft : TypeId} (hf : fldOf P t i = some (ft, off)) (ha : aggOf P ft = some false) (h : opd e x = some (.agg cs.toArray)) (hc : cs[off]? = some v) : quietV P e A (.field t x i) = some (v, []) :=
  qfield hf h (by simp [partV, ha, hc])
end
theorem strs_append (a b : List (List UInt8)) : strs a ++ strs b = strs (a ++ b) := by simp [strs]
theorem strs_take (a : List (List UInt8)) (n : Nat) : (strs a).take n = strs (a.take n) := by simp [strs, List.map_take]
theorem strs_set (a : List (List UInt8)) (n : Nat) (c : List UInt8) : (strs a).set n (str c) = strs (a.set n c) := by simp [strs, List.map_set]
theorem Fresh.lit {A0 A : AH} {b n size cap : Nat} {c : List Value} (g : A.get b = some (.row true c cap)) (ge : A0.get b = none) (hc : c.length = n * size) (hcap : n * size ≤ cap) : Fresh A0 A (.slice (some ⟨b, 0, none⟩) n n) size c :=
  ⟨.inr ⟨b, n, n, c, cap, rfl, g, hc, List.take_of_length_le (by omega), Nat.le_refl _, hcap⟩, fun b' h => by cases h; exact ge⟩
theorem Fresh.grow {A0 A A1 : AH} {v v' : Value} {size : Nat} {xs ys : List Value} (h : Fresh A0 A v size xs) (le : A0.le A) (wf0 : A0.wf) (ap : Appd A v size ys v' A1) : Fresh A0 A1 v' size ys ∧ A0.le A1 :=
  ⟨⟨ap.own, fun b hb => (ap.blk b hb).elim (h.lo b) fun q => none_of wf0 (Nat.le_trans le.n q)⟩, ⟨Nat.le_trans le.n ap.n, fun b o g => ap.get b o (le.get b o g) fun q => by rw [h.lo b q] at g; cases g⟩⟩
theorem Appd.refl {A : AH} {v : Value} {size : Nat} {xs : List Value} (wf : A.wf) (own : Own A v size xs) : Appd A v size xs v A := ⟨wf, own, Nat.le_refl _, fun _ _ g _ => g, fun _ h => .inl h⟩
theorem Appd.trans {A B C : AH} {s v v2 : Value} {size : Nat} {xs ys : List Value} (h : Appd A s size xs v B) (wf : A.wf) (k : Appd B v size ys v2 C) : Appd A s size ys v2 C :=
  ⟨k.wf, k.own, Nat.le_trans h.n k.n, fun b o g hb => k.get b o (h.get b o g hb) (h.ne hb wf g), fun b hb => (k.blk b hb).elim (fun q => h.blk b q) fun q => .inr (Nat.le_trans h.n q)⟩
theorem Appd.take {A B : AH} {s : Value} {size n k : Nat} {p : Option Addr} {c : Nat} {xs : List Value} (h : Appd A s size xs (.slice p n c) B) (hk : k ≤ n) : Appd A s size (xs.take (k * size)) (.slice p k c) B :=
  ⟨h.wf, h.own.take hk, h.n, h.get, fun b hb => h.blk b (by cases p <;> exact hb)⟩
theorem Appd.le {A B C : AH} {s v : Value} {size : Nat} {xs : List Value} (h : Appd A s size xs v B) (le : B.le C) (wf : C.wf) : Appd A s size xs v C :=
  ⟨wf, h.own.le le, Nat.le_trans h.n le.n, fun b o g hb => le.get b o (h.get b o g hb), h.blk⟩
theorem appd_eq {A B : AH} {s v : Value} {n : Nat} {l l' : List Value} (h : Appd A s n l v B) (e : l = l') : Appd A s n l' v B := e ▸ h
theorem slc_row {A : AH} {b n size cap cp : Nat} {rw : Bool} {c : List Value} (h : A.get b = some (.row rw c cap)) (hn : c.length = n * size) (hc : n ≤ cp) : Slc A size (.slice (some ⟨b, 0, none⟩) n cp) c :=
  ⟨_, n, cp, rfl, hn, hc, .inr ⟨b, 0, rw, c, cap, rfl, h, by rw [List.drop_zero, List.take_of_length_le (by omega)]⟩⟩
theorem row_eq {A : AH} {b cap : Nat} {rw : Bool} {l l' : List Value} (h : A.get b = some (.row rw l cap)) (e : l = l') : A.get b = some (.row rw l' cap) := e ▸ h
theorem fresh_eq {A0 A : AH} {v : Value} {n : Nat} {l l' : List Value} (h : Fresh A0 A v n l) (e : l = l') : Fresh A0 A v n l' := e ▸ h
end V
end Go.Proofs.YtaccklloepfemaaGreatDoor
