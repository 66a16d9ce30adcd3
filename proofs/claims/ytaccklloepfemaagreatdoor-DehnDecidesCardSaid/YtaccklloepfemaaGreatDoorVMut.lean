/- Calls that take over blocks: what stays as it was; slices apart from each other; writes to parts of elements; maps by their entries. -/
import Derived.Test.YtaccklloepfemaaGreatDoorVRound
namespace Go.Proofs.YtaccklloepfemaaGreatDoor
set_option linter.unusedVariables false
set_option linter.unusedSimpArgs false
open Go Go.RowKit
namespace V

/-- The view without some blocks. -/
def AH.hide (A : AH) (bs : List (Option Nat)) : AH := ⟨A.n, fun k => if some k ∈ bs then none else A.get k⟩
section
variable {A B C A0 A1 : AH} {bs : List (Option Nat)} {b k n : Nat} {o : AObj} {v u : Value} {size : Nat} {xs ys : List Value}
theorem hide_none (h : some b ∈ bs) : (A.hide bs).get b = none := if_pos h
theorem hide_get (h : A.get k = some o) (hk : some k ∉ bs) : (A.hide bs).get k = some o := by
  show (if some k ∈ bs then none else A.get k) = some o
  rw [if_neg hk]; exact h
theorem hide_le (A : AH) (bs : List (Option Nat)) : (A.hide bs).le A := ⟨Nat.le_refl _, fun b o g => by
  have g : (if some b ∈ bs then none else A.get b) = some o := g
  split at g
  · cases g
  · exact g⟩
theorem hide_wf (wf : A.wf) : (A.hide bs).wf := fun b o g => wf b o ((hide_le A bs).get b o g)
theorem le_hide (le : A0.le A) (h : ∀ b, some b ∈ bs → A0.get b = none) : A0.le (A.hide bs) :=
  ⟨le.n, fun b o g => hide_get (le.get b o g) fun q => by rw [h b q] at g; cases g⟩
theorem nm0 : some k ∉ ([] : List (Option Nat)) := fun h => by cases h
theorem nmB (h : k ≠ b) (t : some k ∉ bs) : some k ∉ some b :: bs := fun q => by
  rcases List.mem_cons.1 q with q | q
  · exact h (Option.some.inj q)
  · exact t q
theorem nmV (h : blk v ≠ some k) (t : some k ∉ bs) : some k ∉ blk v :: bs := fun q => by
  rcases List.mem_cons.1 q with q | q
  · exact h q.symm
  · exact t q
theorem ho0 : ∀ b, some b ∈ ([] : List (Option Nat)) → A0.get b = none := fun _ h => by cases h
theorem hoB (h : A0.get k = none) (t : ∀ b, some b ∈ bs → A0.get b = none) : ∀ b, some b ∈ some k :: bs → A0.get b = none := fun b q => by
  rcases List.mem_cons.1 q with q | q
  · cases q; exact h
  · exact t b q
theorem hoV (h : ∀ b, blk v = some b → A0.get b = none) (t : ∀ b, some b ∈ bs → A0.get b = none) : ∀ b, some b ∈ blk v :: bs → A0.get b = none := fun b q => by
  rcases List.mem_cons.1 q with q | q
  · exact h b q.symm
  · exact t b q
/-- Slices in different blocks. -/
def Sep (v u : Value) : Prop := ∀ c, blk v = some c → blk u ≠ some c
theorem Sep.symm (h : Sep v u) : Sep u v := fun c hu hv => h c hv hu
theorem Sep.nil : Sep (.slice none 0 0) u := fun c h => by cases h
theorem Fresh.hide (h : Fresh A0 A v size xs) (hb : blk v ∈ bs) : Fresh (A.hide bs) A v size xs := ⟨h.own, fun b q => hide_none (by rw [← q]; exact hb)⟩
/-- What a slice's block is apart from. -/
def Off (u : Value) (bs : List (Option Nat)) : Prop := ∀ c, blk u = some c → some c ∉ bs
theorem off0 : Off u [] := fun _ _ => nm0
theorem offB (h : blk u ≠ some b) (t : Off u bs) : Off u (some b :: bs) := fun c hc => nmB (fun q => h (q ▸ hc)) (t c hc)
theorem offV (h : Sep v u) (t : Off u bs) : Off u (blk v :: bs) := fun c hc => nmV (fun q => h c q hc) (t c hc)
theorem Own.blkget (h : Own A v size xs) (hb : blk v = some b) : ∃ o, A.get b = some o := by
  rcases h with ⟨rfl, _⟩ | ⟨b', n, k, r, rcap, rfl, h2, _⟩
  · cases hb
  · cases hb; exact ⟨_, h2⟩
theorem Own.off (h : Own A u size xs) (o : Off u bs) (le : (A.hide bs).le B) : Own B u size xs := by
  rcases h with h | ⟨b', n, k, r, rcap, rfl, h2, h3⟩
  · exact .inl h
  · exact .inr ⟨b', n, k, r, rcap, rfl, le.get _ _ (hide_get h2 (o b' rfl)), h3⟩
theorem Fresh.off (h : Fresh A0 A u size xs) (o : Off u bs) (le : (A.hide bs).le B) : Fresh A0 B u size xs := ⟨h.own.off o le, h.lo⟩
theorem Fresh.sep {s2 : Nat} (h : Fresh (A.hide bs) B v size xs) (hu : Own A u s2 ys) (o : Off u bs) : Sep v u := fun c hv hc => by
  obtain ⟨x, hx⟩ := hu.blkget hc
  have := h.lo c hv
  rw [hide_get hx (o c hc)] at this; cases this
theorem Own.appd {s2 : Nat} {v' : Value} {zs : List Value} (h : Own A u size xs) (ap : Appd A v s2 zs v' A1) (hs : Sep v u) : Own A1 u size xs := by
  rcases h with h | ⟨b', n, k, r, rcap, rfl, h2, h3⟩
  · exact .inl h
  · exact .inr ⟨b', n, k, r, rcap, rfl, ap.get _ _ h2 (fun q => hs b' q rfl), h3⟩
theorem Fresh.appd {s2 : Nat} {v' : Value} {zs : List Value} (h : Fresh A0 A u size xs) (ap : Appd A v s2 zs v' A1) (hs : Sep v u) : Fresh A0 A1 u size xs := ⟨h.own.appd ap hs, h.lo⟩
theorem Sep.appd {s2 : Nat} {v' : Value} {zs : List Value} (h : Sep v u) (hu : Own A u size xs) (wf : A.wf) (ap : Appd A v s2 zs v' A1) : Sep v' u := fun c hc hq => by
  rcases ap.blk c hc with q | q
  · exact h c q hq
  · obtain ⟨o, ho⟩ := hu.blkget hq
    have := wf _ _ ho; omega
theorem Sep.of_new (h : Own A u size xs) (wf : A.wf) (hb : A.n ≤ b) {n c : Nat} : Sep (.slice (some ⟨b, 0, none⟩) n c) u := fun k hk hq => by
  cases hk
  obtain ⟨o, ho⟩ := h.blkget hq
  have : b < A.n := wf _ _ ho
  omega
theorem Fresh.seph (h : Fresh A0 A v size xs) (g : A0.get b = some o) : blk v ≠ some b := fun q => by rw [h.lo b q] at g; cases g
theorem sep_take {p : Option Addr} {n n' c : Nat} (h : Sep (.slice p n c) u) : Sep (.slice p n' c) u := fun k hk => h k (by cases p <;> exact hk)
theorem sep_take' {p : Option Addr} {n n' c : Nat} (h : Sep u (.slice p n c)) : Sep u (.slice p n' c) := fun k hk hq => h k hk (by cases p <;> exact hq)
theorem blk_take {p : Option Addr} {n n' c : Nat} (h : blk (.slice p n c) ≠ some b) : blk (.slice p n' c) ≠ some b := fun q => h (by cases p <;> exact q)
/-- A cell of a row of a call's own is written. -/
theorem Fresh.setc {A0 A A1 : AH} {b n c i size : Nat} {xs : List Value} {r : List Value} {rcap : Nat} {w : Value} (h : Fresh A0 A (.slice (some ⟨b, 0, none⟩) n c) size xs) (g : A.get b = some (.row true r rcap)) (sb : SetB A A1 b (.row true (r.set i w) rcap)) :
    Fresh A0 A1 (.slice (some ⟨b, 0, none⟩) n c) size (xs.set i w) := by
  refine ⟨?_, h.lo⟩
  rcases h.own with ⟨q, _⟩ | ⟨b', n', k, r', rcap', h1, h2, h3, h4, h5, h6⟩
  · cases q
  · cases h1
    rw [g] at h2; cases h2
    refine .inr ⟨b, n, c, r.set i w, rcap, rfl, sb.get, by simpa using h3, ?_, h5, h6⟩
    rw [List.take_set, h4]
/-- Bytes turned to a string where nothing else is known of the order. -/
theorem run_conv_str {P : Program} {A : AH} {v : Value} {l : List UInt8} {sr dd el : TypeId} (hs : P.underlying sr = some (.slice el)) (hd : P.underlying dd = some .string) (hu : P.underlying el = some (.int .u8)) (h : Slc A 1 v (byteCells l)) :
    ∃ T : Held, ∀ w, View A w → holds T w ∧ ∀ w', holds T w' → (convert sr dd v).run P w' = .ok (str l) w' := by
  obtain ⟨p, n, c, rfl, h2, h3, h4⟩ := h
  have hl : l.length = n := by simpa [byteCells] using h2
  by_cases h0 : n = 0
  · subst h0
    have : l = [] := List.length_eq_zero_iff.1 hl
    subst this
    refine ⟨[], fun w hw => ⟨fun _ h => (by cases h), fun w' _ => ?_⟩⟩
    rw [run_convert_bytes_string w' sr dd el p 0 c hs hu hd]
    exact congrArg (fun r : Result Value => r) (by rw [run_bytesToStr (P := P) (A := ⟨w'.heap.size, fun _ => none⟩) (s := []) (n := 0) ⟨rfl, fun _ _ q => by cases q⟩ (by cases p <;> rfl) (fun _ q => by cases q)]; rfl)
  · rcases h4 with h4 | ⟨b, off, rw, r, rcap, rfl, g2, g3⟩
    · exact absurd h4 h0
    · have hlen : off + n ≤ r.length := by
        have := congrArg List.length g3
        rw [List.length_take, List.length_drop, bytes_length] at this; omega
      refine ⟨heldOf ⟨b, off, none⟩ 0 ((r.drop (off + 0)).take n), fun w hw => ⟨held_of_cells hw rfl g2 n 0 (by simpa using hlen), fun w' hT => ?_⟩⟩
      have e : (r.drop (off + 0)).take n = byteCells l := by simpa [Nat.mul_one] using g3
      have hc : (loadCells ⟨b, off, none⟩ n).run P w' = .ok (byteCells l).toArray w' := by
        have := cell_of_held (P := P) ((r.drop (off + 0)).take n) 0 hT #[]
        rw [e, bytes_length, hl] at this
        simpa [loadCells] using this
      have e2 : byteCells l = (l.map fun b => (b.toNat : Int)).map (Value.int .u8) := by simp [byteCells]
      rw [run_convert_bytes_string w' sr dd el _ n c hs hu hd]
      rw [e2] at hc
      rw [Go.run_bytesToString w' _ n c _ hc, fold_bytes]
      simp only [ByteArray.empty, ByteArray.emptyWithCapacity, List.size_toArray]
      show Result.ok (Value.string ⟨(#[] : Array UInt8) ++ l.toArray⟩) w' = .ok (.string ⟨⟨l⟩⟩) w'
      rw [Array.empty_append]
theorem DOps.qstr {P : Program} {nt : Nat} {ops : Array Oper} {Q : Exit → Fr → AH → Prop} {e : Env} {ds : List Deferred} {A : AH} {d : Nat} {x : Operand} {ty : TypeId} {ps : String} {af : Array Edge} {listed : Array Bool} {held : List (Nat × Held)} {i : Nat} {C : List Nat} {v : Value} {l : List UInt8} {sr dd el : TypeId}
    (ho : ops[i]? = some { dst := some d, op := .convert sr dd x, type := ty, pos := ps, after := af, guard := none }) (hlt : Nat.blt d nt = true) (hx : opd e x = some v) (hs : P.underlying sr = some (.slice el)) (hd : P.underlying dd = some .string) (hu : P.underlying el = some (.int .u8)) (h : Slc A 1 v (byteCells l))
    (hk : ∀ T, DOps P nt ops Q (listed.setIfInBounds i true) ((i, T) :: held) C ⟨(d, str l) :: e, ds⟩ A) : DOps P nt ops Q listed held (i :: C) ⟨e, ds⟩ A := by
  obtain ⟨T, hT⟩ := run_conv_str (P := P) hs hd hu h
  refine DOps.quiet (T := T) (v := str l) ho rfl (dstOk_spec hlt) (fun a w ha hw => ⟨(hT w hw).1, .inl ⟨by simp [Region.wanted], fun w' hw' => ?_⟩⟩) (hk T)
  have := (hT w hw).2 w' hw'
  simp only [execOp, opd_eval ha hx, Sem.run_bind, this, Result.andThen_ok]; rfl
theorem thenQ_exit {i : Nat} {K : Fr → AH → Prop} {Q : Exit → Fr → AH → Prop} {f : Fr} {A : AH} (h : Q (.exit i) f A) : thenQ K Q (.exit i) f A := h
theorem blockQ_same {i : Nat} {Q : Exit → Fr → AH → Prop} {f : Fr} {A : AH} (h : Q .normal f A) : blockQ i Q (.exit i) f A := by show (if i = i then _ else _); rw [if_pos rfl]; exact h
theorem blockQ_other {i j : Nat} {Q : Exit → Fr → AH → Prop} {f : Fr} {A : AH} (hne : j ≠ i) (h : Q (.exit j) f A) : blockQ i Q (.exit j) f A := by show (if j = i then _ else _); rw [if_neg hne]; exact h
theorem noGotoQ_exit {i : Nat} {Q : Exit → Fr → AH → Prop} {f : Fr} {A : AH} (h : Q (.exit i) f A) : noGotoQ Q (.exit i) f A := h
theorem noGotoQ_normal {Q : Exit → Fr → AH → Prop} {f : Fr} {A : AH} (h : Q .normal f A) : noGotoQ Q .normal f A := h
theorem noGotoQ_ret {Q : Exit → Fr → AH → Prop} {f : Fr} {A : AH} (h : Q .ret f A) : noGotoQ Q .ret f A := h
theorem Appd.cell {A A1 : AH} {s v u : Value} {size : Nat} {xs : List Value} {b off : Nat} (ap : Appd A s size xs v A1) (ne : V.blk s ≠ some b) (h : A.cell ⟨b, off, none⟩ = some u) : A1.cell ⟨b, off, none⟩ = some u := by
  unfold AH.cell at h ⊢
  simp only [Option.isSome_none] at h ⊢
  cases hg : A.get b with
  | none => rw [hg] at h; cases h
  | some o => rw [hg] at h; rw [ap.get _ _ hg ne]; exact h
/-- A slice from a place on. -/
def loV : Value → Nat → Nat → Value
  | .slice p n c, size, j => .slice (if c = j then p else p.map (·.add (j * size))) (n - j) (c - j)
  | v, _, _ => v
theorem Slc.lo {A : AH} {size j : Nat} {v : Value} {xs : List Value} (s : Slc A size v xs) (h0 : 0 < size) (hj : j * size ≤ xs.length) : Slc A size (loV v size j) (xs.drop (j * size)) := by
  obtain ⟨p, n, c, rfl, h2, h3, h4⟩ := s
  have hjn : j ≤ n := by rw [h2] at hj; exact Nat.le_of_mul_le_mul_right hj h0
  refine ⟨_, n - j, c - j, rfl, by rw [List.length_drop, h2, Nat.sub_mul], by omega, ?_⟩
  rcases h4 with h4 | ⟨b, off, rw, r, rcap, rfl, g2, g3⟩
  · left; omega
  · by_cases q : n = j
    · left; omega
    · right
      refine ⟨b, off + j * size, rw, r, rcap, ?_, g2, ?_⟩
      · rw [if_neg (by omega)]
        simp only [Option.map_some]
        rw [add_off _ _ rfl]
      · rw [← g3, List.drop_take, List.drop_drop, Nat.sub_mul]
theorem qsliceLo {P : Program} {e : Env} {A : AH} {x lo : Operand} {t el : TypeId} {size j : Nat} {v : Value} {xs : List Value} (hu : P.underlying t = some (.slice el)) (hs : szOf P el = some size) (h : opd e x = some v) (s : Slc A size v xs) (hlo : opd e lo = some (num (j : Nat))) (h0 : 0 < size) (hj : j * size ≤ xs.length) :
    quietV P e A (.slice t x (some lo) none none) = some (loV v size j, []) := by
  obtain ⟨p, n, c, rfl, h2, h3, h4⟩ := s
  have hjn : j ≤ n := by rw [h2] at hj; exact Nat.le_of_mul_le_mul_right hj h0
  simp [quietV, pureOp, h, sliceV, hu, hs, boundV, hlo, loV]
  omega
theorem bytes_drop (a : List UInt8) (n : Nat) : (byteCells a).drop n = byteCells (a.drop n) := by simp [byteCells, List.map_drop]
/-- Blocks that are new in a callee are none of a view behind which it began. -/
theorem le_none (le : A0.le A) (h : A.get b = none) : A0.get b = none := by
  cases q : A0.get b with
  | none => rfl
  | some o => rw [le.get _ _ q] at h; cases h
end
end V
end Go.Proofs.YtaccklloepfemaaGreatDoor
