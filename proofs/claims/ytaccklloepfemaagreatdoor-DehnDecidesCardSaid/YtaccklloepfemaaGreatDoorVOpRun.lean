/- Each operation, run by the model: it comes to what 'opV' says. -/
import Derived.Test.YtaccklloepfemaaGreatDoorVOp
import Derived.IntWalk
namespace Go.Proofs.YtaccklloepfemaaGreatDoor
set_option linter.unusedVariables false
set_option linter.unusedSimpArgs false
open Go Go.RowKit
namespace V
section
variable {P : Program} {w : World} {A : AH}

/-- What is known behind an operation that yields a value. -/
def After (A : AH) (a : Act) (w : World) (o : Oper) (K : Value → AH → Prop) : Act → World → Prop :=
  fun a' w' => ∃ v A', a' = a.put o.dst v ∧ View A' w' ∧ Step A w A' w' ∧ K v A'
def Behind (A : AH) (a : Act) (w : World) (Kp : List PanicEntry → AH → Prop) : Exit → Act → World → Prop :=
  fun x a' w' => ∃ ch A', x = .panic ch ∧ a' = a ∧ View A' w' ∧ Step A w A' w' ∧ Kp ch A'

variable {K : Value → AH → Prop} {Kp : List PanicEntry → AH → Prop} {o : Oper} {a : Act}

theorem wp_value {v : Value} {w' : World} {A' : AH} (r : (execOp a.eval o).run P w = .ok (.value v) w') (hv : View A' w') (hs : Step A w A' w') (hk : K v A') :
    o.wp P a w (After A a w o K) (Behind A a w Kp) := by
  unfold Oper.wp; rw [r]; exact ⟨v, A', rfl, hv, hs, hk⟩
theorem wp_skipV {w' : World} {A' : AH} (r : (execOp a.eval o).run P w = .ok .skip w') (hv : View A' w') (hs : Step A w A' w') (hk : K undef A') :
    o.wp P a w (After A a w o K) (Behind A a w Kp) := by
  unfold Oper.wp; rw [r]; exact ⟨undef, A', rfl, hv, hs, hk⟩

theorem run_getObj {b : Nat} {x : Obj} (h : w.heap[b]? = some x) (hx : ∀ c e f, x ≠ .cells c e f) : (getObj b).run P w = .ok x w := by
  simp only [getObj, Sem.run, h]

theorem run_len {t ty : TypeId} {x v : Value} (h : View A w) (g : lenV P A t x = some v) : (Builtin.len_ #[t] ty #[x]).run P w = .ok v w := by
  unfold lenV at g
  split at g
  · rename_i s hu; cases g; simp [Builtin.len_, run_und hu, goInt]
  · rename_i u b n c hu; cases g; simp [Builtin.len_, run_und hu, goInt]
  · rename_i u1 u2 hu; cases g; simp [Builtin.len_, run_und hu, goInt]
  · rename_i u1 u2 b hu
    split at g
    · rename_i rw es ck hb
      cases g
      have := h.fits b _ hb
      simp only [AObj.fits] at this
      simp [Builtin.len_, run_und hu, goInt, run_getObj this.1 this.2]
    · cases g
  · cases g

theorem run_max {k : IntKind} : ∀ (r : List Value) (x v : Int), maxL k x r = some v → (r.foldlM Builtin.max2 (.int k x)).run P w = .ok (.int k v) w := by
  intro r
  induction r with
  | nil => intro x v h; cases h; rfl
  | cons y r ih =>
    intro x v h
    cases y <;> simp only [maxL] at h <;> (try (cases h; done))
    split at h
    · rename_i k' y hk; subst hk; simp only [List.foldlM_cons, Builtin.max2, Sem.run_bind, Sem.run_pure, Result.andThen_ok]; exact ih _ _ h
    · cases h
theorem run_min {k : IntKind} : ∀ (r : List Value) (x v : Int), minL k x r = some v → (r.foldlM Builtin.min2 (.int k x)).run P w = .ok (.int k v) w := by
  intro r
  induction r with
  | nil => intro x v h; cases h; rfl
  | cons y r ih =>
    intro x v h
    cases y <;> simp only [minL] at h <;> (try (cases h; done))
    split at h
    · rename_i k' y hk; subst hk; simp only [List.foldlM_cons, Builtin.min2, Sem.run_bind, Sem.run_pure, Result.andThen_ok]; exact ih _ _ h
    · cases h

theorem wp_call {nt : Nat} {f : Fr} {c : Call} (ha : ActOk nt f a) (hw : View A w) (ho : o.op = .call c) (h : callV P f.e A c K Kp) :
    o.wp P a w (After A a w o K) (Behind A a w Kp) := by
  have hev : ∀ x v, opd f.e x = some v → a.eval x = v := fun x v g => opd_eval ha g
  obtain ⟨callee, args, argTypes⟩ := c
  have hargs : ∀ vs, allV (opd f.e) args.toList = some vs → args.map a.eval = vs.toArray := fun vs g => by
    apply Array.ext'; simp [all_eval hev _ _ g]
  unfold callV at h
  cases callee with
  | invoke _ _ => exact h.elim
  | value fo =>
    simp only at h
    split at h
    · rename_i g first captured vs h1 h2
      have r : (execOp a.eval o).run P w = .ok (.enter g (first ++ vs.toArray ++ captured)) w := by
        obtain ⟨dst, op, type, pos, after, guard⟩ := o
        simp only at ho; subst ho
        simp [execOp, resolve, hev _ _ h1, hargs _ h2, Deferred.ofValue, invoke, h.1 _ w]
      unfold Oper.wp; rw [r]
      refine (h.2 w hw).mono ?_
      rintro e w' ⟨A', hv, hs, hk⟩
      cases e with
      | returned v => exact ⟨v, A', rfl, hv, hs, hk⟩
      | panicked ch => exact ⟨ch, A', rfl, rfl, hv, hs, hk⟩
      | outgrown => exact hk.elim
    · exact h.elim
  | builtin b =>
    simp only at h
    split at h
    · rename_i vs h2
      obtain ⟨cs, r⟩ : ∃ cs, (execOp a.eval o).run P w = (builtin b argTypes o.type cs vs.toArray).run P w := by
        obtain ⟨dst, op, type, pos, after, guard⟩ := o
        simp only at ho; subst ho
        simp only [execOp, resolve, hargs _ h2, invoke, Sem.run_bind, Sem.run_pure, Result.andThen_ok]
        exact ⟨_, rfl⟩
      unfold builtinV at h
      split at h
      · rename_i t x ht
        obtain ⟨v, g, hk⟩ := h
        have ht' : argTypes = #[t] := by apply Array.ext'; simpa using ht
        subst ht'
        exact wp_value (by rw [r]; simp [builtin, run_len hw g]) hw (.refl _ _) hk
      · rename_i st xt s x ht
        obtain ⟨elem, size, n, z, d, i, xs, ys, q1, q2, q3, q4, q5, q6, q7, ⟨base, l, c, rfl, q8, q9⟩, q10, q11, q12, q13, hk⟩ := h
        have ht' : argTypes = #[st, xt] := by apply Array.ext'; simpa using ht
        subst ht'
        obtain ⟨v, w', A', g1, g2, g3, g4⟩ := run_append (t := o.type) hw q1 q2 q3 rfl q4 q5 q6 q7 q10 q11 q12 q13 q8 q9
        exact wp_value (by rw [r]; simp only [builtin, Sem.run_bind, g1, Result.andThen_ok]; rfl) g2 g3 (hk v A' g4)
      · rename_i k x rr
        obtain ⟨v, g, hk⟩ := h
        exact wp_value (by rw [r]; simp only [builtin, Builtin.max_, Sem.run_bind, run_max rr x v g, Result.andThen_ok]; rfl) hw (.refl _ _) hk
      · rename_i k x rr
        obtain ⟨v, g, hk⟩ := h
        exact wp_value (by rw [r]; simp only [builtin, Builtin.min_, Sem.run_bind, run_min rr x v g, Result.andThen_ok]; rfl) hw (.refl _ _) hk
      · exact h.elim
    · exact h.elim

theorem run_build {t : TypeId} {l : List (Nat × Value)} {ps : Array (Nat × Value)} {v : Value} (hps : ps.toList = l) (g : buildV P t l = some v) : (Instr.build t ps).run P w = .ok v w := by
  unfold buildV at g
  split at g
  · rename_i fs z hu hz
    cases hl : structPlaces P t with
    | none => simp [hl] at g
    | some pl =>
      cases hf : fillL (fun i => pl[i]?) z.cells.toList l with
      | none => simp [hl, hf] at g
      | some r =>
        simp [hl, hf] at g; subst g
        simp only [structPlaces, hu] at hl
        have h1 := fill_eq _ _ _ hf
        have h2 : (fs.mapM fun f => (do pure (f.offset, ← sizeOf f.type) : Sem (Nat × Nat))).run P w = .ok pl.toArray w := by
          rw [Array.mapM_eq_mapM_toList]
          simp only [Sem.run_map, places_eq (w := w) hl, Result.andThen_ok]
        simp only [Instr.build, Sem.run_bind, run_zeroOf hz, Result.andThen_ok, run_und hu, h2, hps]
        have h3 : Instr.fill (fun x => pl.toArray[x]?) z.cells l = some r.toArray := by simpa using h1
        simp only [h3]; rfl
  · rename_i len e z hu hz
    cases hs : szOf P e with
    | none => simp [hs] at g
    | some n =>
      cases hf : fillL (fun i => some (i * n, n)) z.cells.toList l with
      | none => simp [hs, hf] at g
      | some r =>
        simp [hs, hf] at g; subst g
        have h1 := fill_eq _ _ _ hf
        simp only [Instr.build, Sem.run_bind, run_zeroOf hz, Result.andThen_ok, run_und hu, run_szOf hs, hps]
        have h3 : Instr.fill (fun i => some (i * n, n)) z.cells l = some r.toArray := by simpa using h1
        simp only [h3]; rfl
  · cases g

theorem run_buildSlice {t : TypeId} {len : Nat} {l : List (Nat × Value)} {ps : Array (Nat × Value)} {c : List Value} (h : View A w) (hps : ps.toList = l) (g : buildSliceV P t len l = some c) :
    ∃ w', (Instr.buildSlice t len ps).run P w = .ok (.slice (some ⟨A.n, 0, none⟩) len len) w' ∧ View (A.new (.row true c c.length)) w' ∧ Step A w (A.new (.row true c c.length)) w' := by
  unfold buildSliceV at g
  split at g
  · rename_i e hu
    cases hs : szOf P e with
    | none => simp [hs] at g
    | some n =>
      cases hz : zeroOf P e with
      | none => simp [hs, hz] at g
      | some z =>
        simp only [hs, hz, Option.bind_some] at g
        split at g
        · rename_i q
          have h1 := fill_eq _ _ _ g
          have hr := rep_eq (k := len) q.1 q.2.1
          obtain ⟨v1, s1⟩ := view_newRow (c := c.toArray) (elem := e) h
          refine ⟨{ w with heap := w.heap.push (.cells c.toArray e) }, ?_, by simpa using v1, by simpa using s1⟩
          have hn : ¬ (len * n > 2 ^ 24) := by omega
          simp only [Instr.buildSlice, Sem.run_bind, run_und hu, Result.andThen_ok, run_szOf hs]
          rw [if_neg hn]
          by_cases q0 : len * n = 0
          · have hl0 : len = 0 := by rcases Nat.mul_eq_zero.1 q0 with q | q; exact q; omega
            have he : (Array.map (fun x => (#[] : Array Value)[x % (#[] : Array Value).size]!) (Array.range (len * n))) = (repL z.cells.toList len).toArray := by subst hl0; simp [repL]
            rw [if_pos q0]
            simp only [Sem.run_bind, Sem.run_pure, Result.andThen_ok, hps, he, h1, newRow, run_newObj]
            rw [h.size]
          · rw [if_neg q0]
            simp only [Sem.run_bind, Sem.run_pure, Result.andThen_ok, run_zeroOf hz, hr, hps, h1, newRow, run_newObj]
            rw [h.size]
        · cases g
  · cases g

theorem run_makeSlice {t : TypeId} {l c : Value} {n k : Nat} {cs : List Value} (h : View A w) (g : makeSliceV P t l c = some (n, k, cs)) :
    ∃ w', (Instr.makeSlice t l c).run P w = .ok (.slice (some ⟨A.n, 0, none⟩) n k) w' ∧ View (A.new (.row true cs cs.length)) w' ∧ Step A w (A.new (.row true cs cs.length)) w' := by
  have hnat : ∀ (v : Value) m, natV v = some m → ∃ i : Int, v = .int .i64 i ∧ 0 ≤ i ∧ i < 9223372036854775808 ∧ m = i.toNat := fun v m hv => by
    unfold natV at hv
    split at hv
    · split at hv
      · rename_i i q; cases hv; exact ⟨i, rfl, q.1, q.2, rfl⟩
      · cases hv
    · cases hv
  unfold makeSliceV at g
  split at g
  · rename_i e l' c' hu hl hc
    obtain ⟨l₀, rfl, g1, g2, rfl⟩ := hnat _ _ hl
    obtain ⟨c₀, rfl, g3, g4, rfl⟩ := hnat _ _ hc
    cases hs : szOf P e with
    | none => simp [hs] at g
    | some m =>
      cases hz : zeroOf P e with
      | none => simp [hs, hz] at g
      | some z =>
        cases hi : P.info? e with
        | none => simp [hs, hz, hi] at g
        | some i =>
          simp only [hs, hz, hi, Option.bind_some] at g
          split at g
          · rename_i q
            simp only [Option.some.injEq, Prod.mk.injEq] at g
            obtain ⟨rfl, rfl, rfl⟩ := g
            obtain ⟨q1, q2, q3, q4⟩ := q
            have hw1 : ∀ x : Int, 0 ≤ x → x < 9223372036854775808 → IntKind.i64.wrap x = x := fun x h0 h1 => IntWalk.i64_in x (by omega)
            have hr := rep_eq (k := c₀.toNat) q1 q2
            obtain ⟨v1, s1⟩ := view_newRow (c := (repL z.cells.toList c₀.toNat).toArray) (elem := e) h
            refine ⟨_, ?_, by simpa using v1, by simpa using s1⟩
            have hbig : (c₀ : Int) = (c₀.toNat : Int) := by omega
            have hq4 : ¬ ((281474976710656 : Int) < (i.bytes : Int) * c₀) := by
              rw [hbig, ← Int.natCast_mul]
              have : ((i.bytes * c₀.toNat : Nat) : Int) ≤ ((281474976710656 : Nat) : Int) := Int.ofNat_le.2 q4
              exact Int.not_lt.2 this
            have hcond : (((decide (c₀ < 0) || decide ((281474976710656 : Int) < (i.bytes : Int) * c₀)) || decide (l₀ < 0)) || decide (l₀ > c₀)) = false := by
              simp only [Bool.or_eq_false_iff, decide_eq_false_iff_not]
              exact ⟨⟨⟨by omega, hq4⟩, by omega⟩, by omega⟩
            have hti : (typeInfo e).run P w = .ok i w := by simp [typeInfo, hi]
            have ha1 : ∀ q : Int, (asInt (.int .i64 q)).run P w = .ok q w := fun q => rfl
            simp only [Instr.makeSlice, Sem.run_bind, run_und hu, Result.andThen_ok, ha1, hti]
            rw [hw1 l₀ g1 g2, hw1 c₀ g3 g4]
            rw [if_neg (by simpa using hcond)]
            by_cases q0 : c₀.toNat * m = 0
            · have hl0 : c₀.toNat = 0 := by rcases Nat.mul_eq_zero.1 q0 with q | q; exact q; omega
              have he : (Array.map (fun x => (#[] : Array Value)[x % (#[] : Array Value).size]!) (Array.range (c₀.toNat * m))) = (repL z.cells.toList c₀.toNat).toArray := by rw [hl0]; simp [repL]
              simp only [Sem.run_bind, run_askRoom, Result.andThen_ok, run_szOf hs]
              rw [if_pos q0]
              simp only [Sem.run_bind, Sem.run_pure, Result.andThen_ok, he, newRow, run_newObj]
              rw [h.size]; rfl
            · simp only [Sem.run_bind, run_askRoom, Result.andThen_ok, run_szOf hs]
              rw [if_neg q0]
              simp only [Sem.run_bind, Sem.run_pure, Result.andThen_ok, run_zeroOf hz, hr, newRow, run_newObj]
              rw [h.size]; rfl
          · cases g
  · cases g

theorem wp_conv {nt : Nat} {f : Fr} {sr d : TypeId} {x : Operand} {u : Value} (ha : ActOk nt f a) (hw : View A w) (ho : o.op = .convert sr d x) (hu : opd f.e x = some u) (h : convOp P A sr d u K) :
    o.wp P a w (After A a w o K) (Behind A a w Kp) := by
  have he := opd_eval ha hu
  have hr : (execOp a.eval o).run P w = ((convert sr d u).run P w).andThen fun v w' => .ok (.value v) w' := by
    obtain ⟨dst, op, type, pos, after, guard⟩ := o
    simp only at ho; subst ho
    simp only [execOp, he, Sem.run_bind]; rfl
  unfold convOp at h
  split at h
  · rename_i el s h1 h2
    obtain ⟨g1, g2, hk⟩ := h
    have he : P.underlying el = some (.int .u8) := by
      unfold isU8 at g1; split at g1
      · assumption
      · cases g1
    obtain ⟨k, w', r, hv, hs, hle⟩ := run_strToBytes hw h1 h2 he g2
    exact wp_value (by rw [hr, r]; rfl) hv hs (hk k hle)
  · rename_i el b n c h1 h2
    obtain ⟨g1, l, g2, hk⟩ := h
    have he : P.underlying el = some (.int .u8) := by
      unfold isU8 at g1; split at g1
      · assumption
      · cases g1
    have r := run_bytesToStr (P := P) hw g2 (fun _ q => by cases q)
    exact wp_value (by rw [hr, run_convert_bytes_string w sr d el b n c h1 he h2, r]; rfl) hw (.refl _ _) hk
  · obtain ⟨v, g, hk⟩ := h
    exact wp_value (run_pure (ev := opd f.e) (fun x v g => opd_eval ha g) (by rw [ho]; simp only [pureOp, hu, Option.bind_some, g])) hw (.refl _ _) hk

theorem View.obj {b : Nat} {rw : Bool} {x : Obj} (h : View A w) (g : A.get b = some (.obj rw x)) : w.heap[b]? = some x ∧ ∀ c e f, x ≠ .cells c e f := h.fits b _ g

/-- An object that is no row is changed. -/
theorem view_setObj {b : Nat} {x y : Obj} (h : View A w) (g : A.get b = some (.obj true x)) (hy : ∀ c e f, y ≠ .cells c e f) :
    ∃ w', (setObj b y).run P w = .ok () w' ∧ View (A.set b (.obj true y)) w' ∧ Step A w (A.set b (.obj true y)) w' := by
  obtain ⟨h1, h2⟩ := h.obj g
  have hb : b < w.heap.size := (Array.getElem?_eq_some_iff.1 h1).1
  refine ⟨{ w with heap := w.heap.setIfInBounds b y }, ?_, h.setRow (by simp) (fun k hk => by simp [Array.getElem?_setIfInBounds_ne (Ne.symm hk)]) ⟨by simp [hb], hy⟩, ⟨rfl, rfl, ⟨rfl, Nat.le_refl _⟩, by simp, fun k _ hr => ?_, fun k hk => ?_⟩⟩
  · simp only [setObj, Sem.run, h1]
  · have : k ≠ b := by rintro rfl; simp [AH.rw, g, AObj.rw] at hr
    simp [Array.getElem?_setIfInBounds_ne (Ne.symm this)]
  · left
    simp only [AH.rw, AH.set_get] at hk ⊢
    split at hk
    · rename_i o ho
      split at ho
      · rename_i e; subst e; simp [g, AObj.rw]
      · simp [ho, hk]
    · cases hk

theorem wp_range {nt : Nat} {f : Fr} {t : TypeId} {x : Operand} {v : Value} (ha : ActOk nt f a) (hw : View A w) (ho : o.op = .range t x) (hx : opd f.e x = some v) (h : rangeV P A t v K) :
    o.wp P a w (After A a w o K) (Behind A a w Kp) := by
  have he := opd_eval ha hx
  have hr : (execOp a.eval o).run P w = ((Instr.range t v).run P w).andThen fun v w' => .ok (.value v) w' := by
    obtain ⟨dst, op, type, pos, after, guard⟩ := o
    simp only at ho; subst ho
    simp only [execOp, he, Sem.run_bind]; rfl
  unfold rangeV at h
  split at h
  · rename_i s hu
    obtain ⟨v1, s1⟩ := view_new (o := .obj true (.stringIter s 0)) (x := .stringIter s 0) hw ⟨rfl, fun _ _ _ q => by cases q⟩
    refine wp_value (w' := { w with heap := w.heap.push (.stringIter s 0) }) ?_ v1 s1 h
    rw [hr]; simp only [Instr.range, Sem.run_bind, run_und hu, Result.andThen_ok, Sem.run_pure, run_newObj, hw.size]
  · rename_i u1 u2 hu
    obtain ⟨v1, s1⟩ := view_new (o := .obj true (.mapIter none 0 #[] 0)) (x := .mapIter none 0 #[] 0) hw ⟨rfl, fun _ _ _ q => by cases q⟩
    refine wp_value (w' := { w with heap := w.heap.push (.mapIter none 0 #[] 0) }) ?_ v1 s1 h
    rw [hr]; simp only [Instr.range, Sem.run_bind, run_und hu, Result.andThen_ok, Sem.run_pure, run_newObj, hw.size]
  · rename_i u1 u2 m hu
    obtain ⟨rw', es, clock, g, hk⟩ := h
    obtain ⟨g1, g2⟩ := hw.obj g
    obtain ⟨v1, s1⟩ := view_new (o := .obj true (.mapIter (some m) clock #[] clock)) (x := .mapIter (some m) clock #[] clock) hw ⟨rfl, fun _ _ _ q => by cases q⟩
    refine wp_value (w' := { w with heap := w.heap.push (.mapIter (some m) clock #[] clock) }) ?_ v1 s1 hk
    rw [hr]; simp only [Instr.range, Sem.run_bind, run_und hu, Result.andThen_ok, run_getObj g1 g2, Sem.run_pure, run_newObj, hw.size]
  · exact h.elim

theorem wp_next {nt : Nat} {f : Fr} {b : Bool} {x : Operand} {v : Value} (ha : ActOk nt f a) (hw : View A w) (ho : o.op = .next x b) (hx : opd f.e x = some v) (h : nextV A v b K) :
    o.wp P a w (After A a w o K) (Behind A a w Kp) := by
  have he := opd_eval ha hx
  have hr : (execOp a.eval o).run P w = ((Instr.next v b o.type).run P w).andThen fun v w' => .ok (.value v) w' := by
    obtain ⟨dst, op, type, pos, after, guard⟩ := o
    simp only at ho; subst ho
    simp only [execOp, he, Sem.run_bind]; rfl
  obtain ⟨k, rfl, h⟩ := h
  rcases h with ⟨rfl, s, pos, g, h1, h2⟩ | ⟨rfl, since, seen, last, g, h1⟩ | ⟨rfl, m, since, seen, last, rw', es, clock, g, gm, hmb, hborn, hcl, h1, h2⟩
  · obtain ⟨g1, g2⟩ := hw.obj g
    by_cases hp : pos < s.size
    · obtain ⟨w', r, v1, s1⟩ := view_setObj (P := P) hw g (y := .stringIter s (pos + (Utf8.decode s pos).2)) (fun _ _ _ q => by cases q)
      refine wp_value ?_ v1 s1 (h1 hp)
      rw [hr]
      simp only [Instr.next, Sem.run_bind, run_getObj g1 g2, Result.andThen_ok, hp, if_true, r, Sem.run_pure, goInt]
    · refine wp_value ?_ hw (.refl _ _) (h2 hp)
      rw [hr]
      simp only [Instr.next, Sem.run_bind, run_getObj g1 g2, Result.andThen_ok, hp, if_false, Sem.run_pure]
  · obtain ⟨g1, g2⟩ := hw.obj g
    refine wp_value ?_ hw (.refl _ _) h1
    rw [hr]
    simp only [Instr.next, Sem.run_bind, run_getObj g1 g2, Result.andThen_ok, Sem.run_pure]
  · obtain ⟨g1, g2⟩ := hw.obj g
    obtain ⟨g3, g4⟩ := hw.obj gm
    have hold : (es.filter fun e => !seen.contains e.born).filter (fun e => decide (e.born < since)) = leftOf es seen := by
      unfold leftOf
      apply Array.ext'
      simp only [Array.toList_filter]
      rw [List.filter_eq_self]
      intro y hy
      have := (List.mem_filter.1 hy).1
      simpa using hborn y (by simpa using this)
    have hnew : (es.filter fun e => !seen.contains e.born).filter (fun e => decide (e.born ≥ since)) = #[] := by
      apply Array.ext'
      simp only [Array.toList_filter]
      rw [List.filter_eq_nil_iff]
      intro y hy
      have := (List.mem_filter.1 hy).1
      have := hborn y (by simpa using this)
      simp; omega
    have hguard : (!seen.isEmpty && !es.isEmpty && es.all fun x => decide (x.born ≥ last)) = false := by
      rcases hcl with q | q | q
      · simp [q]
      · simp [q]
      · cases q2 : (es.all fun x => decide (x.born ≥ last)) with
        | false => simp
        | true => exact absurd q2 q
    by_cases hl : leftOf es seen = #[]
    · refine wp_value ?_ hw (.refl _ _) (h2 hl)
      rw [hr]
      simp only [Instr.next, Sem.run_bind, run_getObj g1 g2, run_getObj g3 g4, Result.andThen_ok, hguard, hold, hnew, hl]
      simp [Question.forced]
    · have hne : (leftOf es seen).isEmpty = false := by
        cases q : (leftOf es seen).isEmpty with
        | false => rfl
        | true => exact absurd (Array.isEmpty_iff.1 q) hl
      have hpos : 0 < (leftOf es seen).size := by
        rcases Nat.eq_zero_or_pos (leftOf es seen).size with q | q
        · exact absurd (Array.size_eq_zero_iff.1 q) hl
        · exact q
      -- whichever entry is picked
      have pick : ∀ (n : Nat) (w₁ : World), n < (leftOf es seen).size → View A w₁ → Step A w A w₁ →
          ∃ x w', x ∈ leftOf es seen ∧ (leftOf es seen)[n]? = some x ∧ (setObj k (.mapIter (some m) since (seen.push x.born) clock)).run P w₁ = .ok () w' ∧ View (A.set k (.obj true (.mapIter (some m) since (seen.push x.born) clock))) w' ∧ Step A w (A.set k (.obj true (.mapIter (some m) since (seen.push x.born) clock))) w' := by
        intro n w₁ hn hv₁ hs₁
        obtain ⟨w', r, v1, s1⟩ := view_setObj (P := P) hv₁ g (y := .mapIter (some m) since (seen.push (leftOf es seen)[n].born) clock) (fun _ _ _ q => by cases q)
        exact ⟨(leftOf es seen)[n], w', Array.getElem_mem hn, by simp [hn], r, v1, hs₁.trans s1⟩
      obtain ⟨v0, s0⟩ := view_drawn hw
      by_cases hf : (Question.mapNext (leftOf es seen).size).forced = true
      · obtain ⟨y, w', hy, hyn, r, v1, s1⟩ := pick 0 w hpos hw (.refl _ _)
        refine wp_value ?_ v1 s1 (h1 y hy)
        rw [hr]
        simp only [Instr.next, Sem.run_bind, run_getObj g1 g2, run_getObj g3 g4, Result.andThen_ok, hguard, hold, hnew, hne]
        simp [hf, hyn, r]
      · obtain ⟨y, w', hy, hyn, r, v1, s1⟩ := pick (Question.cut (.mapNext (leftOf es seen).size) (w.tape w.drawn (.mapNext (leftOf es seen).size))) w.drew (by simp only [Question.cut]; exact Nat.mod_lt _ hpos) v0 s0
        refine wp_value ?_ v1 s1 (h1 y hy)
        rw [hr]
        simp only [Instr.next, Sem.run_bind, run_getObj g1 g2, run_getObj g3 g4, Result.andThen_ok, hguard, hold, hnew, hne]
        simp [hf, hyn, r]

theorem wp_entry {nt : Nat} {f : Fr} {x : Operand} {v : Value} (ha : ActOk nt f a) (hw : View A w) (ho : o.op = .entry x) (hx : opd f.e x = some v) (h : entryV A v K) :
    o.wp P a w (After A a w o K) (Behind A a w Kp) := by
  have he := opd_eval ha hx
  obtain ⟨b, m, since, seen, last, rw', es, y, rfl, g, gm, hmb, hs, hf, hk⟩ := h
  obtain ⟨g1, g2⟩ := hw.obj g
  obtain ⟨g3, g4⟩ := hw.obj gm
  refine wp_value ?_ hw (.refl _ _) hk
  obtain ⟨dst, op, type, pos, after, guard⟩ := o
  simp only at ho; subst ho
  simp only [execOp, he, Instr.entry, Sem.run_bind, run_getObj g1 g2, run_getObj g3 g4, Result.andThen_ok, hs, hf]
  simp

theorem run_checkKey {t : TypeId} {kd : TypeDesc} {v : Value} {b : Bool} (hu : P.underlying t = some kd) (hb : basicKey kd = true) : (Instr.checkKey b 10000 t v).run P w = .ok () w := by
  have e : Instr.checkKey b 10000 t v = Instr.checkKey b (9999 + 1) t v := rfl
  rw [e]
  generalize 9999 = d
  unfold Instr.checkKey
  cases kd <;> simp only [basicKey] at hb <;> (try (cases hb; done)) <;> cases v <;> simp only [Sem.run_bind, run_und hu, Result.andThen_ok] <;> rfl

theorem wp_lookup {nt : Nat} {f : Fr} {t : TypeId} {b : Bool} {x y : Operand} {u v : Value} (ha : ActOk nt f a) (hw : View A w) (ho : o.op = .lookup t x y b) (hx : opd f.e x = some u) (hy : opd f.e y = some v) (h : lookupV P A t u v b K) :
    o.wp P a w (After A a w o K) (Behind A a w Kp) := by
  have he := opd_eval ha hx
  have he' := opd_eval ha hy
  obtain ⟨kt, et, kd, z, es, r, q1, q2, q3, q4, q5, q6, hk⟩ := h
  refine wp_value ?_ hw (.refl _ _) hk
  obtain ⟨dst, op, type, pos, after, guard⟩ := o
  simp only at ho; subst ho
  have hfind : (Instr.findKey kt v es.toList).run P w = .ok r w := by
    simp only [Instr.findKey, Sem.run_bind, run_und q2, Result.andThen_ok, q6]; rfl
  have key : (Instr.lookup t u v b).run P w = .ok (let p := match r with | some (_, v) => (v, true) | none => (z, false); if b then .tuple #[p.1, .bool p.2] else p.1) w := by
    unfold Instr.lookup
    rcases q5 with ⟨rfl, rfl⟩ | ⟨m, rw', clock, rfl, g⟩
    · simp only [Sem.run_bind, run_und q1, Result.andThen_ok, Sem.run_pure, run_checkKey q2 q3, hfind]
      cases r with
      | none => simp only [Sem.run_bind, run_zeroOf q4, Result.andThen_ok, Sem.run_pure]
      | some p => obtain ⟨i, v'⟩ := p; simp only [Sem.run_bind, Sem.run_pure, Result.andThen_ok]
    · obtain ⟨g1, g2⟩ := hw.obj g
      simp only [Sem.run_bind, run_und q1, Result.andThen_ok, run_getObj g1 g2, Sem.run_pure, run_checkKey q2 q3, hfind]
      cases r with
      | none => simp only [Sem.run_bind, run_zeroOf q4, Result.andThen_ok, Sem.run_pure]
      | some p => obtain ⟨i, v'⟩ := p; simp only [Sem.run_bind, Sem.run_pure, Result.andThen_ok]
  simp only [execOp, he, he', Sem.run_bind, key, Result.andThen_ok]; rfl

theorem wp_update {nt : Nat} {f : Fr} {t : TypeId} {x y z : Operand} {u k v : Value} (ha : ActOk nt f a) (hw : View A w) (ho : o.op = .mapUpdate t x y z ∨ o.op = .insert t x y z) (hx : opd f.e x = some u) (hy : opd f.e y = some k) (hz : opd f.e z = some v) (h : updateV P A t u k v K) :
    o.wp P a w (After A a w o K) (Behind A a w Kp) := by
  have he := opd_eval ha hx
  have he' := opd_eval ha hy
  have he2 := opd_eval ha hz
  have hr : (execOp a.eval o).run P w = ((Instr.mapUpdate t u k v).run P w).andThen fun _ w' => .ok .skip w' := by
    obtain ⟨dst, op, type, pos, after, guard⟩ := o
    rcases ho with ho | ho <;> (simp only at ho; subst ho; simp only [execOp, he, he', he2, Sem.run_bind]; rfl)
  obtain ⟨kt, et, kd, m, es, clock, r, q1, q2, q3, rfl, g, q6, hk⟩ := h
  obtain ⟨g1, g2⟩ := hw.obj g
  have hfind : (Instr.findKey kt k es.toList).run P w = .ok r w := by
    simp only [Instr.findKey, Sem.run_bind, run_und q2, Result.andThen_ok, q6]; rfl
  cases r with
  | none =>
    obtain ⟨w', r, v1, s1⟩ := view_setObj (P := P) hw g (y := .map (es.push { key := k, val := v, born := clock }) (clock + 1)) (fun _ _ _ q => by cases q)
    refine wp_skipV ?_ v1 s1 hk
    rw [hr]
    simp only [Instr.mapUpdate, Sem.run_bind, run_und q1, Result.andThen_ok, run_getObj g1 g2, run_checkKey q2 q3, hfind, r]
  | some p =>
    obtain ⟨i, v'⟩ := p
    obtain ⟨⟨x', hx', hsb⟩, hk⟩ := hk
    obtain ⟨w', r, v1, s1⟩ := view_setObj (P := P) hw g (y := .map (es.modify i fun y => { y with key := k, val := v }) clock) (fun _ _ _ q => by cases q)
    refine wp_skipV ?_ v1 s1 hk
    rw [hr]
    simp only [Instr.mapUpdate, Sem.run_bind, run_und q1, Result.andThen_ok, run_getObj g1 g2, run_checkKey q2 q3, hfind, hx', Option.map_some, Option.getD_some, Instr.keyThatStays, hsb, if_true, Sem.run_pure, r]

theorem opV_sound {nt : Nat} {f : Fr} (ha : ActOk nt f a) (hw : View A w) (h : opV P f.e A o K Kp) :
    o.wp P a w (After A a w o K) (Behind A a w Kp) := by
  have hev : ∀ x v, opd f.e x = some v → a.eval x = v := fun x v g => opd_eval ha g
  have pure : (∃ v, pureOp P (opd f.e) o.op = some v ∧ K v A) → o.wp P a w (After A a w o K) (Behind A a w Kp) := fun ⟨v, g, hk⟩ =>
    wp_value (run_pure hev g) hw (.refl _ _) hk
  obtain ⟨dst, op, type, pos, after, guard⟩ := o
  cases op <;> simp only [opV] at h <;> (try exact h.elim) <;> (try exact pure h)
  case alloc t =>
    obtain ⟨z, hz, hk⟩ := h
    obtain ⟨v1, s1⟩ := view_newRow (c := z.cells) (elem := t) hw
    refine wp_value (w' := { w with heap := w.heap.push (.cells z.cells t) }) ?_ v1 s1 hk
    simp only [execOp, Instr.alloc, Sem.run_bind, run_zeroOf hz, Result.andThen_ok, newVar, newRow, run_newObj, Sem.run_pure, hw.size]
  case box t x =>
    obtain ⟨v, hx, hk⟩ := h
    obtain ⟨v1, s1⟩ := view_newRow (c := v.cells) (elem := t) hw
    refine wp_value (w' := { w with heap := w.heap.push (.cells v.cells t) }) ?_ v1 s1 hk
    simp only [execOp, Instr.box, hev _ _ hx, Sem.run_bind, Result.andThen_ok, newVar, newRow, run_newObj, Sem.run_pure, hw.size]
  case load t x =>
    obtain ⟨u, v, hx, hl, hk⟩ := h
    exact wp_value (by simp only [execOp, hev _ _ hx, Sem.run_bind, run_loadV hw hl, Result.andThen_ok]; rfl) hw (.refl _ _) hk
  case store t x y =>
    obtain ⟨u, v, A', hx, hy, hl, hk⟩ := h
    obtain ⟨w', r, g1, g2⟩ := run_storeV (P := P) hw hl
    exact wp_skipV (by simp only [execOp, hev _ _ hx, hev _ _ hy, Sem.run_bind, r, Result.andThen_ok]; rfl) g1 g2 hk
  case build t ps =>
    obtain ⟨l, v, hl, hb, hk⟩ := h
    exact wp_value (by simp only [execOp, Sem.run_bind, run_build (ps := ps.map fun (i, x) => (i, a.eval x)) (by simpa using parts_eval hev _ _ hl) hb, Result.andThen_ok]; rfl) hw (.refl _ _) hk
  case buildSlice t n ps =>
    obtain ⟨l, c, hl, hb, hk⟩ := h
    obtain ⟨w', r, g1, g2⟩ := run_buildSlice (ps := ps.map fun (i, x) => (i, a.eval x)) hw (by simpa using parts_eval hev _ _ hl) hb
    exact wp_value (by simp only [execOp, Sem.run_bind, r, Result.andThen_ok]; rfl) g1 g2 hk
  case convert s d x =>
    obtain ⟨v, hx, hc⟩ := h
    exact wp_conv ha hw rfl hx hc
  case makeMap t r =>
    cases r with
    | some _ => exact h.elim
    | none =>
      obtain ⟨v1, s1⟩ := view_new (o := .obj true (.map #[] 0)) (x := .map #[] 0) hw ⟨rfl, fun _ _ _ q => by cases q⟩
      refine wp_value (w' := { w with heap := w.heap.push (.map #[] 0) }) ?_ v1 s1 h
      simp [execOp, Instr.makeMap, hw.size]
  case makeSlice t l c =>
    obtain ⟨u, v, n, k, cs, hu, hv, hm, hk⟩ := h
    obtain ⟨w', r, g1, g2⟩ := run_makeSlice (P := P) hw hm
    exact wp_value (by simp only [execOp, hev _ _ hu, hev _ _ hv, Sem.run_bind, r, Result.andThen_ok]; rfl) g1 g2 hk
  case slice t x lo hi mx =>
    cases mx with
    | some _ => exact h.elim
    | none => exact pure h
  case call c => exact wp_call ha hw rfl h
  case range t x => obtain ⟨v, hx, h⟩ := h; exact wp_range ha hw rfl hx h
  case next x b => obtain ⟨v, hx, h⟩ := h; exact wp_next ha hw rfl hx h
  case entry x => obtain ⟨v, hx, h⟩ := h; exact wp_entry ha hw rfl hx h
  case lookup t x y b => obtain ⟨u, v, hx, hy, h⟩ := h; exact wp_lookup ha hw rfl hx hy h
  case mapUpdate t x y z => obtain ⟨u, k, v, hx, hy, hz, h⟩ := h; exact wp_update ha hw (.inl rfl) hx hy hz h
  case insert t x y z => obtain ⟨u, k, v, hx, hy, hz, h⟩ := h; exact wp_update ha hw (.inr rfl) hx hy hz h
end
end V
end Go.Proofs.YtaccklloepfemaaGreatDoor
