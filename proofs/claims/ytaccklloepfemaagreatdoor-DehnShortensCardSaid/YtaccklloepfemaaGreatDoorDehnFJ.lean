/- The contracts of the functions, one by one: what each comes to. -/
import Derived.Test.YtaccklloepfemaaGreatDoorDehnFI
import Derived.Test.YtaccklloepfemaaGreatDoorVPhase
namespace Go.Proofs.YtaccklloepfemaaGreatDoor
open Go Go.RowKit V
set_option maxRecDepth 100000
set_option linter.unusedVariables false
set_option linter.unusedSimpArgs false


theorem s_rotations (w : List UInt8) (A : AH) : RetA Tryz.prog 57 #[str (w)] A (fun v A1 => ∃ b1, v = .func (.func 91) #[] #[.pointer (some ⟨b1, 0, none⟩)] ∧ A.le A1 ∧ A1.wf ∧ A1.get b1 = some (.row true [str w] 1)) := by
 refine enterA (e := [(0, str (w))]) (args := [str (w)]) Tryz.call57 Tryz.func57 rfl Tryz.results57 Tryz.ntmps57 rfl rfl rfl (fun wf => ?_)
 have le_ := AH.le.refl A
 refine Run.seq fun K1 h2 => ?_
 refine Run.region ?_
 refine Ops.l rfl (fun _ _ hk3 _ => wbox wf rfl rfl fun A5 b4 nb6 => ?_)
 have ge_b4 := none_of wf (Nat.le_trans le_.n nb6.lo)
 have le7 := le_.trans nb6.le
 refine hk3 _ _ ?_
 refine Ops.q rfl (qassign rfl) ?_
 refine Ops.nil ?_
 refine h2 _ _ ?_
 refine Run.seq fun K8 h9 => ?_
 refine Run.region ?_
 refine Ops.q rfl (qfunc rfl rfl) ?_
 refine Ops.q rfl (qassign rfl) ?_
 refine Ops.nil ?_
 refine h9 _ _ ?_
 refine Run.ret ?_
 repeat first | with_reducible refine thenQ_ret ?_ | with_reducible refine blockQ_ret ?_
 exact retQ rfl (⟨_, rfl, le7, nb6.wf, nb6.get⟩)

def rq (w : List UInt8) (l b1 i : Nat) : Nat → Option (Nat × Value)
  | 0 => some (9, .func (.yield l) #[] #[])
  | 1 => some (10, str w)
  | 2 => some (11, num ((i : Nat) : Int))
  | 3 => some (12, str (w.take i))
  | 4 => some (13, str w)
  | 5 => some (14, num ((i : Nat) : Int))
  | 6 => some (15, str (w.drop i))
  | 7 => some (16, str w)
  | 8 => some (17, num ((i : Nat) : Int))
  | 9 => some (18, str (w.take i))
  | 10 => some (19, str (w.drop i ++ w.take i))
  | _ => none
theorem rq_dst {w : List UInt8} {l b1 i j d : Nat} {v : Value} (h : rq w l b1 i j = some (d, v)) : d = j + 9 ∧ j ≤ 10 := by
  rcases j with _ | _ | _ | _ | _ | _ | _ | _ | _ | _ | _ | j <;> first | (cases h; exact ⟨rfl, by decide⟩) | cases h
theorem s_rot1 (w : List UInt8) (b1 l : Nat) (J : Nat → AH → Prop) (B : AH) (hw : w.length ≤ 1000000) (hJb : ∀ i C, J i C → ∃ rw cap, C.get b1 = some (.row rw [str w] cap)) (wfB : B.wf) (h0 : J 0 B)
    (hy : ∀ i C, i < w.length → C.wf → J i C → YieldA Tryz.prog l #[str (w.take i), str (w.drop i ++ w.take i)] C (fun v C' => v = .bool true ∧ J (i + 1) C' ∧ C'.wf)) : RetA Tryz.prog 91 #[.func (.yield l) #[] #[], .pointer (some ⟨b1, 0, none⟩)] B (fun _ C => J w.length C ∧ C.wf) := by
  refine enterA (e := [(0, .func (.yield l) #[] #[]), (1, .pointer (some ⟨b1, 0, none⟩))]) (args := [.func (.yield l) #[] #[], .pointer (some ⟨b1, 0, none⟩)]) Tryz.call91 Tryz.func91 rfl Tryz.results91 Tryz.ntmps91 rfl rfl rfl (fun wf => ?_)
  obtain ⟨rw0, cap0, hb0⟩ := hJb 0 B h0
  refine Run.seq fun K1 k2 => ?_
  refine Run.region ?_
  refine Ops.q rfl (qloadAt ag9 rfl rfl hb0 rfl) ?_
  refine Ops.q rfl (qslen u9 rfl) ?_
  refine Ops.q rfl (qmove rfl) ?_
  refine Ops.nil ?_
  refine k2 _ _ ?_
  refine Run.block ?_
  refine Run.loop (X := Nat) (fun k => [(0, .func (.yield l) #[] #[]), (1, .pointer (some ⟨b1, 0, none⟩)), (5, num ((w.length : Nat) : Int)), (6, num ((k : Nat) : Int))]) (fun k C => k ≤ w.length ∧ C.wf ∧ J k C) (fun k => w.length - k) 0 (EnvLe.cons rfl <| EnvLe.cons rfl <| EnvLe.cons rfl <| EnvLe.cons rfl <| EnvLe.nil _) ⟨Nat.zero_le _, wfB, h0⟩ ?_
  rintro k C ⟨hk, wfC, hJ⟩
  refine Run.seq fun K3 k4 => ?_
  refine Run.region ?_
  refine Ops.q rfl (qlssN rfl rfl) ?_
  refine Ops.nil ?_
  refine k4 _ _ ?_
  refine Run.seq fun K5 k6 => ?_
  refine Run.if rfl (fun p1 => ?_) (fun p1 => ?_)
  · refine Run.skip ?_
    refine k6 _ _ ?_
    refine Run.seq fun K7 k8 => ?_
    refine Run.block ?_
    refine Run.seq fun K9 k10 => ?_
    refine Run.region ?_
    refine Ops.q rfl (qmove rfl) ?_
    refine Ops.q rfl (qassign rfl) ?_
    refine Ops.nil ?_
    refine k10 _ _ ?_
    refine Run.seq fun K11 k12 => ?_
    obtain ⟨rw1, cap1, hb1⟩ := hJb k C hJ
    refine Run.forget (e := [(0, .func (.yield l) #[] #[]), (1, .pointer (some ⟨b1, 0, none⟩)), (5, num ((w.length : Nat) : Int)), (6, num ((k : Nat) : Int)), (3, num ((k : Nat) : Int))]) (EnvLe.cons rfl <| EnvLe.cons rfl <| EnvLe.cons rfl <| EnvLe.cons rfl <| EnvLe.cons rfl <| EnvLe.nil _) ?_
    refine Run.drawnY (rq w l b1 k) 11 12 l 11 #[true, true, true, true, true, true, true, true, true, true, true, false, false] [(9, .func (.yield l) #[] #[]), (12, str (w.take k)), (19, str (w.drop k ++ w.take k))] mixed ?_ ?_ ?_ rfl rfl rfl (by decide) (by decide) ?_ rfl (by kernel_rfl) (by kernel_rfl) (by kernel_rfl) rfl rfl ?_ rfl rfl (hy k C p1 wfC hJ) ?_
    · intro i d v h
      have dep : ∀ (o : Oper), (∀ x ∈ o.after.toList, Region.binds .any x = true ∧ x.on < i ∧ (rq w l b1 k x.on).isSome = true) → (∀ x ∈ o.after, Region.binds .any x = true ∧ x.on < i ∧ (rq w l b1 k x.on).isSome = true) := fun o h x hx => h x (by simpa using hx)
      rcases i with _ | _ | _ | _ | _ | _ | _ | _ | _ | _ | _ | i
      · cases h; exact ⟨_, _, rfl, rfl, rfl, rfl, by decide, rfl, dep _ (fun x hx => by cases hx), qmove rfl⟩
      · cases h; exact ⟨_, _, rfl, rfl, rfl, rfl, by decide, rfl, dep _ (fun x hx => by cases hx), qloadAt ag9 rfl rfl hb1 rfl⟩
      · cases h; exact ⟨_, _, rfl, rfl, rfl, rfl, by decide, rfl, dep _ (fun x hx => by cases hx), qmove rfl⟩
      · cases h; exact ⟨_, _, rfl, rfl, rfl, rfl, by decide, rfl, dep _ (List.forall_mem_cons.2 ⟨⟨rfl, by decide, rfl⟩, List.forall_mem_cons.2 ⟨⟨rfl, by decide, rfl⟩, fun x hx => by cases hx⟩⟩), qslHi u9 rfl rfl (by omega)⟩
      · cases h; exact ⟨_, _, rfl, rfl, rfl, rfl, by decide, rfl, dep _ (fun x hx => by cases hx), qloadAt ag9 rfl rfl hb1 rfl⟩
      · cases h; exact ⟨_, _, rfl, rfl, rfl, rfl, by decide, rfl, dep _ (fun x hx => by cases hx), qmove rfl⟩
      · cases h; exact ⟨_, _, rfl, rfl, rfl, rfl, by decide, rfl, dep _ (List.forall_mem_cons.2 ⟨⟨rfl, by decide, rfl⟩, List.forall_mem_cons.2 ⟨⟨rfl, by decide, rfl⟩, fun x hx => by cases hx⟩⟩), qslLo u9 rfl rfl (by omega)⟩
      · cases h; exact ⟨_, _, rfl, rfl, rfl, rfl, by decide, rfl, dep _ (fun x hx => by cases hx), qloadAt ag9 rfl rfl hb1 rfl⟩
      · cases h; exact ⟨_, _, rfl, rfl, rfl, rfl, by decide, rfl, dep _ (fun x hx => by cases hx), qmove rfl⟩
      · cases h; exact ⟨_, _, rfl, rfl, rfl, rfl, by decide, rfl, dep _ (List.forall_mem_cons.2 ⟨⟨rfl, by decide, rfl⟩, List.forall_mem_cons.2 ⟨⟨rfl, by decide, rfl⟩, fun x hx => by cases hx⟩⟩), qslHi u9 rfl rfl (by omega)⟩
      · cases h; exact ⟨_, _, rfl, rfl, rfl, rfl, by decide, rfl, dep _ (List.forall_mem_cons.2 ⟨⟨rfl, by decide, rfl⟩, List.forall_mem_cons.2 ⟨⟨rfl, by decide, rfl⟩, fun x hx => by cases hx⟩⟩), qsadd rfl rfl (by simp only [List.length_drop, List.length_take]; omega)⟩
      · cases h
    · intro i j d v u hi hj
      have h1 := rq_dst hi; have h2 := rq_dst hj; omega
    · intro listed hc hsub i hr hq j hj
      obtain ⟨_, o, ho, hall⟩ := mem_ready.1 hr
      rcases i with _ | _ | _ | _ | _ | _ | _ | _ | _ | _ | _ | i
      iterate 11 cases hq
      have hi : i = 0 ∨ i = 1 := by
        have := (Array.getElem?_eq_some_iff.1 ho).1
        simp at this; omega
      rcases hi with rfl | rfl
      · cases ho
        have d0 := hall ⟨0, .data⟩ (by simp) rfl
        have d3 := hall ⟨3, .data⟩ (by simp) rfl
        have d10 := hall ⟨10, .data⟩ (by simp) rfl
        have d1 := hc 3 _ rfl d3 ⟨1, .data⟩ (by simp) rfl
        have d2 := hc 3 _ rfl d3 ⟨2, .data⟩ (by simp) rfl
        have d6 := hc 10 _ rfl d10 ⟨6, .data⟩ (by simp) rfl
        have d9 := hc 10 _ rfl d10 ⟨9, .data⟩ (by simp) rfl
        have d4 := hc 6 _ rfl d6 ⟨4, .data⟩ (by simp) rfl
        have d5 := hc 6 _ rfl d6 ⟨5, .data⟩ (by simp) rfl
        have d7 := hc 9 _ rfl d9 ⟨7, .data⟩ (by simp) rfl
        have d8 := hc 9 _ rfl d9 ⟨8, .data⟩ (by simp) rfl
        rcases j with _ | _ | _ | _ | _ | _ | _ | _ | _ | _ | _ | j <;> first | assumption | cases hj
      · cases ho
        have d11 := hall ⟨11, .data⟩ (by simp) rfl
        have := hsub 11 d11
        cases this
    · intro j
      rcases j with _ | _ | _ | _ | _ | _ | _ | _ | _ | _ | _ | _ | _ | j <;> rfl
    · intro t v h
      rw [getE_cons] at h
      split at h
      · rename_i q; subst q; cases h; exact .inr ⟨0, rfl⟩
      · rw [getE_cons] at h
        split at h
        · rename_i q; subst q; cases h; exact .inr ⟨3, rfl⟩
        · rw [getE_cons] at h
          split at h
          · rename_i q; subst q; cases h; exact .inr ⟨10, rfl⟩
          · cases h
    · rintro v C2 ⟨rfl, hJ2, wf2⟩
      refine ⟨_, _, qnot rfl, ?_⟩
      refine k12 _ _ ?_
      refine Run.cond_false rfl ?_
      refine Run.skip ?_
      refine k8 _ _ ?_
      refine Run.region ?_
      refine Ops.q rfl (qaddN (b := 1) rfl rfl (by omega)) ?_
      refine Ops.q rfl (qmove rfl) ?_
      refine Ops.nil ?_
      exact ⟨k + 1, EnvLe.cons rfl <| EnvLe.cons rfl <| EnvLe.cons rfl <| EnvLe.cons rfl <| EnvLe.nil _, rfl, ⟨by omega, wf2, hJ2⟩, by omega⟩
  · refine Run.exit ?_
    repeat first | with_reducible refine thenQ_exit ?_ | with_reducible refine blockQ_same ?_ | with_reducible refine blockQ_other (by decide) ?_
    have hk2 : k = w.length := by omega
    subst hk2
    exact retQn (vs := []) rfl ⟨hJ, wfC⟩

end Go.Proofs.YtaccklloepfemaaGreatDoor
