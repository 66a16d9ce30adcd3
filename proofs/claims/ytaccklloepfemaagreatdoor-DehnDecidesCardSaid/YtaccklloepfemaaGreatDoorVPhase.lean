/- A drawn region in which quiet operations come first, then a call of yield. -/
import Derived.Test.YtaccklloepfemaaGreatDoorVMut
namespace Go.Proofs.YtaccklloepfemaaGreatDoor
set_option linter.unusedVariables false
set_option linter.unusedSimpArgs false
open Go Go.RowKit
namespace V

theorem getE_app : ∀ (l : Env) (e : Env) (t : Nat) (v : Value), getE (l ++ e) t = some v → (t, v) ∈ l ∨ getE e t = some v
  | [], _, _, _, h => .inr h
  | (k, u) :: l, e, t, v, h => by
    rw [List.cons_append, getE_cons] at h
    split at h
    · rename_i q; cases h; subst q; exact .inl List.mem_cons_self
    · rcases getE_app l e t v h with q | q
      · exact .inl (List.mem_cons_of_mem _ q)
      · exact .inr q
def depsE (q : Nat → Option (Nat × Value)) (o : Oper) (e : Env) : Env := o.after.toList.filterMap (fun x => q x.on) ++ e
/-- What the slots hold when some quiet operations have come up. -/
structure Know (nt : Nat) (e : Env) (ds : List Deferred) (q : Nat → Option (Nat × Value)) (listed : Array Bool) (a : Act) : Prop where
  ok : ActOk nt ⟨e, ds⟩ a
  got : ∀ j d v, listed.getD j false = true → q j = some (d, v) → a.tmps.getD d undef = v ∧ d < nt

theorem phaseIn {P : Program} {F : Fence} (hF : okF F) {n nt : Nat} {ops : Array Oper} {Q : Exit → Act → World → Prop} {e : Env} {ds : List Deferred} {A : AH} {w : World} (hw : View A w) (q : Nat → Option (Nat × Value))
    (hop : ∀ i d v, q i = some (d, v) → ∃ o T, ops[i]? = some o ∧ o.guard = none ∧ o.dst = some d ∧ noDefer o = true ∧ d < nt ∧ getE e d = none ∧ (∀ x ∈ o.after, Region.binds .any x = true ∧ x.on < i ∧ (q x.on).isSome = true) ∧ quietV P (depsE q o e) A o.op = some (v, T))
    (hdist : ∀ i j d v u, q i = some (d, v) → q j = some (d, u) → i = j)
    (hloud : ∀ listed : Array Bool, Closed ops listed → (∀ j, listed.getD j false = true → (q j).isSome = true) → ∀ i, i ∈ Region.ready .any ops listed → q i = none → ∀ j, (q j).isSome = true → listed.getD j false = true)
    (r : Nat) (hcont : ∀ (listed : Array Bool) a, listed.size = ops.size → (∀ j, listed.getD j false = (q j).isSome) → Know nt e ds q listed a → wpAnyIn F n P .any ops Q r listed a w) :
    ∀ (m : Nat) (listed : Array Bool) (a : Act), ((List.range ops.size).filter fun j => (q j).isSome && !listed.getD j false).length = m → listed.size = ops.size → Closed ops listed → (∀ j, listed.getD j false = true → (q j).isSome = true) → Know nt e ds q listed a →
      wpAnyIn F n P .any ops Q (m + r) listed a w := by
  have qlt : ∀ j, (q j).isSome = true → j < ops.size := fun j hj => by
    obtain ⟨⟨d, v⟩, hq⟩ := Option.isSome_iff_exists.1 hj
    obtain ⟨o, T, ho, _⟩ := hop j d v hq
    exact (Array.getElem?_eq_some_iff.1 ho).1
  intro m
  induction m with
  | zero =>
    intro listed a hm hs hc hsub hk
    rw [Nat.zero_add]
    refine hcont listed a hs (fun j => ?_) hk
    cases hl : listed.getD j false with
    | true => exact (hsub j hl).symm
    | false =>
      cases hj : (q j).isSome with
      | false => rfl
      | true =>
        exfalso
        have : j ∈ (List.range ops.size).filter fun j => (q j).isSome && !listed.getD j false := by
          rw [List.mem_filter]; exact ⟨by simpa using qlt j hj, by rw [hj, hl]; rfl⟩
        rw [List.length_eq_zero_iff.1 hm] at this; cases this
  | succ m ih =>
    intro listed a hm hs hc hsub hk
    rw [Nat.add_right_comm]
    obtain ⟨j0, hj0⟩ : ∃ j, j ∈ (List.range ops.size).filter fun j => (q j).isSome && !listed.getD j false := by
      cases hl : (List.range ops.size).filter fun j => (q j).isSome && !listed.getD j false with
      | nil => rw [hl] at hm; cases hm
      | cons x xs => exact ⟨x, List.mem_cons_self⟩
    rw [List.mem_filter] at hj0
    simp only [Bool.and_eq_true, Bool.not_eq_true'] at hj0
    have good : ∀ i d v, q i = some (d, v) → listed.getD i false = false → i ∈ Region.ready .any ops listed → wpOpIn F n P ops Q i (wpAnyIn F n P .any ops Q (m + r) (listed.setIfInBounds i true)) a w := by
      intro i d v hq hl hr
      obtain ⟨o, T, ho, hg, hd, hnd, hlt, hnone, haf, hv⟩ := hop i d v hq
      have hi : i < listed.size := by rw [hs]; exact (Array.getElem?_eq_some_iff.1 ho).1
      have hset : ∀ j, (listed.setIfInBounds i true).getD j false = (if j = i then true else listed.getD j false) := fun j => by
        by_cases hji : j = i
        · subst hji; simp [hi]
        · rw [if_neg hji, getD_set_ne false (Ne.symm hji)]
      have hdeps : ∀ x ∈ o.after, listed.getD x.on false = true := fun x hx => by
        obtain ⟨_, o', ho', hall⟩ := mem_ready.1 hr
        rw [ho] at ho'; cases ho'
        exact hall x hx (haf x hx).1
      have hact : ActOk nt ⟨depsE q o e, ds⟩ a := ⟨hk.ok.size, fun t u ht => by
        rcases getE_app _ _ _ _ ht with hm2 | hm2
        · obtain ⟨x, hx, hqx⟩ := List.mem_filterMap.1 hm2
          exact hk.got _ _ _ (hdeps x (by simpa using hx)) hqx
        · exact hk.ok.slot t u hm2, hk.ok.ds⟩
      obtain ⟨h1, h2⟩ := quietV_sound (o := o) (f := ⟨depsE q o e, ds⟩) hv hact hw
      unfold wpOpIn
      simp only [ho]
      rw [if_pos (by simp [Region.wanted, hg])]
      have hs2 : o.semAt F.round a.eval = execOp a.eval o := Oper.semAt_eq _ _ _ (fun c hc => by simp [noDefer, hc] at hnd)
      refine ⟨fun f _ => okF_fn hF f, ?_⟩
      rw [hs2, h2 w h1]
      show wpAnyIn F n P .any ops Q (m + r) (listed.setIfInBounds i true) (a.put o.dst v) w
      refine ih _ _ ?_ (by simpa using hs) (closed_set hc hr) (fun j hj => ?_) ⟨?_, fun j d' v' hj hqj => ?_⟩
      · have e1 : ((List.range ops.size).filter fun j => (q j).isSome && !(listed.setIfInBounds i true).getD j false) = ((List.range ops.size).filter fun j => (q j).isSome && !listed.getD j false).erase i := by
          rw [List.Nodup.erase_eq_filter (List.Pairwise.filter _ List.nodup_range), List.filter_filter]
          apply List.filter_congr
          intro j _
          rw [hset j]
          by_cases hji : j = i
          · subst hji; simp
          · simp [hji]
        rw [e1, List.length_erase_of_mem, hm]
        · rfl
        · rw [List.mem_filter]
          exact ⟨by rw [List.mem_range]; omega, by rw [hq, hl]; rfl⟩
      · rw [hset j] at hj
        split at hj
        · rename_i hji; subst hji; rw [hq]; rfl
        · exact hsub j hj
      · refine ⟨?_, fun t u ht => ?_, ?_⟩
        · rw [hd]; simp [Act.put, hk.ok.size]
        · have hne : t ≠ d := by rintro rfl; rw [hnone] at ht; cases ht
          obtain ⟨g1, g2⟩ := hk.ok.slot t u ht
          refine ⟨?_, g2⟩
          rw [hd]; simp only [Act.put]
          rw [← g1]; simp [Array.getElem?_setIfInBounds_ne (Ne.symm hne)]
        · rw [hd]; simp [Act.put, hk.ok.ds]
      · rw [hset j] at hj
        by_cases hji : j = i
        · subst hji
          rw [hq] at hqj; cases hqj
          refine ⟨?_, hlt⟩
          rw [hd]; simp [Act.put, hk.ok.size, hlt]
        · rw [if_neg hji] at hj
          have hne : d' ≠ d := by rintro rfl; exact hji (hdist j i d' v' v hqj hq)
          obtain ⟨g1, g2⟩ := hk.got j d' v' hj hqj
          refine ⟨?_, g2⟩
          rw [hd]; simp only [Act.put]
          rw [← g1]; simp [Array.getElem?_setIfInBounds_ne (Ne.symm hne)]
    refine ⟨fun hnil => ?_, fun i hi => ?_⟩
    · exfalso
      -- the least one that has not come up is ready
      have key : ∀ k j, j ≤ k → (q j).isSome = true → listed.getD j false = false → False := by
        intro k
        induction k using Nat.strongRecOn with
        | _ k ihk =>
          intro j hjk hqj hlj
          obtain ⟨⟨d, v⟩, hq⟩ := Option.isSome_iff_exists.1 hqj
          obtain ⟨o, T, ho, _, _, _, _, _, haf, _⟩ := hop j d v hq
          by_cases hall : ∀ x ∈ o.after, listed.getD x.on false = true
          · have hjs : j < listed.size := by rw [hs]; exact qlt j hqj
            have : j ∈ Region.ready .any ops listed := mem_ready.2 ⟨by simpa [hjs] using hlj, o, ho, fun x hx _ => by
              have h2 := hall x hx
              have h3 : x.on < listed.size := by rw [hs]; exact qlt _ (haf x hx).2.2
              simpa [h3] using h2⟩
            rw [hnil] at this; cases this
          · obtain ⟨x, hx⟩ := Classical.not_forall.1 hall
            obtain ⟨hx1, hx2⟩ := Classical.not_imp.1 hx
            exact ihk x.on (by have := (haf x hx1).2.1; omega) x.on (Nat.le_refl _) (haf x hx1).2.2 (by simpa using hx2)
      exact key j0 j0 (Nat.le_refl _) hj0.2.1 hj0.2.2
    · cases hqi : q i with
      | none =>
        have := hloud listed hc hsub i hi hqi j0 hj0.2.1
        rw [hj0.2.2] at this; cases this
      | some x =>
        obtain ⟨d, v⟩ := x
        refine good i d v hqi ?_ hi
        have h1 := (mem_ready.1 hi).1
        exact getD_false h1

theorem Run.drawnY {P : Program} {nt : Nat} {ops : Array Oper} {Q : Exit → Fr → AH → Prop} {e : Env} {ds : List Deferred} {A : AH} {id : Nat} (q : Nat → Option (Nat × Value)) (y z l m : Nat) (L : Array Bool) {dy dz : Nat} {fo : Operand} {aa : Array Operand} {tt : Array TypeId} {opz : Op} {ty tz : TypeId} {ps pz : String} {afy afz : Array Edge} {vs : List Value} {R : Value → AH → Prop} (ey : Env)
    (hm : P.follows .mixedOrders = true)
    (hop : ∀ i d v, q i = some (d, v) → ∃ o T, ops[i]? = some o ∧ o.guard = none ∧ o.dst = some d ∧ noDefer o = true ∧ d < nt ∧ getE e d = none ∧ (∀ x ∈ o.after, Region.binds .any x = true ∧ x.on < i ∧ (q x.on).isSome = true) ∧ quietV P (depsE q o e) A o.op = some (v, T))
    (hdist : ∀ i j d v u, q i = some (d, v) → q j = some (d, u) → i = j)
    (hloud : ∀ listed : Array Bool, Closed ops listed → (∀ j, listed.getD j false = true → (q j).isSome = true) → ∀ i, i ∈ Region.ready .any ops listed → q i = none → ∀ j, (q j).isSome = true → listed.getD j false = true)
    (hy : ops[y]? = some { dst := some dy, op := .call { callee := .value fo, args := aa, argTypes := tt }, type := ty, pos := ps, after := afy, guard := none })
    (hz : ops[z]? = some { dst := some dz, op := opz, type := tz, pos := pz, after := afz, guard := none }) (hzd : noDefer { dst := some dz, op := opz, type := tz, pos := pz, after := afz, guard := none } = true)
    (hdy : dy < nt) (hdz : dz < nt) (hL : ∀ j, L.getD j false = (q j).isSome) (hLs : L.size = ops.size) (r1 : Region.ready .any ops L = [y]) (r2 : Region.ready .any ops (L.setIfInBounds y true) = [z]) (r3 : Region.ready .any ops ((L.setIfInBounds y true).setIfInBounds z true) = [])
    (hcount : ((List.range ops.size).filter fun j => (q j).isSome && !(Array.replicate ops.size false).getD j false).length = m) (hsz : ops.size = m + 2)
    (hey : ∀ t v, getE ey t = some v → getE e t = some v ∨ ∃ j, q j = some (t, v))
    (hf : opd ey fo = some (.func (.yield l) #[] #[])) (ha : allV (opd ey) aa.toList = some vs) (hc : YieldA P l vs.toArray A R)
    (h : ∀ v A', R v A' → ∃ u T, quietV P ((dy, v) :: e) A' opz = some (u, T) ∧ Q .normal ⟨(dz, u) :: (dy, v) :: e, ds⟩ A') :
    Run P nt (.region id ops true) Q ⟨e, ds⟩ A := by
  intro a w hact hw
  obtain ⟨v1, s1⟩ := view_drawn hw
  refine wpIn_wide.1 (wpIn_region_any (F := Fence.wide) (n := 0) hm ?_)
  generalize ({ w with drawn := w.drawn + 1 } : World) = W at v1 s1 ⊢
  rw [hsz]
  have hrep : ∀ j, (Array.replicate ops.size false).getD j false = false := fun j => by
    rcases Nat.lt_or_ge j ops.size with g | g
    · simp [g]
    · simp [g]
  have start := phaseIn (P := P) (n := 0) okF_wide v1 q hop hdist hloud 2 (Q := PostQ nt Q A w) (ds := ds) ?_ m (Array.replicate ops.size false) a hcount (by simp) (fun j o _ hj => by rw [hrep j] at hj; cases hj) (fun j hj => by rw [hrep j] at hj; cases hj) ⟨hact, fun j d v hj => by rw [hrep j] at hj; cases hj⟩
  · rw [hsz] at start; exact start
  intro listed a1 hls hlq hk
  have hlL : listed = L := by
    apply Array.ext (by rw [hls, hLs])
    intro j h1 h2
    have g1 := hlq j
    have g2 := hL j
    simp only [Array.getD_eq_getD_getElem?, Array.getElem?_eq_getElem h1, Array.getElem?_eq_getElem h2, Option.getD_some] at g1 g2
    rw [g1, g2]
  subst hlL
  have hacty : ActOk nt ⟨ey, ds⟩ a1 := ⟨hk.ok.size, fun t v ht => by
    rcases hey t v ht with g | ⟨j, g⟩
    · exact hk.ok.slot t v g
    · exact hk.got j t v (by rw [hlq j, g]; rfl) g, hk.ok.ds⟩
  refine ⟨fun g => (by rw [r1] at g; cases g), fun i hi => ?_⟩
  rw [r1] at hi
  obtain rfl := List.mem_singleton.1 hi
  unfold wpOpIn
  simp only [hy]
  rw [if_pos (by simp [Region.wanted])]
  refine ⟨fun _ _ => trivial, ?_⟩
  have hev : ∀ x v, opd ey x = some v → a1.eval x = v := fun x v g => opd_eval hacty g
  have hargs : aa.map a1.eval = vs.toArray := by apply Array.ext'; simp [all_eval hev _ _ ha]
  obtain ⟨fn, tmps, assign, body, hyy, hr⟩ := hc _ v1
  have hx : (execOp a1.eval { dst := some dy, op := .call { callee := .value fo, args := aa, argTypes := tt }, type := ty, pos := ps, after := afy, guard := none }).run P W = .ok (.round l fn tmps assign body) W := by
    simp [execOp, resolve, hev _ _ hf, hargs, Deferred.ofValue, invoke, hyy]
  rw [show Fence.wide.round = none from rfl, Oper.semAt_none, hx]
  refine ⟨fun g => (by cases g), RoundIn.mono hr ?_⟩
  rintro en w' ⟨A', v, rfl, hv, hst, hR⟩
  obtain ⟨u, T, hu, hQ⟩ := h v A' hR
  show wpAnyIn Fence.wide 0 P .any ops (PostQ nt Q A w) 1 (listed.setIfInBounds i true) (a1.put (some dy) v) w'
  refine ⟨fun g => (by rw [r2] at g; cases g), fun k hk2 => ?_⟩
  rw [r2] at hk2
  obtain rfl := List.mem_singleton.1 hk2
  have hact2 : ActOk nt ⟨(dy, v) :: e, ds⟩ (a1.put (some dy) v) := hk.ok.put (some dy) v (fun t g => by cases g; exact hdy)
  obtain ⟨h1, h2⟩ := quietV_sound (o := { dst := some dz, op := opz, type := tz, pos := pz, after := afz, guard := none }) (f := ⟨(dy, v) :: e, ds⟩) hu hact2 hv
  unfold wpOpIn
  simp only [hz]
  rw [if_pos (by simp [Region.wanted])]
  refine ⟨fun _ _ => trivial, ?_⟩
  rw [show Fence.wide.round = none from rfl, Oper.semAt_none, h2 w' h1]
  show wpAnyIn Fence.wide 0 P .any ops (PostQ nt Q A w) 0 ((listed.setIfInBounds i true).setIfInBounds k true) ((a1.put (some dy) v).put (some dz) u) w'
  exact ⟨r3, _, A', hact2.put (some dz) u (fun t g => by cases g; exact hdz), hv, s1.trans hst, hQ, fun _ g => by cases g⟩
end V
end Go.Proofs.YtaccklloepfemaaGreatDoor
