/- DehnGreendlinger: whatever the presentation, the moves and the cells, it returns true, and all read afterwards as they read before. Conditions: the letters' table of the word layer is as the program lays it; the card ties that to the program's text. -/
import Derived.Test.YtaccklloepfemaaGreatDoorGrn5
import Derived.Test.YtaccklloepfemaaGreatDoorCards
import Derived.Test.YtaccklloepfemaaGreatDoorTie
import Derived.Test.YtaccklloepfemaaGreatDoorGrn2
import Derived.WalkKit
import Derived.ProofKit
import Derived.OpenShut
import Derived.Carry
import Derived.SliceStrings
import Derived.ChangeSame
import Derived.ChangeMaps5
import Derived.Deep.DeepHandedRow
import Derived.Lib.LaidTab
namespace Go.Proofs.YtaccklloepfemaaGreatDoor
set_option linter.unusedVariables false
set_option linter.unusedSimpArgs false
namespace Green
section
variable {α : Type} {iv : α → α} {R : List α → Prop} {w : List α} {n : Nat} {D : Dg iv R w n}

theorem map_th_inv {lb : Nat → α} (S : Sys iv R) : ∀ {l : List Nat}, (∀ x ∈ l, lb (th x) = iv (lb x)) → ((l.map th).reverse).map lb = winv iv (l.map lb)
  | [], _ => rfl
  | a :: l, h => by
    have := map_th_inv S (l := l) fun x hx => h x (List.mem_cons_of_mem _ hx)
    simp [this, h a List.mem_cons_self]

/-- The boundary meets no vertex twice. -/
theorem Cx.simple (C : Cx D) {a b : Nat} (ha : a ∈ D.O) (hb : b ∈ D.O) (h : D.st a = D.st b) : a = b := by
  by_cases hab : a = b
  · exact hab
  exfalso
  have key : ∀ {a b : Nat} {p q s : List Nat}, D.O = p ++ a :: (q ++ b :: s) → D.st a = D.st b → False := by
    intro a b p q s e h
    have hcl := D.clO
    rw [e, Pth.append] at hcl
    obtain ⟨v, h1, h2⟩ := hcl
    have hv := h2.1
    have h3 : Pth D.st v ((a :: q) ++ b :: s) 0 := h2
    rw [Pth.append] at h3
    obtain ⟨v', h4, h5⟩ := h3
    have hv' := h5.1
    have : v' = v := by rw [← hv, ← hv', h]
    subst this
    have ht := D.loop C.S h4 fun d hd => D.O_lt (by rw [e]; simp at hd ⊢; grind)
    have hw := D.lab
    refine C.short (p.map D.lb) ((a :: q).map D.lb) ((b :: s).map D.lb) (hw.symm.trans (by rw [e]; simp)) (by simp) ?_ ht
    have hw2 := congrArg List.length hw
    rw [e] at hw2; rw [← hw2]; simp; omega
  obtain ⟨p, r, e⟩ := List.append_of_mem ha
  rw [e] at hb
  rcases List.mem_append.1 hb with hb | hb
  · obtain ⟨p1, q1, e1⟩ := List.append_of_mem hb
    exact key (a := b) (b := a) (p := p1) (q := q1) (s := r) (by rw [e, e1]; simp) h.symm
  · rcases List.mem_cons.1 hb with hb | hb
    · exact hab hb.symm
    · obtain ⟨p1, q1, e1⟩ := List.append_of_mem hb
      exact key (a := a) (b := b) (p := p) (q := p1) (s := q1) (by rw [e, e1]) h

theorem Cx.lbth (C : Cx D) {d : Nat} (h : d < 2 * D.E) : D.lb d = iv (D.lb (th d)) := by
  rw [D.lbth d h, C.S.two]

/-- No vertex has only one dart. -/
theorem Cx.no1 (C : Cx D) {d : Nat} (h : d < 2 * D.E) : D.σ d ≠ d := fun e => by
  have ht : th d < 2 * D.E := th_lt.2 h
  have hl := C.lbth h
  obtain ⟨l, hL, hd⟩ := D.inL ht
  unfold Dg.σ at e
  rcases D.φ_form hL hd with ⟨u, v, e1⟩ | ⟨u, e1⟩ | ⟨e1, e2⟩
  · rw [e] at e1
    rcases List.mem_cons.1 hL with rfl | hF
    · refine C.nored (u.map D.lb) (D.lb (th d)) (v.map D.lb) ?_
      refine D.lab.symm.trans ?_; rw [e1]; simp [hl]
    · have := D.labF l hF
      rw [e1] at this
      exact R_free C.S (p := u.map D.lb) (q := v.map D.lb) (c := D.lb (th d)) (by simpa [hl] using this)
  · rw [e] at e1
    rcases List.mem_cons.1 hL with rfl | hF
    · cases u with
      | nil =>
        refine C.nored [] (D.lb d) [] ?_
        refine D.lab.symm.trans ?_; rw [e1]; simp [D.lbth d h]
      | cons c u =>
        have hcl := D.clO
        rw [e1] at hcl
        have h1 : D.st c = D.st (th d) := hcl.2.1
        have : c = th d := C.simple (by rw [e1]; simp) (by rw [e1]; simp) h1
        have nd := flat_nodup D.flat hL
        rw [e1, this] at nd
        simp at nd
    · have := D.labF l hF
      rw [e1] at this
      have := R_rots C.S ((d :: u).map D.lb) [D.lb (th d)] (by simpa using this)
      exact R_free C.S (p := []) (q := u.map D.lb) (c := D.lb (th d)) (by simpa [hl] using this)
  · exact th_ne d (e2.symm.trans e)

/-- The word of a face from a dart on. -/
theorem Cx.rotR (C : Cx D) {f u v : List Nat} {d : Nat} (hf : f ∈ D.Fs) (e : f = u ++ d :: v) : R ((d :: (v ++ u)).map D.lb) := by
  have := D.labF f hf
  rw [e] at this
  have := R_rots C.S (u.map D.lb) ((d :: v).map D.lb) (by simpa using this)
  simpa using this

/-- What lies against an arc. -/
theorem Cx.opp (C : Cx D) {f u v r s : List Nat} {d : Nat} (hf : f ∈ D.Fs) (e : f = u ++ d :: v) (er : v ++ u = r ++ s) (hM : ∀ x ∈ r, D.M x = false) {l u' v' : List Nat} (hl : l ∈ D.O :: D.Fs) (el : l = u' ++ th d :: v') :
    (∀ x ∈ d :: r, x < 2 * D.E) ∧ ∃ B, v' ++ (u' ++ [th d]) = B ++ ((r.map th).reverse ++ [th d]) := by
  have hL : f ∈ D.O :: D.Fs := List.mem_cons_of_mem _ hf
  have hmem : ∀ x ∈ d :: r, x ∈ f := fun x hx => by
    have : x ∈ d :: (v ++ u) := by rw [er]; simp at hx ⊢; grind
    rw [e]; simp at this ⊢; grind
  have hlt : ∀ x ∈ d :: r, x < 2 * D.E := fun x hx => D.F_lt hf (hmem x hx)
  have hch : Ch D.φ (d :: r) := by
    have := D.chain hL e
    have h2 : d :: v ++ u = d :: r ++ s := by simp [er]
    rw [h2] at this
    refine Ch.of fun p a b q h => ?_
    rw [h] at this
    exact Ch.at (u := p) (v := q ++ s) (by simpa using this)
  have nd : (d :: r).Nodup := by
    have := flat_nodup D.flat hL
    have hp : (d :: r ++ s).Perm f := by
      rw [e]
      have h2 : d :: r ++ s = (d :: v) ++ u := by simp [er]
      rw [h2]
      exact List.perm_append_comm
    exact (List.nodup_append.1 (hp.nodup_iff.2 this)).1
  refine ⟨hlt, D.chain_suffix hl el _ (D.opp_chain hlt hch hM) ?_ ?_⟩
  · have : ((r.map th).reverse ++ [th d]) = ((d :: r).map th).reverse := by simp
    rw [this]
    refine List.pairwise_reverse.2 (List.pairwise_map.2 (nd.imp fun h q => h (th_inj q.symm)))
  · intro x hx
    simp only [List.mem_reverse, List.mem_map] at hx
    obtain ⟨y, hy, rfl⟩ := hx
    exact th_lt.2 (hlt y (List.mem_cons_of_mem _ hy))

/-- An arc between cells is a piece. -/
theorem Cx.inner_arc (C : Cx D) {f u v r s : List Nat} {d : Nat} (hf : f ∈ D.Fs) (e : f = u ++ d :: v) (er : v ++ u = r ++ s) (hM : ∀ x ∈ r, D.M x = false) (hd : th d ∉ D.O) : 6 * (d :: r).length < f.length := by
  have hdlt : d < 2 * D.E := D.F_lt hf (by rw [e]; simp)
  obtain ⟨l, hl, hdl⟩ := D.inL (th_lt.2 hdlt)
  have hlF : l ∈ D.Fs := by
    rcases List.mem_cons.1 hl with rfl | h
    · exact absurd hdl hd
    · exact h
  obtain ⟨u', v', el⟩ := List.append_of_mem hdl
  obtain ⟨hlt, B, hB⟩ := C.opp hf e er hM hl el
  have hR1 := C.rotR hf e
  have hR2 : R (winv iv ((v' ++ (u' ++ [th d])).map D.lb)) := by
    refine C.S.inv _ ?_
    have := C.rotR hlF el
    have := C.S.rot (D.lb (th d)) _ (by simpa using this)
    simpa using this
  have hne : (d :: (v ++ u)).map D.lb ≠ winv iv ((v' ++ (u' ++ [th d])).map D.lb) := by
    intro q
    refine D.reduced f l u v u' v' d hf hlF e el ?_
    have h1 : (v' ++ (u' ++ [th d])).map D.lb = (v' ++ u').map D.lb ++ [D.lb (th d)] := by simp
    rw [h1, winv_append, winv_cons, winv_nil, List.nil_append, ← C.lbth hdlt] at q
    simpa using q
  have hinv : winv iv ((d :: r).map D.lb) = ((r.map th).reverse ++ [th d]).map D.lb := by
    rw [← map_th_inv C.S (l := d :: r) fun x hx => D.lbth x (hlt x hx)]; simp
  have := C.C6 _ _ hR1 hR2 hne ((d :: r).map D.lb) ⟨s.map D.lb, by simp [er]⟩ ⟨winv iv (B.map D.lb), by
    rw [hB, List.map_append, winv_append, ← hinv, winv_two C.S]⟩
  have h2 : f.length = (d :: (v ++ u)).length := by rw [e]; simp; omega
  simpa [h2] using this

/-- The other side of an arc at the boundary that does not hold the boundary's first dart is short. -/
theorem Cx.outer_arc (C : Cx D) {f u v r s O' : List Nat} {d o : Nat} (hf : f ∈ D.Fs) (e : f = u ++ d :: v) (er : v ++ u = r ++ s) (hM : ∀ x ∈ r, D.M x = false) (hO : D.O = o :: O') (ho : th o ∉ f) (hd : th d ∈ D.O) : 2 * (d :: r).length ≤ f.length := by
  obtain ⟨u', v', el⟩ := List.append_of_mem hd
  obtain ⟨hlt, B, hB⟩ := C.opp hf e er hM List.mem_cons_self el
  have hmem : ∀ x ∈ d :: r, x ∈ f := fun x hx => by
    have : x ∈ d :: (v ++ u) := by rw [er]; simp at hx ⊢; grind
    rw [e]; simp at this ⊢; grind
  have hinv : winv iv ((d :: r).map D.lb) = ((r.map th).reverse ++ [th d]).map D.lb := by
    rw [← map_th_inv C.S (l := d :: r) fun x hx => D.lbth x (hlt x hx)]; simp
  have hsuf : ∃ B', u' ++ [th d] = B' ++ ((r.map th).reverse ++ [th d]) := by
    rcases List.append_eq_append_iff.1 hB with ⟨z, h1, h2⟩ | ⟨z, h1, h2⟩
    · exact ⟨z, h2⟩
    · -- the arc would hold the first dart
      exfalso
      cases z with
      | nil =>
        simp only [List.nil_append, List.append_nil] at h1 h2
        have h3 : o ∈ (r.map th).reverse ++ [th d] := by
          have : (u' ++ [th d]).head? = some o := by
            have : (u' ++ th d :: v').head? = some o := by rw [← el, hO]; rfl
            cases u' <;> simpa using this
          rw [h2]; exact List.mem_of_mem_head? this
        have : th o ∈ d :: r := by
          simp only [List.mem_append, List.mem_reverse, List.mem_map, List.mem_singleton] at h3
          rcases h3 with ⟨y, hy, rfl⟩ | rfl
          · rw [th_th]; exact List.mem_cons_of_mem _ hy
          · rw [th_th]; exact List.mem_cons_self
        exact ho (hmem _ this)
      | cons c z =>
        have h3 : o ∈ (r.map th).reverse ++ [th d] := by
          have : (u' ++ [th d]).head? = some o := by
            have : (u' ++ th d :: v').head? = some o := by rw [← el, hO]; rfl
            cases u' <;> simpa using this
          rw [h2]; exact List.mem_append_right _ (List.mem_of_mem_head? this)
        have : th o ∈ d :: r := by
          simp only [List.mem_append, List.mem_reverse, List.mem_map, List.mem_singleton] at h3
          rcases h3 with ⟨y, hy, rfl⟩ | rfl
          · rw [th_th]; exact List.mem_cons_of_mem _ hy
          · rw [th_th]; exact List.mem_cons_self
        exact ho (hmem _ this)
  obtain ⟨B', hB'⟩ := hsuf
  have hR1 := C.S.inv _ (C.rotR hf e)
  have hR2 : R (winv iv ((d :: r).map D.lb) ++ winv iv (s.map D.lb)) := by
    refine R_rots C.S _ _ ?_
    rw [← winv_append]
    have h1 : (d :: (v ++ u)).map D.lb = (d :: r).map D.lb ++ s.map D.lb := by simp [er]
    rw [← h1]; exact hR1
  have hw : w = B'.map D.lb ++ (winv iv ((d :: r).map D.lb) ++ v'.map D.lb) := by
    refine D.lab.symm.trans ?_
    rw [el, hinv]
    have h1 : u' ++ th d :: v' = (u' ++ [th d]) ++ v' := by simp
    rw [h1, hB']; simp
  have := C.nolong _ _ _ _ hw hR2
  have h2 : f.length = (d :: (v ++ u)).length := by rw [e]; simp; omega
  rw [h2, er]
  simp at this ⊢; omega

theorem Cx.f_ne (C : Cx D) {f : List Nat} (hf : f ∈ D.Fs) : f ≠ [] := fun q => by
  have := D.labF f hf
  rw [q] at this
  exact C.S.some this

/-- Each face has a mark. -/
theorem Cx.marked (C : Cx D) {f : List Nat} (hf : f ∈ D.Fs) : ∃ d ∈ f, D.M d = true := by
  by_cases q : ∃ d ∈ f, D.M d = true
  · exact q
  exfalso
  have hM : ∀ x ∈ f, D.M x = false := fun x hx => by
    cases h : D.M x with
    | false => rfl
    | true => exact absurd ⟨x, hx, h⟩ q
  have hL : f ∈ D.O :: D.Fs := List.mem_cons_of_mem _ hf
  obtain ⟨d, v, e⟩ : ∃ d v, f = d :: v := by
    cases h : f with
    | nil => exact absurd h (C.f_ne hf)
    | cons d v => exact ⟨d, v, rfl⟩
  by_cases hd : th d ∈ D.O
  · -- the boundary is this face's
    have hne : D.O ≠ [] := fun q => by rw [q] at hd; cases hd
    have hall : ∀ x ∈ D.O, th x ∈ f := by
      refine D.circle (P := fun x => th x ∈ f) List.mem_cons_self hd (by show th (th d) ∈ f; rw [th_th, e]; simp) ?_
      intro x hx h
      show th (D.φ x) ∈ f
      -- th x = φ y for a y of f
      obtain ⟨y, hy, hyx⟩ : ∃ y ∈ f, D.φ y = th x := by
        have := (D.map_φ hL).mem_iff.2 h
        simpa using this
      have hr := D.run (D.F_lt hf hy) hyx (hM _ h)
      rw [th_th] at hr
      rw [hr, th_th]; exact hy
    rcases List.eq_nil_or_concat D.O with h | ⟨O1, z, h⟩
    · exact hne h
    · rw [List.concat_eq_append] at h
      have hz : th z ∈ f := hall z (by rw [h]; simp)
      obtain ⟨u, v, e⟩ := List.append_of_mem hz
      obtain ⟨hlt, B, hB⟩ := C.opp (r := v ++ u) (s := []) (v' := []) (u' := O1) hf e (by simp) (fun x hx => hM x (by rw [e]; simp at hx ⊢; grind)) (List.mem_cons_self (a := D.O)) (by rw [th_th]; exact h)
      rw [th_th] at hB
      have hR1 := C.S.inv _ (C.rotR hf e)
      have hinv : winv iv ((th z :: (v ++ u)).map D.lb) = (((v ++ u).map th).reverse ++ [z]).map D.lb := by
        rw [← map_th_inv C.S (l := th z :: (v ++ u)) fun x hx => D.lbth x (hlt x hx)]; simp [th_th]
      have hw : w = B.map D.lb ++ (winv iv ((th z :: (v ++ u)).map D.lb) ++ []) := by
        refine D.lab.symm.trans ?_
        rw [h, hinv]
        have : O1 ++ [z] = B ++ (((v ++ u).map th).reverse ++ [z]) := by simpa using hB
        rw [this]; simp
      have := C.nolong _ _ _ [] hw (by simpa using hR1)
      simp at this; omega
  · have := C.inner_arc (u := []) (v := v) (r := v) (s := []) (d := d) hf (by simpa using e) (by simp) (fun x hx => hM x (by rw [e]; simp [hx])) hd
    rw [e] at this; omega

/-- Arcs at the boundary do not stand side by side. -/
theorem Cx.no_two (C : Cx D) {x : Nat} (hx : x < 2 * D.E) (h1 : th x ∈ D.O) (h2 : th (D.φ x) ∈ D.O) : D.M (D.φ x) = false := by
  have hy := D.φ_lt hx
  have h3 : D.φ (th (D.φ x)) ∈ D.O := D.φ_mem List.mem_cons_self h2
  have h4 : D.st (D.φ (th (D.φ x))) = D.st (th x) := by rw [D.st_φ (th_lt.2 hy), th_th, D.st_φ hx]
  have h5 := C.simple h3 h1 h4
  have : D.σ (D.σ (D.φ x)) = D.φ x := by
    show D.φ (th (D.φ (th (D.φ x)))) = D.φ x
    rw [h5, th_th]
  simp [Dg.M, this]

def Dg.X (D : Dg iv R w n) (d : Nat) : Bool := decide (th d ∈ D.O)

/-- As many arcs at the boundary begin as end. -/
theorem Cx.ends (C : Cx D) {f : List Nat} (hf : f ∈ D.Fs) : f.countP (fun d => D.M d && D.X d) = f.countP (fun d => D.M (D.φ d) && D.X d) := by
  have hL : f ∈ D.O :: D.Fs := List.mem_cons_of_mem _ hf
  have key : ∀ (P Q : Nat → Bool) (l : List Nat), l.countP Q = l.countP (fun d => P d && Q d) + l.countP (fun d => !P d && Q d) := fun P Q l => by
    induction l with
    | nil => rfl
    | cons a l ih =>
      simp only [List.countP_cons]
      cases P a <;> cases Q a <;> simp <;> omega
  have h1 := key (fun d => D.M (D.φ d)) D.X f
  have h2 := key D.M D.X f
  have h3 := D.count_φ hL D.X
  have h4 := D.count_φ hL (fun d => !D.M d && D.X d)
  have h5 : f.countP (fun d => !D.M (D.φ d) && D.X (D.φ d)) = f.countP (fun d => !D.M (D.φ d) && D.X d) := by
    refine List.countP_congr fun x hx => ?_
    have hxl := D.F_lt hf hx
    cases hm : D.M (D.φ x) with
    | true => simp
    | false =>
      have hr := D.run hxl rfl hm
      have : D.X (D.φ x) = D.X x := by
        unfold Dg.X
        refine decide_eq_decide.2 ⟨fun h => ?_, fun h => ?_⟩
        · rw [← hr]; exact D.φ_mem List.mem_cons_self h
        · obtain ⟨l, hl, hd⟩ := D.inL (th_lt.2 (D.φ_lt hxl))
          have := D.φ_mem hl hd
          rw [hr] at this
          have : l = D.O := flat_uniq D.flat hl List.mem_cons_self this h
          rw [← this]; exact hd
      simp [this]
  omega
theorem Cx.sides (C : Cx D) {f : List Nat} (hf : f ∈ D.Fs) : 2 * f.countP (fun d => D.M d && D.X d) ≤ f.countP D.M := by
  have hL : f ∈ D.O :: D.Fs := List.mem_cons_of_mem _ hf
  have h1 := C.ends hf
  have h2 := D.count_φ hL (fun d => D.M d && D.X d)
  have h3 := D.count_φ hL D.M
  have key : ∀ l : List Nat, (∀ x ∈ l, x < 2 * D.E) → l.countP (fun d => D.M (D.φ d) && D.X (D.φ d)) + l.countP (fun d => D.M (D.φ d) && D.X d) ≤ l.countP (fun d => D.M (D.φ d)) := by
    intro l
    induction l with
    | nil => intro _; simp
    | cons a l ih =>
      intro h
      have := ih fun x hx => h x (List.mem_cons_of_mem _ hx)
      have h0 : ¬ (D.M (D.φ a) = true ∧ D.X a = true ∧ D.X (D.φ a) = true) := fun q => by
        have := C.no_two (h a List.mem_cons_self) (by simpa [Dg.X] using q.2.1) (by simpa [Dg.X] using q.2.2)
        rw [this] at q; exact absurd q.1 (by simp)
      simp only [List.countP_cons]
      cases hm : D.M (D.φ a) <;> cases hx : D.X a <;> cases hy : D.X (D.φ a) <;> simp <;> first | omega | (exact absurd ⟨hm, hx, hy⟩ h0)
  have := key f fun x hx => D.F_lt hf hx
  omega

theorem Cx.mark_pos (C : Cx D) {f : List Nat} (hf : f ∈ D.Fs) : 0 < f.countP D.M := by
  obtain ⟨d, hd, h⟩ := C.marked hf
  exact List.countP_pos_iff.2 ⟨d, hd, h⟩

/-- A face that does not touch the boundary's first dart has many sides. -/
theorem Cx.face (C : Cx D) {f O' : List Nat} {o : Nat} (hf : f ∈ D.Fs) (hO : D.O = o :: O') (ho : th o ∉ f) : 6 ≤ f.countP D.M + f.countP (fun d => D.M d && D.X d) := by
  obtain ⟨d0, hd0, hm0⟩ := C.marked hf
  have hsd := C.sides hf
  obtain ⟨u, v, e⟩ := List.append_of_mem hd0
  obtain ⟨r, As, eA, hr, hA⟩ := cut_marks D.M (d0 :: v ++ u)
  have hr0 : r = [] := by
    cases r with
    | nil => rfl
    | cons a r =>
      simp only [List.cons_append, List.cons.injEq] at eA
      have := hr a List.mem_cons_self
      rw [← eA.1, hm0] at this; cases this
  subst hr0
  rw [List.nil_append] at eA
  have hp : As.flatten.Perm f := by
    rw [← eA, e]; exact List.perm_append_comm
  have hlen := hp.length_eq
  have hpos : 0 < f.length := List.length_pos_of_mem hd0
  have harc : ∀ a ∈ As, ∃ d s, a = d :: s ∧ D.M d = true ∧ (∀ x ∈ s, D.M x = false) ∧ 6 * a.length ≤ if D.X d then 3 * f.length else f.length - 1 := by
    intro a ha
    obtain ⟨d, s, ea, hd, hs⟩ := hA a ha
    refine ⟨d, s, ea, hd, hs, ?_⟩
    obtain ⟨A1, A2, eAs⟩ := List.append_of_mem ha
    have hflat : d0 :: v ++ u = A1.flatten ++ (d :: s ++ A2.flatten) := by rw [eA, eAs, ea]; simp
    -- the face from d on
    obtain ⟨u', v', ef, er⟩ : ∃ u' v', f = u' ++ d :: v' ∧ v' ++ u' = s ++ (A2.flatten ++ A1.flatten) := by
      rcases List.append_eq_append_iff.1 hflat with ⟨z, h1, h2⟩ | ⟨z, h1, h2⟩
      · refine ⟨z, s ++ A2.flatten ++ (d0 :: v), ?_, ?_⟩
        · rw [e, h2]; simp
        · rw [h1]; simp
      · cases z with
        | nil =>
          simp only [List.nil_append, List.append_nil] at h1 h2
          exact ⟨[], s ++ A2.flatten ++ (d0 :: v), by rw [e, ← h2]; simp, by rw [h1]; simp⟩
        | cons c z =>
          simp only [List.cons_append, List.cons.injEq] at h2
          obtain ⟨rfl, h2⟩ := h2
          refine ⟨u ++ A1.flatten, z, ?_, ?_⟩
          · rw [e, h1]; simp
          · rw [← List.append_assoc, ← h2]; simp
    cases hX : D.X d with
    | true =>
      have := C.outer_arc hf ef er hs hO ho (by simpa [Dg.X] using hX)
      rw [ea]; simp only [if_true]; omega
    | false =>
      have := C.inner_arc hf ef er hs (by simpa [Dg.X] using hX)
      rw [ea]; simp only [Bool.false_eq_true, if_false]; omega
  obtain ⟨e', i, h1, h2, h3⟩ := arcs_sum (M := D.M) (X := D.X) (B := 3 * f.length) (C := f.length - 1) As harc
  rw [hp.countP_eq] at h1 h2
  rw [hlen] at h3
  rw [h2] at hsd ⊢
  rw [h1] at hsd ⊢
  generalize f.length = m at h3 hpos
  rcases Nat.lt_or_ge e' 2 with he | he
  · rcases Nat.lt_or_ge (e' + i + e') 6 with h | h
    · exfalso
      have hi : i ≤ 5 := by omega
      have h4 : e' = 0 ∨ e' = 1 := by omega
      rcases h4 with rfl | rfl
      · have : i * (m - 1) ≤ 5 * (m - 1) := Nat.mul_le_mul_right _ hi
        omega
      · have : i * (m - 1) ≤ 3 * (m - 1) := Nat.mul_le_mul_right _ (by omega)
        omega
    · exact h
  · omega

/-- The face that touches the boundary's first dart. -/
theorem Cx.face0 (C : Cx D) {f : List Nat} {o : Nat} (hf : f ∈ D.Fs) (ho : th o ∈ f) (hoO : o ∈ D.O) : 2 ≤ f.countP D.M + f.countP (fun d => D.M d && D.X d) := by
  have hL : f ∈ D.O :: D.Fs := List.mem_cons_of_mem _ hf
  have h1 := C.mark_pos hf
  have h2 := C.ends hf
  rcases Nat.eq_zero_or_pos (f.countP (fun d => D.M d && D.X d)) with h | h
  · exfalso
    rw [h2, List.countP_eq_zero] at h
    have hall : ∀ x ∈ f, th x ∈ D.O := by
      refine D.circle (P := fun x => th x ∈ D.O) hL ho (by show th (th o) ∈ D.O; rw [th_th]; exact hoO) ?_
      intro x hx hxO
      have hxl := D.F_lt hf hx
      have := h x hx
      have hX : D.X x = true := by simpa [Dg.X] using hxO
      rw [hX] at this
      have hm : D.M (D.φ x) = false := by simpa using this
      have hr := D.run hxl rfl hm
      show th (D.φ x) ∈ D.O
      obtain ⟨l, hl, hd⟩ := D.inL (th_lt.2 (D.φ_lt hxl))
      have h5 := D.φ_mem hl hd
      rw [hr] at h5
      have : l = D.O := flat_uniq D.flat hl List.mem_cons_self h5 hxO
      rw [← this]; exact hd
    have h0 : f.countP (fun x => D.M (D.φ x)) = 0 := List.countP_eq_zero.2 fun x hx => by
      have := h x hx
      have hX : D.X x = true := by simpa [Dg.X] using hall x hx
      rw [hX] at this
      simpa using this
    have := D.count_φ hL D.M
    omega
  · omega

/-- Vertices are counted. -/
theorem Cx.vertices (C : Cx D) : 6 * D.V + (D.O ++ D.Fs.flatten).countP D.M ≤ 6 * D.E := by
  have hlen : (D.O ++ D.Fs.flatten).length ≤ 2 * D.E := by
    have := nd_len (l := List.range (2 * D.E)) D.nodup fun x hx => List.mem_range.2 ((D.all x).1 hx)
    simpa using this
  have hw := wt_sum (M := D.M) (D.O ++ D.Fs.flatten)
  have h1 := fibers (f := fun d => if D.M d then 2 else 3) (g := D.st) (D.O ++ D.Fs.flatten) D.V
  have h2 := filter_sum_le (f := fun d => if D.M d then 2 else 3) (p := fun d => decide (D.st d < D.V)) (D.O ++ D.Fs.flatten)
  have h3 : 6 * (List.range D.V).length ≤ (((List.range D.V).map fun v => (((D.O ++ D.Fs.flatten).filter fun d => D.st d = v).map fun d => if D.M d then 2 else 3).sum).sum) := by
    refine sum_ge fun v hv => ?_
    obtain ⟨d, hd, hdv⟩ : ∃ d, d < 2 * D.E ∧ D.st d = v := by
      rcases D.surj v (List.mem_range.1 hv) with rfl | h
      · cases hO : D.O with
        | nil =>
          have := D.lab
          rw [hO] at this
          exact absurd this.symm C.ne
        | cons o O' =>
          have := D.clO
          rw [hO] at this
          exact ⟨o, D.O_lt (by rw [hO]; simp), this.1⟩
      · exact h
    have hσ := D.σ_lt hd
    have hmem : ∀ x, x < 2 * D.E → D.st x = v → x ∈ (D.O ++ D.Fs.flatten).filter fun d => D.st d = v := fun x hx h => List.mem_filter.2 ⟨(D.all x).2 hx, by simpa using h⟩
    have m1 := hmem d hd hdv
    have m2 := hmem (D.σ d) hσ (by rw [D.st_σ hd, hdv])
    have m3 := hmem (D.σ (D.σ d)) (D.σ_lt hσ) (by rw [D.st_σ hσ, D.st_σ hd, hdv])
    have n1 : D.σ d ≠ d := C.no1 hd
    have n2 : D.σ (D.σ d) ≠ D.σ d := C.no1 hσ
    by_cases hm : D.σ (D.σ d) = d
    · have a1 : D.M d = false := by simp [Dg.M, hm]
      have a2 : D.M (D.σ d) = false := by simp [Dg.M, hm]
      have := nd_sum (f := fun d => if D.M d then 2 else 3) (s := [d, D.σ d]) (l := (D.O ++ D.Fs.flatten).filter fun d => D.st d = v) (by simpa using fun q => n1 q.symm) (by simp only [List.mem_cons, List.not_mem_nil, or_false]; rintro x (rfl | rfl) <;> assumption)
      simpa [a1, a2] using this
    · have hm' : ∀ x, (if D.M x then 2 else 3) ≥ 2 := fun x => by split <;> omega
      have := nd_sum (f := fun d => if D.M d then 2 else 3) (s := [d, D.σ d, D.σ (D.σ d)]) (l := (D.O ++ D.Fs.flatten).filter fun d => D.st d = v) (by
        simp only [List.nodup_cons, List.mem_cons, List.not_mem_nil, or_false, not_or, not_false_eq_true, List.nodup_nil, and_true]
        exact ⟨⟨fun q => n1 q.symm, fun q => hm q.symm⟩, fun q => n2 q.symm⟩) (by simp only [List.mem_cons, List.not_mem_nil, or_false]; rintro x (rfl | rfl | rfl) <;> assumption)
      have b1 := hm' d; have b2 := hm' (D.σ d); have b3 := hm' (D.σ (D.σ d))
      simp only [List.map_cons, List.map_nil, List.sum_cons, List.sum_nil] at this
      omega
  rw [List.length_range] at h3
  have h4 : (D.O ++ D.Fs.flatten).map (fun d => if D.M d = true then 2 else 3) = (D.O ++ D.Fs.flatten).map (fun d => if D.M d then 2 else 3) := rfl
  omega

theorem count_flat (P : Nat → Bool) : ∀ L : List (List Nat), L.flatten.countP P = (L.map fun l => l.countP P).sum
  | [] => rfl
  | a :: L => by simp [List.countP_append, count_flat P L]

/-- All faces but one have many sides. -/
theorem faces_sum {o : Nat} {c e : List Nat → Nat} : ∀ {L : List (List Nat)}, L.flatten.Nodup → (∀ f ∈ L, o ∉ f → 6 ≤ c f + e f) → (∀ f ∈ L, o ∈ f → 2 ≤ c f + e f) → 6 * L.length ≤ (L.map c).sum + (L.map e).sum + (if o ∈ L.flatten then 4 else 0)
  | [], _, _, _ => by simp
  | f :: L, nd, h1, h2 => by
    rw [List.flatten_cons, List.nodup_append] at nd
    have ih := faces_sum (L := L) nd.2.1 (fun g hg => h1 g (List.mem_cons_of_mem _ hg)) (fun g hg => h2 g (List.mem_cons_of_mem _ hg))
    simp only [List.length_cons, List.map_cons, List.sum_cons, List.flatten_cons, List.mem_append]
    by_cases ho : o ∈ f
    · have h3 : o ∉ L.flatten := fun q => nd.2.2 o ho o q rfl
      have := h2 f List.mem_cons_self ho
      simp only [h3, if_false] at ih
      simp only [ho, h3, true_or, if_true]; omega
    · have := h1 f List.mem_cons_self ho
      simp only [ho, false_or]; omega

/-- There is no such word. -/
theorem Cx.false (C : Cx D) : False := by
  cases hO : D.O with
  | nil =>
    have := D.lab
    rw [hO] at this
    exact absurd this.symm C.ne
  | cons o O' =>
    have hoO : o ∈ D.O := by rw [hO]; simp
    have hV := C.vertices
    have hE := D.euler
    have hF := faces_sum (o := th o) (c := fun f => f.countP D.M) (e := fun f => f.countP (fun d => D.M d && D.X d)) (L := D.Fs) (List.nodup_append.1 D.nodup).2.1 (fun f hf h => C.face hf hO h) (fun f hf h => C.face0 hf h hoO)
    have hX : (D.Fs.map fun f => f.countP (fun d => D.M d && D.X d)).sum ≤ D.O.countP D.M := by
      have h1 : (D.Fs.map fun f => f.countP (fun d => D.M d && D.X d)) = D.Fs.map fun f => f.countP (fun d => D.M (D.φ d) && D.X d) := List.map_congr_left fun f hf => C.ends hf
      rw [h1, ← count_flat, List.countP_eq_length_filter, List.countP_eq_length_filter]
      have h2 := nd_len (s := (D.Fs.flatten.filter (fun d => D.M (D.φ d) && D.X d)).map th) (l := D.O.filter D.M) ?_ ?_
      · rw [List.length_map] at h2; exact h2
      · refine List.pairwise_map.2 ?_
        have := (List.nodup_append.1 D.nodup).2.1
        exact (this.sublist List.filter_sublist).imp fun h q => h (th_inj q)
      · intro x hx
        obtain ⟨y, hy, rfl⟩ := List.mem_map.1 hx
        obtain ⟨hy1, hy2⟩ := List.mem_filter.1 hy
        simp only [Bool.and_eq_true] at hy2
        have hyl : y < 2 * D.E := (D.all y).1 (List.mem_append_right _ hy1)
        exact List.mem_filter.2 ⟨by simpa [Dg.X] using hy2.2, by rw [D.M_φ hyl]; exact hy2.1⟩
    rw [List.countP_append, count_flat] at hV
    have h4 : (if th o ∈ D.Fs.flatten then 4 else 0) ≤ 4 := by split <;> omega
    omega

/-- Greendlinger's theorem: over a set of words of which no two share a sixth, a word with a diagram that is freely reduced and not empty has a long part. -/
theorem greendlinger (S : Sys iv R) (C6 : ∀ r r', R r → R r' → r ≠ r' → ∀ p, p <+: r → p <+: r' → 6 * p.length < r.length) :
    ∀ (k : Nat) (w : List α), w.length ≤ k → w ≠ [] → (∀ x a y, w ≠ x ++ a :: iv a :: y) → T iv R w → ∃ x s y t, w = x ++ (s ++ y) ∧ R (s ++ t) ∧ (s ++ t).length < 2 * s.length
  | 0, w, hk, hw, _, _ => absurd (List.eq_nil_of_length_eq_zero (by omega)) hw
  | k + 1, w, hk, hw, hr, ht => by
    by_cases hl : ∃ x s y t, w = x ++ (s ++ y) ∧ R (s ++ t) ∧ (s ++ t).length < 2 * s.length
    · exact hl
    exfalso
    obtain ⟨n, hd, hmin⟩ := ht.least
    cases hc : w with
    | nil => exact hw hc
    | cons a w' =>
      obtain ⟨D⟩ := hd.bld.map S a hmin
      have C : Cx D := {
        S := S, C6 := C6, ne := hw, nored := hr
        nolong := fun x s y t h1 h2 => Nat.le_of_not_lt fun h3 => hl ⟨x, s, y, t, h1, h2, h3⟩
        short := fun x q y e hq hlen hT => by
          obtain ⟨x', s, y', t, e1, h1, h2⟩ := greendlinger S C6 k q (by omega) hq (fun x' a y' e' => hr (x ++ x') a (y' ++ y) (by rw [e, e']; simp)) hT
          exact hl ⟨x ++ x', s, y' ++ y, t, by rw [e, e1]; simp, h1, h2⟩ }
      exact C.false
end
end Green
end Go.Proofs.YtaccklloepfemaaGreatDoor

namespace Go.Proofs.YtaccklloepfemaaGreatDoor
set_option linter.unusedVariables false
set_option linter.unusedSimpArgs false
open Go Go.RowKit V

def fl (c : UInt8) : UInt8 := c ^^^ 32
theorem fl_ne : ∀ c : UInt8, fl c ≠ c := all_u8 (by decide +kernel)
theorem fl_two (c : UInt8) : fl (fl c) = c := flip_flip c
def sR (l : List (List UInt8)) (x : List UInt8) : Prop := x ∈ symm l
theorem winv_inv (w : List UInt8) : Green.winv fl w = inv w := rfl
theorem rot_next {c : List UInt8} {j : Nat} {a : UInt8} {t : List UInt8} (hj : j < c.length) (h : a :: t = rot c j) : t ++ [a] = rot c (if j + 1 < c.length then j + 1 else 0) := by
  unfold rot at h
  rw [List.drop_eq_getElem_cons hj, List.cons_append] at h
  injection h with h1 h2
  have e : t ++ [a] = c.drop (j + 1) ++ c.take (j + 1) := by
    rw [h1, h2, List.take_succ_eq_append_getElem hj]; simp
  rw [e]
  split
  · rfl
  · have : c.length ≤ j + 1 := by omega
    simp [rot, List.drop_eq_nil_of_le this, List.take_of_length_le this]
theorem inv_rot {c : List UInt8} {j : Nat} (hj : j < c.length) : inv (rot c j) = rot (inv c) (if 0 < j then c.length - j else 0) := by
  split
  · have e : inv c = inv (c.drop j) ++ inv (c.take j) := by rw [← inv_app, List.take_append_drop]
    have hl : (inv (c.drop j)).length = c.length - j := by rw [inv_length, List.length_drop]
    unfold rot
    rw [inv_app, e, List.drop_left' hl, List.take_left' hl]
  · have : j = 0 := by omega
    subst this
    simp [rot]
theorem inv_inv (c : List UInt8) : inv (inv c) = c := by
  have := Green.winv_two (iv := fl) (R := fun _ => True) (v := c)
  simp only [inv, List.map_reverse, List.reverse_reverse, List.map_map]
  have e : ((fun x : UInt8 => x ^^^ 32) ∘ fun x => x ^^^ 32) = id := funext fun x => flip_flip x
  rw [e, List.map_id]
/-- The core of a freely reduced word is cyclically reduced. -/
theorem core_ends {r : List UInt8} (h : red r = r) (h2 : 2 ≤ (core r).length) : (core r).getD 0 0 ≠ (core r).getD ((core r).length - 1) 0 ^^^ 32 := by
  have hh := cycN_half r
  have hs := cycN_stop (r := r) (n := cycN r) (Nat.le_refl _)
  rw [core, h] at h2 ⊢
  simp only [List.length_drop, List.length_take] at h2 ⊢
  have hm : min (r.length - cycN r) r.length = r.length - cycN r := by omega
  rw [hm] at h2 ⊢
  rw [getD_drop, getD_drop, getD_take (by omega), getD_take (by omega)]
  intro q
  have hn : ¬ cycN r + 1 ≤ cycN r := by omega
  refine hn (cycN_go (r := r) (Nat.le_refl _) ⟨by omega, ?_⟩)
  have e : cycN r + (r.length - cycN r - cycN r - 1) = r.length - 1 - cycN r := by omega
  rw [e] at q
  simpa using q
theorem rot_cyc {c : List UInt8} (hn : NC c) (he : 2 ≤ c.length → c.getD 0 0 ≠ c.getD (c.length - 1) 0 ^^^ 32) {j : Nat} {a b : UInt8} {t : List UInt8} (hj : j < c.length) (h : a :: b :: t = rot c j) : b ≠ a ^^^ 32 := by
  have hl : (rot c j).length = c.length := rot_length c j
  have h2 : 2 ≤ c.length := by rw [← hl, ← h]; simp
  have ha : a = c.getD j 0 := by
    have := congrArg (fun x => x.getD 0 0) h
    simp only [List.getD_cons_zero, rot] at this
    rw [this, getD_left (by simp; omega), getD_drop, Nat.add_zero]
  by_cases q : j + 1 < c.length
  · have hb : b = c.getD (j + 1) 0 := by
      have := congrArg (fun x => x.getD 1 0) h
      simp only [List.getD_cons_succ, List.getD_cons_zero, rot] at this
      rw [this, getD_left (by simp; omega), getD_drop]
    rw [ha, hb]; exact hn j q
  · have hb : b = c.getD 0 0 := by
      have := congrArg (fun x => x.getD 1 0) h
      simp only [List.getD_cons_succ, List.getD_cons_zero, rot] at this
      rw [this, getD_right (by simp; omega), getD_take (by simp; omega)]
      simp only [List.length_drop]
      congr 1; omega
    have e : j = c.length - 1 := by omega
    rw [ha, hb, e]; exact he h2
section
variable {g : Int} {l : List (List UInt8)}
theorem rel_core (hp : pcheck g l = 0) {r : List UInt8} (hr : r ∈ l) : wCore r = core r ∧ red r = r ∧ 0 < (core r).length := by
  have hz := pcheck_zero hp
  obtain ⟨h200, hb⟩ := hz.2.2 r hr
  obtain ⟨b1, b2, b3⟩ := badRel_good hb
  have hi := isw_of hz.1.2 b2
  refine ⟨by rw [wCore, if_pos hi], b3, ?_⟩
  have hh := cycN_half r
  have hpos : 0 < r.length := List.length_pos_iff.2 b1
  rw [core, b3, List.length_drop, List.length_take]
  rcases Nat.lt_or_ge (2 * cycN r) r.length with q | q
  · omega
  · -- the middle would be two inverse letters
    exfalso
    have hn := (NC.iff _).2 b3
    have he : r.length = 2 * cycN r := by omega
    have := lf_all (p := fun n => decide (2 * n + 2 ≤ r.length ∧ r.getD n 0 = r.getD (r.length - 1 - n) 0 ^^^ 32)) (b := r.length) (i := cycN r - 1) (by show cycN r - 1 < cycN r; omega)
    have h3 := (of_decide_eq_true this).2
    have e : r.length - 1 - (cycN r - 1) = cycN r - 1 + 1 := by omega
    rw [e] at h3
    exact hn (cycN r - 1) (by omega) (by rw [h3, flip_flip])
theorem core_nc {r : List UInt8} (h : red r = r) : NC (core r) := by
  rw [core, h]
  exact (((NC.iff r).2 h).take _).drop _
theorem sys (hp : pcheck g l = 0) : Green.Sys fl (sR l) where
  two := fl_two
  ne := fl_ne
  rot := fun a t h => by
    obtain ⟨r, hr, j, hj, e⟩ := ((symm_spec l).1 _).1 h
    rcases e with e | e
    · exact ((symm_spec l).1 _).2 ⟨r, hr, _, by split <;> omega, .inl (rot_next hj e)⟩
    · have := rot_next (by rw [inv_length]; exact hj) e
      rw [inv_length] at this
      exact ((symm_spec l).1 _).2 ⟨r, hr, _, by split <;> omega, .inr this⟩
  inv := fun w h => by
    obtain ⟨r, hr, j, hj, e⟩ := ((symm_spec l).1 _).1 h
    rw [winv_inv]
    rcases e with e | e
    · exact ((symm_spec l).1 _).2 ⟨r, hr, (if 0 < j then (wCore r).length - j else 0), by split <;> omega, .inr (by rw [e]; exact inv_rot hj)⟩
    · have := inv_rot (c := inv (wCore r)) (j := j) (by rw [inv_length]; exact hj)
      rw [inv_length, inv_inv] at this
      exact ((symm_spec l).1 _).2 ⟨r, hr, (if 0 < j then (wCore r).length - j else 0), by split <;> omega, .inl (by rw [e]; exact this)⟩
  some := fun h => by
    obtain ⟨r, hr, j, hj, e⟩ := ((symm_spec l).1 _).1 h
    rcases e with e | e
    · have := congrArg List.length e; rw [rot_length] at this; simp at this; omega
    · have := congrArg List.length e; rw [rot_length, inv_length] at this; simp at this; omega
  red := fun a b t h => by
    obtain ⟨r, hr, j, hj, e⟩ := ((symm_spec l).1 _).1 h
    obtain ⟨c1, c2, c3⟩ := rel_core hp hr
    rw [c1] at e hj
    rcases e with e | e
    · exact rot_cyc (core_nc c2) (core_ends c2) hj e
    · have hi : red (inv r) = inv r := (((NC.iff _).2 c2).ofInv).isRed
      have := core_inv c2
      rw [← this] at e
      exact rot_cyc (core_nc hi) (core_ends hi) (by rw [this, inv_length]; exact hj) e
theorem pre_cmn : ∀ {p a b : List UInt8}, p <+: a → p <+: b → p.length ≤ cmn a b
  | [], _, _, _, _ => Nat.zero_le _
  | c :: p, a, b, ⟨u, hu⟩, ⟨v, hv⟩ => by
    subst hu; subst hv
    have := pre_cmn (p := p) (a := p ++ u) (b := p ++ v) ⟨u, rfl⟩ ⟨v, rfl⟩
    simp only [List.cons_append, cmn, if_true, List.length_cons]; omega
theorem sixth (hd : isDehn (symm l) = true) : ∀ r r', sR l r → sR l r' → r ≠ r' → ∀ p, p <+: r → p <+: r' → 6 * p.length < r.length := fun r r' hr hr' hne p h1 h2 => by
  have := (isDehn_iff (symm_spec l).2.1.nodup).1 hd r hr r' hr' hne
  have := pre_cmn h1 h2
  omega
/-- Words that are trivial in the group. -/
def TT (l : List (List UInt8)) (w : List UInt8) : Prop := Green.T fl (sR l) w
theorem TT_push (hp : pcheck g l = 0) {s w : List UInt8} {c : UInt8} : TT l (s ++ c :: w) ↔ TT l (push s c ++ w) := by
  by_cases h : 0 < s.length ∧ s.getD (s.length - 1) 0 = c ^^^ 32
  · rw [push, if_pos h]
    obtain ⟨s', d, rfl⟩ : ∃ s' d, s = s' ++ [d] := by
      rcases List.eq_nil_or_concat s with q | ⟨s', d, q⟩
      · rw [q] at h; simp at h
      · exact ⟨s', d, by rw [q, List.concat_eq_append]⟩
    have hd : d = fl c := by show d = c ^^^ 32; simpa using h.2
    subst hd
    have e : (s' ++ [fl c]).take ((s' ++ [fl c]).length - 1) = s' := by simp
    rw [e]
    have e2 : s' ++ [fl c] ++ c :: w = s' ++ ([fl c] ++ (Green.winv fl [fl c] ++ w)) := by simp [fl_two]
    rw [e2]
    exact ⟨fun q => Green.T.delw (sys hp) q, fun q => Green.T.insw (sys hp) q⟩
  · rw [push, if_neg h]; simp
theorem TT_fold (hp : pcheck g l = 0) : ∀ (w s : List UInt8), TT l (s ++ w) ↔ TT l (w.foldl push s)
  | [], s => by simp
  | c :: w, s => by rw [TT_push hp, List.foldl_cons]; exact TT_fold hp w (push s c)
theorem TT_red (hp : pcheck g l = 0) (w : List UInt8) : TT l w ↔ TT l (red w) := TT_fold hp w []
theorem TT_E (hp : pcheck g l = 0) {a b : List UInt8} (h : E a b) : TT l a ↔ TT l b := by
  rw [TT_red hp a, TT_red hp b, show red a = red b from h]
theorem TT_rel (hp : pcheck g l = 0) {r : List UInt8} (hr : r ∈ l) : TT l r := by
  obtain ⟨c1, c2, c3⟩ := rel_core hp hr
  have h : sR l (core r) := ((symm_spec l).1 _).2 ⟨r, hr, 0, by rw [c1]; exact c3, .inl (by rw [c1]; simp [rot])⟩
  have := Green.T.conj (iv := fl) (R := sR l) (conj r) (Green.T.rel (sys hp) h)
  rw [word_parts c2, List.append_assoc]
  exact this
theorem TT_inv (hp : pcheck g l = 0) {r : List UInt8} (h : TT l r) : TT l (inv r) := Green.T.invw (sys hp) h
theorem TT_relOf (hp : pcheck g l = 0) {i : Nat} (hi : i < l.length) (b : Bool) : TT l (if b then inv (l.getD i []) else l.getD i []) := by
  have := TT_rel hp (getD_mem (d := []) hi)
  split
  · exact TT_inv hp this
  · exact this
theorem TT_bnds (hp : pcheck g l = 0) {d : List DCell} (h : ∀ c ∈ d, 0 ≤ c.rel ∧ c.rel < l.length) : TT l (bnds l d) := by
  rw [bnds_red, ← TT_red hp]
  induction d with
  | nil => exact Green.T.nil
  | cons c d ih =>
    rw [List.flatMap_cons]
    refine Green.T.concat ?_ (ih fun c hc => h c (List.mem_cons_of_mem _ hc))
    have hc := h c List.mem_cons_self
    have := Green.T.conj (iv := fl) c.conj (TT_relOf hp (i := c.rel.toNat) (by omega) c.inv)
    unfold cword crel
    rw [List.append_assoc]
    exact this
theorem rlongAt_some {w x : List UInt8} (hx : x ∈ l) (h : x.length < 2 * cmn w x) : ∃ y, rlongAt l w = some y := by
  unfold rlongAt
  cases hf : l.find? (partOf w) with
  | some y => exact ⟨y, rfl⟩
  | none =>
    have := List.find?_eq_none.1 hf x hx
    simp [partOf, h] at this
theorem rlongFrom_pi {w : List UInt8} : ∀ {L : List Nat} {a : Nat} {y : List UInt8}, a ∈ L → rlongAt l (w.drop a) = some y → (rlongFrom l w L).pi = true
  | [], a, y, h, _ => by cases h
  | b :: L, a, y, h, e => by
    rw [rlongFrom]
    cases hb : rlongAt l (w.drop b) with
    | some z => rfl
    | none =>
      rcases List.mem_cons.1 h with rfl | h
      · rw [hb] at e; cases e
      · exact rlongFrom_pi h e
/-- Greendlinger's theorem for the reference's long parts. -/
theorem green_pi (hp : pcheck g l = 0) (hd : isDehn (symm l) = true) {w : List UInt8} (hn : NC w) (hw : w ≠ []) (ht : TT l w) : (rlong (symm l) w).pi = true := by
  obtain ⟨x, s, y, t, e, hR, hl⟩ := Green.greendlinger (sys hp) (sixth hd) w.length w (Nat.le_refl _) hw (fun x a y q => by
    have := hn x.length (by rw [q]; simp)
    rw [q] at this
    rw [getD_right (by omega), getD_right (by omega)] at this
    simp [fl] at this) ht
  have hs : s ≠ [] := fun q => by rw [q] at hl; simp at hl
  have h0 : 0 < s.length := List.length_pos_iff.2 hs
  have hdr : w.drop x.length = s ++ y := by rw [e, List.drop_left]
  obtain ⟨z, hz⟩ := rlongAt_some (l := symm l) (w := s ++ y) (x := s ++ t) hR (by
    have := pre_cmn (p := s) (a := s ++ y) (b := s ++ t) ⟨y, rfl⟩ ⟨t, rfl⟩
    omega)
  unfold rlong
  exact rlongFrom_pi (a := x.length) (List.mem_range.2 (by rw [e]; simp; omega)) (by rw [hdr]; exact hz)
theorem verified_dehn (h : rVerified g l = 0) : pcheck g l = 0 ∧ isDehn (symm l) = true := by
  unfold rVerified at h
  by_cases hp : ¬ pcheck g l = 0
  · rw [if_pos hp] at h; exact absurd h hp
  · rw [if_neg hp] at h
    by_cases hd : isDehn (symm l) = true
    · exact ⟨Decidable.not_not.1 hp, hd⟩
    · rw [if_neg hd] at h; cases h
theorem asked0 (hp : pcheck g l = 0) {w : List UInt8} (hw : wcheck g w = 0) (hl : w.length ≤ 5000) : rasked g l w = 0 := by
  unfold rasked
  rw [if_neg (fun q => q hp), if_neg (fun q => q hw), if_neg (by omega)]
/-- A trivial word is shortened to the empty word. -/
theorem green_dsh (hv : rVerified g l = 0) {S : RS} (hS : SOk l S) {w : List UInt8} (hw : wcheck g w = 0) (hl : w.length ≤ 400) (ht : TT l w) : (dsh S w).1 = [] := by
  obtain ⟨hp, hd⟩ := verified_dehn hv
  obtain ⟨h1, h2, h3, h4⟩ := dsh_disk hp hS hw (by omega)
  have hT : TT l (dsh S w).1 := by
    have a := (TT_E hp h1).2 ht
    exact Green.T.out (sys hp) (x := []) a (TT_bnds hp fun c hc => ⟨(h4 c hc).1, (h4 c hc).2.1⟩)
  apply Classical.byContradiction
  intro q
  have hpi := green_pi hp hd h3 q hT
  have hs := sh_stuck4 (asked0 hp hw (by omega)) hS hl
  unfold rStuck at hs
  split at hs
  · cases hs
  · rw [hpi] at hs; simp at hs
theorem dehn_dver (hv : rVerified g l = 0) {S : RS} (hS : SOk l S) : dver S = true := by
  obtain ⟨hp, hd⟩ := verified_dehn hv
  rw [dver_isDehn hp hS, hd]
theorem green_stuck (hv : rVerified g l = 0) {w : List UInt8} (hw : wcheck g w = 0) (hl : w.length ≤ 5000) (ht : TT l w) (h0 : ¬ red w = []) : rStuck g l (red w) = (false, 0) := by
  obtain ⟨hp, hd⟩ := verified_dehn hv
  have hz := pcheck_zero hp
  have hr := red_length w
  have hrw : wcheck g (red w) = 0 := wcheck_all hz.1 (by omega) (all_sub (all_wcheck hw).2.2 red_sub)
  unfold rStuck
  rw [if_neg (fun q => q (asked0 hp hrw (by omega))), green_pi hp hd (NC.ofRed w) h0 ((TT_red hp w).1 ht)]
  simp

/-! ### Moves -/
theorem all_parts {w : List UInt8} (h : w.all (okc g) = true) (a b : Nat) : (w.take a).all (okc g) = true ∧ (w.drop b).all (okc g) = true :=
  ⟨all_sub h fun c hc => List.mem_of_mem_take hc, all_sub h fun c hc => List.mem_of_mem_drop hc⟩
theorem ins_all {w s : List UInt8} (h : w.all (okc g) = true) (hs : s.all (okc g) = true) (a : Nat) : (w.take a ++ s ++ w.drop a).all (okc g) = true :=
  all_app (all_app (all_parts h a a).1 hs) (all_parts h a a).2
theorem TT_ins {w s : List UInt8} (h : TT l w) (hs : TT l s) (a : Nat) : TT l (w.take a ++ s ++ w.drop a) := by
  rw [List.append_assoc]
  exact Green.T.ins (by rw [List.take_append_drop]; exact h) hs
theorem TT_out (hp : pcheck g l = 0) {w s : List UInt8} {a b : Nat} (h : TT l w) (hs : TT l s) (hb : b = a + s.length) (he : (w.take b).drop a = s) : TT l (w.take a ++ w.drop b) := by
  refine Green.T.out (sys hp) (u := s) ?_ hs
  have e : w.take a ++ (s ++ w.drop b) = w := by
    rw [← he, ← List.append_assoc]
    have : w.take a ++ (w.take b).drop a = w.take b := by
      have h2 : (w.take b).take a = w.take a := by rw [List.take_take]; congr 1; omega
      rw [← h2, List.take_append_drop]
    rw [this, List.take_append_drop]
  rw [e]; exact h
theorem TT_two (c : UInt8) : TT l [c, fl c] := ⟨0, Green.Dia.two⟩
theorem pair_ins {w : List UInt8} (hw : wcheck g w = 0) (ht : TT l w) {n : Int} (h0 : 0 ≤ n) (h1 : n < 2 * g) {a b : Nat} (hb : b = (n.toNat ^^^ 1)) : TT l (w.take a ++ [letters.getD n.toNat 0] ++ [letters.getD b 0] ++ w.drop a) ∧ (w.take a ++ [letters.getD n.toNat 0] ++ [letters.getD b 0] ++ w.drop a).all (okc g) = true := by
  obtain ⟨hg, hl, hall⟩ := all_wcheck hw
  subst hb
  have key : ∀ i : Fin 16, letters.getD (i.1 ^^^ 1) 0 = fl (letters.getD i.1 0) ∧ ix (letters.getD i.1 0) = i.1 := by decide +kernel
  have hk := key ⟨n.toNat, by omega⟩
  simp only at hk
  have ho : okc g (letters.getD n.toNat 0) = true := by
    simp only [okc, Bool.and_eq_true, decide_eq_true_eq]
    omega
  have e : w.take a ++ [letters.getD n.toNat 0] ++ [letters.getD (n.toNat ^^^ 1) 0] ++ w.drop a = w.take a ++ [letters.getD n.toNat 0, fl (letters.getD n.toNat 0)] ++ w.drop a := by rw [hk.1]; simp
  rw [e]
  refine ⟨TT_ins ht (TT_two _) a, ins_all hall ?_ a⟩
  simp only [List.all_cons, List.all_nil, Bool.and_true, Bool.and_eq_true]
  exact ⟨ho, okc_flipg g ho⟩
theorem pair_del (hp : pcheck g l = 0) {w : List UInt8} (hw : wcheck g w = 0) (ht : TT l w) {a b c : Nat} (hb : b = a + 2) (hc : c = a + 1) (hl : b ≤ w.length) (he : w.getD c 0 = w.getD a 0 ^^^ 32) : TT l (w.take a ++ w.drop b) ∧ (w.take a ++ w.drop b).all (okc g) = true := by
  obtain ⟨hg, _, hall⟩ := all_wcheck hw
  refine ⟨TT_out hp (s := [w.getD a 0, fl (w.getD a 0)]) ht (TT_two _) (by simpa using hb) ?_, all_app (all_parts hall a b).1 (all_parts hall a b).2⟩
  subst hb hc
  have h1 : a < w.length := by omega
  have h2 : a + 1 < w.length := by omega
  rw [List.drop_take, show a + 2 - a = 2 by omega, List.drop_eq_getElem_cons h1, List.drop_eq_getElem_cons h2]
  simp only [List.take_succ_cons, List.take_zero]
  have e1 : w.getD a 0 = w[a] := by simp [h1]
  have e2 : w.getD (a + 1) 0 = w[a + 1] := by simp [h2]
  rw [← e1, ← e2, he]; rfl
theorem rel_turned (hp : pcheck g l = 0) {i : Nat} (hi : i < l.length) (b : Bool) (n : Nat) : TT l ((if b then inv (l.getD i []) else l.getD i []).drop n ++ (if b then inv (l.getD i []) else l.getD i []).take n) ∧ ((if b then inv (l.getD i []) else l.getD i []).drop n ++ (if b then inv (l.getD i []) else l.getD i []).take n).all (okc g) = true ∧ ((if b then inv (l.getD i []) else l.getD i []).drop n ++ (if b then inv (l.getD i []) else l.getD i []).take n).length ≤ 200 := by
  have hz := pcheck_zero hp
  obtain ⟨h200, hb⟩ := hz.2.2 _ (getD_mem (d := []) hi)
  have ha := (all_wcheck (badRel_good hb).2.1).2.2
  have ha' : (if b then inv (l.getD i []) else l.getD i []).all (okc g) = true := by
    split
    · exact all_inv ha
    · exact ha
  have hl : (if b then inv (l.getD i []) else l.getD i []).length ≤ 200 := by
    split
    · rw [inv_length]; exact h200
    · exact h200
  refine ⟨Green.T.rot (sys hp) (by rw [List.take_append_drop]; exact TT_relOf hp hi b), all_app (all_parts ha' n n).2 (all_parts ha' n n).1, ?_⟩
  simp only [List.length_append, List.length_drop, List.length_take]; omega
theorem rel_del (hp : pcheck g l = 0) {w s : List UInt8} (hw : wcheck g w = 0) (ht : TT l w) (hs : TT l s) {a b : Nat} (hb : b = a + s.length) (he : (w.take b).drop a = s) : TT l (w.take a ++ w.drop b) ∧ (w.take a ++ w.drop b).all (okc g) = true :=
  ⟨TT_out hp ht hs hb he, all_app (all_parts (all_wcheck hw).2.2 a b).1 (all_parts (all_wcheck hw).2.2 a b).2⟩
theorem rel_ins {w s : List UInt8} (hw : wcheck g w = 0) (ht : TT l w) (hs : TT l s) (ha : s.all (okc g) = true) (a : Nat) : TT l (w.take a ++ s ++ w.drop a) ∧ (w.take a ++ s ++ w.drop a).all (okc g) = true :=
  ⟨TT_ins ht hs a, ins_all (all_wcheck hw).2.2 ha a⟩
theorem gw_of {w v : List UInt8} (hw : wcheck g w = 0) (h : v.all (okc g) = true) (hl : v.length ≤ 100000) : wcheck g v = 0 := wcheck_all (all_wcheck hw).1 hl h
theorem ltr4 : ∀ i : Fin 16, (i.1 % 2 = 0 → UInt8.ofNat (97 + i.1 / 2) = letters.getD i.1 0) ∧ (¬ i.1 % 2 = 0 → UInt8.ofNat (65 + i.1 / 2) = letters.getD i.1 0) := by decide +kernel
theorem xor1 {n : Int} (h0 : 0 ≤ n) (h1 : n < 16) : intV .xor .i64 n 1 = some (num (((n.toNat ^^^ 1 : Nat)) : Int)) := by
  have key : ∀ k : Fin 16, IntKind.i64.wrap ((BitVec.ofInt 64 (k.1 : Int) ^^^ BitVec.ofInt 64 1).toNat : Int) = (k.1 ^^^ 1 : Nat) := by decide +kernel
  have h3 := key ⟨n.toNat, by omega⟩
  simp only at h3
  rw [← h3, Int.toNat_of_nonneg h0]
  rfl
theorem bndary_ok {d : List DCell} (h : (bndary g l d).2 = 0) : (bndary g l d).1.all (okc g) = true ∧ TT l (bndary g l d).1 := by
  unfold bndary at h ⊢
  by_cases hc : ¬ chk g l [] [d] = 0
  · rw [if_pos hc] at h; exact absurd h hc
  · rw [if_neg hc]
    obtain ⟨hp, _, hd⟩ := chk_spec hc
    refine ⟨?_, TT_bnds hp fun c hc => (isDisk_cell hd c hc).1⟩
    rw [bnds_red]
    refine all_sub ?_ red_sub
    rw [List.all_flatMap]
    refine List.all_eq_true.2 fun c hc => ?_
    obtain ⟨h1, h2⟩ := isDisk_cell hd c hc
    have hz := pcheck_zero hp
    have hr : l.getD c.rel.toNat [] ∈ l := getD_mem (by omega)
    have ha := (all_wcheck (badRel_good (hz.2.2 _ hr).2).2.1).2.2
    have hcj := (all_wcheck h2).2.2
    have hrel : (crel l c).all (okc g) = true := by
      unfold crel; split
      · exact all_inv ha
      · exact ha
    exact all_app (all_app hcj hrel) (all_inv hcj)
theorem chk_0n {ws : List (List UInt8)} {i : Nat} (h : ¬ ¬ pcheck g l = 0) (hi : ws.length ≤ i) (hw : ∀ j, j < i → wcheck g (ws.getD j []) = 0) : chk g l ws [] = 0 := by
  rw [chk, if_neg h, if_neg (all_w hi hw), if_neg (by simp)]
theorem wcheck_nil (hp : pcheck g l = 0) : wcheck g [] = 0 := wcheck_all (pcheck_zero hp).1 (by simp) rfl
theorem sh_green {w W : List UInt8} {d : List DCell} {c : Nat} (h : ShR g l w (W, d, c)) (hv : rVerified g l = 0) (hw : w.all (okc g) = true) (hl : w.length ≤ 400) (ht : TT l w) : W = [] ∧ c = 0 := by
  have hp := (verified_dehn hv).1
  have hwc : wcheck g w = 0 := wcheck_all (pcheck_zero hp).1 (by omega) hw
  unfold ShR at h
  rw [if_neg (fun q => q (asked0 hp hwc (by omega)))] at h
  obtain ⟨S, hS, h⟩ := h
  rw [shOf, if_neg (light4 hS.1 hl)] at h
  cases h
  exact ⟨green_dsh hv hS hwc hl ht, rfl⟩
theorem tr_green {w : List UInt8} {b : Bool} {d : List DCell} {c : Nat} (h : TrR g l w (b, d, c)) (hv : rVerified g l = 0) (hw : w.all (okc g) = true) (hl : w.length ≤ 400) (ht : TT l w) : b = true ∧ c = 0 ∧ proves g l d w = 0 ∧ conjs d ≤ 1000000 ∧ d.length ≤ 100000 := by
  have hp := (verified_dehn hv).1
  have hwc : wcheck g w = 0 := wcheck_all (pcheck_zero hp).1 (by omega) hw
  have ha := asked0 hp hwc (by omega)
  unfold TrR at h
  rw [if_neg (fun q => q ha)] at h
  obtain ⟨S, hS, h⟩ := h
  have hn := green_dsh hv hS hwc hl ht
  have hl4 := light4 hS.1 hl
  rw [trOf, if_pos (dehn_dver hv hS), if_pos hn, if_neg hl4] at h
  have hpv := sh_proves4 ha hS hl
  rw [hn] at hpv
  cases h
  unfold Heavy at hl4
  exact ⟨rfl, rfl, by simpa [inv] using hpv, by omega, by omega⟩
end
end Go.Proofs.YtaccklloepfemaaGreatDoor

namespace Go.Proofs.YtaccklloepfemaaGreatDoor
open Go Go.RowKit V
set_option maxRecDepth 100000
set_option linter.unusedVariables false
set_option linter.unusedSimpArgs false
theorem ag83 : aggOf Tryz.prog 83 = some true := by kernel_rfl
theorem fl83_0 : fldOf Tryz.prog 83 0 = some (3, 0) := by kernel_rfl
theorem fl83_1 : fldOf Tryz.prog 83 1 = some (3, 1) := by kernel_rfl
theorem fl83_2 : fldOf Tryz.prog 83 2 = some (3, 2) := by kernel_rfl
theorem fl83_3 : fldOf Tryz.prog 83 3 = some (3, 3) := by kernel_rfl
theorem fl83_4 : fldOf Tryz.prog 83 4 = some (3, 4) := by kernel_rfl
theorem fl83_5 : fldOf Tryz.prog 83 5 = some (4, 5) := by kernel_rfl
theorem sz83 : szOf Tryz.prog 83 = some 6 := by kernel_rfl
theorem u49 : type_of% @Tryz.underlying49 := @Tryz.underlying49
theorem z83 : zeroOf Tryz.prog 83 = some (.agg #[.int .i64 0, .int .i64 0, .int .i64 0, .int .i64 0, .int .i64 0, .bool false]) := by kernel_rfl

theorem s_R4Letter (i : Int) (A : AH) (hi : 0 ≤ i ∧ i < 16) : RetA Tryz.prog 100 #[num (i)] A (fun v A1 => v = str [letters.getD i.toNat 0] ∧ A.le A1 ∧ A1.wf) := by
 refine enterA (e := [(0, num (i))]) (args := [num (i)]) Tryz.call100 Tryz.func100 rfl Tryz.results100 Tryz.ntmps100 rfl rfl rfl (fun wf => ?_)
 have le_ := AH.le.refl A
 obtain ⟨n, rfl⟩ : ∃ n : Nat, i = n := ⟨i.toNat, by omega⟩
 have hn16 : n < 16 := by omega
 refine Run.seq fun K1 h2 => .region <| .q rfl (qassign rfl) <| .nil <| h2 _ _ <| .seq fun K3 h4 => .seq fun K5 h6 => .region <| .q rfl (qmove rfl) <| .q rfl (qremN (b := 2) rfl rfl (by omega)) ?_
 refine Ops.q rfl (qeqlN (b := 0) rfl rfl) <| .nil <| h6 _ _ <| .if rfl (fun p7 => ?_) (fun p7 => ?_)
 ·
  refine Run.seq fun K8 h9 => .region <| .q rfl (qmove rfl) <| .q rfl (qquoN (b := 2) rfl rfl (by omega)) <| .q rfl (qaddN (a := 97) rfl rfl (by omega)) <| .q rfl (qconv8 u3 u5 rfl) <| .l rfl (fun _ _ hk10 _ => wbuildSlice (c := [byt (UInt8.ofNat (97 + (n / 2)))]) wf rfl (buildSliceV_of u80 sz5 z5 rfl (by decide) (by decide) rfl) fun A12 b11 nb13 => ?_)
  have le14 := le_.trans nb13.le
  refine hk10 _ _ <| .l rfl (fun _ _ hk15 _ => wtoString (s := [UInt8.ofNat (97 + (n / 2))]) rfl u80 u9 u5 (slc_row (n := 1) nb13.get rfl (Nat.le_refl _)) ?_)
  refine hk15 _ _ <| .q rfl (qassign rfl) <| .nil <| h9 _ _ <| .ret ?_
  repeat first | with_reducible refine thenQ_ret ?_ | with_reducible refine blockQ_ret ?_
  exact retQ rfl (⟨by rw [Int.toNat_natCast]; first | (rw [← (ltr4 ⟨n, hn16⟩).1 (by assumption)]; rfl) | (rw [← (ltr4 ⟨n, hn16⟩).2 (by assumption)]; rfl), le14, nb13.wf⟩)
 ·
  refine Run.skip <| h4 _ _ <| .seq fun K16 h17 => .region <| .q rfl (qmove rfl) <| .q rfl (qquoN (b := 2) rfl rfl (by omega)) <| .q rfl (qaddN (a := 65) rfl rfl (by omega)) <| .q rfl (qconv8 u3 u5 rfl) <| .l rfl (fun _ _ hk18 _ => wbuildSlice (c := [byt (UInt8.ofNat (65 + (n / 2)))]) wf rfl (buildSliceV_of u80 sz5 z5 rfl (by decide) (by decide) rfl) fun A20 b19 nb21 => ?_)
  have le22 := le_.trans nb21.le
  refine hk18 _ _ <| .l rfl (fun _ _ hk23 _ => wtoString (s := [UInt8.ofNat (65 + (n / 2))]) rfl u80 u9 u5 (slc_row (n := 1) nb21.get rfl (Nat.le_refl _)) ?_)
  refine hk23 _ _ <| .q rfl (qassign rfl) <| .nil <| h17 _ _ <| .ret ?_
  repeat first | with_reducible refine thenQ_ret ?_ | with_reducible refine blockQ_ret ?_
  exact retQ rfl (⟨by rw [Int.toNat_natCast]; first | (rw [← (ltr4 ⟨n, hn16⟩).1 (by assumption)]; rfl) | (rw [← (ltr4 ⟨n, hn16⟩).2 (by assumption)]; rfl), le22, nb21.wf⟩)

theorem s_turned (g : Int) (u : Value) (l : List (List UInt8)) (mk ma ml mr ms : Int) (mi : Bool) (A : AH) (hp : pcheck g l = 0) (hu : Slc A 1 u (strs l)) : RetA Tryz.prog 84 #[.agg #[num (g), u], .agg #[num (mk), num (ma), num (ml), num (mr), num (ms), .bool (mi)]] A (fun v A1 => ∃ s fr ok, v = .tuple #[str s, str fr, .bool ok] ∧ A.le A1 ∧ A1.wf ∧ (ok = true → TT l s ∧ s.all (okc g) = true ∧ s.length ≤ 200)) := by
 refine enterA (e := [(0, .agg #[num (g), u]), (1, .agg #[num (mk), num (ma), num (ml), num (mr), num (ms), .bool (mi)])]) (args := [.agg #[num (g), u], .agg #[num (mk), num (ma), num (ml), num (mr), num (ms), .bool (mi)]]) Tryz.call84 Tryz.func84 rfl Tryz.results84 Tryz.ntmps84 rfl rfl rfl (fun wf => ?_)
 have le_ := AH.le.refl A
 refine Run.seq fun K1 h2 => .region <| .l rfl (fun _ _ hk3 _ => wbox wf rfl rfl fun A5 b4 nb6 => ?_)
 have le7 := le_.trans nb6.le
 refine hk3 _ _ <| .l rfl (fun _ _ hk8 _ => wbox nb6.wf rfl rfl fun A10 b9 nb11 => ?_)
 have h12 := nb11.le.get _ _ nb6.get
 have le13 := le7.trans nb11.le
 refine hk8 _ _ <| .q rfl (qassign rfl) <| .q rfl (qassign rfl) <| .q rfl (qassign rfl) <| .nil <| h2 _ _ <| .seq fun K14 h15 => .seq fun K16 h17 => ?_
 have hzl := (pcheck_zero hp).2.1
 refine Run.region <| .q rfl (qfieldAddr fl83_3 sz3 (by decide) rfl) <| .q rfl (qloadAt ag3 rfl rfl nb11.get rfl) <| .q rfl (qlss rfl rfl) <| .q rfl (qmove rfl) <| .part (t := 11) rfl (fun p18 => ?_) (fun p18 => ?_)
 ·
  refine Ops.off rfl rfl rfl rfl <| .off rfl rfl rfl rfl <| .off rfl rfl rfl rfl <| .off rfl rfl rfl rfl <| .off rfl rfl rfl rfl <| .off rfl rfl rfl rfl <| .q rfl (qpickT rfl rfl) <| .nil <| h17 _ _ <| .cond_true rfl ?_
  refine Run.seq fun K19 h20 => .region <| .q rfl (qassign rfl) <| .q rfl (qassign rfl) <| .q rfl (qassign rfl) <| .nil <| h20 _ _ <| .ret ?_
  repeat first | with_reducible refine thenQ_ret ?_ | with_reducible refine blockQ_ret ?_
  exact retQ rfl (⟨_, _, false, rfl, le13, nb11.wf, fun q => by cases q⟩)
 ·
  refine Ops.on rfl rfl <| .q rfl (qfieldAddr fl83_3 sz3 (by decide) rfl) <| .on rfl rfl <| .q rfl (qloadAt ag3 rfl rfl nb11.get rfl) <| .on rfl rfl <| .q rfl (qfieldAddr fl24_1 sz22 (by decide) rfl) <| .on rfl rfl <| .q rfl (qloadAt ag22 rfl rfl h12 rfl) <| .on rfl rfl <| .q rfl (qlenS (n := l.length) u22 rfl (hu.le le13) (by omega) (strs_len _)) ?_
  refine Ops.on rfl rfl <| .q rfl (qgeq rfl rfl) <| .q rfl (qpickF rfl rfl) <| .nil <| h17 _ _ <| .if rfl (fun p21 => ?_) (fun p21 => ?_)
  ·
   refine Run.seq fun K22 h23 => .region <| .q rfl (qassign rfl) <| .q rfl (qassign rfl) <| .q rfl (qassign rfl) <| .nil <| h23 _ _ <| .ret ?_
   repeat first | with_reducible refine thenQ_ret ?_ | with_reducible refine blockQ_ret ?_
   exact retQ rfl (⟨_, _, false, rfl, le13, nb11.wf, fun q => by cases q⟩)
  ·
   refine Run.skip <| h15 _ _ <| .seq fun K24 h25 => .region <| .q rfl (qloadAggAt ag24 sz24 rfl rfl h12 rfl) <| .q rfl (qfieldAddr fl83_3 sz3 (by decide) rfl) <| .q rfl (qloadAt ag3 rfl rfl nb11.get rfl) <| .q rfl (qfieldAddr fl83_5 sz4 (by decide) rfl) <| .q rfl (qloadAt ag4 rfl rfl nb11.get rfl) <| .l rfl (fun _ _ hk26 _ => vcallF rfl (s_relator ((g)) u l ((mr)) mi A10 ⟨by omega, by omega⟩ (rel_ok hp ⟨by omega, by omega⟩) (hu.le le13)) ?_)
   rintro v27 A28 ⟨rfl, leq29, wfq29⟩
   have h31 := leq29.get _ _ nb11.get
   have le32 := le13.trans leq29
   refine hk26 _ _ <| .q rfl (qassign rfl) <| .nil <| h25 _ _ <| .seq fun K33 h34 => .seq fun K35 h36 => ?_
   have hrt := rel_turned hp (i := (mr).toNat) (by omega) mi (ms).toNat
   have hrl : (if mi then inv (l.getD (mr).toNat []) else l.getD (mr).toNat []).length ≤ 200 := by have := (rel_ok (r := mr) hp ⟨by omega, by omega⟩).2; split <;> first | (rw [inv_length]; exact this) | exact this
   refine Run.region <| .q rfl (qfieldAddr fl83_4 sz3 (by decide) rfl) <| .q rfl (qloadAt ag3 rfl rfl h31 rfl) <| .q rfl (qlss rfl rfl) <| .q rfl (qmove rfl) <| .part (t := 28) rfl (fun p37 => ?_) (fun p37 => ?_)
   ·
    refine Ops.off rfl rfl rfl rfl <| .off rfl rfl rfl rfl <| .off rfl rfl rfl rfl <| .off rfl rfl rfl rfl <| .off rfl rfl rfl rfl <| .q rfl (qpickT rfl rfl) <| .nil <| h36 _ _ <| .cond_true rfl <| .seq fun K38 h39 => ?_
    refine Run.region <| .q rfl (qassign rfl) <| .q rfl (qassign rfl) <| .q rfl (qassign rfl) <| .nil <| h39 _ _ <| .ret ?_
    repeat first | with_reducible refine thenQ_ret ?_ | with_reducible refine blockQ_ret ?_
    exact retQ rfl (⟨_, _, false, rfl, le32, wfq29, fun q => by cases q⟩)
   ·
    refine Ops.on rfl rfl <| .q rfl (qfieldAddr fl83_4 sz3 (by decide) rfl) <| .on rfl rfl <| .q rfl (qloadAt ag3 rfl rfl h31 rfl) <| .on rfl rfl <| .q rfl (qmove rfl) <| .on rfl rfl <| .q rfl (qslen u9 rfl) <| .on rfl rfl <| .q rfl (qgeq rfl rfl) ?_
    refine Ops.q rfl (qpickF rfl rfl) <| .nil <| h36 _ _ <| .if rfl (fun p40 => ?_) (fun p40 => ?_)
    ·
     refine Run.seq fun K41 h42 => .region <| .q rfl (qassign rfl) <| .q rfl (qassign rfl) <| .q rfl (qassign rfl) <| .nil <| h42 _ _ <| .ret ?_
     repeat first | with_reducible refine thenQ_ret ?_ | with_reducible refine blockQ_ret ?_
     exact retQ rfl (⟨_, _, false, rfl, le32, wfq29, fun q => by cases q⟩)
    ·
     refine Run.skip <| h34 _ _ <| .seq fun K43 h44 => .drawn [0, 1, 2, 3, 4, 5, 6, 7, 8, 9, 10, 11, 12, 13, 14, 15] mixed (by kernel_rfl) (by kernel_rfl) rfl <| .q rfl rfl rfl (qmove rfl) <| .q rfl rfl rfl (qfieldAddr fl83_4 sz3 (by decide) rfl) <| .q rfl rfl rfl (qloadAt ag3 rfl rfl h31 rfl) <| .q rfl rfl rfl (qslLo u9 rfl (natI (by omega)) (by omega)) <| .q rfl rfl rfl (qmove rfl) <| .q rfl rfl rfl (qfieldAddr fl83_4 sz3 (by decide) rfl) ?_
     refine DOps.q rfl rfl rfl (qloadAt ag3 rfl rfl h31 rfl) <| .q rfl rfl rfl (qslHi u9 rfl (natI (by omega)) (by omega)) <| .q rfl rfl rfl (qsadd rfl rfl (by (try simp only [List.length_append, List.length_drop, List.length_take]); omega)) <| .q rfl rfl rfl (qmove rfl) <| .q rfl rfl rfl (qfieldAddr fl83_4 sz3 (by decide) rfl) <| .q rfl rfl rfl (qloadAt ag3 rfl rfl h31 rfl) <| .q rfl rfl rfl (qslHi u9 rfl (natI (by omega)) (by omega)) <| .q rfl rfl rfl (qassign rfl) <| .q rfl rfl rfl (qassign rfl) <| .q rfl rfl rfl (qassign rfl) ?_
     refine DOps.done <| h44 _ _ <| .ret ?_
     repeat first | with_reducible refine thenQ_ret ?_ | with_reducible refine blockQ_ret ?_
     exact retQ rfl (⟨_, _, true, rfl, le32, wfq29, fun _ => hrt⟩)

theorem s_move (g : Int) (u : Value) (l : List (List UInt8)) (w : List UInt8) (mk ma ml mr ms : Int) (mi : Bool) (A : AH) (hp : pcheck g l = 0) (hw : wcheck g w = 0) (ht : TT l w) (hk : mk ≠ 3 ∧ mk ≠ 4) (hu : Slc A 1 u (strs l)) : RetA Tryz.prog 83 #[.agg #[num (g), u], str (w), .agg #[num (mk), num (ma), num (ml), num (mr), num (ms), .bool (mi)]] A (fun v A1 => ∃ w2 ok, v = .tuple #[str w2, .slice none 0 0, .bool ok] ∧ A.le A1 ∧ A1.wf ∧ (ok = true → TT l w2 ∧ w2.all (okc g) = true)) := by
 refine enterA (e := [(0, .agg #[num (g), u]), (1, str (w)), (2, .agg #[num (mk), num (ma), num (ml), num (mr), num (ms), .bool (mi)])]) (args := [.agg #[num (g), u], str (w), .agg #[num (mk), num (ma), num (ml), num (mr), num (ms), .bool (mi)]]) Tryz.call83 Tryz.func83 rfl Tryz.results83 Tryz.ntmps83 rfl rfl rfl (fun wf => ?_)
 have le_ := AH.le.refl A
 have hwl := wcheck_len hw
 have hg := (pcheck_zero hp).1
 have hko := okl_wcheck (fun q => q hw)
 have hk3 := hk.1
 have hk4 := hk.2
 refine Run.seq fun K1 h2 => .region <| .l rfl (fun _ _ hk3 _ => wbox wf rfl rfl fun A5 b4 nb6 => ?_)
 have le7 := le_.trans nb6.le
 refine hk3 _ _ <| .l rfl (fun _ _ hk8 _ => wbox nb6.wf rfl rfl fun A10 b9 nb11 => ?_)
 have h12 := nb11.le.get _ _ nb6.get
 have le13 := le7.trans nb11.le
 refine hk8 _ _ <| .q rfl (qassign rfl) <| .q rfl (qassign rfl) <| .q rfl (qassign rfl) <| .nil <| h2 _ _ <| .seq fun K14 h15 => .seq fun K16 h17 => .region <| .q rfl (qfieldAddr fl83_1 sz3 (by decide) rfl) ?_
 refine Ops.q rfl (qloadAt ag3 rfl rfl nb11.get rfl) <| .q rfl (qlss rfl rfl) <| .q rfl (qmove rfl) <| .part (t := 16) rfl (fun p18 => ?_) (fun p18 => ?_)
 ·
  refine Ops.off rfl rfl rfl rfl <| .off rfl rfl rfl rfl <| .off rfl rfl rfl rfl <| .off rfl rfl rfl rfl <| .off rfl rfl rfl rfl <| .q rfl (qpickT rfl rfl) <| .nil <| h17 _ _ <| .cond_true rfl <| .seq fun K19 h20 => ?_
  refine Run.region <| .q rfl (qassign rfl) <| .q rfl (qassign rfl) <| .q rfl (qassign rfl) <| .nil <| h20 _ _ <| .ret ?_
  repeat first | with_reducible refine thenQ_ret ?_ | with_reducible refine blockQ_ret ?_
  exact retQ rfl (⟨_, false, rfl, le13, nb11.wf, fun q => by cases q⟩)
 ·
  refine Ops.on rfl rfl <| .q rfl (qfieldAddr fl83_1 sz3 (by decide) rfl) <| .on rfl rfl <| .q rfl (qloadAt ag3 rfl rfl nb11.get rfl) <| .on rfl rfl <| .q rfl (qmove rfl) <| .on rfl rfl <| .q rfl (qslen u9 rfl) <| .on rfl rfl <| .q rfl (qgtr rfl rfl) ?_
  refine Ops.q rfl (qpickF rfl rfl) <| .nil <| h17 _ _ <| .if rfl (fun p21 => ?_) (fun p21 => ?_)
  ·
   refine Run.seq fun K22 h23 => .region <| .q rfl (qassign rfl) <| .q rfl (qassign rfl) <| .q rfl (qassign rfl) <| .nil <| h23 _ _ <| .ret ?_
   repeat first | with_reducible refine thenQ_ret ?_ | with_reducible refine blockQ_ret ?_
   exact retQ rfl (⟨_, false, rfl, le13, nb11.wf, fun q => by cases q⟩)
  ·
   refine Run.skip <| h15 _ _ <| .seq fun K24 h25 => .seq fun K26 h27 => .region <| .q rfl (qfieldAddr fl83_0 sz3 (by decide) rfl) <| .q rfl (qloadAt ag3 rfl rfl nb11.get rfl) <| .nil <| h27 _ _ <| .block ?_
   refine Run.seq fun K28 h29 => .region <| .q rfl (qeql rfl rfl) <| .q rfl (qassign rfl) <| .nil <| h29 _ _ <| .if rfl (fun p30 => ?_) (fun p30 => ?_)
   ·
    refine Run.seq fun K31 h32 => .seq fun K33 h34 => .region <| .q rfl (qfieldAddr fl83_2 sz3 (by decide) rfl) <| .q rfl (qloadAt ag3 rfl rfl nb11.get rfl) <| .q rfl (qlss rfl rfl) <| .q rfl (qmove rfl) <| .part (t := 30) rfl (fun p35 => ?_) (fun p35 => ?_)
    ·
     refine Ops.off rfl rfl rfl rfl <| .off rfl rfl rfl rfl <| .off rfl rfl rfl rfl <| .off rfl rfl rfl rfl <| .off rfl rfl rfl rfl <| .off rfl rfl rfl rfl <| .q rfl (qpickT rfl rfl) <| .nil <| h34 _ _ <| .cond_true rfl ?_
     refine Run.seq fun K36 h37 => .region <| .q rfl (qassign rfl) <| .q rfl (qassign rfl) <| .q rfl (qassign rfl) <| .nil <| h37 _ _ <| .ret ?_
     repeat first | with_reducible refine thenQ_ret ?_ | with_reducible refine blockQ_ret ?_
     exact retQ rfl (⟨_, false, rfl, le13, nb11.wf, fun q => by cases q⟩)
    ·
     refine Ops.on rfl rfl <| .q rfl (qfieldAddr fl83_2 sz3 (by decide) rfl) <| .on rfl rfl <| .q rfl (qloadAt ag3 rfl rfl nb11.get rfl) <| .on rfl rfl <| .q rfl (qfieldAddr fl24_0 sz3 (by decide) rfl) <| .on rfl rfl <| .q rfl (qloadAt ag3 rfl rfl h12 rfl) <| .on rfl rfl <| .q rfl (qmul rfl rfl (by first | omega | (simp only [List.length_append, List.length_drop, List.length_take, List.length_cons, List.length_nil]; omega))) ?_
     refine Ops.on rfl rfl <| .q rfl (qgeq rfl rfl) <| .q rfl (qpickF rfl rfl) <| .nil <| h34 _ _ <| .if rfl (fun p38 => ?_) (fun p38 => ?_)
     ·
      refine Run.seq fun K39 h40 => .region <| .q rfl (qassign rfl) <| .q rfl (qassign rfl) <| .q rfl (qassign rfl) <| .nil <| h40 _ _ <| .ret ?_
      repeat first | with_reducible refine thenQ_ret ?_ | with_reducible refine blockQ_ret ?_
      exact retQ rfl (⟨_, false, rfl, le13, nb11.wf, fun q => by cases q⟩)
     ·
      refine Run.skip <| h32 _ _ <| .seq fun K41 h42 => ?_
      have hx16 : (ml).toNat ^^^ 1 < 16 := Nat.xor_lt_two_pow (n := 4) (by omega) (by omega)
      refine Run.drawn [0, 1, 2, 3, 4, 5, 8, 9, 10, 13, 14, 15, 16, 6, 7, 11, 12, 17, 18, 19, 20] mixed (by kernel_rfl) (by kernel_rfl) rfl <| .q rfl rfl rfl (qmove rfl) <| .q rfl rfl rfl (qfieldAddr fl83_1 sz3 (by decide) rfl) ?_
      have hc43 := cellOf (off := 1) nb11.get (show _ = some (num (ma)) from rfl)
      refine DOps.q rfl rfl rfl (qloadAt ag3 rfl rfl nb11.get rfl) <| .q rfl rfl rfl (qslHi u9 rfl (natI (by omega)) (by omega)) <| .q rfl rfl rfl (qfieldAddr fl83_2 sz3 (by decide) rfl) <| .q rfl rfl rfl (qloadAt ag3 rfl rfl nb11.get rfl) <| .q rfl rfl rfl (qfieldAddr fl83_2 sz3 (by decide) rfl) ?_
      have hc45 := cellOf (off := 2) nb11.get (show _ = some (num (ml)) from rfl)
      refine DOps.q rfl rfl rfl (qloadAt ag3 rfl rfl nb11.get rfl) <| .q rfl rfl rfl (qint (by decide) (by decide) rfl rfl (xor1 (by omega) (by omega))) <| .q rfl rfl rfl (qmove rfl) <| .q rfl rfl rfl (qfieldAddr fl83_1 sz3 (by decide) rfl) ?_
      have hc46 := cellOf (off := 1) nb11.get (show _ = some (num (ma)) from rfl)
      refine DOps.q rfl rfl rfl (qloadAt ag3 rfl rfl nb11.get rfl) <| .q rfl rfl rfl (qslLo u9 rfl (natI (by omega)) (by omega)) <| .l rfl rfl rfl (fun _ _ hk47 _ => vcallF rfl (s_R4Letter (ml) A10 ⟨by omega, by omega⟩) ?_)
      rintro v48 A49 ⟨rfl, leq50, wfq50⟩
      have hc53 := cell_le leq50 hc43
      have hc55 := cell_le leq50 hc45
      have hc56 := cell_le leq50 hc46
      have le57 := le13.trans leq50
      refine hk47 _ _ (HeldNow.list (L := [(⟨b9, 1, none⟩, num (ma)), (⟨b9, 2, none⟩, num (ml)), (⟨b9, 1, none⟩, num (ma))]) (by kernel_rfl) (heldCons hc56 (heldCons hc55 (heldCons hc53 heldNil)))) <| .q rfl rfl rfl (qsadd rfl rfl (by first | omega | (simp only [List.length_append, List.length_drop, List.length_take, List.length_cons, List.length_nil]; omega))) <| .l rfl rfl rfl (fun _ _ hk58 _ => vcallF rfl (s_R4Letter (((ml).toNat ^^^ 1 : Nat) : Int) A49 ⟨by omega, by omega⟩) ?_)
      rintro v59 A60 ⟨rfl, leq61, wfq61⟩
      have hc64 := cell_le leq61 hc53
      have hc66 := cell_le leq61 hc56
      have le67 := le57.trans leq61
      refine hk58 _ _ (HeldNow.list (L := [(⟨b9, 1, none⟩, num (ma)), (⟨b9, 1, none⟩, num (ma))]) (by kernel_rfl) (heldCons hc66 (heldCons hc64 heldNil))) <| .q rfl rfl rfl (qsadd rfl rfl (by first | omega | (simp only [List.length_append, List.length_drop, List.length_take, List.length_cons, List.length_nil]; omega))) <| .q rfl rfl rfl (qsadd rfl rfl (by first | omega | (simp only [List.length_append, List.length_drop, List.length_take, List.length_cons, List.length_nil]; omega))) <| .q rfl rfl rfl (qassign rfl) <| .q rfl rfl rfl (qassign rfl) <| .q rfl rfl rfl (qassign rfl) <| .done <| h42 _ _ <| .ret ?_
      repeat first | with_reducible refine thenQ_ret ?_ | with_reducible refine blockQ_ret ?_
      exact retQ rfl (⟨_, true, rfl, le67, wfq61, fun _ => (by first | exact pair_ins hw ht (by omega) (by omega) rfl | exact pair_del hp hw ht (c := (ma + 1).toNat) (by omega) (by omega) (by omega) (Decidable.not_not.1 (by assumption)))⟩)
   ·
    refine Run.seq fun K68 h69 => .region <| .q rfl (qeql rfl rfl) <| .q rfl (qassign rfl) <| .nil <| h69 _ _ <| .if rfl (fun p70 => ?_) (fun p70 => ?_)
    ·
     refine Run.seq fun K71 h72 => .seq fun K73 h74 => .drawn [0, 1, 2, 3, 4, 5, 6, 7, 8, 9, 10, 11, 12, 13, 14, 15, 16, 17, 18] mixed (by kernel_rfl) (by kernel_rfl) rfl <| .q rfl rfl rfl (qfieldAddr fl83_1 sz3 (by decide) rfl) <| .q rfl rfl rfl (qloadAt ag3 rfl rfl nb11.get rfl) <| .q rfl rfl rfl (qadd rfl rfl (by first | omega | (simp only [List.length_append, List.length_drop, List.length_take, List.length_cons, List.length_nil]; omega))) <| .q rfl rfl rfl (qmove rfl) <| .q rfl rfl rfl (qslen u9 rfl) <| .q rfl rfl rfl (qgtr rfl rfl) <| .q rfl rfl rfl (qmove rfl) ?_
     refine DOps.part (t := 64) rfl (fun p76 => ?_) (fun p76 => ?_)
     ·
      refine DOps.qOff rfl rfl rfl rfl rfl rfl <| .qOff rfl rfl rfl rfl rfl rfl <| .qOff rfl rfl rfl rfl rfl rfl <| .qOff rfl rfl rfl rfl rfl rfl <| .qOff rfl rfl rfl rfl rfl rfl <| .qOff rfl rfl rfl rfl rfl rfl <| .qOff rfl rfl rfl rfl rfl rfl <| .qOff rfl rfl rfl rfl rfl rfl <| .qOff rfl rfl rfl rfl rfl rfl <| .lOff rfl rfl rfl rfl rfl rfl ?_
      refine DOps.qOff rfl rfl rfl rfl rfl rfl <| .q rfl rfl rfl (qpickT rfl rfl) <| .done <| h74 _ _ <| .cond_true rfl <| .seq fun K77 h78 => .region <| .q rfl (qassign rfl) <| .q rfl (qassign rfl) <| .q rfl (qassign rfl) ?_
      refine Ops.nil <| h78 _ _ <| .ret ?_
      repeat first | with_reducible refine thenQ_ret ?_ | with_reducible refine blockQ_ret ?_
      exact retQ rfl (⟨_, false, rfl, le13, nb11.wf, fun q => by cases q⟩)
     ·
      refine DOps.qOn rfl rfl rfl rfl rfl (qmove rfl) <| .qOn rfl rfl rfl rfl rfl (qfieldAddr fl83_1 sz3 (by decide) rfl) ?_
      have hc79 := cellOf (off := 1) nb11.get (show _ = some (num (ma)) from rfl)
      refine DOps.qOn rfl rfl rfl rfl rfl (qloadAt ag3 rfl rfl nb11.get rfl) <| .qOn rfl rfl rfl rfl rfl (qadd rfl rfl (by first | omega | (simp only [List.length_append, List.length_drop, List.length_take, List.length_cons, List.length_nil]; omega))) <| .qOn rfl rfl rfl rfl rfl (qsix u9 rfl (natI (by omega)) (by omega)) <| .qOn rfl rfl rfl rfl rfl (qmove rfl) <| .qOn rfl rfl rfl rfl rfl (qfieldAddr fl83_1 sz3 (by decide) rfl) <| .qOn rfl rfl rfl rfl rfl (qloadAt ag3 rfl rfl nb11.get rfl) <| .qOn rfl rfl rfl rfl rfl (qsix u9 rfl (natI (by omega)) (by omega)) <| .lOn rfl rfl rfl rfl rfl (fun _ _ hk81 _ => vcallF rfl (s_inv4 (w.getD (ma).toNat 0) A10 (okl_get hko (by omega))) ?_)
      rintro v82 A83 ⟨rfl, rfl⟩
      refine hk81 _ _ (HeldNow.list (L := [(⟨b9, 1, none⟩, num (ma))]) (by kernel_rfl) (heldCons hc79 heldNil)) <| .qOn rfl rfl rfl rfl rfl (qneqB rfl rfl) <| .q rfl rfl rfl (qpickF rfl rfl) <| .done <| h74 _ _ <| .if rfl (fun p85 => ?_) (fun p85 => ?_)
      ·
       refine Run.seq fun K86 h87 => .region <| .q rfl (qassign rfl) <| .q rfl (qassign rfl) <| .q rfl (qassign rfl) <| .nil <| h87 _ _ <| .ret ?_
       repeat first | with_reducible refine thenQ_ret ?_ | with_reducible refine blockQ_ret ?_
       exact retQ rfl (⟨_, false, rfl, le13, nb11.wf, fun q => by cases q⟩)
      ·
       refine Run.skip <| h72 _ _ <| .seq fun K88 h89 => .drawn [0, 1, 2, 3, 4, 5, 6, 7, 8, 9, 10, 11, 12] mixed (by kernel_rfl) (by kernel_rfl) rfl <| .q rfl rfl rfl (qmove rfl) <| .q rfl rfl rfl (qfieldAddr fl83_1 sz3 (by decide) rfl) <| .q rfl rfl rfl (qloadAt ag3 rfl rfl nb11.get rfl) <| .q rfl rfl rfl (qslHi u9 rfl (natI (by omega)) (by omega)) <| .q rfl rfl rfl (qmove rfl) <| .q rfl rfl rfl (qfieldAddr fl83_1 sz3 (by decide) rfl) ?_
       refine DOps.q rfl rfl rfl (qloadAt ag3 rfl rfl nb11.get rfl) <| .q rfl rfl rfl (qadd rfl rfl (by first | omega | (simp only [List.length_append, List.length_drop, List.length_take, List.length_cons, List.length_nil]; omega))) <| .q rfl rfl rfl (qslLo u9 rfl (natI (by omega)) (by omega)) <| .q rfl rfl rfl (qsadd rfl rfl (by first | omega | (simp only [List.length_append, List.length_drop, List.length_take, List.length_cons, List.length_nil]; omega))) <| .q rfl rfl rfl (qassign rfl) <| .q rfl rfl rfl (qassign rfl) <| .q rfl rfl rfl (qassign rfl) <| .done <| h89 _ _ <| .ret ?_
       repeat first | with_reducible refine thenQ_ret ?_ | with_reducible refine blockQ_ret ?_
       exact retQ rfl (⟨_, true, rfl, le13, nb11.wf, fun _ => (by first | exact pair_ins hw ht (by omega) (by omega) rfl | exact pair_del hp hw ht (c := (ma + 1).toNat) (by omega) (by omega) (by omega) (Decidable.not_not.1 (by assumption)))⟩)
    ·
     refine Run.seq fun K92 h93 => .seq fun K94 h95 => .region <| .q rfl (qeql rfl rfl) <| .q rfl (qassign rfl) <| .nil <| h95 _ _ <| .if rfl (fun p96 => ?_) (fun p96 => ?_)
     ·
      refine Run.skip <| h93 _ _ <| .if rfl (fun p97 => ?_) (fun p97 => ?_)
      ·
       refine Run.seq fun K98 h99 => ?_
       omega
      ·
       refine Run.skip <| h25 _ _ <| .seq fun K100 h101 => .region <| .q rfl (qassign rfl) <| .q rfl (qassign rfl) <| .q rfl (qassign rfl) <| .nil <| h101 _ _ <| .ret ?_
       repeat first | with_reducible refine thenQ_ret ?_ | with_reducible refine blockQ_ret ?_
       exact retQ rfl (⟨_, false, rfl, le13, nb11.wf, fun q => by cases q⟩)
     ·
      refine Run.region <| .q rfl (qeql rfl rfl) <| .q rfl (qassign rfl) <| .nil <| h93 _ _ <| .if rfl (fun p102 => ?_) (fun p102 => ?_)
      ·
       refine Run.seq fun K103 h104 => ?_
       omega
      ·
       refine Run.skip <| h25 _ _ <| .seq fun K105 h106 => .region <| .q rfl (qassign rfl) <| .q rfl (qassign rfl) <| .q rfl (qassign rfl) <| .nil <| h106 _ _ <| .ret ?_
       repeat first | with_reducible refine thenQ_ret ?_ | with_reducible refine blockQ_ret ?_
       exact retQ rfl (⟨_, false, rfl, le13, nb11.wf, fun q => by cases q⟩)

theorem s_plain (g : Int) (u : Value) (l : List (List UInt8)) (w : List UInt8) (mk ma ml mr ms : Int) (mi : Bool) (A : AH) (hp : pcheck g l = 0) (hw : wcheck g w = 0) (ht : TT l w) (hu : Slc A 1 u (strs l)) : RetA Tryz.prog 50 #[.agg #[num (g), u], str (w), .agg #[num (mk), num (ma), num (ml), num (mr), num (ms), .bool (mi)]] A (fun v A1 => ∃ w2 ok, v = .tuple #[str w2, .bool ok] ∧ A.le A1 ∧ A1.wf ∧ (ok = true → TT l w2 ∧ w2.all (okc g) = true)) := by
 refine enterA (e := [(0, .agg #[num (g), u]), (1, str (w)), (2, .agg #[num (mk), num (ma), num (ml), num (mr), num (ms), .bool (mi)])]) (args := [.agg #[num (g), u], str (w), .agg #[num (mk), num (ma), num (ml), num (mr), num (ms), .bool (mi)]]) Tryz.call50 Tryz.func50 rfl Tryz.results50 Tryz.ntmps50 rfl rfl rfl (fun wf => ?_)
 have le_ := AH.le.refl A
 have hwl := wcheck_len hw
 refine Run.seq fun K1 h2 => .region <| .l rfl (fun _ _ hk3 _ => wbox wf rfl rfl fun A5 b4 nb6 => ?_)
 have le7 := le_.trans nb6.le
 refine hk3 _ _ <| .l rfl (fun _ _ hk8 _ => wbox nb6.wf rfl rfl fun A10 b9 nb11 => ?_)
 have h12 := nb11.le.get _ _ nb6.get
 have le13 := le7.trans nb11.le
 refine hk8 _ _ <| .q rfl (qassign rfl) <| .q rfl (qassign rfl) <| .nil <| h2 _ _ <| .seq fun K14 h15 => .seq fun K16 h17 => .region <| .q rfl (qfieldAddr fl83_0 sz3 (by decide) rfl) <| .q rfl (qloadAt ag3 rfl rfl nb11.get rfl) ?_
 refine Ops.q rfl (qneq rfl rfl) <| .q rfl (qmove rfl) <| .part (t := 17) rfl (fun p18 => ?_) (fun p18 => ?_)
 ·
  refine Ops.on rfl rfl <| .q rfl (qfieldAddr fl83_0 sz3 (by decide) rfl) <| .on rfl rfl <| .q rfl (qloadAt ag3 rfl rfl nb11.get rfl) <| .on rfl rfl <| .q rfl (qneq rfl rfl) <| .q rfl (qpickT rfl rfl) <| .nil <| h17 _ _ <| .if rfl (fun p19 => ?_) (fun p19 => ?_)
  ·
   refine Run.seq fun K20 h21 => .region <| .q rfl (qloadAggAt ag24 sz24 rfl rfl h12 rfl) <| .q rfl (qmove rfl) <| .q rfl (qloadAggAt ag83 sz83 rfl rfl nb11.get rfl) <| .l rfl (fun _ _ hk22 _ => vcallF rfl (s_move ((g)) u l w mk ma ml mr ms mi A10 hp hw ht ⟨by omega, by omega⟩ (hu.le le13)) ?_)
   rintro v23 A24 ⟨wq25, okq25, rfl, leq25, wfq25, hmvq25⟩
   have le28 := le13.trans leq25
   have hmv := hmvq25
   refine hk22 _ _ <| .q rfl (qmove rfl) <| .q rfl (qextract rfl rfl) <| .q rfl (qextract rfl rfl) <| .q rfl (qextract rfl rfl) <| .q rfl (qassign rfl) <| .q rfl (qassign rfl) <| .q rfl (qassign rfl) <| .nil <| h21 _ _ ?_
   refine Run.seq fun K29 h30 => .region <| .q rfl (qmove rfl) <| .q rfl (qmove rfl) <| .q rfl (qassign rfl) <| .q rfl (qassign rfl) <| .nil <| h30 _ _ <| .ret ?_
   repeat first | with_reducible refine thenQ_ret ?_ | with_reducible refine blockQ_ret ?_
   exact retQ rfl (⟨_, _, rfl, le28, wfq25, hmv⟩)
  ·
   refine Run.skip <| h15 _ _ <| .seq fun K31 h32 => .region <| .q rfl (qloadAggAt ag24 sz24 rfl rfl h12 rfl) <| .q rfl (qloadAggAt ag83 sz83 rfl rfl nb11.get rfl) <| .l rfl (fun _ _ hk33 _ => vcallF rfl (s_turned ((g)) u l mk ma ml mr ms mi A10 hp (hu.le le13)) ?_)
   rintro v34 A35 ⟨sq36, frq36, okq36, rfl, leq36, wfq36, htsq36⟩
   have h38 := leq36.get _ _ nb11.get
   have le39 := le13.trans leq36
   have hts := htsq36
   refine hk33 _ _ <| .q rfl (qmove rfl) <| .q rfl (qextract rfl rfl) <| .q rfl (qextract rfl rfl) <| .q rfl (qextract rfl rfl) <| .q rfl (qassign rfl) <| .q rfl (qassign rfl) <| .q rfl (qassign rfl) <| .nil <| h32 _ _ ?_
   refine Run.seq fun K40 h41 => .seq fun K42 h43 => .region <| .q rfl (qmove rfl) <| .q rfl (qnot rfl) <| .q rfl (qmove rfl) <| .partB (t := 41) rfl (fun p44 => ?_) (fun p44 => ?_)
   ·
    refine Ops.off rfl rfl rfl rfl <| .off rfl rfl rfl rfl <| .off rfl rfl rfl rfl <| .q rfl (qpickT rfl rfl) <| .q rfl (qmove rfl) <| .off rfl rfl rfl rfl <| .off rfl rfl rfl rfl <| .off rfl rfl rfl rfl <| .off rfl rfl rfl rfl <| .off rfl rfl rfl rfl ?_
    refine Ops.q rfl (qpickT rfl rfl) <| .nil <| h43 _ _ <| .cond_true rfl <| .seq fun K45 h46 => .region <| .q rfl (qassign rfl) <| .q rfl (qassign rfl) <| .nil <| h46 _ _ ?_
    refine Run.ret ?_
    repeat first | with_reducible refine thenQ_ret ?_ | with_reducible refine blockQ_ret ?_
    exact retQ rfl (⟨_, false, rfl, le39, wfq36, fun q => by cases q⟩)
   ·
    refine Ops.on rfl rfl <| .q rfl (qfieldAddr fl83_1 sz3 (by decide) rfl) <| .on rfl rfl <| .q rfl (qloadAt ag3 rfl rfl h38 rfl) <| .on rfl rfl <| .q rfl (qlss rfl rfl) <| .q rfl (qpickF rfl rfl) <| .q rfl (qmove rfl) <| .part (t := 46) rfl (fun p47 => ?_) (fun p47 => ?_)
    ·
     refine Ops.off rfl rfl rfl rfl <| .off rfl rfl rfl rfl <| .off rfl rfl rfl rfl <| .off rfl rfl rfl rfl <| .off rfl rfl rfl rfl <| .q rfl (qpickT rfl rfl) <| .nil <| h43 _ _ <| .cond_true rfl <| .seq fun K48 h49 => ?_
     refine Run.region <| .q rfl (qassign rfl) <| .q rfl (qassign rfl) <| .nil <| h49 _ _ <| .ret ?_
     repeat first | with_reducible refine thenQ_ret ?_ | with_reducible refine blockQ_ret ?_
     exact retQ rfl (⟨_, false, rfl, le39, wfq36, fun q => by cases q⟩)
    ·
     refine Ops.on rfl rfl <| .q rfl (qfieldAddr fl83_1 sz3 (by decide) rfl) <| .on rfl rfl <| .q rfl (qloadAt ag3 rfl rfl h38 rfl) <| .on rfl rfl <| .q rfl (qmove rfl) <| .on rfl rfl <| .q rfl (qslen u9 rfl) <| .on rfl rfl <| .q rfl (qgtr rfl rfl) ?_
     refine Ops.q rfl (qpickF rfl rfl) <| .nil <| h43 _ _ <| .if rfl (fun p50 => ?_) (fun p50 => ?_)
     ·
      refine Run.seq fun K51 h52 => .region <| .q rfl (qassign rfl) <| .q rfl (qassign rfl) <| .nil <| h52 _ _ <| .ret ?_
      repeat first | with_reducible refine thenQ_ret ?_ | with_reducible refine blockQ_ret ?_
      exact retQ rfl (⟨_, false, rfl, le39, wfq36, fun q => by cases q⟩)
     ·
      refine Run.skip <| h41 _ _ <| .seq fun K53 h54 => .seq fun K55 h56 => ?_
      have hts2 := hts (by simpa using ‹(!_) = false›)
      have htl := hts2.2.2
      refine Run.region <| .q rfl (qfieldAddr fl83_0 sz3 (by decide) rfl) <| .q rfl (qloadAt ag3 rfl rfl h38 rfl) <| .q rfl (qeql rfl rfl) <| .nil <| h56 _ _ <| .if rfl (fun p57 => ?_) (fun p57 => ?_)
      ·
       refine Run.seq fun K58 h59 => .drawn [0, 1, 2, 3, 4, 5, 6, 7, 8, 9, 10, 11, 12] mixed (by kernel_rfl) (by kernel_rfl) rfl <| .q rfl rfl rfl (qmove rfl) <| .q rfl rfl rfl (qfieldAddr fl83_1 sz3 (by decide) rfl) <| .q rfl rfl rfl (qloadAt ag3 rfl rfl h38 rfl) <| .q rfl rfl rfl (qslHi u9 rfl (natI (by omega)) (by omega)) <| .q rfl rfl rfl (qmove rfl) <| .q rfl rfl rfl (qsadd rfl rfl (by (try simp only [List.length_append, List.length_drop, List.length_take]); omega)) <| .q rfl rfl rfl (qmove rfl) <| .q rfl rfl rfl (qfieldAddr fl83_1 sz3 (by decide) rfl) ?_
       refine DOps.q rfl rfl rfl (qloadAt ag3 rfl rfl h38 rfl) <| .q rfl rfl rfl (qslLo u9 rfl (natI (by omega)) (by omega)) <| .q rfl rfl rfl (qsadd rfl rfl (by (try simp only [List.length_append, List.length_drop, List.length_take]); omega)) <| .q rfl rfl rfl (qassign rfl) <| .q rfl rfl rfl (qassign rfl) <| .done <| h59 _ _ <| .ret ?_
       repeat first | with_reducible refine thenQ_ret ?_ | with_reducible refine blockQ_ret ?_
       exact retQ rfl (⟨_, true, rfl, le39, wfq36, fun _ => (by first | exact rel_ins hw ht hts2.1 hts2.2.1 _ | exact rel_del hp hw ht hts2.1 (by omega) (Decidable.not_not.1 (by assumption)))⟩)
      ·
       refine Run.skip <| h54 _ _ <| .seq fun K62 h63 => .seq fun K64 h65 => .region <| .q rfl (qmove rfl) <| .q rfl (qslen u9 rfl) <| .q rfl (qfieldAddr fl83_1 sz3 (by decide) rfl) <| .q rfl (qloadAt ag3 rfl rfl h38 rfl) <| .q rfl (qsub rfl rfl (by omega)) ?_
       refine Ops.q rfl (qmove rfl) <| .q rfl (qslen u9 rfl) <| .q rfl (qlss rfl rfl) <| .q rfl (qmove rfl) <| .part (t := 75) rfl (fun p66 => ?_) (fun p66 => ?_)
       ·
        refine Ops.off rfl rfl rfl rfl <| .off rfl rfl rfl rfl <| .off rfl rfl rfl rfl <| .off rfl rfl rfl rfl <| .off rfl rfl rfl rfl <| .off rfl rfl rfl rfl <| .off rfl rfl rfl rfl <| .off rfl rfl rfl rfl <| .off rfl rfl rfl rfl <| .off rfl rfl rfl rfl ?_
        refine Ops.off rfl rfl rfl rfl <| .q rfl (qpickT rfl rfl) <| .nil <| h65 _ _ <| .cond_true rfl <| .seq fun K67 h68 => .region <| .q rfl (qassign rfl) <| .q rfl (qassign rfl) <| .nil ?_
        refine h68 _ _ <| .ret ?_
        repeat first | with_reducible refine thenQ_ret ?_ | with_reducible refine blockQ_ret ?_
        exact retQ rfl (⟨_, false, rfl, le39, wfq36, fun q => by cases q⟩)
       ·
        refine Ops.on rfl rfl <| .q rfl (qmove rfl) <| .on rfl rfl <| .q rfl (qfieldAddr fl83_1 sz3 (by decide) rfl) <| .on rfl rfl <| .q rfl (qloadAt ag3 rfl rfl h38 rfl) <| .on rfl rfl <| .q rfl (qfieldAddr fl83_1 sz3 (by decide) rfl) <| .on rfl rfl <| .q rfl (qloadAt ag3 rfl rfl h38 rfl) ?_
        refine Ops.on rfl rfl <| .q rfl (qmove rfl) <| .on rfl rfl <| .q rfl (qslen u9 rfl) <| .on rfl rfl <| .q rfl (qadd rfl rfl (by omega)) <| .on rfl rfl <| .q rfl (qsl u9 rfl (natI (by omega)) (natI (by omega)) (by omega)) <| .on rfl rfl <| .q rfl (qmove rfl) ?_
        refine Ops.on rfl rfl <| .q rfl (qsneq rfl rfl) <| .q rfl (qpickF rfl rfl) <| .nil <| h65 _ _ <| .if rfl (fun p69 => ?_) (fun p69 => ?_)
        ·
         refine Run.seq fun K70 h71 => .region <| .q rfl (qassign rfl) <| .q rfl (qassign rfl) <| .nil <| h71 _ _ <| .ret ?_
         repeat first | with_reducible refine thenQ_ret ?_ | with_reducible refine blockQ_ret ?_
         exact retQ rfl (⟨_, false, rfl, le39, wfq36, fun q => by cases q⟩)
        ·
         refine Run.skip <| h63 _ _ <| .seq fun K72 h73 => .drawn [0, 1, 2, 3, 4, 5, 6, 7, 8, 9, 10, 11, 12, 13] mixed (by kernel_rfl) (by kernel_rfl) rfl <| .q rfl rfl rfl (qmove rfl) <| .q rfl rfl rfl (qfieldAddr fl83_1 sz3 (by decide) rfl) <| .q rfl rfl rfl (qloadAt ag3 rfl rfl h38 rfl) <| .q rfl rfl rfl (qslHi u9 rfl (natI (by omega)) (by omega)) <| .q rfl rfl rfl (qmove rfl) <| .q rfl rfl rfl (qfieldAddr fl83_1 sz3 (by decide) rfl) ?_
         refine DOps.q rfl rfl rfl (qloadAt ag3 rfl rfl h38 rfl) <| .q rfl rfl rfl (qmove rfl) <| .q rfl rfl rfl (qslen u9 rfl) <| .q rfl rfl rfl (qadd rfl rfl (by omega)) <| .q rfl rfl rfl (qslLo u9 rfl (natI (by omega)) (by omega)) <| .q rfl rfl rfl (qsadd rfl rfl (by (try simp only [List.length_append, List.length_drop, List.length_take]); omega)) <| .q rfl rfl rfl (qassign rfl) <| .q rfl rfl rfl (qassign rfl) <| .done <| h73 _ _ ?_
         refine Run.ret ?_
         repeat first | with_reducible refine thenQ_ret ?_ | with_reducible refine blockQ_ret ?_
         exact retQ rfl (⟨_, true, rfl, le39, wfq36, fun _ => (by first | exact rel_ins hw ht hts2.1 hts2.2.1 _ | exact rel_del hp hw ht hts2.1 (by omega) (Decidable.not_not.1 (by assumption)))⟩)
 ·
  refine Ops.off rfl rfl rfl rfl <| .off rfl rfl rfl rfl <| .off rfl rfl rfl rfl <| .q rfl (qpickF rfl rfl) <| .nil <| h17 _ _ <| .cond_false rfl <| .skip <| h15 _ _ <| .seq fun K76 h77 => ?_
  refine Run.region <| .q rfl (qloadAggAt ag24 sz24 rfl rfl h12 rfl) <| .q rfl (qloadAggAt ag83 sz83 rfl rfl nb11.get rfl) <| .l rfl (fun _ _ hk78 _ => vcallF rfl (s_turned ((g)) u l mk ma ml mr ms mi A10 hp (hu.le le13)) ?_)
  rintro v79 A80 ⟨sq81, frq81, okq81, rfl, leq81, wfq81, htsq81⟩
  have h83 := leq81.get _ _ nb11.get
  have le84 := le13.trans leq81
  have hts := htsq81
  refine hk78 _ _ <| .q rfl (qmove rfl) <| .q rfl (qextract rfl rfl) <| .q rfl (qextract rfl rfl) <| .q rfl (qextract rfl rfl) <| .q rfl (qassign rfl) <| .q rfl (qassign rfl) <| .q rfl (qassign rfl) <| .nil <| h77 _ _ ?_
  refine Run.seq fun K85 h86 => .seq fun K87 h88 => .region <| .q rfl (qmove rfl) <| .q rfl (qnot rfl) <| .q rfl (qmove rfl) <| .partB (t := 41) rfl (fun p89 => ?_) (fun p89 => ?_)
  ·
   refine Ops.off rfl rfl rfl rfl <| .off rfl rfl rfl rfl <| .off rfl rfl rfl rfl <| .q rfl (qpickT rfl rfl) <| .q rfl (qmove rfl) <| .off rfl rfl rfl rfl <| .off rfl rfl rfl rfl <| .off rfl rfl rfl rfl <| .off rfl rfl rfl rfl <| .off rfl rfl rfl rfl ?_
   refine Ops.q rfl (qpickT rfl rfl) <| .nil <| h88 _ _ <| .cond_true rfl <| .seq fun K90 h91 => .region <| .q rfl (qassign rfl) <| .q rfl (qassign rfl) <| .nil <| h91 _ _ ?_
   refine Run.ret ?_
   repeat first | with_reducible refine thenQ_ret ?_ | with_reducible refine blockQ_ret ?_
   exact retQ rfl (⟨_, false, rfl, le84, wfq81, fun q => by cases q⟩)
  ·
   refine Ops.on rfl rfl <| .q rfl (qfieldAddr fl83_1 sz3 (by decide) rfl) <| .on rfl rfl <| .q rfl (qloadAt ag3 rfl rfl h83 rfl) <| .on rfl rfl <| .q rfl (qlss rfl rfl) <| .q rfl (qpickF rfl rfl) <| .q rfl (qmove rfl) <| .part (t := 46) rfl (fun p92 => ?_) (fun p92 => ?_)
   ·
    refine Ops.off rfl rfl rfl rfl <| .off rfl rfl rfl rfl <| .off rfl rfl rfl rfl <| .off rfl rfl rfl rfl <| .off rfl rfl rfl rfl <| .q rfl (qpickT rfl rfl) <| .nil <| h88 _ _ <| .cond_true rfl <| .seq fun K93 h94 => ?_
    refine Run.region <| .q rfl (qassign rfl) <| .q rfl (qassign rfl) <| .nil <| h94 _ _ <| .ret ?_
    repeat first | with_reducible refine thenQ_ret ?_ | with_reducible refine blockQ_ret ?_
    exact retQ rfl (⟨_, false, rfl, le84, wfq81, fun q => by cases q⟩)
   ·
    refine Ops.on rfl rfl <| .q rfl (qfieldAddr fl83_1 sz3 (by decide) rfl) <| .on rfl rfl <| .q rfl (qloadAt ag3 rfl rfl h83 rfl) <| .on rfl rfl <| .q rfl (qmove rfl) <| .on rfl rfl <| .q rfl (qslen u9 rfl) <| .on rfl rfl <| .q rfl (qgtr rfl rfl) ?_
    refine Ops.q rfl (qpickF rfl rfl) <| .nil <| h88 _ _ <| .if rfl (fun p95 => ?_) (fun p95 => ?_)
    ·
     refine Run.seq fun K96 h97 => .region <| .q rfl (qassign rfl) <| .q rfl (qassign rfl) <| .nil <| h97 _ _ <| .ret ?_
     repeat first | with_reducible refine thenQ_ret ?_ | with_reducible refine blockQ_ret ?_
     exact retQ rfl (⟨_, false, rfl, le84, wfq81, fun q => by cases q⟩)
    ·
     refine Run.skip <| h86 _ _ <| .seq fun K98 h99 => .seq fun K100 h101 => ?_
     have hts2 := hts (by simpa using ‹(!_) = false›)
     have htl := hts2.2.2
     refine Run.region <| .q rfl (qfieldAddr fl83_0 sz3 (by decide) rfl) <| .q rfl (qloadAt ag3 rfl rfl h83 rfl) <| .q rfl (qeql rfl rfl) <| .nil <| h101 _ _ <| .if rfl (fun p102 => ?_) (fun p102 => ?_)
     ·
      refine Run.seq fun K103 h104 => .drawn [0, 1, 2, 3, 4, 5, 6, 7, 8, 9, 10, 11, 12] mixed (by kernel_rfl) (by kernel_rfl) rfl <| .q rfl rfl rfl (qmove rfl) <| .q rfl rfl rfl (qfieldAddr fl83_1 sz3 (by decide) rfl) <| .q rfl rfl rfl (qloadAt ag3 rfl rfl h83 rfl) <| .q rfl rfl rfl (qslHi u9 rfl (natI (by omega)) (by omega)) <| .q rfl rfl rfl (qmove rfl) <| .q rfl rfl rfl (qsadd rfl rfl (by (try simp only [List.length_append, List.length_drop, List.length_take]); omega)) <| .q rfl rfl rfl (qmove rfl) <| .q rfl rfl rfl (qfieldAddr fl83_1 sz3 (by decide) rfl) ?_
      refine DOps.q rfl rfl rfl (qloadAt ag3 rfl rfl h83 rfl) <| .q rfl rfl rfl (qslLo u9 rfl (natI (by omega)) (by omega)) <| .q rfl rfl rfl (qsadd rfl rfl (by (try simp only [List.length_append, List.length_drop, List.length_take]); omega)) <| .q rfl rfl rfl (qassign rfl) <| .q rfl rfl rfl (qassign rfl) <| .done <| h104 _ _ <| .ret ?_
      repeat first | with_reducible refine thenQ_ret ?_ | with_reducible refine blockQ_ret ?_
      exact retQ rfl (⟨_, true, rfl, le84, wfq81, fun _ => (by first | exact rel_ins hw ht hts2.1 hts2.2.1 _ | exact rel_del hp hw ht hts2.1 (by omega) (Decidable.not_not.1 (by assumption)))⟩)
     ·
      refine Run.skip <| h99 _ _ <| .seq fun K107 h108 => .seq fun K109 h110 => .region <| .q rfl (qmove rfl) <| .q rfl (qslen u9 rfl) <| .q rfl (qfieldAddr fl83_1 sz3 (by decide) rfl) <| .q rfl (qloadAt ag3 rfl rfl h83 rfl) <| .q rfl (qsub rfl rfl (by omega)) ?_
      refine Ops.q rfl (qmove rfl) <| .q rfl (qslen u9 rfl) <| .q rfl (qlss rfl rfl) <| .q rfl (qmove rfl) <| .part (t := 75) rfl (fun p111 => ?_) (fun p111 => ?_)
      ·
       refine Ops.off rfl rfl rfl rfl <| .off rfl rfl rfl rfl <| .off rfl rfl rfl rfl <| .off rfl rfl rfl rfl <| .off rfl rfl rfl rfl <| .off rfl rfl rfl rfl <| .off rfl rfl rfl rfl <| .off rfl rfl rfl rfl <| .off rfl rfl rfl rfl <| .off rfl rfl rfl rfl ?_
       refine Ops.off rfl rfl rfl rfl <| .q rfl (qpickT rfl rfl) <| .nil <| h110 _ _ <| .cond_true rfl <| .seq fun K112 h113 => .region <| .q rfl (qassign rfl) <| .q rfl (qassign rfl) <| .nil ?_
       refine h113 _ _ <| .ret ?_
       repeat first | with_reducible refine thenQ_ret ?_ | with_reducible refine blockQ_ret ?_
       exact retQ rfl (⟨_, false, rfl, le84, wfq81, fun q => by cases q⟩)
      ·
       refine Ops.on rfl rfl <| .q rfl (qmove rfl) <| .on rfl rfl <| .q rfl (qfieldAddr fl83_1 sz3 (by decide) rfl) <| .on rfl rfl <| .q rfl (qloadAt ag3 rfl rfl h83 rfl) <| .on rfl rfl <| .q rfl (qfieldAddr fl83_1 sz3 (by decide) rfl) <| .on rfl rfl <| .q rfl (qloadAt ag3 rfl rfl h83 rfl) ?_
       refine Ops.on rfl rfl <| .q rfl (qmove rfl) <| .on rfl rfl <| .q rfl (qslen u9 rfl) <| .on rfl rfl <| .q rfl (qadd rfl rfl (by omega)) <| .on rfl rfl <| .q rfl (qsl u9 rfl (natI (by omega)) (natI (by omega)) (by omega)) <| .on rfl rfl <| .q rfl (qmove rfl) ?_
       refine Ops.on rfl rfl <| .q rfl (qsneq rfl rfl) <| .q rfl (qpickF rfl rfl) <| .nil <| h110 _ _ <| .if rfl (fun p114 => ?_) (fun p114 => ?_)
       ·
        refine Run.seq fun K115 h116 => .region <| .q rfl (qassign rfl) <| .q rfl (qassign rfl) <| .nil <| h116 _ _ <| .ret ?_
        repeat first | with_reducible refine thenQ_ret ?_ | with_reducible refine blockQ_ret ?_
        exact retQ rfl (⟨_, false, rfl, le84, wfq81, fun q => by cases q⟩)
       ·
        refine Run.skip <| h108 _ _ <| .seq fun K117 h118 => .drawn [0, 1, 2, 3, 4, 5, 6, 7, 8, 9, 10, 11, 12, 13] mixed (by kernel_rfl) (by kernel_rfl) rfl <| .q rfl rfl rfl (qmove rfl) <| .q rfl rfl rfl (qfieldAddr fl83_1 sz3 (by decide) rfl) <| .q rfl rfl rfl (qloadAt ag3 rfl rfl h83 rfl) <| .q rfl rfl rfl (qslHi u9 rfl (natI (by omega)) (by omega)) <| .q rfl rfl rfl (qmove rfl) <| .q rfl rfl rfl (qfieldAddr fl83_1 sz3 (by decide) rfl) ?_
        refine DOps.q rfl rfl rfl (qloadAt ag3 rfl rfl h83 rfl) <| .q rfl rfl rfl (qmove rfl) <| .q rfl rfl rfl (qslen u9 rfl) <| .q rfl rfl rfl (qadd rfl rfl (by omega)) <| .q rfl rfl rfl (qslLo u9 rfl (natI (by omega)) (by omega)) <| .q rfl rfl rfl (qsadd rfl rfl (by (try simp only [List.length_append, List.length_drop, List.length_take]); omega)) <| .q rfl rfl rfl (qassign rfl) <| .q rfl rfl rfl (qassign rfl) <| .done <| h118 _ _ ?_
        refine Run.ret ?_
        repeat first | with_reducible refine thenQ_ret ?_ | with_reducible refine blockQ_ret ?_
        exact retQ rfl (⟨_, true, rfl, le84, wfq81, fun _ => (by first | exact rel_ins hw ht hts2.1 hts2.2.1 _ | exact rel_del hp hw ht hts2.1 (by omega) (Decidable.not_not.1 (by assumption)))⟩)

theorem s_checked4n (g : Int) (u : Value) (l : List (List UInt8)) (wsv : Value) (ws : List (List UInt8)) (A : AH) (hn : l.length ≤ 100000000) (hll : ∀ x ∈ l, x.length ≤ 100000000) (hwn : ws.length ≤ 100000000) (hwl : ∀ x ∈ ws, x.length ≤ 100000000) (hu : Slc A 1 u (strs l)) (hws : Slc A 1 wsv (strs ws)) : RetA Tryz.prog 41 #[.agg #[num (g), u], wsv, .slice none 0 0] A (fun v A1 => v = num ((chk g l ws [] : Nat) : Int) ∧ A.le A1 ∧ A1.wf) := by
 refine enterA (e := [(0, .agg #[num (g), u]), (1, wsv), (2, .slice none 0 0)]) (args := [.agg #[num (g), u], wsv, .slice none 0 0]) Tryz.call41 Tryz.func41 rfl Tryz.results41 Tryz.ntmps41 rfl rfl rfl (fun wf => ?_)
 have le_ := AH.le.refl A
 refine Run.seq fun K1 h2 => .region <| .l rfl (fun _ _ hk3 _ => wbox wf rfl rfl fun A5 b4 nb6 => ?_)
 have le7 := le_.trans nb6.le
 refine hk3 _ _ <| .q rfl (qassign rfl) <| .nil <| h2 _ _ <| .seq fun K8 h9 => .seq fun K10 h11 => .region <| .q rfl (qloadAggAt ag24 sz24 rfl rfl nb6.get rfl) <| .l rfl (fun _ _ hk12 _ => vcallF rfl (s_IsPres ((g)) u l A5 hn hll (hu.le le7)) ?_)
 rintro v13 A14 ⟨rfl, leq15, wfq15⟩
 have h16 := leq15.get _ _ nb6.get
 have le17 := le7.trans leq15
 refine hk12 _ _ <| .q rfl (qnotP rfl) <| .nil <| h11 _ _ <| .if rfl (fun p18 => ?_) (fun p18 => ?_)
 ·
  refine Run.seq fun K19 h20 => .region <| .q rfl (qassign rfl) <| .nil <| h20 _ _ <| .ret ?_
  repeat first | with_reducible refine thenQ_ret ?_ | with_reducible refine blockQ_ret ?_
  exact retQ rfl (⟨by first | (rw [chk_40 ‹_›]; rfl) | (rw [chk_41 (i := i) ‹¬ ¬ pcheck g l = 0› (by omega) ‹_›]; rfl) | (rw [chk_0n (i := i) ‹¬ ¬ pcheck g l = 0› (by omega) hw]; rfl), le17, wfq15⟩)
 ·
  refine Run.skip <| h9 _ _ <| .seq fun K21 h22 => .seq fun K23 h24 => .region <| .q rfl (qmove rfl) <| .q rfl (qlenS (n := ws.length) u22 rfl (hws.le le17) (by omega) (strs_len _)) <| .q rfl (qmove rfl) <| .nil <| h24 _ _ ?_
  refine Run.block <| .loop (X := Nat) (fun i => [(2, .slice none 0 0), (3, .pointer (some ⟨b4, 0, none⟩)), (14, wsv), (15, num ((ws.length : Nat) : Int)), (16, num ((i : Nat) : Int))]) (fun i B => (i ≤ ws.length ∧ ∀ j, j < i → wcheck g (ws.getD j []) = 0) ∧ A14 = B) (fun i => ws.length - i) 0 (EnvLe.cons rfl <| EnvLe.cons rfl <| EnvLe.cons rfl <| EnvLe.cons rfl <| EnvLe.cons rfl <| EnvLe.nil _) (⟨⟨Nat.zero_le _, fun j h => by omega⟩, rfl⟩) ?_
  rintro i B26 ⟨⟨hi, hw⟩, rfl⟩
  have hg := (pcheck_zero (Decidable.not_not.1 ‹¬ ¬ pcheck g l = 0›)).1
  have hwk : i < ws.length → (ws.getD i []).length ≤ 100000000 := fun q => hwl _ (getD_mem q)
  refine Run.seq fun K27 h28 => .region <| .q rfl (qlssN rfl rfl) <| .nil <| h28 _ _ <| .seq fun K29 h30 => .if rfl (fun p31 => ?_) (fun p31 => ?_)
  ·
   refine Run.skip <| h30 _ _ <| .seq fun K32 h33 => .block <| .seq fun K34 h35 => .region ?_
   obtain ⟨b36, f36, rw36, r36, rc36, n36, k36, e36, l36, g36, cl36, cs36⟩ := Slc.at (i := i) (hws.le le17) (by simp only [strs_length]; omega) (by omega)
   refine Ops.q rfl (qindexS u22 sz9 rfl e36 rfl l36) <| .q rfl (qloadAt ag9 rfl rfl g36 ((elt0 cs36).trans (strs_get (by omega)))) <| .q rfl (qassign rfl) <| .nil <| h35 _ _ <| .seq fun K37 h38 => .region <| .q rfl (qmove rfl) <| .q rfl (qfieldAddr fl24_0 sz3 (by decide) rfl) <| .q rfl (qloadAt ag3 rfl rfl h16 rfl) ?_
   refine Ops.l rfl (fun _ _ hk39 _ => vcallF rfl (s_R4IsWord (ws.getD i []) ((g)) A14 (by have := hwk (by omega); omega) hg) ?_)
   rintro v40 A41 ⟨rfl, rfl⟩
   refine hk39 _ _ <| .q rfl (qnotP rfl) <| .nil <| h38 _ _ <| .if rfl (fun p43 => ?_) (fun p43 => ?_)
   ·
    refine Run.seq fun K44 h45 => .region <| .q rfl (qassign rfl) <| .nil <| h45 _ _ <| .ret ?_
    repeat first | with_reducible refine thenQ_ret ?_ | with_reducible refine blockQ_ret ?_
    exact retQ rfl (⟨by first | (rw [chk_40 ‹_›]; rfl) | (rw [chk_41 (i := i) ‹¬ ¬ pcheck g l = 0› (by omega) ‹_›]; rfl) | (rw [chk_0n (i := i) ‹¬ ¬ pcheck g l = 0› (by omega) hw]; rfl), le17, wfq15⟩)
   ·
    refine Run.skip <| h33 _ _ <| .region <| .q rfl (qaddN (b := 1) rfl rfl (by omega)) <| .q rfl (qmove rfl) <| .nil ?_
    exact ⟨i + 1, EnvLe.cons rfl <| EnvLe.cons rfl <| EnvLe.cons rfl <| EnvLe.cons rfl <| EnvLe.cons rfl <| EnvLe.nil _, rfl, ⟨⟨by omega, fun j h => (Nat.lt_succ_iff_lt_or_eq.1 h).elim (hw j) (fun z => by subst z; exact Decidable.not_not.1 ‹_›)⟩, rfl⟩, (by (try dsimp only); omega)⟩
  ·
   refine Run.exit <| h22 _ _ <| .seq fun K46 h47 => .seq fun K48 h49 => .region <| .q rfl (qmove rfl) <| .q rfl (qlen u71 rfl) <| .q rfl (qmove rfl) <| .nil <| h49 _ _ ?_
   refine Run.block <| .loop (X := Nat) (fun k => [(3, .pointer (some ⟨b4, 0, none⟩)), (26, .slice none 0 0), (27, num ((0 : Nat) : Int)), (28, num ((k : Nat) : Int))]) (fun k B => (k ≤ 0) ∧ A.le B ∧ B.get b4 = some (.row true [num (g), u] 2)) (fun k => 0 - k) 0 (EnvLe.cons rfl <| EnvLe.cons rfl <| EnvLe.cons rfl <| EnvLe.cons rfl <| EnvLe.nil _) (⟨Nat.le_refl _, le17, h16⟩) ?_
   rintro k B51 ⟨hk, le50, hr_b450⟩
   refine Run.wf fun wf52 => .seq fun K53 h54 => .region <| .q rfl (qlssN (b := 0) rfl rfl) <| .nil <| h54 _ _ <| .seq fun K55 h56 => .if rfl (fun p57 => ?_) (fun p57 => ?_)
   ·
    refine Run.skip <| h56 _ _ <| .seq fun K58 h59 => .block <| .seq fun K60 h61 => ?_
    omega
   ·
    refine Run.exit <| h47 _ _ <| .seq fun K62 h63 => .region <| .q rfl (qassign rfl) <| .nil <| h63 _ _ <| .ret ?_
    repeat first | with_reducible refine thenQ_ret ?_ | with_reducible refine blockQ_ret ?_
    exact retQ rfl (⟨by first | (rw [chk_40 ‹_›]; rfl) | (rw [chk_41 (i := i) ‹¬ ¬ pcheck g l = 0› (by omega) ‹_›]; rfl) | (rw [chk_0n (i := i) ‹¬ ¬ pcheck g l = 0› (by omega) hw]; rfl), le50, wf52⟩)

theorem s_Apply (g : Int) (u : Value) (l : List (List UInt8)) (w : List UInt8) (mv : Value) (M : List MCell) (A : AH) (hp : pcheck g l = 0) (hw : wcheck g w = 0) (ht : TT l w) (hMn : M.length ≤ 100000000) (hu : Slc A 1 u (strs l)) (hm : Slc A 6 mv (mcells M)) : RetA Tryz.prog 22 #[.agg #[num (g), u], str (w), mv] A (fun v A1 => ∃ w2 e, v = .tuple #[str w2, num ((e : Nat) : Int)] ∧ A.le A1 ∧ A1.wf ∧ (e = 0 → wcheck g w2 = 0 ∧ TT l w2)) := by
 refine enterA (e := [(0, .agg #[num (g), u]), (1, str (w)), (2, mv)]) (args := [.agg #[num (g), u], str (w), mv]) Tryz.call22 Tryz.func22 rfl Tryz.results22 Tryz.ntmps22 rfl rfl rfl (fun wf => ?_)
 have le_ := AH.le.refl A
 have hwl := wcheck_len hw
 refine Run.seq fun K1 h2 => .region <| .l rfl (fun _ _ hk3 _ => wbox wf rfl rfl fun A5 b4 nb6 => ?_)
 have le7 := le_.trans nb6.le
 refine hk3 _ _ <| .q rfl (qassign rfl) <| .q rfl (qassign rfl) <| .nil <| h2 _ _ <| .seq fun K8 h9 => .seq fun K10 h11 => .region <| .q rfl (qloadAggAt ag24 sz24 rfl rfl nb6.get rfl) <| .q rfl (qmove rfl) ?_
 refine Ops.l rfl (fun _ _ hk12 _ => wbuildSlice (c := [str (w)]) nb6.wf rfl (buildSliceV_of u22 sz9 z9 rfl (by decide) (by decide) rfl) fun A14 b13 nb15 => ?_)
 have h16 := nb15.le.get _ _ nb6.get
 have le17 := le7.trans nb15.le
 refine hk12 _ _ <| .l rfl (fun _ _ hk18 _ => vcallF rfl (s_checked4n ((g)) u l (.slice (some ⟨b13, 0, none⟩) 1 1) ([w]) A14 (by have := (pcheck_zero hp).2.1; omega) (fun x hx => by have := ((pcheck_zero hp).2.2 x hx).1; omega) (by simp) (by simp; omega) (hu.le le17) (slc_row (n := 1) nb15.get rfl (Nat.le_refl _))) ?_)
 rintro v19 A20 ⟨rfl, leq21, wfq21⟩
 have h22 := leq21.get _ _ h16
 have le24 := le17.trans leq21
 refine hk18 _ _ <| .q rfl (qassign rfl) <| .nil <| h11 _ _ <| .seq fun K25 h26 => .region <| .q rfl (qmove rfl) <| .q rfl (qneqN (b := 0) rfl rfl) <| .nil <| h26 _ _ ?_
 refine Run.if rfl (fun p27 => ?_) (fun p27 => ?_)
 ·
  refine Run.seq fun K28 h29 => .region <| .q rfl (qmove rfl) <| .q rfl (qassign rfl) <| .q rfl (qassign rfl) <| .nil <| h29 _ _ <| .ret ?_
  repeat first | with_reducible refine thenQ_ret ?_ | with_reducible refine blockQ_ret ?_
  exact retQ rfl (⟨_, _, rfl, le24, wfq21, fun q => by first | exact absurd q ‹_› | cases q⟩)
 ·
  refine Run.skip <| h9 _ _ <| .seq fun K30 h31 => .seq fun K32 h33 => .region <| .q rfl (qmove rfl) <| .q rfl (qlenS (n := M.length) u49 rfl (hm.le le24) (by omega) (mcells_len _)) <| .q rfl (qgtrN (b := 100000) rfl rfl) <| .nil <| h33 _ _ ?_
  refine Run.if rfl (fun p34 => ?_) (fun p34 => ?_)
  ·
   refine Run.seq fun K35 h36 => .region <| .q rfl (qassign rfl) <| .q rfl (qassign rfl) <| .nil <| h36 _ _ <| .ret ?_
   repeat first | with_reducible refine thenQ_ret ?_ | with_reducible refine blockQ_ret ?_
   exact retQ rfl (⟨_, _, rfl, le24, wfq21, fun q => by first | exact absurd q ‹_› | cases q⟩)
  ·
   refine Run.skip <| h31 _ _ <| .seq fun K37 h38 => .seq fun K39 h40 => .region <| .q rfl (qmove rfl) <| .q rfl (qlenS (n := M.length) u49 rfl (hm.le le24) (by omega) (mcells_len _)) <| .q rfl (qmove rfl) <| .nil <| h40 _ _ ?_
   refine Run.block <| .loop (X := Nat × List UInt8) (fun ⟨k, x⟩ => [(1, str (x)), (3, .pointer (some ⟨b4, 0, none⟩)), (23, mv), (24, num ((M.length : Nat) : Int)), (25, num ((k : Nat) : Int))]) (fun ⟨k, x⟩ B => (k ≤ M.length ∧ wcheck g x = 0 ∧ TT l x) ∧ A.le B ∧ B.get b4 = some (.row true [num (g), u] 2)) (fun ⟨k, x⟩ => M.length - k) (⟨0, w⟩) (EnvLe.cons rfl <| EnvLe.cons rfl <| EnvLe.cons rfl <| EnvLe.cons rfl <| EnvLe.cons rfl <| EnvLe.nil _) (⟨⟨Nat.zero_le _, hw, ht⟩, le24, h22⟩) ?_
   rintro ⟨k, x⟩ B42 ⟨⟨hk, hxw, hxt⟩, le41, hr_b441⟩
   refine Run.wf fun wf43 => .seq fun K44 h45 => .region <| .q rfl (qlssN rfl rfl) <| .nil <| h45 _ _ <| .seq fun K46 h47 => .if rfl (fun p48 => ?_) (fun p48 => ?_)
   ·
    refine Run.skip <| h47 _ _ <| .seq fun K49 h50 => .block <| .seq fun K51 h52 => .region ?_
    obtain ⟨b53, f53, rw53, r53, rc53, n53, k53, e53, l53, g53, cl53, cs53⟩ := Slc.at (i := k) (hm.le le41) (by simp only [mcells_length]; omega) (by omega)
    refine Ops.q rfl (qindexS u49 sz83 rfl e53 rfl l53) <| .q rfl (qloadAggAt ag83 sz83 rfl rfl g53 (cl53.trans (congrArg some (mcells_at (by omega))))) <| .l rfl (fun _ _ hk54 _ => walloc wf43 z83 rfl fun A56 b55 nb57 => ?_)
    have ne_b4_b55 := ne_new wf43 hr_b441 nb57.lo
    have ge_b55 := none_of wf (Nat.le_trans le41.n nb57.lo)
    have h58 := nb57.le.get _ _ hr_b441
    have le59 := le41.trans nb57.le
    refine hk54 _ _ <| .l rfl (fun _ _ hk60 _ => wstore (cs := [num ((M.getD k .zero).kind), num ((M.getD k .zero).at_), num ((M.getD k .zero).letter), num ((M.getD k .zero).rel), num ((M.getD k .zero).shift), .bool ((M.getD k .zero).inv)]) (c' := [num ((M.getD k .zero).kind), num ((M.getD k .zero).at_), num ((M.getD k .zero).letter), num ((M.getD k .zero).rel), num ((M.getD k .zero).shift), .bool ((M.getD k .zero).inv)]) nb57.wf rfl rfl rfl rfl sz83 nb57.get (Nat.le_of_ble_eq_true rfl) rfl rfl fun A61 sb62 => ?_)
    have h63 := sb62.keep _ _ ne_b4_b55 h58
    have le64 := le_store le59 wf ge_b55 sb62.n sb62.keep
    refine hk60 _ _ <| .nil <| h52 _ _ <| .seq fun K65 h66 => .region <| .q rfl (qloadAggAt ag24 sz24 rfl rfl h63 rfl) <| .q rfl (qmove rfl) <| .q rfl (qloadAggAt ag83 sz83 rfl rfl sb62.get rfl) <| .l rfl (fun _ _ hk67 _ => vcallF rfl (s_plain ((g)) u l x ((M.getD k .zero).kind) ((M.getD k .zero).at_) ((M.getD k .zero).letter) ((M.getD k .zero).rel) ((M.getD k .zero).shift) ((M.getD k .zero).inv) A61 hp hxw hxt (hu.le le64)) ?_)
    rintro v68 A69 ⟨wq70, okq70, rfl, leq70, wfq70, hplq70⟩
    have h71 := leq70.get _ _ h63
    have le73 := le64.trans leq70
    have hpl := hplq70
    refine hk67 _ _ <| .q rfl (qmove rfl) <| .q rfl (qextract rfl rfl) <| .q rfl (qextract rfl rfl) <| .q rfl (qassign rfl) <| .q rfl (qassign rfl) <| .nil <| h66 _ _ <| .seq fun K74 h75 => .seq fun K76 h77 => ?_
    refine Run.region <| .q rfl (qmove rfl) <| .q rfl (qnot rfl) <| .q rfl (qmove rfl) <| .partB (t := 38) rfl (fun p78 => ?_) (fun p78 => ?_)
    ·
     refine Ops.off rfl rfl rfl rfl <| .off rfl rfl rfl rfl <| .off rfl rfl rfl rfl <| .q rfl (qpickT rfl rfl) <| .nil <| h77 _ _ <| .cond_true rfl <| .seq fun K79 h80 => .region <| .q rfl (qassign rfl) ?_
     refine Ops.q rfl (qassign rfl) <| .nil <| h80 _ _ <| .ret ?_
     repeat first | with_reducible refine thenQ_ret ?_ | with_reducible refine blockQ_ret ?_
     exact retQ rfl (⟨_, _, rfl, le73, wfq70, fun q => by first | exact absurd q ‹_› | cases q⟩)
    ·
     refine Ops.on rfl rfl <| .q rfl (qmove rfl) <| .on rfl rfl <| .q rfl (qslen u9 rfl) <| .on rfl rfl <| .q rfl (qgtrN (b := 100000) rfl rfl) <| .q rfl (qpickF rfl rfl) <| .nil <| h77 _ _ <| .if rfl (fun p81 => ?_) (fun p81 => ?_)
     ·
      refine Run.seq fun K82 h83 => .region <| .q rfl (qassign rfl) <| .q rfl (qassign rfl) <| .nil <| h83 _ _ <| .ret ?_
      repeat first | with_reducible refine thenQ_ret ?_ | with_reducible refine blockQ_ret ?_
      exact retQ rfl (⟨_, _, rfl, le73, wfq70, fun q => by first | exact absurd q ‹_› | cases q⟩)
     ·
      refine Run.skip <| h75 _ _ <| .region <| .q rfl (qmove rfl) <| .q rfl (qassign rfl) <| .nil <| h50 _ _ <| .region <| .q rfl (qaddN (b := 1) rfl rfl (by omega)) <| .q rfl (qmove rfl) ?_
      refine Ops.nil ?_
      exact ⟨⟨k + 1, wq70⟩, EnvLe.cons rfl <| EnvLe.cons rfl <| EnvLe.cons rfl <| EnvLe.cons rfl <| EnvLe.cons rfl <| EnvLe.nil _, rfl, ⟨⟨by omega, gw_of hxw (hpl (by simpa using ‹(!_) = false›)).2 (by omega), (hpl (by simpa using ‹(!_) = false›)).1⟩, le73, h71⟩, (by (try dsimp only); omega)⟩
   ·
    refine Run.exit <| h38 _ _ <| .seq fun K84 h85 => .region <| .q rfl (qmove rfl) <| .q rfl (qassign rfl) <| .q rfl (qassign rfl) <| .nil <| h85 _ _ <| .ret ?_
    repeat first | with_reducible refine thenQ_ret ?_ | with_reducible refine blockQ_ret ?_
    exact retQ rfl (⟨_, _, rfl, le41, wf43, fun _ => ⟨hxw, hxt⟩⟩)

theorem s_ShG {g : Int} {u : Value} {l : List (List UInt8)} {w : List UInt8} {A : AH} (hn : l.length ≤ 1000000) (hL : Lets A) (hu : Slc A 1 u (strs l)) (hv : rVerified g l = 0) (hw : w.all (okc g) = true) (hl : w.length ≤ 400) (ht : TT l w) : RetA Tryz.prog 11 #[.agg #[num g, u], str w] A (fun v A1 => ∃ (n : Nat) (d : List DCell) (dv : Value), v = .tuple #[.agg #[str [], num ((n : Nat) : Int), dv], num ((0 : Nat) : Int)] ∧ A.le A1 ∧ A1.wf ∧ Fresh A A1 dv 3 (dcells d)) :=
  (s_Sh g u l w A hn hL (by omega) hu).mono fun v A1 h => by
    obtain ⟨W, d, c, dv, e1, e2, e3, e4, e5⟩ := h
    obtain ⟨rfl, rfl⟩ := sh_green e5 hv hw hl ht
    exact ⟨_, d, dv, e1, e2, e3, e4⟩
theorem s_TrG {g : Int} {u : Value} {l : List (List UInt8)} {w : List UInt8} {A : AH} (hn : l.length ≤ 1000000) (hL : Lets A) (hu : Slc A 1 u (strs l)) (hv : rVerified g l = 0) (hw : w.all (okc g) = true) (hl : w.length ≤ 400) (ht : TT l w) : RetA Tryz.prog 16 #[.agg #[num g, u], str w] A (fun v A1 => ∃ (d : List DCell) (dv : Value), v = .tuple #[.bool true, dv, num ((0 : Nat) : Int)] ∧ A.le A1 ∧ A1.wf ∧ Fresh A A1 dv 3 (dcells d) ∧ (proves g l d w = 0 ∧ conjs d ≤ 1000000 ∧ d.length ≤ 100000)) :=
  (s_Tr g u l w A hn hL (by omega) hu).mono fun v A1 h => by
    obtain ⟨b, d, c, dv, e1, e2, e3, e4, e5⟩ := h
    obtain ⟨rfl, rfl, hp⟩ := tr_green e5 hv hw hl ht
    exact ⟨d, dv, e1, e2, e3, e4, hp⟩


theorem s_PvC {g : Int} {u : Value} {l : List (List UInt8)} {dv : Value} {d : List DCell} {w : List UInt8} {A : AH} (e : proves g l d w = 0) (hn : l.length ≤ 8) (hll : ∀ x ∈ l, x.length ≤ 40) (hw : w.length ≤ 100000000) (hdn : d.length ≤ 100000000) (hcn : conjs d ≤ 100000000) (hu : Slc A 1 u (strs l)) (hv : Slc A 3 dv (dcells d)) : RetA Tryz.prog 17 #[.agg #[num g, u], dv, str w] A (fun v A1 => v = num ((0 : Nat) : Int) ∧ A.le A1 ∧ A1.wf) :=
  (s_Proves g u l dv d w A (by omega) (fun x hx => by have := hll x hx; omega) hw hdn hcn hu hv).mono fun v A1 h => by rw [e] at h; exact h


theorem s_DehnGreen (g : Int) (u : Value) (l : List (List UInt8)) (mv : Value) (M : List MCell) (dv : Value) (d : List DCell) (A : AH) (hn : l.length ≤ 9223372036854775807) (hMn : M.length ≤ 9223372036854775807) (hdn : d.length ≤ 9223372036854775807) (hcl : ∀ c ∈ d, c.conj.length ≤ 9223372036854775807) (hL : Lets A) (hu : Slc A 1 u (strs l)) (hm : Slc A 6 mv (mcells M)) (hv : Slc A 3 dv (dcells d)) : RetA Tryz.prog 6 #[.agg #[num (g), u], mv, dv] A (fun v A1 => v = .bool true ∧ A.le A1 ∧ A1.wf) := by
 refine enterA (e := [(0, .agg #[num (g), u]), (1, mv), (2, dv)]) (args := [.agg #[num (g), u], mv, dv]) Tryz.call6 Tryz.func6 rfl Tryz.results6 Tryz.ntmps6 rfl rfl rfl (fun wf => ?_)
 have le_ := AH.le.refl A
 refine Run.seq fun K1 h2 => .region <| .l rfl (fun _ _ hk3 _ => wbox wf rfl rfl fun A5 b4 nb6 => ?_)
 have le7 := le_.trans nb6.le
 refine hk3 _ _ <| .q rfl (qassign rfl) <| .nil <| h2 _ _ <| .seq fun K8 h9 => .seq fun K10 h11 => .region <| .l rfl (fun _ _ hk12 _ => vcallF rfl (s_sane A5 (hL.le le7)) ?_)
 rintro v13 A14 ⟨rfl, leq15, wfq15⟩
 have h16 := leq15.get _ _ nb6.get
 have le17 := le7.trans leq15
 refine hk12 _ _ <| .q rfl (qnot rfl) <| .nil <| h11 _ _ <| .cond_false rfl <| .skip <| h9 _ _ <| .seq fun K18 h19 => .seq fun K20 h21 => .region ?_
 refine Ops.q rfl (qloadAggAt ag24 sz24 rfl rfl h16 rfl) <| .l rfl (fun _ _ hk22 _ => vcallF rfl (s_small ((g)) u l (.slice none 0 0) ([]) A14 (by omega) (by first | omega | simp) (hu.le le17) (Fresh.nil A A14 1).slc) ?_)
 rintro v23 A24 ⟨rfl, leq25, wfq25⟩
 have h26 := leq25.get _ _ h16
 have le27 := le17.trans leq25
 refine hk22 _ _ <| .q rfl (qnot rfl) <| .q rfl (qmove rfl) <| .partB (t := 26) rfl (fun p28 => ?_) (fun p28 => ?_)
 ·
  refine Ops.off rfl rfl rfl rfl <| .off rfl rfl rfl rfl <| .off rfl rfl rfl rfl <| .q rfl (qpickT rfl rfl) <| .q rfl (qmove rfl) <| .off rfl rfl rfl rfl <| .off rfl rfl rfl rfl <| .off rfl rfl rfl rfl <| .q rfl (qpickT rfl rfl) <| .q rfl (qmove rfl) ?_
  refine Ops.off rfl rfl rfl rfl <| .off rfl rfl rfl rfl <| .off rfl rfl rfl rfl <| .q rfl (qpickT rfl rfl) <| .nil <| h21 _ _ <| .cond_true rfl <| .seq fun K29 h30 => .region <| .l rfl (fun _ _ hk31 _ => vcallF rfl (s_sane A24 (hL.le le27)) ?_)
  rintro v32 A33 ⟨rfl, leq34, wfq34⟩
  have le36 := le27.trans leq34
  refine hk31 _ _ <| .q rfl (qassign rfl) <| .nil <| h30 _ _ <| .ret ?_
  repeat first | with_reducible refine thenQ_ret ?_ | with_reducible refine blockQ_ret ?_
  exact retQ rfl (⟨rfl, le36, wfq34⟩)
 ·
  refine Ops.on rfl rfl <| .q rfl (qloadAggAt ag24 sz24 rfl rfl h26 rfl) <| .on rfl rfl <| .l rfl (fun _ _ hk37 _ => vcallF rfl (s_Ve2 (g := (g)) (by have := (small_len (l := l) (ws := []) (by simpa using ‹(!small l []) = false›)).1; omega) (hL.le le27) (hu.le le27)) ?_)
  rintro v38 A39 ⟨rfl, leq40, wfq40⟩
  have h41 := leq40.get _ _ h26
  have le42 := le27.trans leq40
  refine hk37 _ _ <| .on rfl rfl <| .q rfl (qneqN (b := 0) rfl rfl) <| .q rfl (qpickF rfl rfl) <| .q rfl (qmove rfl) <| .part (t := 31) rfl (fun p43 => ?_) (fun p43 => ?_)
  ·
   refine Ops.off rfl rfl rfl rfl <| .off rfl rfl rfl rfl <| .off rfl rfl rfl rfl <| .q rfl (qpickT rfl rfl) <| .q rfl (qmove rfl) <| .off rfl rfl rfl rfl <| .off rfl rfl rfl rfl <| .off rfl rfl rfl rfl <| .q rfl (qpickT rfl rfl) <| .nil ?_
   refine h21 _ _ <| .cond_true rfl <| .seq fun K44 h45 => .region <| .l rfl (fun _ _ hk46 _ => vcallF rfl (s_sane A39 (hL.le le42)) ?_)
   rintro v47 A48 ⟨rfl, leq49, wfq49⟩
   have le51 := le42.trans leq49
   refine hk46 _ _ <| .q rfl (qassign rfl) <| .nil <| h45 _ _ <| .ret ?_
   repeat first | with_reducible refine thenQ_ret ?_ | with_reducible refine blockQ_ret ?_
   exact retQ rfl (⟨rfl, le51, wfq49⟩)
  ·
   refine Ops.on rfl rfl <| .q rfl (qmove rfl) <| .on rfl rfl <| .q rfl (qlenS (n := M.length) u49 rfl (hm.le le42) (by omega) (mcells_len _)) <| .on rfl rfl <| .q rfl (qgtrN (b := 100) rfl rfl) <| .q rfl (qpickF rfl rfl) <| .q rfl (qmove rfl) <| .part (t := 36) rfl (fun p52 => ?_) (fun p52 => ?_)
   ·
    refine Ops.off rfl rfl rfl rfl <| .off rfl rfl rfl rfl <| .off rfl rfl rfl rfl <| .q rfl (qpickT rfl rfl) <| .nil <| h21 _ _ <| .cond_true rfl <| .seq fun K53 h54 => .region <| .l rfl (fun _ _ hk55 _ => vcallF rfl (s_sane A39 (hL.le le42)) ?_)
    rintro v56 A57 ⟨rfl, leq58, wfq58⟩
    have le60 := le42.trans leq58
    refine hk55 _ _ <| .q rfl (qassign rfl) <| .nil <| h54 _ _ <| .ret ?_
    repeat first | with_reducible refine thenQ_ret ?_ | with_reducible refine blockQ_ret ?_
    exact retQ rfl (⟨rfl, le60, wfq58⟩)
   ·
    refine Ops.on rfl rfl <| .q rfl (qmove rfl) <| .on rfl rfl <| .q rfl (qlenS (n := d.length) u34 rfl (hv.le le42) (by omega) (dcells_len _)) <| .on rfl rfl <| .q rfl (qgtrN (b := 20) rfl rfl) <| .q rfl (qpickF rfl rfl) <| .nil <| h21 _ _ <| .if rfl (fun p61 => ?_) (fun p61 => ?_)
    ·
     refine Run.seq fun K62 h63 => .region <| .l rfl (fun _ _ hk64 _ => vcallF rfl (s_sane A39 (hL.le le42)) ?_)
     rintro v65 A66 ⟨rfl, leq67, wfq67⟩
     have le69 := le42.trans leq67
     refine hk64 _ _ <| .q rfl (qassign rfl) <| .nil <| h63 _ _ <| .ret ?_
     repeat first | with_reducible refine thenQ_ret ?_ | with_reducible refine blockQ_ret ?_
     exact retQ rfl (⟨rfl, le69, wfq67⟩)
    ·
     refine Run.skip <| h19 _ _ <| .seq fun K70 h71 => ?_
     have hsl := small_len (l := l) (ws := []) (by simpa using ‹(!small l []) = false›)
     have hl8 := hsl.1
     have hv0 := Decidable.not_not.1 ‹¬ ¬ rVerified (g) l = 0›
     have hp := (verified_dehn hv0).1
     refine Run.region <| .q rfl (qassign rfl) <| .nil <| h71 _ _ <| .join (fun f B => ∃ z : List (List UInt8) × Value, (fun ⟨ls, sv⟩ => EnvLe [(0, .agg #[num (g), u]), (1, mv), (2, dv), (3, .pointer (some ⟨b4, 0, none⟩)), (6, .bool (false)), (7, sv), (21, .bool (true)), (22, .bool (false)), (23, .agg #[num (g), u]), (24, .bool (small l ([]))), (25, .bool (!(small l ([])))), (26, .bool (false)), (27, .agg #[num (g), u]), (28, num ((rVerified ((g)) l : Nat) : Int)), (29, .bool (decide (¬ rVerified ((g)) l = 0))), (30, .bool (decide (¬ rVerified ((g)) l = 0))), (31, .bool (false)), (32, mv), (33, num ((M.length : Nat) : Int)), (34, .bool (decide (100 < M.length))), (35, .bool (decide (100 < M.length))), (36, .bool (false)), (37, dv), (38, num ((d.length : Nat) : Int)), (39, .bool (decide (20 < d.length))), (40, .bool (decide (20 < d.length)))] f.e ∧ f.ds = [] ∧ (ls.length ≤ 1 ∧ ∀ x ∈ ls, x.all (okc g) = true ∧ TT l x) ∧ A.le B ∧ Fresh A B sv 1 (strs ls) ∧ B.get b4 = some (.row true [num (g), u] 2) ∧ V.blk sv ≠ some b4) z) ?_ ?_
     ·
      refine Run.seq fun K75 h76 => .region <| .q rfl (qloadAggAt ag24 sz24 rfl rfl h41 rfl) <| .q rfl (qmove rfl) <| .l rfl (fun _ _ hk77 _ => vcallF rfl (s_Apply ((g)) u l [] mv M A39 hp (wcheck_nil hp) Green.T.nil (by omega) (hu.le le42) (hm.le le42)) ?_)
      rintro v78 A79 ⟨wq80, eq80, rfl, leq80, wfq80, hapq80⟩
      have h81 := leq80.get _ _ h41
      have le82 := le42.trans leq80
      have hap := hapq80
      refine hk77 _ _ <| .q rfl (qmove rfl) <| .q rfl (qextract rfl rfl) <| .q rfl (qextract rfl rfl) <| .q rfl (qassign rfl) <| .q rfl (qassign rfl) <| .nil <| h76 _ _ <| .seq fun K83 h84 => .region ?_
      refine Ops.q rfl (qmove rfl) <| .q rfl (qeqlN (b := 0) rfl rfl) <| .nil <| h84 _ _ <| .if rfl (fun p85 => ?_) (fun p85 => ?_)
      ·
       refine Run.region <| .q rfl (qmove rfl) <| .q rfl (qmove rfl) <| .l rfl (fun _ _ hk86 _ => wbuildSlice (c := [str (wq80)]) wfq80 rfl (buildSliceV_of u22 sz9 z9 rfl (by decide) (by decide) rfl) fun A88 b87 nb89 => ?_)
       have h90 := nb89.le.get _ _ h81
       have le91 := le82.trans nb89.le
       refine hk86 _ _ <| .l rfl (fun _ _ hk92 _ => wappend (ys := [str (wq80)]) rfl rfl u22 sz9 inf9 z9 rfl (by decide) u22 (fun _ h => by cases h) (Fresh.nil A A88 1).own (listOf_row (n := 1) nb89.get rfl) rfl rfl (by show (_ + _) * 16 ≤ _; simp only [strs_length, List.length_cons, List.length_nil]; (try simp only [List.length_append, List.length_cons, List.length_nil]); omega) (by simp only [strs_length, List.length_cons, List.length_nil]; (try simp only [List.length_append, List.length_cons, List.length_nil]); omega) fun A93 v94 ap95 => ?_)
       rw [show ([str (wq80)] : List Value) = strs [wq80] from rfl] at ap95
       have ap95x : Appd A88 (.slice none 0 0) 1 (strs ([wq80])) v94 A93 := ap95
       obtain ⟨fr98, le99⟩ := Fresh.grow (Fresh.nil A A88 1) le91 wf ap95x
       have h100 := ap95x.keep (fun q => by cases q) h90
       have ne101 := ap95x.ne (fun q => by cases q) nb89.wf h90
       refine hk92 _ _ <| .q rfl (qassign rfl) <| .nil ?_
       exact ⟨⟨[wq80], v94⟩, EnvLe.cons rfl <| EnvLe.cons rfl <| EnvLe.cons rfl <| EnvLe.cons rfl <| EnvLe.cons rfl <| EnvLe.cons rfl <| EnvLe.cons rfl <| EnvLe.cons rfl <| EnvLe.cons rfl <| EnvLe.cons rfl <| EnvLe.cons rfl <| EnvLe.cons rfl <| EnvLe.cons rfl <| EnvLe.cons rfl <| EnvLe.cons rfl <| EnvLe.cons rfl <| EnvLe.cons rfl <| EnvLe.cons rfl <| EnvLe.cons rfl <| EnvLe.cons rfl <| EnvLe.cons rfl <| EnvLe.cons rfl <| EnvLe.cons rfl <| EnvLe.cons rfl <| EnvLe.cons rfl <| EnvLe.cons rfl <| EnvLe.nil _, rfl, ⟨(by first | exact ⟨Nat.le_refl 1, fun x hx => by obtain rfl := List.mem_singleton.1 hx; have q := hap (by assumption); exact ⟨(all_wcheck q.1).2.2, q.2⟩⟩ | exact ⟨Nat.zero_le 1, fun x hx => by cases hx⟩), le99, fr98, h100, ne101⟩⟩
      ·
       refine Run.skip ?_
       exact ⟨⟨[], .slice none 0 0⟩, EnvLe.cons rfl <| EnvLe.cons rfl <| EnvLe.cons rfl <| EnvLe.cons rfl <| EnvLe.cons rfl <| EnvLe.cons rfl <| EnvLe.cons rfl <| EnvLe.cons rfl <| EnvLe.cons rfl <| EnvLe.cons rfl <| EnvLe.cons rfl <| EnvLe.cons rfl <| EnvLe.cons rfl <| EnvLe.cons rfl <| EnvLe.cons rfl <| EnvLe.cons rfl <| EnvLe.cons rfl <| EnvLe.cons rfl <| EnvLe.cons rfl <| EnvLe.cons rfl <| EnvLe.cons rfl <| EnvLe.cons rfl <| EnvLe.cons rfl <| EnvLe.cons rfl <| EnvLe.cons rfl <| EnvLe.cons rfl <| EnvLe.nil _, rfl, ⟨(by first | exact ⟨Nat.le_refl 1, fun x hx => by obtain rfl := List.mem_singleton.1 hx; have q := hap (by assumption); exact ⟨(all_wcheck q.1).2.2, q.2⟩⟩ | exact ⟨Nat.zero_le 1, fun x hx => by cases hx⟩), le82, (Fresh.nil A A79 1), h81, (fun q => by cases q)⟩⟩
     ·
      rintro ⟨fe, fd⟩ B102 ⟨⟨ls, sv⟩, hE, rfl, ⟨⟨hln, hls⟩, le74, fr_sv74, hr_b474, no_sv_b474⟩⟩
      refine Run.forget hE <| .wf fun wf103 => .join (fun f B => ∃ z : List (List UInt8) × Value, (fun ⟨ls2, sv2⟩ => EnvLe [(0, .agg #[num (g), u]), (1, mv), (2, dv), (3, .pointer (some ⟨b4, 0, none⟩)), (6, .bool (false)), (7, sv2), (21, .bool (true)), (22, .bool (false)), (23, .agg #[num (g), u]), (24, .bool (small l ([]))), (25, .bool (!(small l ([])))), (26, .bool (false)), (27, .agg #[num (g), u]), (28, num ((rVerified ((g)) l : Nat) : Int)), (29, .bool (decide (¬ rVerified ((g)) l = 0))), (30, .bool (decide (¬ rVerified ((g)) l = 0))), (31, .bool (false)), (32, mv), (33, num ((M.length : Nat) : Int)), (34, .bool (decide (100 < M.length))), (35, .bool (decide (100 < M.length))), (36, .bool (false)), (37, dv), (38, num ((d.length : Nat) : Int)), (39, .bool (decide (20 < d.length))), (40, .bool (decide (20 < d.length)))] f.e ∧ f.ds = [] ∧ (ls2.length ≤ 2 ∧ ∀ x ∈ ls2, x.all (okc g) = true ∧ TT l x) ∧ A.le B ∧ Fresh A B sv2 1 (strs ls2) ∧ B.get b4 = some (.row true [num (g), u] 2) ∧ V.blk sv2 ≠ some b4) z) ?_ ?_
      ·
       refine Run.seq fun K107 h108 => .region <| .q rfl (qloadAggAt ag24 sz24 rfl rfl hr_b474 rfl) <| .q rfl (qmove rfl) <| .l rfl (fun _ _ hk109 _ => vcallF rfl (s_Boundary ((g)) u l dv d B102 (by omega) (fun x hx => by have := hsl.2.1 x hx; omega) (by omega) hcl (hu.le le74) (hv.le le74)) ?_)
       rintro v110 A111 ⟨rfl, leq112, wfq112⟩
       have h113 := leq112.get _ _ hr_b474
       have fr114 := fr_sv74.le leq112
       have le115 := le74.trans leq112
       refine hk109 _ _ <| .q rfl (qmove rfl) <| .q rfl (qextract rfl rfl) <| .q rfl (qextract rfl rfl) <| .q rfl (qassign rfl) <| .q rfl (qassign rfl) <| .nil <| h108 _ _ <| .seq fun K116 h117 => .region ?_
       refine Ops.q rfl (qmove rfl) <| .q rfl (qeqlN (b := 0) rfl rfl) <| .nil <| h117 _ _ <| .if rfl (fun p118 => ?_) (fun p118 => ?_)
       ·
        refine Run.region <| .q rfl (qmove rfl) <| .q rfl (qmove rfl) <| .l rfl (fun _ _ hk119 _ => wbuildSlice (c := [str ((bndary (g) l d).1)]) wfq112 rfl (buildSliceV_of u22 sz9 z9 rfl (by decide) (by decide) rfl) fun A121 b120 nb122 => ?_)
        have h124 := nb122.le.get _ _ h113
        have fr125 := fr114.le nb122.le
        have le126 := le115.trans nb122.le
        refine hk119 _ _ <| .l rfl (fun _ _ hk127 _ => wappend (ys := [str ((bndary (g) l d).1)]) rfl rfl u22 sz9 inf9 z9 rfl (by decide) u22 (fun _ h => by cases h) fr125.own (listOf_row (n := 1) nb122.get rfl) rfl rfl (by show (_ + _) * 16 ≤ _; simp only [strs_length, List.length_cons, List.length_nil]; (try simp only [List.length_append, List.length_cons, List.length_nil]); omega) (by simp only [strs_length, List.length_cons, List.length_nil]; (try simp only [List.length_append, List.length_cons, List.length_nil]); omega) fun A128 v129 ap130 => ?_)
        rw [show ([str ((bndary (g) l d).1)] : List Value) = strs [(bndary (g) l d).1] from rfl, strs_append] at ap130
        obtain ⟨fr133, le134⟩ := Fresh.grow fr125 le126 wf ap130
        have h135 := ap130.keep no_sv_b474 h124
        have ne136 := ap130.ne no_sv_b474 nb122.wf h124
        refine hk127 _ _ <| .q rfl (qassign rfl) <| .nil ?_
        exact ⟨⟨ls ++ [(bndary (g) l d).1], v129⟩, EnvLe.cons rfl <| EnvLe.cons rfl <| EnvLe.cons rfl <| EnvLe.cons rfl <| EnvLe.cons rfl <| EnvLe.cons rfl <| EnvLe.cons rfl <| EnvLe.cons rfl <| EnvLe.cons rfl <| EnvLe.cons rfl <| EnvLe.cons rfl <| EnvLe.cons rfl <| EnvLe.cons rfl <| EnvLe.cons rfl <| EnvLe.cons rfl <| EnvLe.cons rfl <| EnvLe.cons rfl <| EnvLe.cons rfl <| EnvLe.cons rfl <| EnvLe.cons rfl <| EnvLe.cons rfl <| EnvLe.cons rfl <| EnvLe.cons rfl <| EnvLe.cons rfl <| EnvLe.cons rfl <| EnvLe.cons rfl <| EnvLe.nil _, rfl, ⟨(by first | exact ⟨by omega, hls⟩ | exact ⟨by simp only [List.length_append, List.length_cons, List.length_nil]; omega, fun x hx => (List.mem_append.1 hx).elim (hls x) (fun q => by obtain rfl := List.mem_singleton.1 q; exact bndary_ok (by assumption))⟩), le134, fr133, h135, ne136⟩⟩
       ·
        refine Run.skip ?_
        exact ⟨⟨ls, sv⟩, EnvLe.cons rfl <| EnvLe.cons rfl <| EnvLe.cons rfl <| EnvLe.cons rfl <| EnvLe.cons rfl <| EnvLe.cons rfl <| EnvLe.cons rfl <| EnvLe.cons rfl <| EnvLe.cons rfl <| EnvLe.cons rfl <| EnvLe.cons rfl <| EnvLe.cons rfl <| EnvLe.cons rfl <| EnvLe.cons rfl <| EnvLe.cons rfl <| EnvLe.cons rfl <| EnvLe.cons rfl <| EnvLe.cons rfl <| EnvLe.cons rfl <| EnvLe.cons rfl <| EnvLe.cons rfl <| EnvLe.cons rfl <| EnvLe.cons rfl <| EnvLe.cons rfl <| EnvLe.cons rfl <| EnvLe.cons rfl <| EnvLe.nil _, rfl, ⟨(by first | exact ⟨by omega, hls⟩ | exact ⟨by simp only [List.length_append, List.length_cons, List.length_nil]; omega, fun x hx => (List.mem_append.1 hx).elim (hls x) (fun q => by obtain rfl := List.mem_singleton.1 q; exact bndary_ok (by assumption))⟩), le115, fr114, h113, no_sv_b474⟩⟩
      ·
       rintro ⟨fe, fd⟩ B137 ⟨⟨ls2, sv2⟩, hE, rfl, ⟨⟨hln2, hls2⟩, le106, fr_sv2106, hr_b4106, no_sv2_b4106⟩⟩
       refine Run.forget hE <| .wf fun wf138 => .seq fun K139 h140 => .seq fun K141 h142 => .region <| .q rfl (qassign rfl) <| .nil <| h142 _ _ <| .block <| .loop (X := Nat) (fun i => [(3, .pointer (some ⟨b4, 0, none⟩)), (7, sv2), (12, num ((i : Nat) : Int))]) (fun i B => (i ≤ ls2.length) ∧ A.le B ∧ Fresh A B sv2 1 (strs ls2) ∧ B.get b4 = some (.row true [num (g), u] 2) ∧ V.blk sv2 ≠ some b4) (fun i => ls2.length - i) 0 (EnvLe.cons rfl <| EnvLe.cons rfl <| EnvLe.cons rfl <| EnvLe.nil _) (⟨Nat.zero_le _, le106, fr_sv2106, hr_b4106, no_sv2_b4106⟩) ?_
       rintro i B144 ⟨hi, le143, fk_wsv2143, hr_b4143, no_wsv2_b4143⟩
       refine Run.wf fun wf145 => ?_
       have hx := fun q : i < ls2.length => hls2 _ (getD_mem (d := []) q)
       refine Run.seq fun K146 h147 => .seq fun K148 h149 => .region <| .q rfl (qmove rfl) <| .q rfl (qmove rfl) <| .q rfl (qlenS (n := ls2.length) u22 rfl fk_wsv2143.slc (by omega) (strs_len _)) <| .q rfl (qlssN rfl rfl) <| .nil <| h149 _ _ <| .if rfl (fun p150 => ?_) (fun p150 => ?_)
       ·
        refine Run.skip <| h147 _ _ <| .seq fun K151 h152 => .block <| .seq fun K153 h154 => .seq fun K155 h156 => .region <| .q rfl (qmove rfl) <| .q rfl (qmove rfl) ?_
        obtain ⟨b157, f157, rw157, r157, rc157, n157, k157, e157, l157, g157, cl157, cs157⟩ := Slc.at (i := i) fk_wsv2143.slc (by simp only [strs_length]; omega) (by omega)
        refine Ops.q rfl (qindexS u22 sz9 rfl e157 rfl l157) <| .q rfl (qloadAt ag9 rfl rfl g157 ((elt0 cs157).trans (strs_get (by omega)))) <| .q rfl (qslen u9 rfl) <| .q rfl (qgtrN (b := 400) rfl rfl) <| .nil <| h156 _ _ <| .if rfl (fun p158 => ?_) (fun p158 => ?_)
        ·
         refine Run.exit <| h152 _ _ <| .region <| .q rfl (qmove rfl) <| .q rfl (qaddN (b := 1) rfl rfl (by omega)) <| .q rfl (qassign rfl) <| .nil ?_
         exact ⟨i + 1, EnvLe.cons rfl <| EnvLe.cons rfl <| EnvLe.cons rfl <| EnvLe.nil _, rfl, ⟨(by omega), le143, fk_wsv2143, hr_b4143, no_wsv2_b4143⟩, (by (try dsimp only); omega)⟩
        ·
         refine Run.skip <| h154 _ _ <| .seq fun K159 h160 => .drawnP [0, 1, 2, 3, 4] 5 9 [6, 7, 8, 9, 10, 11] [5, 6, 7, 8, 10, 11] mixed (by kernel_rfl) (by kernel_rfl) rfl ?_
         have hc161 := cellOf (off := 0) hr_b4143 (show _ = some (num (g)) from rfl)
         have hc162 := cellOf (off := 1) hr_b4143 (show _ = some (u) from rfl)
         refine DPair.q rfl rfl rfl (qloadAggAt ag24 sz24 rfl rfl hr_b4143 rfl) <| .q rfl rfl rfl (qmove rfl) <| .q rfl rfl rfl (qmove rfl) ?_
         obtain ⟨b163, f163, rw163, r163, rc163, n163, k163, e163, l163, g163, cl163, cs163⟩ := Slc.at (i := i) fk_wsv2143.slc (by simp only [strs_length]; omega) (by omega)
         refine DPair.q rfl rfl rfl (qindexS u22 sz9 rfl e163 rfl l163) ?_
         have hc164 := cellOf (off := f163 + i * 1) g163 ((elt0 cs163).trans (strs_get (by omega)))
         refine DPair.q rfl rfl rfl (qloadAt ag9 rfl rfl g163 ((elt0 cs163).trans (strs_get (by omega)))) <| .both rfl rfl rfl rfl rfl rfl ?_ ?_
         ·
          refine fun _ _ hk165 _ => vcallF rfl (s_ShG (g := (g)) (w := ls2.getD i []) (by omega) (hL.le le143) (hu.le le143) hv0 (hx (by omega)).1 (by omega) (hx (by omega)).2) ?_
          rintro v166 A167 ⟨nq168, dq168, dvq168, rfl, leq168, wfq168, frq168⟩
          have h169 := leq168.get _ _ hr_b4143
          have fr170 := fk_wsv2143.le leq168
          have le174 := le143.trans leq168
          have fr175 := frq168.base le143
          refine hk165 _ _ (HeldNow.none (by kernel_rfl)) <| .q rfl rfl rfl (qmove rfl) <| .q rfl rfl rfl (qextract rfl rfl) <| .q rfl rfl rfl (qextract rfl rfl) <| .l rfl rfl rfl (fun _ _ hk177 _ => walloc wfq168 z36 rfl fun A179 b178 nb180 => ?_)
          have ne_b4_b178 := ne_new wfq168 h169 nb180.lo
          have no181 := fr170.own.ne_new wfq168 nb180.lo
          have ge_b178 := none_of wf (Nat.le_trans le174.n nb180.lo)
          have h183 := nb180.le.get _ _ h169
          have fr184 := fr170.le nb180.le
          have fr185 := fr175.le nb180.le
          have le186 := le174.trans nb180.le
          refine hk177 _ _ (HeldNow.none (by kernel_rfl)) ?_
          obtain ⟨p188, l188, c188, q188, _⟩ := fr185.own.slice
          subst q188
          refine DOps.l rfl rfl rfl (fun _ _ hk187 _ => wstore (cs := [str ([]), num ((nq168 : Nat) : Int), .slice p188 l188 c188]) (c' := [str ([]), num ((nq168 : Nat) : Int), .slice p188 l188 c188]) nb180.wf rfl rfl rfl rfl sz36 nb180.get (Nat.le_of_ble_eq_true rfl) rfl rfl fun A189 sb190 => ?_)
          have h191 := sb190.keep _ _ ne_b4_b178 h183
          have fr192 := fr184.keep sb190.keep no181
          have le194 := le_store le186 wf ge_b178 sb190.n sb190.keep
          refine hk187 _ _ (HeldNow.none (by kernel_rfl)) <| .q rfl rfl rfl (qassign rfl) <| .done <| h160 _ _ <| .seq fun K195 h196 => .drawn [0, 1, 2, 3, 4, 5, 6, 7, 8, 9, 10, 11, 12] mixed (by kernel_rfl) (by kernel_rfl) rfl <| .q rfl rfl rfl (qloadAggAt ag24 sz24 rfl rfl h191 rfl) <| .q rfl rfl rfl (qmove rfl) <| .q rfl rfl rfl (qmove rfl) ?_
          obtain ⟨b199, f199, rw199, r199, rc199, n199, k199, e199, l199, g199, cl199, cs199⟩ := Slc.at (i := i) fr192.slc (by simp only [strs_length]; omega) (by omega)
          refine DOps.q rfl rfl rfl (qindexS u22 sz9 rfl e199 rfl l199) <| .q rfl rfl rfl (qloadAt ag9 rfl rfl g199 ((elt0 cs199).trans (strs_get (by omega)))) <| .l rfl rfl rfl (fun _ _ hk201 _ => vcallF rfl (s_TrG (g := (g)) (w := ls2.getD i []) (by omega) (hL.le le194) (hu.le le194) hv0 (hx (by omega)).1 (by omega) (hx (by omega)).2) ?_)
          rintro v202 A203 ⟨dq204, dvq204, rfl, leq204, wfq204, frq204, hpvq204⟩
          have h205 := leq204.get _ _ h191
          have h206 := leq204.get _ _ sb190.get
          have fr207 := fr192.le leq204
          have le212 := le194.trans leq204
          have fr213 := frq204.base le194
          have hpv := hpvq204
          refine hk201 _ _ (HeldNow.none (by kernel_rfl)) <| .q rfl rfl rfl (qmove rfl) <| .q rfl rfl rfl (qextract rfl rfl) <| .q rfl rfl rfl (qextract rfl rfl) <| .q rfl rfl rfl (qextract rfl rfl) <| .q rfl rfl rfl (qassign rfl) <| .q rfl rfl rfl (qassign rfl) <| .q rfl rfl rfl (qassign rfl) <| .done <| h196 _ _ ?_
          refine Run.seq fun K216 h217 => .seq fun K218 h219 => .drawn [0, 1, 2, 3, 4, 5, 6, 7, 8, 9, 10, 11, 12, 13, 14, 15, 16, 17, 18, 19, 20, 21, 22, 23, 24] mixed (by kernel_rfl) (by kernel_rfl) rfl <| .q rfl rfl rfl (qmove rfl) <| .q rfl rfl rfl (((qneqN (a := 0) (b := 0) rfl rfl).trans (congrArg (fun z => some (Value.bool z, [])) (decide_eq_false (fun q => q rfl))))) <| .q rfl rfl rfl (qmove rfl) <| .qOn rfl rfl rfl rfl rfl (qmove rfl) <| .qOn rfl rfl rfl rfl rfl (((qneqN (a := 0) (b := 0) rfl rfl).trans (congrArg (fun z => some (Value.bool z, [])) (decide_eq_false (fun q => q rfl))))) <| .q rfl rfl rfl (qpickF rfl rfl) <| .q rfl rfl rfl (qmove rfl) ?_
          refine DOps.qOn rfl rfl rfl rfl rfl (qfieldAddr fl36_0 sz9 (by decide) rfl) <| .qOn rfl rfl rfl rfl rfl (qloadAt ag9 rfl rfl h206 rfl) <| .qOn rfl rfl rfl rfl rfl (((qsneq rfl rfl).trans (congrArg (fun z => some (Value.bool z, [])) (decide_eq_false (fun q => q rfl))))) <| .q rfl rfl rfl (qpickF rfl rfl) <| .q rfl rfl rfl (qmove rfl) <| .qOn rfl rfl rfl rfl rfl (qmove rfl) <| .qOn rfl rfl rfl rfl rfl (qnot rfl) <| .q rfl rfl rfl (qpickF rfl rfl) <| .q rfl rfl rfl (qmove rfl) <| .qOn rfl rfl rfl rfl rfl (qloadAggAt ag24 sz24 rfl rfl h205 rfl) ?_
          refine DOps.qOn rfl rfl rfl rfl rfl (qmove rfl) <| .qOn rfl rfl rfl rfl rfl (qmove rfl) <| .qOn rfl rfl rfl rfl rfl (qmove rfl) ?_
          obtain ⟨b223, f223, rw223, r223, rc223, n223, k223, e223, l223, g223, cl223, cs223⟩ := Slc.at (i := i) fr207.slc (by simp only [strs_length]; omega) (by omega)
          refine DOps.qOn rfl rfl rfl rfl rfl (qindexS u22 sz9 rfl e223 rfl l223) <| .qOn rfl rfl rfl rfl rfl (qloadAt ag9 rfl rfl g223 ((elt0 cs223).trans (strs_get (by omega)))) <| .lOn rfl rfl rfl rfl rfl (fun _ _ hk225 _ => vcallF rfl (s_PvC (w := ls2.getD i []) hpv.1 (by omega) hsl.2.1 (by omega) (by omega) (by omega) (hu.le le212) fr213.slc) ?_)
          rintro v226 A227 ⟨rfl, leq228, wfq228⟩
          have h229 := leq228.get _ _ h205
          have fr231 := fr207.le leq228
          have le238 := le212.trans leq228
          refine hk225 _ _ (HeldNow.none (by kernel_rfl)) <| .qOn rfl rfl rfl rfl rfl (((qneqN (a := 0) (b := 0) rfl rfl).trans (congrArg (fun z => some (Value.bool z, [])) (decide_eq_false (fun q => q rfl))))) <| .q rfl rfl rfl (qpickF rfl rfl) <| .done <| h219 _ _ <| .cond_false rfl <| .skip <| h217 _ _ <| .seq fun K239 h240 => .region ?_
          refine Ops.q rfl (qmove rfl) <| .q rfl (qmove rfl) ?_
          obtain ⟨b241, f241, rw241, r241, rc241, n241, k241, e241, l241, g241, cl241, cs241⟩ := Slc.at (i := i) fr231.slc (by simp only [strs_length]; omega) (by omega)
          refine Ops.q rfl (qindexS u22 sz9 rfl e241 rfl l241) <| .q rfl (qloadAt ag9 rfl rfl g241 ((elt0 cs241).trans (strs_get (by omega)))) <| .l rfl (fun _ _ hk242 _ => vcallF rfl (s_RReduceOf (ls2.getD i []) A227 (by omega) (isw_of (pcheck_zero hp).1.2 (wcheck_all (pcheck_zero hp).1 (by omega) (hx (by omega)).1))) ?_)
          rintro v243 A244 ⟨rfl, leq245, wfq245⟩
          have h246 := leq245.get _ _ h229
          have fr248 := fr231.le leq245
          have le251 := le238.trans leq245
          refine hk242 _ _ <| .q rfl (qassign rfl) <| .nil <| h240 _ _ <| .seq fun K252 h253 => .region <| .q rfl (qmove rfl) <| .q rfl (qsneq rfl rfl) <| .nil <| h253 _ _ ?_
          refine Run.if rfl (fun p254 => ?_) (fun p254 => ?_)
          ·
           refine Run.seq fun K255 h256 => .region <| .q rfl (qloadAggAt ag24 sz24 rfl rfl h246 rfl) <| .q rfl (qmove rfl) <| .l rfl (fun _ _ hk257 _ => vcallF rfl (s_StC (g := (g)) (w := red (ls2.getD i [])) (by omega) (hL.le le251) (hu.le le251) (green_stuck hv0 (wcheck_all (pcheck_zero hp).1 (by omega) (hx (by omega)).1) (by omega) (hx (by omega)).2 ‹_›) (by have := red_length (ls2.getD i []); omega)) ?_)
           rintro v258 A259 ⟨rfl, leq260, wfq260⟩
           have h261 := leq260.get _ _ h246
           have fr263 := fr248.le leq260
           have le266 := le251.trans leq260
           refine hk257 _ _ <| .q rfl (qmove rfl) <| .q rfl (qextract rfl rfl) <| .q rfl (qextract rfl rfl) <| .q rfl (qassign rfl) <| .q rfl (qassign rfl) <| .nil <| h256 _ _ <| .seq fun K267 h268 => .region ?_
           refine Ops.q rfl (qmove rfl) <| .q rfl (((qneqN (a := 0) (b := 0) rfl rfl).trans (congrArg (fun z => some (Value.bool z, [])) (decide_eq_false (fun q => q rfl))))) <| .q rfl (qmove rfl) <| .on rfl rfl <| .q rfl (qmove rfl) <| .q rfl (qpickF rfl rfl) <| .nil <| h268 _ _ <| .cond_false rfl <| .skip ?_
           refine h152 _ _ <| .region <| .q rfl (qmove rfl) <| .q rfl (qaddN (b := 1) rfl rfl (by omega)) <| .q rfl (qassign rfl) <| .nil ?_
           exact ⟨i + 1, EnvLe.cons rfl <| EnvLe.cons rfl <| EnvLe.cons rfl <| EnvLe.nil _, rfl, ⟨(by omega), le266, fr263, h261, no_wsv2_b4143⟩, (by (try dsimp only); omega)⟩
          ·
           refine Run.skip <| h152 _ _ <| .region <| .q rfl (qmove rfl) <| .q rfl (qaddN (b := 1) rfl rfl (by omega)) <| .q rfl (qassign rfl) <| .nil ?_
           exact ⟨i + 1, EnvLe.cons rfl <| EnvLe.cons rfl <| EnvLe.cons rfl <| EnvLe.nil _, rfl, ⟨(by omega), le251, fr248, h246, no_wsv2_b4143⟩, (by (try dsimp only); omega)⟩
         ·
          refine fun _ _ hk269 _ => walloc wf145 z36 rfl fun A271 b270 nb272 => ?_
          have ne_b4_b270 := ne_new wf145 hr_b4143 nb272.lo
          have no273 := fk_wsv2143.own.ne_new wf145 nb272.lo
          have ge_b270 := none_of wf (Nat.le_trans le143.n nb272.lo)
          have h274 := nb272.le.get _ _ hr_b4143
          have fr275 := fk_wsv2143.le nb272.le
          have hc276 := cell_le nb272.le hc161
          have hc277 := cell_le nb272.le hc162
          have hc278 := cell_le nb272.le hc164
          have le279 := le143.trans nb272.le
          refine hk269 _ _ (HeldNow.list (L := [(⟨b163, f163 + i * 1, none⟩, str (ls2.getD i [])), (⟨b4, 0, none⟩, num (g)), (⟨b4, 1, none⟩, u)]) (by kernel_rfl) (heldCons hc278 (heldCons hc276 (heldCons hc277 heldNil)))) <| .l rfl rfl rfl (fun _ _ hk280 _ => vcallF rfl (s_ShG (g := (g)) (w := ls2.getD i []) (by omega) (hL.le le279) (hu.le le279) hv0 (hx (by omega)).1 (by omega) (hx (by omega)).2) ?_)
          rintro v281 A282 ⟨nq283, dq283, dvq283, rfl, leq283, wfq283, frq283⟩
          have h284 := leq283.get _ _ h274
          have h285 := leq283.get _ _ nb272.get
          have fr286 := fr275.le leq283
          have le290 := le279.trans leq283
          have fr291 := frq283.base le279
          refine hk280 _ _ (HeldNow.none (by kernel_rfl)) <| .q rfl rfl rfl (qmove rfl) <| .q rfl rfl rfl (qextract rfl rfl) <| .q rfl rfl rfl (qextract rfl rfl) ?_
          obtain ⟨p295, l295, c295, q295, _⟩ := fr291.own.slice
          subst q295
          refine DOps.l rfl rfl rfl (fun _ _ hk294 _ => wstore (cs := [str ([]), num ((nq283 : Nat) : Int), .slice p295 l295 c295]) (c' := [str ([]), num ((nq283 : Nat) : Int), .slice p295 l295 c295]) wfq283 rfl rfl rfl rfl sz36 h285 (Nat.le_of_ble_eq_true rfl) rfl rfl fun A296 sb297 => ?_)
          have h298 := sb297.keep _ _ ne_b4_b270 h284
          have fr299 := fr286.keep sb297.keep no273
          have le301 := le_store le290 wf ge_b270 sb297.n sb297.keep
          refine hk294 _ _ (HeldNow.none (by kernel_rfl)) <| .q rfl rfl rfl (qassign rfl) <| .done <| h160 _ _ <| .seq fun K302 h303 => .drawn [0, 1, 2, 3, 4, 5, 6, 7, 8, 9, 10, 11, 12] mixed (by kernel_rfl) (by kernel_rfl) rfl <| .q rfl rfl rfl (qloadAggAt ag24 sz24 rfl rfl h298 rfl) <| .q rfl rfl rfl (qmove rfl) <| .q rfl rfl rfl (qmove rfl) ?_
          obtain ⟨b306, f306, rw306, r306, rc306, n306, k306, e306, l306, g306, cl306, cs306⟩ := Slc.at (i := i) fr299.slc (by simp only [strs_length]; omega) (by omega)
          refine DOps.q rfl rfl rfl (qindexS u22 sz9 rfl e306 rfl l306) <| .q rfl rfl rfl (qloadAt ag9 rfl rfl g306 ((elt0 cs306).trans (strs_get (by omega)))) <| .l rfl rfl rfl (fun _ _ hk308 _ => vcallF rfl (s_TrG (g := (g)) (w := ls2.getD i []) (by omega) (hL.le le301) (hu.le le301) hv0 (hx (by omega)).1 (by omega) (hx (by omega)).2) ?_)
          rintro v309 A310 ⟨dq311, dvq311, rfl, leq311, wfq311, frq311, hpvq311⟩
          have h312 := leq311.get _ _ h298
          have h313 := leq311.get _ _ sb297.get
          have fr314 := fr299.le leq311
          have le319 := le301.trans leq311
          have fr320 := frq311.base le301
          have hpv := hpvq311
          refine hk308 _ _ (HeldNow.none (by kernel_rfl)) <| .q rfl rfl rfl (qmove rfl) <| .q rfl rfl rfl (qextract rfl rfl) <| .q rfl rfl rfl (qextract rfl rfl) <| .q rfl rfl rfl (qextract rfl rfl) <| .q rfl rfl rfl (qassign rfl) <| .q rfl rfl rfl (qassign rfl) <| .q rfl rfl rfl (qassign rfl) <| .done <| h303 _ _ ?_
          refine Run.seq fun K323 h324 => .seq fun K325 h326 => .drawn [0, 1, 2, 3, 4, 5, 6, 7, 8, 9, 10, 11, 12, 13, 14, 15, 16, 17, 18, 19, 20, 21, 22, 23, 24] mixed (by kernel_rfl) (by kernel_rfl) rfl <| .q rfl rfl rfl (qmove rfl) <| .q rfl rfl rfl (((qneqN (a := 0) (b := 0) rfl rfl).trans (congrArg (fun z => some (Value.bool z, [])) (decide_eq_false (fun q => q rfl))))) <| .q rfl rfl rfl (qmove rfl) <| .qOn rfl rfl rfl rfl rfl (qmove rfl) <| .qOn rfl rfl rfl rfl rfl (((qneqN (a := 0) (b := 0) rfl rfl).trans (congrArg (fun z => some (Value.bool z, [])) (decide_eq_false (fun q => q rfl))))) <| .q rfl rfl rfl (qpickF rfl rfl) <| .q rfl rfl rfl (qmove rfl) ?_
          refine DOps.qOn rfl rfl rfl rfl rfl (qfieldAddr fl36_0 sz9 (by decide) rfl) <| .qOn rfl rfl rfl rfl rfl (qloadAt ag9 rfl rfl h313 rfl) <| .qOn rfl rfl rfl rfl rfl (((qsneq rfl rfl).trans (congrArg (fun z => some (Value.bool z, [])) (decide_eq_false (fun q => q rfl))))) <| .q rfl rfl rfl (qpickF rfl rfl) <| .q rfl rfl rfl (qmove rfl) <| .qOn rfl rfl rfl rfl rfl (qmove rfl) <| .qOn rfl rfl rfl rfl rfl (qnot rfl) <| .q rfl rfl rfl (qpickF rfl rfl) <| .q rfl rfl rfl (qmove rfl) <| .qOn rfl rfl rfl rfl rfl (qloadAggAt ag24 sz24 rfl rfl h312 rfl) ?_
          refine DOps.qOn rfl rfl rfl rfl rfl (qmove rfl) <| .qOn rfl rfl rfl rfl rfl (qmove rfl) <| .qOn rfl rfl rfl rfl rfl (qmove rfl) ?_
          obtain ⟨b330, f330, rw330, r330, rc330, n330, k330, e330, l330, g330, cl330, cs330⟩ := Slc.at (i := i) fr314.slc (by simp only [strs_length]; omega) (by omega)
          refine DOps.qOn rfl rfl rfl rfl rfl (qindexS u22 sz9 rfl e330 rfl l330) <| .qOn rfl rfl rfl rfl rfl (qloadAt ag9 rfl rfl g330 ((elt0 cs330).trans (strs_get (by omega)))) <| .lOn rfl rfl rfl rfl rfl (fun _ _ hk332 _ => vcallF rfl (s_PvC (w := ls2.getD i []) hpv.1 (by omega) hsl.2.1 (by omega) (by omega) (by omega) (hu.le le319) fr320.slc) ?_)
          rintro v333 A334 ⟨rfl, leq335, wfq335⟩
          have h336 := leq335.get _ _ h312
          have fr338 := fr314.le leq335
          have le345 := le319.trans leq335
          refine hk332 _ _ (HeldNow.none (by kernel_rfl)) <| .qOn rfl rfl rfl rfl rfl (((qneqN (a := 0) (b := 0) rfl rfl).trans (congrArg (fun z => some (Value.bool z, [])) (decide_eq_false (fun q => q rfl))))) <| .q rfl rfl rfl (qpickF rfl rfl) <| .done <| h326 _ _ <| .cond_false rfl <| .skip <| h324 _ _ <| .seq fun K346 h347 => .region ?_
          refine Ops.q rfl (qmove rfl) <| .q rfl (qmove rfl) ?_
          obtain ⟨b348, f348, rw348, r348, rc348, n348, k348, e348, l348, g348, cl348, cs348⟩ := Slc.at (i := i) fr338.slc (by simp only [strs_length]; omega) (by omega)
          refine Ops.q rfl (qindexS u22 sz9 rfl e348 rfl l348) <| .q rfl (qloadAt ag9 rfl rfl g348 ((elt0 cs348).trans (strs_get (by omega)))) <| .l rfl (fun _ _ hk349 _ => vcallF rfl (s_RReduceOf (ls2.getD i []) A334 (by omega) (isw_of (pcheck_zero hp).1.2 (wcheck_all (pcheck_zero hp).1 (by omega) (hx (by omega)).1))) ?_)
          rintro v350 A351 ⟨rfl, leq352, wfq352⟩
          have h353 := leq352.get _ _ h336
          have fr355 := fr338.le leq352
          have le358 := le345.trans leq352
          refine hk349 _ _ <| .q rfl (qassign rfl) <| .nil <| h347 _ _ <| .seq fun K359 h360 => .region <| .q rfl (qmove rfl) <| .q rfl (qsneq rfl rfl) <| .nil <| h360 _ _ ?_
          refine Run.if rfl (fun p361 => ?_) (fun p361 => ?_)
          ·
           refine Run.seq fun K362 h363 => .region <| .q rfl (qloadAggAt ag24 sz24 rfl rfl h353 rfl) <| .q rfl (qmove rfl) <| .l rfl (fun _ _ hk364 _ => vcallF rfl (s_StC (g := (g)) (w := red (ls2.getD i [])) (by omega) (hL.le le358) (hu.le le358) (green_stuck hv0 (wcheck_all (pcheck_zero hp).1 (by omega) (hx (by omega)).1) (by omega) (hx (by omega)).2 ‹_›) (by have := red_length (ls2.getD i []); omega)) ?_)
           rintro v365 A366 ⟨rfl, leq367, wfq367⟩
           have h368 := leq367.get _ _ h353
           have fr370 := fr355.le leq367
           have le373 := le358.trans leq367
           refine hk364 _ _ <| .q rfl (qmove rfl) <| .q rfl (qextract rfl rfl) <| .q rfl (qextract rfl rfl) <| .q rfl (qassign rfl) <| .q rfl (qassign rfl) <| .nil <| h363 _ _ <| .seq fun K374 h375 => .region ?_
           refine Ops.q rfl (qmove rfl) <| .q rfl (((qneqN (a := 0) (b := 0) rfl rfl).trans (congrArg (fun z => some (Value.bool z, [])) (decide_eq_false (fun q => q rfl))))) <| .q rfl (qmove rfl) <| .on rfl rfl <| .q rfl (qmove rfl) <| .q rfl (qpickF rfl rfl) <| .nil <| h375 _ _ <| .cond_false rfl <| .skip ?_
           refine h152 _ _ <| .region <| .q rfl (qmove rfl) <| .q rfl (qaddN (b := 1) rfl rfl (by omega)) <| .q rfl (qassign rfl) <| .nil ?_
           exact ⟨i + 1, EnvLe.cons rfl <| EnvLe.cons rfl <| EnvLe.cons rfl <| EnvLe.nil _, rfl, ⟨(by omega), le373, fr370, h368, no_wsv2_b4143⟩, (by (try dsimp only); omega)⟩
          ·
           refine Run.skip <| h152 _ _ <| .region <| .q rfl (qmove rfl) <| .q rfl (qaddN (b := 1) rfl rfl (by omega)) <| .q rfl (qassign rfl) <| .nil ?_
           exact ⟨i + 1, EnvLe.cons rfl <| EnvLe.cons rfl <| EnvLe.cons rfl <| EnvLe.nil _, rfl, ⟨(by omega), le358, fr355, h353, no_wsv2_b4143⟩, (by (try dsimp only); omega)⟩
       ·
        refine Run.exit <| h140 _ _ <| .seq fun K376 h377 => .region <| .l rfl (fun _ _ hk378 _ => vcallF rfl (s_sane B144 (hL.le le143)) ?_)
        rintro v379 A380 ⟨rfl, leq381, wfq381⟩
        have le384 := le143.trans leq381
        refine hk378 _ _ <| .q rfl (qassign rfl) <| .nil <| h377 _ _ <| .ret ?_
        repeat first | with_reducible refine thenQ_ret ?_ | with_reducible refine blockQ_ret ?_
        exact retQ rfl (⟨rfl, le384, wfq381⟩)
end Go.Proofs.YtaccklloepfemaaGreatDoor

namespace Go.Proofs.YtaccklloepfemaaGreatDoor
set_option linter.unusedVariables false
set_option linter.unusedSimpArgs false
open Go Go.ChangeShapes Go.WideShapes Go.ChangeAt Go.RowKit V
set_option maxRecDepth 100000

theorem own : ownKnob Tryz.prog.godebug = none := by kernel_rfl
theorem laidOut : laidOutB Tryz.prog = true := by kernel_rfl
theorem gTab : Tryz.prog.globalNamed "cayley/word.letters" = some 0 := by kernel_rfl
theorem gTabType : (Tryz.prog.globals[0]?).map (·.type) = some 142 := by kernel_rfl
theorem cells142 : Tryz.prog.cellsOf 142 = 16 := by kernel_rfl
theorem cells5 : Tryz.prog.cellsOf 5 = 1 := by kernel_rfl
theorem cells9 : Tryz.prog.cellsOf 9 = 1 := by kernel_rfl
theorem cells3 : Tryz.prog.cellsOf 3 = 1 := by kernel_rfl
theorem cells22 : Tryz.prog.cellsOf 22 = 1 := by kernel_rfl
theorem cells24 : Tryz.prog.cellsOf 24 = 2 := by kernel_rfl
theorem table {W : World} (h : laidMetH Tryz.prog [("cayley/word.letters", Rows.laid_cayley_word_letters)] W) : Lib.TabIs Tryz.prog W "cayley/word.letters" .u8 (letters.map fun c => (c.toNat : Int)) :=
  Lib.tabIs_of_head (rest := []) gTab gTabType Tryz.underlying142 Tryz.underlying5 cells5 cells142 h

/-- A world as a view: all is known, nothing may be written. -/
def AH.ofWorld (W : World) : AH := ⟨W.heap.size, fun b => match W.heap[b]? with
  | some (.cells cs _ _) => some (.row false cs.toList cs.size)
  | some o => some (.obj false o)
  | none => none⟩
theorem view_world (W : World) : View (AH.ofWorld W) W := by
  refine ⟨rfl, fun b o h => ?_⟩
  simp only [AH.ofWorld] at h
  split at h
  · rename_i cs e fr hb
    cases h
    exact ⟨cs, e, fr, hb, by simp, Nat.le_refl _, fun i hi => by simp, fun q => by cases q⟩
  · rename_i x hx hb
    cases h
    exact ⟨hb, fun c e f q => hx c e f q⟩
  · cases h
theorem rw_world (W : World) (b : Nat) : (AH.ofWorld W).rw b = false := by
  unfold AH.rw AH.ofWorld
  simp only
  split
  · rename_i o ho
    split at ho <;> first | (cases ho; rfl) | cases ho
  · rfl
theorem below_world {W w' : World} {A' : AH} (h : Step (AH.ofWorld W) W A' w') : Below W.heap.size W w' :=
  ⟨h.os, h.tape, h.output.1, h.size, fun k hk => h.kept k hk (rw_world W k)⟩
theorem lets_world {W : World} (h : Lib.TabIs Tryz.prog W "cayley/word.letters" .u8 (letters.map fun c => (c.toNat : Int))) : Lets (AH.ofWorld W) := by
  unfold Lib.TabIs World.var? at h
  rw [gTab] at h
  simp only [Option.bind_some] at h
  split at h
  · rename_i cs e fr hb
    refine ⟨false, cs.size, ?_⟩
    have : cs.toList = byteCells letters := by
      have := congrArg (Option.map Array.toList) h
      simp only [Option.map_some, Option.some.injEq] at this
      rw [this]
      simp [byteCells]
    simp only [AH.ofWorld, hb, this]
  · cases h
theorem str_data (s : ByteArray) : Value.string s = str s.data.toList := by
  show Value.string s = Value.string ⟨s.data.toList.toArray⟩
  rw [Array.toArray_toList]
/-- A presentation that came in. -/
theorem open_pres {b0 : Nat} {H : Type} {enc : TypeId × Value → H} {W : World} {v : Value} {d : DataW H} {ps : List MemPlace} (hval : Value.okWide Tryz.prog W .any b0 24 v) (hd : DataW.Trod enc Tryz.prog W 0 (fun _ => true) true 24 v d ps) :
    ∃ (g : Int) (u : Value) (l : List (List UInt8)), v = .agg #[.int .i64 g, u] ∧ l.length ≤ maxLen ∧ Slc (AH.ofWorld W) 1 u (strs l) := by
  obtain ⟨cs, rfl, hsz⟩ := okWide_struct Tryz.underlying24 hval
  rw [cells24] at hsz
  obtain ⟨a, b, rfl⟩ : ∃ a b, cs = #[a, b] := by
    rcases cs with ⟨l⟩
    match l, hsz with
    | [a, b], _ => exact ⟨a, b, rfl⟩
  obtain ⟨fuel, hf⟩ := hd
  obtain ⟨y0, y1, n, _, _, h0, h1⟩ := trod_struct2 Tryz.underlying24 hf
  obtain ⟨g, hg, _⟩ := DataW.trod_int Tryz.underlying3 h0
  have e0 : a = .int .i64 g := by
    have : (List.take (Tryz.prog.cellsOf 3) (List.drop 0 [a, b])) = [.int .i64 g] := hg
    rw [cells3] at this; simpa using this
  have hs := open_strings Tryz.underlying22 Tryz.underlying9 cells9 h1
  have e1 : ∀ x : Value, List.take (Tryz.prog.cellsOf 22) (List.drop 1 [a, b]) = [x] → b = x := fun x q => by
    rw [cells22] at q; simpa using q
  subst e0
  rcases hs with ⟨hb, _⟩ | ⟨p, len, cap, ss, hb, _, hl, hm, hlen, _, hcell, _⟩
  · have := e1 _ hb
    subst this
    exact ⟨g, _, [], rfl, Nat.zero_le _, none, 0, 0, rfl, rfl, Nat.le_refl _, .inl rfl⟩
  · have := e1 _ hb
    subst this
    simp only [if_true] at hlen
    refine ⟨g, _, (ss.take len).map (·.data.toList), rfl, by simp; omega, some p, len, cap, rfl, by rw [strs_length]; simp; omega, hl, ?_⟩
    by_cases hz : len = 0
    · exact .inl hz
    · right
      obtain ⟨blk, off, spot⟩ := p
      have hspot : spot = none := by simpa [Addr.add] using World.cell?_spot (hcell 0 (by omega))
      subst hspot
      have hc : ∀ i, i < ss.length → ∃ cs e fr, W.heap[blk]? = some (.cells cs e fr) ∧ cs[off + i]? = some (.string (ss.getD i ByteArray.empty)) := fun i hi => by
        have := hcell i hi
        rw [add_plain] at this
        simp only [World.cell?] at this
        split at this
        · rename_i cs e fr hb
          exact ⟨cs, e, fr, hb, by simpa using this⟩
        · cases this
      obtain ⟨cs, e, fr, hb, _⟩ := hc 0 (by omega)
      refine ⟨blk, off, false, cs.toList, cs.size, rfl, by simp [AH.ofWorld, hb], ?_⟩
      rw [Nat.mul_one]
      apply List.ext_getElem?
      intro i
      by_cases hi : i < len
      · obtain ⟨cs', e', fr', hb', h2⟩ := hc i (by omega)
        rw [hb] at hb'; cases hb'
        rw [List.getElem?_take_of_lt hi, List.getElem?_drop, Array.getElem?_toList, h2]
        have hi2 : i < ss.length := by omega
        simp only [V.strs, List.map_map, List.getElem?_map, List.getElem?_take_of_lt hi, List.getElem?_eq_getElem hi2, Option.map_some, Function.comp]
        rw [← str_data]
        simp [hi2]
      · rw [List.getElem?_eq_none (by simp; omega), List.getElem?_eq_none (by simp [V.strs]; omega)]
/-- A walk's end, as the statement wants it: true, and below the old heap's size nothing has turned. -/
theorem calls_true {k : FuncId} {args : List Value} {W : World} (h : RetA Tryz.prog k args.toArray (AH.ofWorld W) fun v A1 => v = .bool true ∧ (AH.ofWorld W).le A1 ∧ A1.wf) :
    Calls Tryz.prog k args.toArray W fun e w' => e = .returned (.bool true) ∧ Below W.heap.size W w' := by
  refine (h.2 W (view_world W)).mono ?_
  rintro e w' ⟨A', _, hs, v, rfl, rfl, _⟩
  exact ⟨rfl, below_world hs⟩
end Go.Proofs.YtaccklloepfemaaGreatDoor

namespace Go.Proofs.YtaccklloepfemaaGreatDoor
set_option linter.unusedVariables false
set_option linter.unusedSimpArgs false
open Go Go.ChangeShapes Go.WideShapes Go.ChangeAt Go.RowKit V
set_option maxRecDepth 100000

theorem choose_list {α : Type} {Q : Nat → α → Prop} : ∀ n : Nat, (∀ i, i < n → ∃ z, Q i z) → ∃ zs : List α, zs.length = n ∧ ∀ i z, zs[i]? = some z → Q i z
  | 0, _ => ⟨[], rfl, fun i z h => by simp at h⟩
  | n + 1, h => by
    obtain ⟨zs, h1, h2⟩ := choose_list n fun i hi => h i (by omega)
    obtain ⟨z, hz⟩ := h n (by omega)
    refine ⟨zs ++ [z], by simp [h1], fun i y hy => ?_⟩
    by_cases q : i < n
    · exact h2 i y (by rwa [List.getElem?_append_left (by omega)] at hy)
    · rw [List.getElem?_append_right (by omega)] at hy
      have : i - zs.length = 0 := by
        have := (List.getElem?_eq_some_iff.1 hy).1
        simp at this; omega
      rw [this] at hy
      have e : i = n := by omega
      have : z = y := by simpa using hy
      rw [e, ← this]; exact hz
theorem flat_get {α : Type} {f : α → List Value} {k : Nat} (hf : ∀ z, (f z).length = k) : ∀ (zs : List α) (i j : Nat) (z : α), zs[i]? = some z → j < k → (zs.flatMap f)[i * k + j]? = (f z)[j]?
  | [], i, j, z, h, _ => by simp at h
  | a :: zs, 0, j, z, h, hj => by
    have : a = z := by simpa using h
    subst this
    rw [Nat.zero_mul, Nat.zero_add, List.flatMap_cons, List.getElem?_append_left (by rw [hf]; exact hj)]
  | a :: zs, i + 1, j, z, h, hj => by
    have := flat_get hf zs i j z (by simpa using h) hj
    rw [List.flatMap_cons, List.getElem?_append_right (by rw [hf, Nat.add_mul]; omega), hf, ← this]
    congr 1; rw [Nat.add_mul]; omega
theorem flat_len {α : Type} {f : α → List Value} {k : Nat} (hf : ∀ z, (f z).length = k) (zs : List α) : (zs.flatMap f).length = zs.length * k := by
  induction zs with
  | nil => simp
  | cons a zs ih => rw [List.flatMap_cons, List.length_append, ih, hf, List.length_cons, Nat.add_mul]; omega

theorem add_block (a : Addr) (n : Nat) : (a.add n).block = a.block := by unfold Addr.add; split <;> rfl
theorem add_add (a : Addr) (m n : Nat) : (a.add m).add n = a.add (m + n) := by
  by_cases hm : m = 0
  · subst hm; simp [Addr.add]
  · by_cases hn : n = 0
    · subst hn; simp [Addr.add]
    · have : ¬ m + n = 0 := by omega
      simp [Addr.add, hm, hn, this, Nat.add_assoc]
/-- A slice that came in, its elements read by f. -/
theorem open_rows {P : Program} {α : Type} {H : Type} {enc : TypeId × Value → H} {W : World} {base : Nat} {sp : Nat → Bool} {held : Bool} {t e : TypeId} {fuel k : Nat} {cs : List Value} {x : DataW H × List MemPlace} (f : α → List Value) (p : α → Prop) (hf : ∀ z, (f z).length = k) (h0 : 0 < k)
    (ht : P.underlying t = some (.slice e)) (hc : P.cellsOf e = k) (each : ∀ (m : Nat) (c : List Value) (y : DataW H × List MemPlace), DataW.trod enc P W base sp held m e c = some y → ∃ z, c = f z ∧ p z) (h : DataW.trod enc P W base sp held fuel t cs = some x) :
    ∃ (zs : List α) (v : Value), cs = [v] ∧ zs.length ≤ maxLen ∧ Slc (AH.ofWorld W) k v (zs.flatMap f) ∧ ∀ z ∈ zs, p z := by
  rcases DataW.trod_slice ht h with ⟨rfl, _⟩ | ⟨a, len, cap, elems, rest, n, _, rfl, _, hb, hl, hm, hlen, hel, _, _⟩
  · exact ⟨[], _, rfl, Nat.zero_le _, ⟨none, 0, 0, rfl, by simp, Nat.le_refl _, .inl rfl⟩, by simp⟩
  · have key : ∀ i, i < len → ∃ z, p z ∧ ∀ j, j < k → W.cell? (a.add (i * k + j)) = (f z)[j]? := by
      intro i hi
      have hq := hel i hi
      have hsome : ∃ y, elems[i]? = some y := ⟨elems[i]'(by omega), by simp [show i < elems.length by omega]⟩
      obtain ⟨y, hy⟩ := hsome
      rw [hy, Option.bind_eq_some_iff] at hq
      obtain ⟨c, hc1, hc2⟩ := hq
      obtain ⟨z, rfl, hz⟩ := each n c y hc2
      refine ⟨z, hz, fun j hj => ?_⟩
      unfold World.cells? at hc1
      rw [if_pos (by rw [add_block]; exact hb)] at hc1
      have := mapM_some_get hc1 j j (by rw [hc]; simp [hj])
      rw [hc] at this
      rw [← this, add_add]
    obtain ⟨zs, hz1, hz2⟩ := choose_list len key
    refine ⟨zs, _, rfl, by omega, ⟨some a, len, cap, rfl, by rw [flat_len hf, hz1], hl, ?_⟩, fun z hz => ?_⟩
    · by_cases hz : len = 0
      · exact .inl hz
      · right
        obtain ⟨blk, off, spot⟩ := a
        obtain ⟨z0, hz0⟩ : ∃ z, zs[0]? = some z := ⟨zs[0]'(by omega), by simp [show 0 < zs.length by omega]⟩
        have h00 := (hz2 0 z0 hz0).2 0 h0
        have hs0 : ∃ v, (f z0)[0]? = some v := ⟨(f z0)[0]'(by rw [hf]; exact h0), by simp [hf, h0]⟩
        obtain ⟨v0, hv0⟩ := hs0
        rw [hv0] at h00
        have hspot : spot = none := by simpa [Addr.add] using World.cell?_spot h00
        subst hspot
        have hcell : ∀ i j, i < len → j < k → ∃ z, zs[i]? = some z ∧ ∃ cs e fr, W.heap[blk]? = some (.cells cs e fr) ∧ cs[off + (i * k + j)]? = (f z)[j]? := fun i j hi hj => by
          obtain ⟨z, hz⟩ : ∃ z, zs[i]? = some z := ⟨zs[i]'(by omega), by simp [show i < zs.length by omega]⟩
          refine ⟨z, hz, ?_⟩
          have := (hz2 i z hz).2 j hj
          have hv : (f z)[j]? = some ((f z)[j]'(by rw [hf]; exact hj)) := by simp [hf, hj]
          rw [hv] at this ⊢
          rw [add_plain] at this
          simp only [World.cell?] at this
          split at this
          · rename_i cs e fr hb
            exact ⟨cs, e, fr, hb, by simpa using this⟩
          · cases this
        obtain ⟨_, _, cs, e', fr, hb, _⟩ := hcell 0 0 (by omega) h0
        refine ⟨blk, off, false, cs.toList, cs.size, rfl, by simp [AH.ofWorld, hb], ?_⟩
        apply List.ext_getElem?
        intro q
        by_cases hq : q < len * k
        · have hk : q / k < len := Nat.div_lt_of_lt_mul (by rw [Nat.mul_comm]; exact hq)
          have hr : q % k < k := Nat.mod_lt _ h0
          have e1 : q / k * k + q % k = q := by rw [Nat.mul_comm]; exact Nat.div_add_mod q k
          obtain ⟨z, hz, cs', e', fr', hb', h2⟩ := hcell (q / k) (q % k) hk hr
          rw [hb] at hb'; cases hb'
          rw [e1] at h2
          have h3 := flat_get hf zs (q / k) (q % k) z hz hr
          rw [e1] at h3
          rw [List.getElem?_take_of_lt hq, List.getElem?_drop, Array.getElem?_toList, h2, h3]
        · rw [List.getElem?_eq_none (by simp; omega), List.getElem?_eq_none (by rw [flat_len hf, hz1]; omega)]
    · obtain ⟨i, hi, rfl⟩ := List.getElem_of_mem hz
      exact (hz2 i _ (by simp [hi])).1

theorem cells79 : Tryz.prog.cellsOf 79 = 3 := by kernel_rfl
theorem cells83 : Tryz.prog.cellsOf 83 = 6 := by kernel_rfl
theorem cells4 : Tryz.prog.cellsOf 4 = 1 := by kernel_rfl
section
variable {H : Type} {enc : TypeId × Value → H} {W : World} {base : Nat} {sp : Nat → Bool} {held : Bool} {fuel : Nat} {x : DataW H × List MemPlace}
theorem six_of {c : List Value} (h : c.length = 6) : ∃ a b d e f g, c = [a, b, d, e, f, g] := by
  match c, h with
  | [a, b, d, e, f, g], _ => exact ⟨a, b, d, e, f, g, rfl⟩
theorem three_of {c : List Value} (h : c.length = 3) : ∃ a b d, c = [a, b, d] := by
  match c, h with
  | [a, b, d], _ => exact ⟨a, b, d, rfl⟩
theorem open_cell {c : List Value} (h : DataW.trod enc Tryz.prog W base sp held fuel 79 c = some x) : ∃ z : DCell, c = dcell z ∧ z.conj.length ≤ 9223372036854775807 := by
  obtain ⟨xs, n, _, _, hl, hx, hi⟩ := DataW.trod_struct Tryz.underlying79 h
  rw [cells79] at hl
  obtain ⟨a, b, d, rfl⟩ := three_of hl
  have some_at : ∀ i, i < 3 → ∃ y, xs[i]? = some y := fun i hi => ⟨xs[i]'(by rw [hx]; exact hi), by simp [show i < xs.length by rw [hx]; exact hi]⟩
  obtain ⟨y0, h0⟩ := some_at 0 (by decide)
  obtain ⟨y1, h1⟩ := some_at 1 (by decide)
  obtain ⟨y2, h2⟩ := some_at 2 (by decide)
  have g0 := hi 0 _ rfl
  have g1 := hi 1 _ rfl
  have g2 := hi 2 _ rfl
  rw [h0] at g0
  rw [h1] at g1
  rw [h2] at g2
  obtain ⟨s, e0, _, hs⟩ := DataW.trod_string Tryz.underlying9 g0
  obtain ⟨r, e1, _⟩ := DataW.trod_int Tryz.underlying3 g1
  obtain ⟨v, e2, _⟩ := DataW.trod_bool Tryz.underlying4 g2
  have e0 : List.take (Tryz.prog.cellsOf 9) (List.drop 0 [a, b, d]) = _ := e0
  have e1 : List.take (Tryz.prog.cellsOf 3) (List.drop 1 [a, b, d]) = _ := e1
  have e2 : List.take (Tryz.prog.cellsOf 4) (List.drop 2 [a, b, d]) = _ := e2
  rw [cells9] at e0; rw [cells3] at e1; rw [cells4] at e2
  have f0 : a = .string s := by simpa using e0
  have f1 : b = .int .i64 r := by simpa using e1
  have f2 : d = .bool v := by simpa using e2
  refine ⟨⟨s.data.toList, r, v⟩, ?_, ?_⟩
  · rw [f0, f1, f2, str_data]; rfl
  · unfold maxLen at hs
    show s.data.toList.length ≤ _
    rw [Array.length_toList]
    exact Nat.le_trans hs (by decide)
theorem open_move {c : List Value} (h : DataW.trod enc Tryz.prog W base sp held fuel 83 c = some x) : ∃ z : MCell, c = mcell z ∧ True := by
  obtain ⟨xs, n, _, _, hl, hx, hi⟩ := DataW.trod_struct Tryz.underlying83 h
  rw [cells83] at hl
  obtain ⟨a, b, c', d, e, f, rfl⟩ := six_of hl
  have some_at : ∀ i, i < 6 → ∃ y, xs[i]? = some y := fun i hi => ⟨xs[i]'(by rw [hx]; exact hi), by simp [show i < xs.length by rw [hx]; exact hi]⟩
  obtain ⟨y0, h0⟩ := some_at 0 (by decide)
  obtain ⟨y1, h1⟩ := some_at 1 (by decide)
  obtain ⟨y2, h2⟩ := some_at 2 (by decide)
  obtain ⟨y3, h3⟩ := some_at 3 (by decide)
  obtain ⟨y4, h4⟩ := some_at 4 (by decide)
  obtain ⟨y5, h5⟩ := some_at 5 (by decide)
  have g0 := hi 0 _ rfl
  have g1 := hi 1 _ rfl
  have g2 := hi 2 _ rfl
  have g3 := hi 3 _ rfl
  have g4 := hi 4 _ rfl
  have g5 := hi 5 _ rfl
  rw [h0] at g0
  rw [h1] at g1
  rw [h2] at g2
  rw [h3] at g3
  rw [h4] at g4
  rw [h5] at g5
  obtain ⟨r0, e0, _⟩ := DataW.trod_int Tryz.underlying3 g0
  obtain ⟨r1, e1, _⟩ := DataW.trod_int Tryz.underlying3 g1
  obtain ⟨r2, e2, _⟩ := DataW.trod_int Tryz.underlying3 g2
  obtain ⟨r3, e3, _⟩ := DataW.trod_int Tryz.underlying3 g3
  obtain ⟨r4, e4, _⟩ := DataW.trod_int Tryz.underlying3 g4
  obtain ⟨v, e5, _⟩ := DataW.trod_bool Tryz.underlying4 g5
  have e0 : List.take (Tryz.prog.cellsOf 3) (List.drop 0 [a, b, c', d, e, f]) = _ := e0
  have e1 : List.take (Tryz.prog.cellsOf 3) (List.drop 1 [a, b, c', d, e, f]) = _ := e1
  have e2 : List.take (Tryz.prog.cellsOf 3) (List.drop 2 [a, b, c', d, e, f]) = _ := e2
  have e3 : List.take (Tryz.prog.cellsOf 3) (List.drop 3 [a, b, c', d, e, f]) = _ := e3
  have e4 : List.take (Tryz.prog.cellsOf 3) (List.drop 4 [a, b, c', d, e, f]) = _ := e4
  have e5 : List.take (Tryz.prog.cellsOf 4) (List.drop 5 [a, b, c', d, e, f]) = _ := e5
  rw [cells3] at e0 e1 e2 e3 e4; rw [cells4] at e5
  have f0 : a = .int .i64 r0 := by simpa using e0
  have f1 : b = .int .i64 r1 := by simpa using e1
  have f2 : c' = .int .i64 r2 := by simpa using e2
  have f3 : d = .int .i64 r3 := by simpa using e3
  have f4 : e = .int .i64 r4 := by simpa using e4
  have f5 : f = .bool v := by simpa using e5
  exact ⟨⟨r0, r1, r2, r3, r4, v⟩, by rw [f0, f1, f2, f3, f4, f5]; rfl, trivial⟩
end
end Go.Proofs.YtaccklloepfemaaGreatDoor


namespace Go.Proofs.YtaccklloepfemaaGreatDoor
set_option linter.unusedVariables false
set_option linter.unusedSimpArgs false
open Go Go.ChangeShapes Go.WideShapes Go.ChangeAt Go.RowKit V
set_option maxRecDepth 100000

theorem dcell_len (z : DCell) : (dcell z).length = 3 := rfl
theorem mcell_len (z : MCell) : (mcell z).length = 6 := rfl
theorem green_contract (H : Type) (enc : TypeId × Value → H) (W : World) (base : Nat) (args : Array Value) (ds gs : List (DataW H)) (before : List MemPlace)
    (hval : ∀ (j : Nat) t v, Tryz.f6.params[j]? = some t → args[j]? = some v → Value.okWide Tryz.prog W .any base t v)
    (hW : DataW.Whole enc Tryz.prog Tryz.f6.params.toList Rows.dehnGreendlingerSpec.vars false W args.toList ds gs before) (hL : laidMetH Tryz.prog Rows.dehnGreendlingerRow.laid W) :
    Calls Tryz.prog 6 args W fun e W' => ∃ v, e = .returned v ∧ Rows.dehnGreendlingerSpec.post enc Tryz.prog Tryz.f6 false true false false W args v W' := by
  have hW' := hW
  obtain ⟨p, q, hA0, hV, rfl, hfz, hnd⟩ := hW
  have hA : DataW.TrodAll enc Tryz.prog W 0 (fun _ => true) true Tryz.f6.params.toList args.toList ds p := hA0
  rw [Tryz.params6] at hA hval
  obtain ⟨v0, v1, v2, d0, d1, d2, p0, p1, p2, rfl, rfl, rfl, h0, h1, h2⟩ := trodAll_three hA
  obtain ⟨rfl, rfl⟩ := trodVars_none hV
  clear hA0
  simp only [List.append_nil] at hW'
  obtain ⟨g, u, l, rfl, hl, hs⟩ := open_pres (hval 0 24 v0 rfl rfl) h0
  obtain ⟨f1, hf1⟩ := h1
  obtain ⟨M, mv, em, hMl, hm, _⟩ := open_rows mcell (fun _ => True) mcell_len (by decide) Tryz.underlying49 cells83 (fun _ _ _ h => open_move h) hf1
  have h1 : DataW.Trod enc Tryz.prog W 0 (fun _ => true) true 49 v1 d1 p1 := ⟨f1, hf1⟩
  obtain ⟨f2, hf2⟩ := h2
  obtain ⟨d, dv, ed, hdl, hd, hcl⟩ := open_rows dcell (fun z => z.conj.length ≤ 9223372036854775807) dcell_len (by decide) Tryz.underlying34 cells79 (fun _ _ _ h => open_cell h) hf2
  have h2 : DataW.Trod enc Tryz.prog W 0 (fun _ => true) true 34 v2 d2 p2 := ⟨f2, hf2⟩
  obtain ⟨a1, n1, c1, rfl⟩ := okWide_slice Tryz.underlying49 (hval 1 49 v1 rfl rfl)
  obtain ⟨a2, n2, c2, rfl⟩ := okWide_slice Tryz.underlying34 (hval 2 34 v2 rfl rfl)
  have em : mv = .slice a1 n1 c1 := by have q : [Value.slice a1 n1 c1] = [mv] := em; simpa using q.symm
  have ed : dv = .slice a2 n2 c2 := by have q : [Value.slice a2 n2 c2] = [dv] := ed; simpa using q.symm
  have hlt : ∀ x ∈ p0 ++ (p1 ++ p2), x.block < W.heap.size := fun x hx => by simpa using hW'.lt x (by simpa using hx)
  unfold maxLen at hl hMl hdl
  have walk := calls_true (k := 6) (args := [.agg #[.int .i64 g, u], mv, dv]) (s_DehnGreen g u l mv M dv d (AH.ofWorld W) (by omega) (by omega) (by omega) hcl (lets_world (table hL)) hs hm hd)
  rw [em, ed] at walk
  refine walk.mono ?_
  rintro e W' ⟨rfl, bel⟩
  refine ⟨_, rfl, _, _, _, [], p0 ++ p1 ++ p2, [], (by simpa using hW'), ?_, ?_, ?_, bel.frame _, fun h => by cases h⟩
  · exact trodAll_cons_mk (shut_bool Tryz.underlying4 _) trodAll_mk0
  · have mk := trodAll_mk3 (Below.trod laidOut (by kernel_rfl) (of_decide_eq_true (by kernel_rfl)) h0 bel (fun x hx => hlt x (by simp [hx]))) (Below.trod laidOut (by kernel_rfl) (of_decide_eq_true (by kernel_rfl)) h1 bel (fun x hx => hlt x (by simp [hx]))) (Below.trod laidOut (by kernel_rfl) (of_decide_eq_true (by kernel_rfl)) h2 bel (fun x hx => hlt x (by simp [hx])))
    first | exact mk | (rw [List.append_assoc]; exact mk)
  · rfl

/-- A world for the witness: the table holds what its initialiser lays. -/
noncomputable def laidWorld (os : Os) : World :=
  { World.holding Tryz.prog os ⟨#[], #[], []⟩ with heap := (World.holding Tryz.prog os ⟨#[], #[], []⟩).heap.modify 0 fun
      | .cells _ t frozen => .cells (byteCells letters).toArray t frozen
      | o => o }
theorem green_met (os : Os) : laidMet Tryz.prog Rows.dehnGreendlingerRow.laid ((laidWorld os).forCall (fun _ _ => 0) ⟨#[], #[.agg #[.int .i64 0, .slice none 0 0], .slice none 0 0, .slice none 0 0], []⟩).memory :=
  laidMet_of_run' 20 (by kernel_rfl) (by kernel_rfl)
theorem green_reads (os : Os) {H : Type} (enc : TypeId × Value → H) : ∃ places, DataW.whole enc Tryz.prog ((laidWorld os).forCall (fun _ _ => 0) ⟨#[], #[.agg #[.int .i64 0, .slice none 0 0], .slice none 0 0, .slice none 0 0], []⟩).memory Tryz.f6.params.toList Rows.dehnGreendlingerSpec.vars false #[Value.agg #[.int .i64 0, .slice none 0 0], .slice none 0 0, .slice none 0 0].toList 20 = some ([.agg [.lit (.int .i64 0), .nil], .nil, .nil], [], places) :=
  ⟨[], by kernel_rfl⟩
theorem green_lifted (os : Os) (started : os.Started) (H : Type) (enc : TypeId × Value → H) (F : Stop.Interp) :
    ReturnsInHanded {} Tryz.checked os 6 .any ((OpenSpec.ofChange Rows.dehnGreendlingerSpec).preRow enc Tryz.prog Tryz.f6 Rows.dehnGreendlingerRow.domain false Rows.dehnGreendlingerRow.laid) (((OpenSpec.ofChange Rows.dehnGreendlingerSpec).at F).post enc Tryz.prog Tryz.f6 false true false false) := by
  obtain ⟨places, hx⟩ := green_reads os enc
  refine returnsInHanded_of_row (C := Tryz.checked) (s := OpenSpec.ofChange Rows.dehnGreendlingerSpec) own started (by kernel_rfl) Tryz.func6
    (witness_row_at (enc := enc) (C := Tryz.checked) false (laidWorld os) #[.agg #[.int .i64 0, .slice none 0 0], .slice none 0 0, .slice none 0 0] rfl (by kernel_rfl) (by kernel_rfl) (by kernel_rfl)
      (OpenSpec.preRow_of_cond 20 hx (by kernel_rfl) (fun k hk => by cases hk) (by kernel_rfl) (green_met os))) ?_
  intro W base args ds gs before hval hW _ _ _ hL _ _
  exact green_contract H enc W base args ds gs before hval hW hL
theorem green_said : Rows.DehnGreendlingerSaid :=
  OpenClaim.holds_of_cond 6 Tryz.f6 rfl rfl rfl rfl rfl rfl rfl ⟨rfl, rfl, rfl, rfl, rfl⟩ rfl rfl rfl rfl rfl (by kernel_rfl) Tryz.func6 (by kernel_rfl)
    (of_decide_eq_true (by kernel_rfl)) (by unfold Func.isWrapper; first | (rw [if_pos (by decide +kernel)]; kernel_rfl) | (rw [if_neg (by decide +kernel)]; exact ⟨rfl, rfl⟩))
    (fun os started H enc _ F => by rw [OpenClaim.pre_eq_preRow]; exact green_lifted os started H enc F)
theorem green_plain (f : FuncId) (fn : Func) (hf : Tryz.pinned.checked.prog.funcNamed "cayley/cayleylaw23.DehnGreendlinger" = some f) (hfn : Tryz.pinned.checked.prog.funcs[f]? = some fn) :
    false = Tryz.pinned.checked.prog.looks [] ∧ ∀ (j : Nat) t, fn.params[j]? = some t → Tryz.pinned.checked.prog.wantsStandIn t = false := by
  obtain rfl : f = 6 := Option.some.inj ((show Tryz.prog.funcNamed "cayley/cayleylaw23.DehnGreendlinger" = some 6 by kernel_rfl).symm.trans hf) |>.symm
  obtain rfl : fn = Tryz.f6 := (Option.some.inj (Tryz.func6.symm.trans hfn)).symm
  refine ⟨by kernel_rfl, fun j t ht => ?_⟩
  rw [Tryz.params6] at ht
  have : t = 24 ∨ t = 49 ∨ t = 34 := by simpa using Array.mem_of_getElem? ht
  rcases this with rfl | rfl | rfl
  · exact (show Tryz.prog.wantsStandIn 24 = false by kernel_rfl)
  · exact (show Tryz.prog.wantsStandIn 49 = false by kernel_rfl)
  · exact (show Tryz.prog.wantsStandIn 34 = false by kernel_rfl)
/-- The card. -/
theorem greendlinger_card : Rows.DehnGreendlingerCardSaid :=
  Claim7.holds_tied_plain_at .later [] _ _ _ _ green_said (fun _ h => by cases h) (by kernel_rfl) (fun _ h => by cases h) dehnGreendlinger_row_tie rfl ⟨rfl, rfl⟩ (by kernel_rfl) rfl green_plain (by kernel_rfl)
end Go.Proofs.YtaccklloepfemaaGreatDoor
