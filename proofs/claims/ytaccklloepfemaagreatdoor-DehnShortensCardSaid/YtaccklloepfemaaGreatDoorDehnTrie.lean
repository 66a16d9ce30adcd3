/- The words of the closure are words; how the trie of a list of words grows. -/
import Derived.Test.YtaccklloepfemaaGreatDoorDehnNew
namespace Go.Proofs.YtaccklloepfemaaGreatDoor
set_option linter.unusedVariables false
set_option linter.unusedSimpArgs false
open Go Go.RowKit V

theorem isw_sub {a b : List UInt8} (h : isw b = true) (hs : ∀ c ∈ a, c ∈ b) (hl : a.length ≤ b.length) : isw a = true := by
  simp only [isw, Bool.and_eq_true, decide_eq_true_eq, List.all_eq_true] at h ⊢
  exact ⟨by omega, fun c hc => h.2 c (hs c hc)⟩
theorem isw_app {a b : List UInt8} (ha : isw a = true) (hb : isw b = true) (hl : a.length + b.length ≤ 100000) : isw (a ++ b) = true := by
  simp only [isw, Bool.and_eq_true, decide_eq_true_eq, List.all_eq_true] at ha hb ⊢
  exact ⟨by simp; exact hl, fun c hc => (List.mem_append.1 hc).elim (ha.2 c) (hb.2 c)⟩
theorem okc_flip : ∀ c : UInt8, okc 8 c = true → okc 8 (c ^^^ 32) = true := all_u8 (by decide +kernel)
theorem isw_inv {a : List UInt8} (h : isw a = true) : isw (inv a) = true := by
  simp only [isw, Bool.and_eq_true, decide_eq_true_eq, List.all_eq_true] at h ⊢
  refine ⟨by rw [inv_length]; exact h.1, fun c hc => ?_⟩
  simp only [inv, List.mem_reverse, List.mem_map] at hc
  obtain ⟨d, hd, rfl⟩ := hc
  exact okc_flip d (h.2 d hd)
theorem wInverse_is (w : List UInt8) : isw (wInverse w) = true := by
  unfold wInverse; split
  · rename_i h; exact isw_inv h
  · rfl
theorem wReduce_is (w : List UInt8) : isw (wReduce w) = true := by
  unfold wReduce; split
  · rename_i h; exact isw_sub h red_sub (red_length w)
  · rfl
theorem mkR_ok {i : Nat} {iv : Bool} {core cj : List UInt8} {j : Nat} (h : isw core = true) (hl : core.length ≤ 200) (hc : cj.length ≤ 200) : okR (mkR i iv core cj j) := by
  have h1 : (core.drop j ++ core.take j).length = core.length := by simp; omega
  refine ⟨by show (core.drop j ++ core.take j).length ≤ 200; omega, isw_sub h (fun c hc => ?_) (Nat.le_of_eq h1), wReduce_is _, ?_⟩
  · rcases List.mem_append.1 hc with q | q
    · exact List.mem_of_mem_drop q
    · exact List.mem_of_mem_take q
  · have h2 := wReduce_length (wInverse (core.take j) ++ wInverse cj)
    have h3 := wInverse_length (core.take j)
    have h4 := wInverse_length cj
    rw [List.length_append] at h2
    rw [List.length_take] at h3
    show (wReduce (wInverse (core.take j) ++ wInverse cj)).length ≤ 1000
    omega
theorem addE_all {p : Rot → Prop} {E : List Rot} {x : Rot} (h : ∀ y ∈ E, p y) (hx : p x) : ∀ y ∈ addE E x, p y := by
  unfold addE; split
  · exact h
  · intro y hy
    rcases List.mem_append.1 hy with q | q
    · exact h y q
    · simp at q; rw [q]; exact hx
theorem addJ_all {p : Rot → Prop} {i : Nat} {iv : Bool} {core cj : List UInt8} {E : List Rot} (h : ∀ y ∈ E, p y) : ∀ n, (∀ j, j < n → p (mkR i iv core cj j)) → ∀ y ∈ addJ i iv core cj E n, p y
  | 0, _ => h
  | n + 1, hj => by rw [addJ_succ]; exact addE_all (addJ_all h n fun j q => hj j (by omega)) (hj n (by omega))
theorem addV_ok {i : Nat} {r : List UInt8} {E : List Rot} {iv : Bool} (h : ∀ y ∈ E, okR y) (hr : r.length ≤ 200) : ∀ y ∈ addV i r E iv, okR y := by
  have h1 := wOf_length r iv
  have h2 := wCore_length (wOf r iv)
  have h3 := wConj_length (wOf r iv)
  exact addJ_all h _ fun j _ => mkR_ok (wCore_is _) (by omega) (by omega)
theorem foldl_all {α : Type} {p : Rot → Prop} {f : List Rot → α → List Rot} (h : ∀ E a, (∀ y ∈ E, p y) → ∀ y ∈ f E a, p y) : ∀ (l : List α) (E : List Rot), (∀ y ∈ E, p y) → ∀ y ∈ l.foldl f E, p y
  | [], _, hE => hE
  | a :: l, E, hE => foldl_all h l (f E a) (h E a hE)
theorem getD_le {l : List (List UInt8)} {n : Nat} (h : ∀ r ∈ l, r.length ≤ n) (k : Nat) : (l.getD k []).length ≤ n := by
  by_cases q : k < l.length
  · exact h _ (getD_mem q)
  · rw [List.getD_eq_getElem?_getD, List.getElem?_eq_none (by omega)]; simp
theorem allR_ok {g : Int} {l : List (List UInt8)} (h : pcheck g l = 0) : ∀ x ∈ allR l, okR x := by
  have hz := pcheck_zero h
  refine foldl_all (fun E k hE => ?_) _ _ (fun _ q => by cases q)
  have hk := getD_le (fun r hr => (hz.2.2 r hr).1) k
  exact addV_ok (addV_ok hE hk) hk
end Go.Proofs.YtaccklloepfemaaGreatDoor
