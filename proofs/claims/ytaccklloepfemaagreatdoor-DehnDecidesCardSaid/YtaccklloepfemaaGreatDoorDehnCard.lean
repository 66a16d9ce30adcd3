/- What the statements' worlds and arguments are as the walks want them; what the walks give as the statements want it. -/
import Derived.Test.YtaccklloepfemaaGreatDoorCards
import Derived.Test.YtaccklloepfemaaGreatDoorTie
import Derived.Test.YtaccklloepfemaaGreatDoorDehnRef
import Derived.WalkKit
import Derived.ProofKit
import Derived.OpenShut
import Derived.Carry
import Derived.SliceStrings
import Derived.ChangeSame
import Derived.ChangeMaps5
import Derived.Deep.DeepHandedRow
import Derived.Lib.LaidTab
namespace Go.Proofs.YtaccklloepfemaaGreatDoor
set_option linter.unusedVariables false
set_option linter.unusedSimpArgs false
open Go Go.ChangeShapes Go.WideShapes Go.ChangeAt Go.RowKit V
set_option maxRecDepth 100000

theorem own : ownKnob Tryz.prog.godebug = none := by kernel_rfl
theorem laidOut : laidOutB Tryz.prog = true := by kernel_rfl
theorem gTab : Tryz.prog.globalNamed "cayley/word.letters" = some 0 := by kernel_rfl
theorem gTabType : (Tryz.prog.globals[0]?).map (·.type) = some 142 := by kernel_rfl
theorem cells142 : Tryz.prog.cellsOf 142 = 16 := by kernel_rfl
theorem cells5 : Tryz.prog.cellsOf 5 = 1 := by kernel_rfl
theorem cells9 : Tryz.prog.cellsOf 9 = 1 := by kernel_rfl
theorem cells3 : Tryz.prog.cellsOf 3 = 1 := by kernel_rfl
theorem cells22 : Tryz.prog.cellsOf 22 = 1 := by kernel_rfl
theorem cells24 : Tryz.prog.cellsOf 24 = 2 := by kernel_rfl
theorem table {W : World} (h : laidMetH Tryz.prog [("cayley/word.letters", Rows.laid_cayley_word_letters)] W) : Lib.TabIs Tryz.prog W "cayley/word.letters" .u8 (letters.map fun c => (c.toNat : Int)) :=
  Lib.tabIs_of_head (rest := []) gTab gTabType Tryz.underlying142 Tryz.underlying5 cells5 cells142 h

/-- A world as a view: all is known, nothing may be written. -/
def AH.ofWorld (W : World) : AH := ⟨W.heap.size, fun b => match W.heap[b]? with
  | some (.cells cs _ _) => some (.row false cs.toList cs.size)
  | some o => some (.obj false o)
  | none => none⟩
theorem view_world (W : World) : View (AH.ofWorld W) W := by
  refine ⟨rfl, fun b o h => ?_⟩
  simp only [AH.ofWorld] at h
  split at h
  · rename_i cs e fr hb
    cases h
    exact ⟨cs, e, fr, hb, by simp, Nat.le_refl _, fun i hi => by simp, fun q => by cases q⟩
  · rename_i x hx hb
    cases h
    exact ⟨hb, fun c e f q => hx c e f q⟩
  · cases h
theorem rw_world (W : World) (b : Nat) : (AH.ofWorld W).rw b = false := by
  unfold AH.rw AH.ofWorld
  simp only
  split
  · rename_i o ho
    split at ho <;> first | (cases ho; rfl) | cases ho
  · rfl
theorem below_world {W w' : World} {A' : AH} (h : Step (AH.ofWorld W) W A' w') : Below W.heap.size W w' :=
  ⟨h.os, h.tape, h.output.1, h.size, fun k hk => h.kept k hk (rw_world W k)⟩
theorem lets_world {W : World} (h : Lib.TabIs Tryz.prog W "cayley/word.letters" .u8 (letters.map fun c => (c.toNat : Int))) : Lets (AH.ofWorld W) := by
  unfold Lib.TabIs World.var? at h
  rw [gTab] at h
  simp only [Option.bind_some] at h
  split at h
  · rename_i cs e fr hb
    refine ⟨false, cs.size, ?_⟩
    have : cs.toList = byteCells letters := by
      have := congrArg (Option.map Array.toList) h
      simp only [Option.map_some, Option.some.injEq] at this
      rw [this]
      simp [byteCells]
    simp only [AH.ofWorld, hb, this]
  · cases h
theorem str_data (s : ByteArray) : Value.string s = str s.data.toList := by
  show Value.string s = Value.string ⟨s.data.toList.toArray⟩
  rw [Array.toArray_toList]
/-- A presentation that came in. -/
theorem open_pres {b0 : Nat} {H : Type} {enc : TypeId × Value → H} {W : World} {v : Value} {d : DataW H} {ps : List MemPlace} (hval : Value.okWide Tryz.prog W .any b0 24 v) (hd : DataW.Trod enc Tryz.prog W 0 (fun _ => true) true 24 v d ps) :
    ∃ (g : Int) (u : Value) (l : List (List UInt8)), v = .agg #[.int .i64 g, u] ∧ l.length ≤ maxLen ∧ Slc (AH.ofWorld W) 1 u (strs l) := by
  obtain ⟨cs, rfl, hsz⟩ := okWide_struct Tryz.underlying24 hval
  rw [cells24] at hsz
  obtain ⟨a, b, rfl⟩ : ∃ a b, cs = #[a, b] := by
    rcases cs with ⟨l⟩
    match l, hsz with
    | [a, b], _ => exact ⟨a, b, rfl⟩
  obtain ⟨fuel, hf⟩ := hd
  obtain ⟨y0, y1, n, _, _, h0, h1⟩ := trod_struct2 Tryz.underlying24 hf
  obtain ⟨g, hg, _⟩ := DataW.trod_int Tryz.underlying3 h0
  have e0 : a = .int .i64 g := by
    have : (List.take (Tryz.prog.cellsOf 3) (List.drop 0 [a, b])) = [.int .i64 g] := hg
    rw [cells3] at this; simpa using this
  have hs := open_strings Tryz.underlying22 Tryz.underlying9 cells9 h1
  have e1 : ∀ x : Value, List.take (Tryz.prog.cellsOf 22) (List.drop 1 [a, b]) = [x] → b = x := fun x q => by
    rw [cells22] at q; simpa using q
  subst e0
  rcases hs with ⟨hb, _⟩ | ⟨p, len, cap, ss, hb, _, hl, hm, hlen, _, hcell, _⟩
  · have := e1 _ hb
    subst this
    exact ⟨g, _, [], rfl, Nat.zero_le _, none, 0, 0, rfl, rfl, Nat.le_refl _, .inl rfl⟩
  · have := e1 _ hb
    subst this
    simp only [if_true] at hlen
    refine ⟨g, _, (ss.take len).map (·.data.toList), rfl, by simp; omega, some p, len, cap, rfl, by rw [strs_length]; simp; omega, hl, ?_⟩
    by_cases hz : len = 0
    · exact .inl hz
    · right
      obtain ⟨blk, off, spot⟩ := p
      have hspot : spot = none := by simpa [Addr.add] using World.cell?_spot (hcell 0 (by omega))
      subst hspot
      have hc : ∀ i, i < ss.length → ∃ cs e fr, W.heap[blk]? = some (.cells cs e fr) ∧ cs[off + i]? = some (.string (ss.getD i ByteArray.empty)) := fun i hi => by
        have := hcell i hi
        rw [add_plain] at this
        simp only [World.cell?] at this
        split at this
        · rename_i cs e fr hb
          exact ⟨cs, e, fr, hb, by simpa using this⟩
        · cases this
      obtain ⟨cs, e, fr, hb, _⟩ := hc 0 (by omega)
      refine ⟨blk, off, false, cs.toList, cs.size, rfl, by simp [AH.ofWorld, hb], ?_⟩
      rw [Nat.mul_one]
      apply List.ext_getElem?
      intro i
      by_cases hi : i < len
      · obtain ⟨cs', e', fr', hb', h2⟩ := hc i (by omega)
        rw [hb] at hb'; cases hb'
        rw [List.getElem?_take_of_lt hi, List.getElem?_drop, Array.getElem?_toList, h2]
        have hi2 : i < ss.length := by omega
        simp only [V.strs, List.map_map, List.getElem?_map, List.getElem?_take_of_lt hi, List.getElem?_eq_getElem hi2, Option.map_some, Function.comp]
        rw [← str_data]
        simp [hi2]
      · rw [List.getElem?_eq_none (by simp; omega), List.getElem?_eq_none (by simp [V.strs]; omega)]
/-- A walk's end, as the statement wants it: true, and below the old heap's size nothing has turned. -/
theorem calls_true {k : FuncId} {args : List Value} {W : World} (h : RetA Tryz.prog k args.toArray (AH.ofWorld W) fun v A1 => v = .bool true ∧ (AH.ofWorld W).le A1 ∧ A1.wf) :
    Calls Tryz.prog k args.toArray W fun e w' => e = .returned (.bool true) ∧ Below W.heap.size W w' := by
  refine (h.2 W (view_world W)).mono ?_
  rintro e w' ⟨A', _, hs, v, rfl, rfl, _⟩
  exact ⟨rfl, below_world hs⟩
end Go.Proofs.YtaccklloepfemaaGreatDoor
