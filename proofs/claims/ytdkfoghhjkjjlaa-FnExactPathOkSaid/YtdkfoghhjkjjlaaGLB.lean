/- Own library, part B: a table of the program's that is only read; the decimal digits of a number by the library. -/
import Derived.Test.YtdkfoghhjkjjlaaGLA
import Derived.Lib.LaidTab
import Derived.Shelf.Strconv.Itoa3
namespace Go.GL
open Go.RowKit Go.Sort
/-- a package-level table holds these numbers, and its block is of F -/
structure TB (P : Program) (name : String) (k : IntKind) (zs : List Int) (w : World) (F : Nat → Prop) : Prop where
  tab : Lib.TabIs P w name k zs
  blk : ∃ g, P.globalNamed name = some g ∧ F g
section
variable {P : Program} {name : String} {k : IntKind} {zs : List Int} {w w' w0 : World} {S S0 S' F F0 F' : Nat → Prop}
theorem TB.lt (h : TB P name k zs w F) {g : Nat} (hg : P.globalNamed name = some g) : g < w.heap.size := by
  have h1 := h.tab
  unfold Lib.TabIs World.var? at h1
  rw [hg, Option.bind_some] at h1
  by_cases hlt : g < w.heap.size
  · exact hlt
  · rw [Array.getElem?_eq_none (by omega)] at h1; cases h1
theorem TB.chg (h : TB P name k zs w F) (hc : Chg S w w') (hd : ∀ j, F j → ¬ S j) : TB P name k zs w' F := by
  obtain ⟨g, hg, hF⟩ := h.blk
  refine ⟨?_, g, hg, hF⟩
  have h1 := h.tab
  unfold Lib.TabIs World.var? at h1 ⊢
  rw [hg, Option.bind_some] at h1 ⊢
  rw [hc.block g (h.lt hg) (hd g hF)]
  exact h1
theorem TB.ext (h : TB P name k zs w F) (hc : Chg Non w w') : TB P name k zs w' F := h.chg hc fun _ _ => id
theorem TB.stp (h : TB P name k zs w F) (hM : Mem w0 S0 F0 w S F) (hp : Stp w S w' S') : TB P name k zs w' F := h.chg hp.chg fun j hf hs => hM.dj j hs hf
theorem TB.big (h : TB P name k zs w F) (hf : ∀ j, F j → F' j) : TB P name k zs w F' := by
  obtain ⟨g, hg, hF⟩ := h.blk
  exact ⟨h.tab, g, hg, hf g hF⟩
theorem TB.sub (h : TB P name k zs w F) (hf : ∀ j, j < w.heap.size → F j → F' j) : TB P name k zs w F' := by
  obtain ⟨g, hg, hF⟩ := h.blk
  exact ⟨h.tab, g, hg, hf g (h.lt hg) hF⟩
theorem TB.mem (h : TB P name k zs w0 F0) (hM : Mem w0 S0 F0 w S F) : TB P name k zs w F := (h.chg hM.chg fun j hf hs => hM.dj0 j hs hf).big hM.fz
theorem TB.of (h : Lib.TabIs P w name k zs) (hF : ∀ j, j < w.heap.size → F j) : TB P name k zs w F := by
  have h1 := h
  unfold Lib.TabIs World.var? at h1
  cases hg : P.globalNamed name with
  | none => rw [hg] at h1; cases h1
  | some g =>
    have key : TB P name k zs w (fun _ => True) := ⟨h, g, hg, trivial⟩
    exact ⟨h, g, hg, hF g (key.lt hg)⟩
end
end Go.GL
