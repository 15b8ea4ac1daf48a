/- Own library, part E: parts of strings; variables of packages that are only read; an error against nil. -/
import Derived.Test.YtdkfoghhjkjjlaaGLC
import Derived.Lib.Split
import Derived.Lib.SplitLaws
import Derived.Lib.SmallJoins
namespace Go.GL
open Go.RowKit
/-- a package-level variable holds these cells, and its block is of F -/
structure VI (P : Program) (name : String) (cs : Array Value) (w : World) (F : Nat → Prop) : Prop where
  var : w.var? P name = some cs
  blk : ∃ g, P.globalNamed name = some g ∧ F g
section
variable {P : Program} {name : String} {cs : Array Value} {w w' w0 : World} {S S0 S' F F0 F' : Nat → Prop}
theorem VI.lt (h : VI P name cs w F) {g : Nat} (hg : P.globalNamed name = some g) : g < w.heap.size := by
  have h1 := h.var
  unfold World.var? at h1
  rw [hg, Option.bind_some] at h1
  by_cases hlt : g < w.heap.size
  · exact hlt
  · rw [Array.getElem?_eq_none (by omega)] at h1; cases h1
theorem VI.chg (h : VI P name cs w F) (hc : Chg S w w') (hd : ∀ j, F j → ¬ S j) : VI P name cs w' F := by
  obtain ⟨g, hg, hF⟩ := h.blk
  refine ⟨?_, g, hg, hF⟩
  have h1 := h.var
  unfold World.var? at h1 ⊢
  rw [hg, Option.bind_some] at h1 ⊢
  rw [hc.block g (h.lt hg) (hd g hF)]
  exact h1
theorem VI.sub (h : VI P name cs w F) (hf : ∀ j, j < w.heap.size → F j → F' j) : VI P name cs w F' := by
  obtain ⟨g, hg, hF⟩ := h.blk
  exact ⟨h.var, g, hg, hf g (h.lt hg) hF⟩
theorem VI.cell {x : Value} (h : VI P name #[x] w F) {g : Nat} (hg : P.globalNamed name = some g) : w.cell? ⟨g, 0, none⟩ = some x := by
  have h1 := h.var
  unfold World.var? at h1
  rw [hg, Option.bind_some] at h1
  unfold World.cell?
  split at h1
  · rename_i heq
    obtain rfl := Option.some.inj h1
    simp [heq]
  · cases h1
theorem VI.of (h : w.var? P name = some cs) (hF : ∀ j, j < w.heap.size → F j) : VI P name cs w F := by
  have h1 := h
  unfold World.var? at h1
  cases hg : P.globalNamed name with
  | none => rw [hg] at h1; cases h1
  | some g =>
    have key : VI P name cs w (fun _ => True) := ⟨h, g, hg, trivial⟩
    exact ⟨h, g, hg, hF g (key.lt hg)⟩
end
/-- what strconv and strings read of packages' variables -/
structure TX (P : Program) (w : World) (F : Nat → Prop) : Prop where
  pow : VI P "internal/strconv.uint64pow10" (Lib.pow10Tab.map fun z => Value.int .u64 z).toArray w F
  max : ∃ m, VI P "internal/bytealg.MaxLen" #[.int .i64 m] w F
  syn : ∃ t p, VI P "strconv.ErrSyntax" #[.iface t p] w F
  rng : ∃ t p, VI P "strconv.ErrRange" #[.iface t p] w F
section
variable {P : Program} {w w' w0 : World} {S S0 S' F F0 F' : Nat → Prop}
theorem TX.chg (h : TX P w F) (hc : Chg S w w') (hd : ∀ j, F j → ¬ S j) : TX P w' F := by
  obtain ⟨h1, ⟨m, h2⟩, ⟨t, p, h3⟩, ⟨t', p', h4⟩⟩ := h
  exact ⟨h1.chg hc hd, ⟨m, h2.chg hc hd⟩, ⟨t, p, h3.chg hc hd⟩, ⟨t', p', h4.chg hc hd⟩⟩
theorem TX.sub (h : TX P w F) (hf : ∀ j, j < w.heap.size → F j → F' j) : TX P w F' := by
  obtain ⟨h1, ⟨m, h2⟩, ⟨t, p, h3⟩, ⟨t', p', h4⟩⟩ := h
  exact ⟨h1.sub hf, ⟨m, h2.sub hf⟩, ⟨t, p, h3.sub hf⟩, ⟨t', p', h4.sub hf⟩⟩
theorem TX.tab (h : TX P w F) : Lib.TabIs P w "internal/strconv.uint64pow10" .u64 Lib.pow10Tab := h.pow.var
theorem TX.ext (h : TX P w F) (hc : Chg Non w w') : TX P w' F := h.chg hc fun _ _ => id
theorem TX.stp (h : TX P w F) (hM : Mem w0 S0 F0 w S F) (hp : Stp w S w' S') : TX P w' F := h.chg hp.chg fun j hf hs => hM.dj j hs hf
theorem TX.big (h : TX P w F) (hf : ∀ j, F j → F' j) : TX P w F' := h.sub fun j _ => hf j
theorem TX.mem (h : TX P w0 F0) (hM : Mem w0 S0 F0 w S F) : TX P w F := (h.chg hM.chg fun j hf hs => hM.dj0 j hs hf).big hM.fz
end
section
variable {P : Program} {ops : Array Oper} {Q : Exit → Act → World → Prop} {a : Act} {w : World} {N : Nat} {σ : List (Nat × Value)} {k d : Nat} {t yt ty : TypeId} {x y : Operand} {pos : String} {af : Array Edge}
end
section
variable {P : Program} {v : Value} {b : Bool}
end
end Go.GL
