/- Own library, part C: a strings.Builder of the call's own; strings put together by the library. -/
import Derived.Test.YtmmhbhhcloobnaaGreatDoorGLB
import Derived.Lib.AppendStr
import Derived.Lib.Builder
namespace Go.GL
open Go.RowKit
theorem strCells_val (l : List UInt8) : Lib.strCells ⟨l.toArray⟩ = Lib.byteCells l := rfl
/-- a builder that holds these bytes -/
def BD (T E : TypeId) (b : Nat) (s : Str) : HP where
  ok w A := ∃ p v, (p = .pointer none ∨ p = .pointer (some ⟨b, 0, none⟩)) ∧ Box w b T [p, v] ∧ A b ∧ w.ownsRow 0 E 1 v s.bytes.length (Lib.byteCells s.bytes) ∧ ∀ g, v.ownBlock = some g → A g ∧ g ≠ b
  mono := by
    rintro w A A' ⟨p, v, hp, hb, hA, hr, hg⟩ h
    exact ⟨p, v, hp, hb, h b hb.lt hA, hr, fun g e => ⟨h g (hr.lt g e).2 (hg g e).1, (hg g e).2⟩⟩
  keep := by
    rintro w w' A T' ⟨p, v, hp, hb, hA, hr, hg⟩ hc hT
    refine ⟨p, v, hp, hb.chg hc (hT b hA), hA, ⟨hr.1, ?_⟩, hg⟩
    rcases hr.2 with h0 | ⟨g, cap, cur, rfl, h1, h2, h3⟩
    · exact .inl h0
    · refine .inr ⟨g, cap, cur, rfl, h1, ?_, h3⟩
      rw [hc.block g (Array.getElem?_eq_some_iff.1 h2).1 (hT g (hg g rfl).1)]
      exact h2
theorem bd_new {T E : TypeId} {b : Nat} {w : World} {A : Nat → Prop} (h : (BX b T [.pointer none, .slice none 0 0]).ok w A) : (BD T E b ⟨[]⟩).ok w A :=
  ⟨_, _, .inl rfl, h.1, h.2, World.ownsRow_nil w 0 E 1, fun g e => by cases e⟩
section
variable {P : Program} {w w0 : World} {S S0 F F0 : Nat → Prop}
/-- what the append in WriteString does -/
theorem bd_append {T E t u ty : TypeId} {b : Nat} {s z r : Str} {v : Value} {A : Nat → Prop} (ht : P.underlying t = some (.slice E)) (hu : P.underlying u = some .string) (hi : (P.info? E).map (fun i => (i.zero, i.size, i.bytes)) = some (some (.int .u8 0), 1, 1))
    (hb : Box w b T [.pointer (some ⟨b, 0, none⟩), v]) (hr : w.ownsRow 0 E 1 v s.bytes.length (Lib.byteCells s.bytes)) (hg : ∀ g, v.ownBlock = some g → A g ∧ g ≠ b) (hz : bw? s z = some r) :
    ∃ v' w', (Builtin.append_ #[t, u] ty #[v, z.val]).run P w = .ok v' w' ∧ Box w' b T [.pointer (some ⟨b, 0, none⟩), v] ∧ w'.ownsRow 0 E 1 v' r.bytes.length (Lib.byteCells r.bytes) ∧ (∀ g, v'.ownBlock = some g → (A g ∨ w.heap.size ≤ g) ∧ g ≠ b) ∧ Chg (fun k => v.ownBlock = some k) w w' := by
  unfold bw? at hz
  split at hz
  · rename_i hl
    obtain rfl := Option.some.inj hz
    obtain ⟨i, hi1, hi2⟩ := Option.map_eq_some_iff.1 hi
    simp only [Prod.mk.injEq] at hi2
    have hsz : (⟨z.bytes.toArray⟩ : ByteArray).size = z.bytes.length := by simp [ByteArray.size]
    have hcl : Lib.byteCells s.bytes ++ Lib.strCells (⟨z.bytes.toArray⟩ : ByteArray) = Lib.byteCells (s.bytes ++ z.bytes) := by
      rw [strCells_val]; simp [Lib.byteCells]
    have fin : ∀ base (v' : Value) (w' : World), w'.ownsRow base E 1 v' (s.bytes.length + (⟨z.bytes.toArray⟩ : ByteArray).size) (Lib.byteCells s.bytes ++ Lib.strCells (⟨z.bytes.toArray⟩ : ByteArray)) → w.grownBy w' v.ownBlock → (∀ g, v'.ownBlock = some g → v.ownBlock = some g ∨ w.heap.size ≤ g) →
        Box w' b T [.pointer (some ⟨b, 0, none⟩), v] ∧ w'.ownsRow 0 E 1 v' (s.bytes ++ z.bytes).length (Lib.byteCells (s.bytes ++ z.bytes)) ∧ (∀ g, v'.ownBlock = some g → (A g ∨ w.heap.size ≤ g) ∧ g ≠ b) ∧ Chg (fun k => v.ownBlock = some k) w w' := by
      intro base v' w' h2 h3 h4
      have hch : Chg (fun k => v.ownBlock = some k) w w' := ⟨h3.os, h3.tape, h3.output, h3.size, fun k hk hn => h3.block k hk fun e => hn e.symm⟩
      refine ⟨hb.chg hch fun e => (hg b e).2 rfl, ?_, fun g e => ?_, hch⟩
      · rw [hcl, hsz] at h2
        rw [List.length_append]
        refine ⟨h2.1, ?_⟩
        rcases h2.2 with h0 | ⟨g, cap, cur, e1, _, e2⟩
        · exact .inl h0
        · exact .inr ⟨g, cap, cur, e1, Nat.zero_le _, e2⟩
      · rcases h4 g e with h5 | h5
        · exact ⟨.inl (hg g h5).1, (hg g h5).2⟩
        · exact ⟨.inr h5, by have := hb.lt; omega⟩
    have hmax : s.bytes.length + (⟨z.bytes.toArray⟩ : ByteArray).size ≤ maxLen := by rw [hsz]; unfold maxLen; omega
    rcases hr.2 with ⟨rfl, hn0⟩ | ⟨g, cap, cur, rfl, h1, h2, h3, h4, h5, h6⟩
    · have hnil : Lib.byteCells s.bytes = [] := by
        have : s.bytes = [] := List.eq_nil_of_length_eq_zero hn0
        rw [this]; rfl
      obtain ⟨v', w', k1, k2, k3, -⟩ := Lib.run_append_own_string (P := P) (ty := ty) w w.heap.size t u E i ht hu hi1 hi2.1 hi2.2.1 hi2.2.2 (.slice none 0 0) s.bytes.length (Lib.byteCells s.bytes) (by rw [hnil, hn0]; exact World.ownsRow_nil w _ E 1) ⟨z.bytes.toArray⟩ hmax (by rw [hsz]; omega) (Nat.le_refl _)
      exact ⟨v', w', k1, fin _ _ _ k2 k3 fun g e => .inr (k2.lt g e).1⟩
    · obtain ⟨v', w', k1, k2, k3, -⟩ := Lib.run_append_own_string (P := P) (ty := ty) w 0 t u E i ht hu hi1 hi2.1 hi2.2.1 hi2.2.2 (.slice (some ⟨g, 0, none⟩) s.bytes.length cap) s.bytes.length (Lib.byteCells s.bytes) hr ⟨z.bytes.toArray⟩ hmax (by rw [hsz]; omega) (Nat.zero_le _)
      refine ⟨v', w', k1, fin _ _ _ k2 k3 fun g' e => ?_⟩
      by_cases hroom : s.bytes.length + (⟨z.bytes.toArray⟩ : ByteArray).size ≤ cap
      · have := Lib.run_append_room_string (P := P) (ty := ty) w t u E i ht hu hi1 hi2.2.1 g s.bytes.length cap cur h2 ⟨z.bytes.toArray⟩ hroom (by omega)
        have k1' : (Builtin.append_ #[t, u] ty #[.slice (some ⟨g, 0, none⟩) s.bytes.length cap, .string ⟨z.bytes.toArray⟩]).run P w = .ok v' w' := k1
        rw [this] at k1'
        simp only [Result.ok.injEq] at k1'
        rw [← k1'.1] at e
        exact .inl e
      · have hlb : (Lib.byteCells s.bytes).length = s.bytes.length * i.size := by rw [hi2.2.1]; simp [Lib.byteCells]
        have hcells : ∀ j u, (Lib.byteCells s.bytes)[j]? = some u → w.cell? ((⟨g, 0, none⟩ : Addr).add j) = some u := fun j u hu => by
          have hadd : (⟨g, 0, none⟩ : Addr).add j = ⟨g, j, none⟩ := by unfold Addr.add; split <;> simp_all
          rw [hadd, cell_of h2, ← hu, ← h6, Nat.mul_one]
          have hj : j < s.bytes.length := by
            have := (List.getElem?_eq_some_iff.1 hu).1
            simpa [Lib.byteCells] using this
          rw [List.getElem?_take_of_lt hj, Array.getElem?_toList]
        have := Lib.run_append_grow_string (P := P) (ty := ty) w t u E i (.int .u8 0) ht hu hi1 hi2.1 ⟨g, 0, none⟩ s.bytes.length cap (Lib.byteCells s.bytes) hlb hcells ⟨z.bytes.toArray⟩ (by omega) (by rw [hsz]; omega) (growslice_fits (by omega) (by rw [hi2.2.2, hsz]; omega))
        have k1' : (Builtin.append_ #[t, u] ty #[.slice (some ⟨g, 0, none⟩) s.bytes.length cap, .string ⟨z.bytes.toArray⟩]).run P w = .ok v' w' := k1
        rw [this] at k1'
        simp only [Result.ok.injEq] at k1'
        rw [← k1'.1] at e
        right
        have : some w.heap.size = some g' := e
        have := Option.some.inj this
        omega
  · cases hz
end
section
variable {P : Program} {draw : Bool} {ms : List Nat} {ops : Array Oper} {a0 : Act} {w0 : World} {Q : Exit → Act → World → Prop} {pds : List Pd} {σ : List (Nat × Value)} {N j : Nat} {dst : Option Tmp} {g : Option (Nat × Bool)}
  {t t' E ty : TypeId} {pos : String} {af : Array Edge} {ow : Nat → Nat}
theorem np_bytesD {le : List Byt} {i s : Nat} (hG : Good ops pds []) (hF : FrS N σ a0) (ho : ops[j]? = some ⟨dst, .convert t t' (.tmp s), ty, pos, af, g⟩) (hj : Nat.blt j ops.size = true) (hl : lastW ops s j = some i) (hok : okG ops ops.size j i = true)
    (hpi : pds.getD i .any = .is fun v w => RV w (fun k => k < w.heap.size) v le)
    (ht : P.underlying t = some (.slice E)) (hE : P.underlying E = some (.int .u8)) (ht' : P.underlying t' = some .string) (hpd : pds.getD j .any = .eq (strOf le).val) : NPB P draw ms ops pds a0 w0 Q j :=
  np_b _ ho hG hF fun a w hC hg hv hk => by
    have h1 := know_is hG hj hl hok hg (hk s (by simp [Op.operands]))
    rw [hpi] at h1
    rw [hpd]
    refine does_value (v := (strOf le).val) (w' := w) ?_ ⟨rfl, Chg.refl _ _⟩
    simp [execOp, bytes_run ht hE ht' h1]
end
end Go.GL
