/- Own library, part y: bytes of strings, shifts of other kinds of integers. -/
import Derived.Test.YtdkfoghhjkjjlaaGLx
namespace Go.GL
open Go.RowKit
section
variable {P : Program} {ops : Array Oper} {Q : Exit → Act → World → Prop} {a : Act} {w : World} {N : Nat} {σ : List (Nat × Value)} {k d : Nat} {t yt ty : TypeId} {x y : Operand} {pos : String} {af : Array Edge} {m n z : Int} {kd kk : IntKind} {s : Str}
theorem index_run (ht : P.underlying t = some .string) (hz : sidx? s n = some z) (w : World) : (Instr.index t s.val (.int kd n)).run P w = .ok (.int .u8 z) w := by
  unfold sidx? at hz
  split at hz
  · rename_i h0
    cases hb : s.bytes[n.toNat]? with
    | none => rw [hb] at hz; cases hz
    | some b =>
      rw [hb] at hz
      simp only [Option.map_some, Option.some.injEq] at hz
      subst hz
      have e : (⟨s.bytes.toArray⟩ : ByteArray)[n.toNat]? = some b := by
        have hlt : n.toNat < s.bytes.length := (List.getElem?_eq_some_iff.1 hb).1
        have hlt' : n.toNat < (⟨s.bytes.toArray⟩ : ByteArray).size := by simpa [ByteArray.size] using hlt
        rw [getElem?_pos (⟨s.bytes.toArray⟩ : ByteArray) n.toNat hlt']
        have := (List.getElem?_eq_some_iff.1 hb).2
        refine congrArg some ?_
        rw [← this]
        show (⟨s.bytes.toArray⟩ : ByteArray).data[n.toNat] = _
        simp
      simp [Instr.index, asIntOf, run_underlying ht, Str.val, h0, e]
  · cases hz
theorem does_index_str {o : Oper} (ho : o.op = .index t x y) (ht : P.underlying t = some .string) (hx : a.eval x = s.val) (hy : a.eval y = .int kd n) (hz : sidx? s n = some z) : Does P o a w fun v w' => v = .int .u8 z ∧ w' = w := by
  refine does_value (v := .int .u8 z) (w' := w) ?_ ⟨rfl, rfl⟩
  obtain ⟨dst, op, type, pos, after, guard⟩ := o
  simp only at ho; subst ho
  simp [execOp, hx, hy, index_run ht hz w]
theorem s_index (ht : P.underlying t = some .string) (ho : ops[k]? = some ⟨some d, .index t x y, ty, pos, af, none⟩) (hd : Nat.blt d N = true) (hF : FrS N σ a) (hx : opd σ x = some s.val) (hy : opd σ y = some (.int kd n)) (hz : sidx? s n = some z)
    (h : ∀ fr, FrS N ((d, .int .u8 z) :: σ) fr → wpFrom P ops Q (k + 1) fr w) : wpFrom P ops Q k a w :=
  from_val hF ho rfl rfl (Nat.blt_eq.mp hd) (does_index_str rfl ht (opd_eval hF hx) (opd_eval hF hy) hz) fun _ _ fr ⟨hv, hw⟩ hF' => by subst hv; subst hw; exact h fr hF'
end
section
variable {P : Program} {draw : Bool} {ms : List Nat} {ops : Array Oper} {a0 : Act} {w0 : World} {Q : Exit → Act → World → Prop} {pds : List Pd} {σ : List (Nat × Value)} {N j : Nat} {dst : Option Tmp} {g : Option (Nat × Bool)}
  {t yt ty : TypeId} {x y : Operand} {pos : String} {af : Array Edge} {m n z : Int} {kd kk : IntKind} {s : Str}
theorem np_index_str (hG : Good ops pds []) (hF : FrS N σ a0) (ht : P.underlying t = some .string) (ho : ops[j]? = some ⟨dst, .index t x y, ty, pos, af, g⟩) (hx : envP ops σ pds j x = some s.val) (hy : envP ops σ pds j y = some (.int kd n))
    (hz : gc ops pds ops.size j → sidx? s n = some z) (hpd : pds.getD j .any = .eq (.int .u8 z)) : NPB P draw ms ops pds a0 w0 Q j :=
  np_b _ ho hG hF fun _ w _ hg hv _ => (does_index_str rfl ht (hv x _ (by simp [Op.operands]) hx) (hv y _ (by simp [Op.operands]) hy) (hz hg)).mono fun v w' ⟨h1, h2⟩ => by
    subst h1; subst h2; rw [hpd]; exact ⟨rfl, Chg.refl _ _⟩
end
end Go.GL
