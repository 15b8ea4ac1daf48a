/- Own library, part i: shifts, divisions, parts of slices. -/
import Derived.Test.YtdkfoghhjkjjlaaGLh
namespace Go.GL
open Go.RowKit

theorem elT {P : Program} {E : TypeId} {α : Type} [Rep α] (h : (P.info? E).map (fun i => (i.zero.map (·.cells.size), i.size, decide (i.bytes ≤ 32768))) = some (some (Rep.sz α), Rep.sz α, true)) : ElT P E α := h

theorem shl_run {P : Program} {a b z : Int} {kd : IntKind} (h : shl? a b = some z) (t : TypeId) (w : World) : (binOp .shl t (.int .i64 a) (.int kd b)).run P w = .ok (.int .i64 z) w := by
  unfold shl? at h
  split at h
  · cases h
  · rename_i hb
    simp only [Option.some.injEq] at h; subst h
    simp [binOp, Op.shift, hb, IntKind.bits]
theorem does_bin {P : Program} {o : Oper} {a : Act} {w : World} {op : BinOp} {t yt : TypeId} {x y : Operand} (ho : o.op = .binOp op t x y yt) {vx vy u : Value} (hx : a.eval x = vx) (hy : a.eval y = vy)
    (hg : (eqGuard op t x y vx vy).run P w = .ok () w) (hr : (binOp op t vx vy).run P w = .ok u w) : Does P o a w fun v w' => v = u ∧ w' = w := by
  refine does_value (v := u) (w' := w) ?_ ⟨rfl, rfl⟩
  obtain ⟨dst, op', type, pos, after, guard⟩ := o
  simp only at ho; subst ho
  simp only [execOp, hx, hy]
  simp [hg, hr]

section
variable {P : Program} {ops : Array Oper} {Q : Exit → Act → World → Prop} {a : Act} {w : World} {N : Nat} {σ : List (Nat × Value)} {k d : Nat} {t yt ty : TypeId} {x y : Operand} {pos : String} {af : Array Edge} {m n z : Int} {kd : IntKind}
theorem s_bin {op : BinOp} {vx vy u : Value} (ho : ops[k]? = some ⟨some d, .binOp op t x y yt, ty, pos, af, none⟩) (hd : Nat.blt d N = true) (hF : FrS N σ a) (hx : opd σ x = some vx) (hy : opd σ y = some vy)
    (hg : (eqGuard op t x y vx vy).run P w = .ok () w) (hr : (binOp op t vx vy).run P w = .ok u w) (h : ∀ fr, FrS N ((d, u) :: σ) fr → wpFrom P ops Q (k + 1) fr w) : wpFrom P ops Q k a w :=
  from_val hF ho rfl rfl (Nat.blt_eq.mp hd) (does_bin rfl (opd_eval hF hx) (opd_eval hF hy) hg hr) fun _ _ fr ⟨hv, hw⟩ hF' => by subst hv; subst hw; exact h fr hF'
/-- a part of a slice -/
theorem cut_elems {α : Type} [Rep α] {w : World} {F : Nat → Prop} {ad : Addr} {l : List α} (h : elems w F ad 0 l) (lo hi : Nat) : elems w F (ad.add (lo * Rep.sz α)) 0 ((l.take hi).drop lo) := by
  refine elems_of fun i x hx => ?_
  rw [List.getElem?_drop, List.getElem?_take] at hx
  split at hx
  · obtain ⟨cs, h1, h2⟩ := elems_get h hx
    refine ⟨cs, h1, ?_⟩
    rw [add_add, show lo * Rep.sz α + (0 + i) * Rep.sz α = (0 + (lo + i)) * Rep.sz α by rw [Nat.zero_add, Nat.zero_add, Nat.add_mul]]
    exact h2
  · cases hx

theorem does_slice {α : Type} [Rep α] {o : Oper} {E : TypeId} (he : Ty P E α) (ht : P.underlying t = some (.slice E)) {lo hi : Option Operand} (ho : o.op = .slice t x lo hi none) {v : Value} {F : Nat → Prop} {l : List α} (hx : a.eval x = v) (hl : RV w F v l)
    {m n : Int} (hlo : match lo with | none => m = 0 | some y => ∃ k, a.eval y = .int k m) (hhi : match hi with | none => n = (l.length : Int) | some y => ∃ k, a.eval y = .int k n) {r : List α} (hr : cut? l m n = some r) : Does P o a w fun v' w' => RV w F v' r ∧ w' = w := by
  unfold cut? at hr
  split at hr
  · rename_i hb
    obtain ⟨h0, h1, h2⟩ := hb
    simp only [Option.some.injEq] at hr
    obtain ⟨b, cap, rfl, hc1, hc2, hc3⟩ := hl.slice
    have hlen : r.length = n.toNat - m.toNat := by
      rw [← hr, List.length_drop, List.length_take]; omega
    refine does_value (v := .slice (if cap = m.toNat then b else b.map (·.add (m.toNat * Rep.sz α))) (n.toNat - m.toNat) (cap - m.toNat)) (w' := w) ?_ ⟨?_, rfl⟩
    · obtain ⟨dst, op, type, pos, after, guard⟩ := o
      simp only at ho; subst ho
      have hn2 : n ≤ (cap : Int) := by omega
      cases lo with
      | none =>
        simp only at hlo; subst hlo
        cases hi with
        | none =>
          simp only at hhi; subst hhi
          simp [execOp, Instr.sliceAt, Instr.slice, Instr.sliceBounds, hx, run_underlying ht, he.sizeOf]
        | some y =>
          obtain ⟨kk, hy⟩ := hhi
          simp [execOp, Instr.sliceAt, Instr.slice, Instr.sliceBounds, Instr.sliceBound, asIntOf, hx, hy, run_underlying ht, he.sizeOf, h1, hn2]
      | some z =>
        obtain ⟨kz, hz⟩ := hlo
        cases hi with
        | none =>
          simp only at hhi; subst hhi
          simp [execOp, Instr.sliceAt, Instr.slice, Instr.sliceBounds, Instr.sliceBound, asIntOf, hx, hz, run_underlying ht, he.sizeOf, h0, h1]
        | some y =>
          obtain ⟨kk, hy⟩ := hhi
          have hn0 : 0 ≤ n := by omega
          have hmn' : m ≤ max n 0 := by omega
          simp [execOp, Instr.sliceAt, Instr.slice, Instr.sliceBounds, Instr.sliceBound, asIntOf, hx, hy, hz, run_underlying ht, he.sizeOf, h0, hn0, hn2, hmn']
    · rw [← hlen]
      refine RV.mk_slice (by omega) (by omega) fun hne => ?_
      have hlne : l ≠ [] := by
        rintro rfl
        apply hne
        rw [← hr]; simp
      obtain ⟨ad, rfl, hF, hel⟩ := hc3 hlne
      have hpos : 0 < r.length := by
        cases hr0 : r with
        | nil => exact absurd hr0 hne
        | cons => simp
      rw [if_neg (by omega)]
      refine ⟨ad.add (m.toNat * Rep.sz α), rfl, by rw [add_block]; exact hF, ?_⟩
      rw [← hr]
      exact cut_elems hel _ _
  · cases hr

theorem s_slice {α : Type} [Rep α] {E : TypeId} {lo hi : Option Operand} {v : Value} {F : Nat → Prop} {l r : List α} (he : Ty P E α) (ht : P.underlying t = some (.slice E)) (ho : ops[k]? = some ⟨some d, .slice t x lo hi none, ty, pos, af, none⟩) (hd : Nat.blt d N = true) (hF : FrS N σ a)
    (hx : opd σ x = some v) (hl : RV w F v l) (hlo : match lo with | none => m = 0 | some y => ∃ k, opd σ y = some (.int k m)) (hhi : match hi with | none => n = (l.length : Int) | some y => ∃ k, opd σ y = some (.int k n)) (hr : cut? l m n = some r)
    (h : ∀ u fr, RV w F u r → FrS N ((d, u) :: σ) fr → wpFrom P ops Q (k + 1) fr w) : wpFrom P ops Q k a w :=
  from_val hF ho rfl rfl (Nat.blt_eq.mp hd) (does_slice he ht rfl (opd_eval hF hx) hl (by
    cases lo with
    | none => exact hlo
    | some y => obtain ⟨kk, hy⟩ := hlo; exact ⟨kk, opd_eval hF hy⟩) (by
    cases hi with
    | none => exact hhi
    | some y => obtain ⟨kk, hy⟩ := hhi; exact ⟨kk, opd_eval hF hy⟩) hr) fun u w' fr ⟨h1, h2⟩ hF' => by subst h2; exact h u fr h1 hF'
end

section
variable {P : Program} {draw : Bool} {ms : List Nat} {ops : Array Oper} {a0 : Act} {w0 : World} {Q : Exit → Act → World → Prop} {pds : List Pd} {σ : List (Nat × Value)} {N j : Nat} {dst : Option Tmp} {g : Option (Nat × Bool)}
  {t yt ty : TypeId} {x y : Operand} {pos : String} {af : Array Edge} {m n z : Int} {kd : IntKind}
theorem np_bin {op : BinOp} {vx vy u : Value} (hG : Good ops pds []) (hF : FrS N σ a0) (ho : ops[j]? = some ⟨dst, .binOp op t x y yt, ty, pos, af, g⟩) (hx : envP ops σ pds j x = some vx) (hy : envP ops σ pds j y = some vy)
    (hg : ∀ w, (eqGuard op t x y vx vy).run P w = .ok () w) (hr : gc ops pds ops.size j → ∀ w, (binOp op t vx vy).run P w = .ok u w) (hpd : pds.getD j .any = .eq u) : NPB P draw ms ops pds a0 w0 Q j :=
  np_b _ ho hG hF fun _ w _ hgc hv _ => (does_bin rfl (hv x _ (by simp [Op.operands]) hx) (hv y _ (by simp [Op.operands]) hy) (hg w) (hr hgc w)).mono fun v w' ⟨h1, h2⟩ => by
    subst h1; subst h2; rw [hpd]; exact ⟨rfl, Chg.refl _ _⟩
theorem np_shl (hG : Good ops pds []) (hF : FrS N σ a0) (ho : ops[j]? = some ⟨dst, .binOp .shl t x y yt, ty, pos, af, g⟩) (hx : envP ops σ pds j x = some (.int .i64 m)) (hy : envP ops σ pds j y = some (.int kd n))
    (hz : gc ops pds ops.size j → shl? m n = some z) (hpd : pds.getD j .any = .eq (.int .i64 z)) : NPB P draw ms ops pds a0 w0 Q j := np_bin hG hF ho hx hy (fun w => by simp [eqGuard]) (fun h w => shl_run (hz h) _ w) hpd
end
end Go.GL
