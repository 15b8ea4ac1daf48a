/- Own library, part i: shifts, divisions, parts of slices. -/
import Derived.Test.YtmmhbhhcloobnaaGreatDoorGLh
namespace Go.GL
open Go.RowKit

theorem elT {P : Program} {E : TypeId} {α : Type} [Rep α] (h : (P.info? E).map (fun i => (i.zero.map (·.cells.size), i.size, decide (i.bytes ≤ 32768))) = some (some (Rep.sz α), Rep.sz α, true)) : ElT P E α := h

theorem shl_run {P : Program} {a b z : Int} {kd : IntKind} (h : shl? a b = some z) (t : TypeId) (w : World) : (binOp .shl t (.int .i64 a) (.int kd b)).run P w = .ok (.int .i64 z) w := by
  unfold shl? at h
  split at h
  · cases h
  · rename_i hb
    simp only [Option.some.injEq] at h; subst h
    simp [binOp, Op.shift, hb, IntKind.bits]
theorem quo_run {P : Program} {a b z : Int} (h : quo? a b = some z) (t : TypeId) (w : World) : (binOp .quo t (.int .i64 a) (.int .i64 b)).run P w = .ok (.int .i64 z) w := by
  unfold quo? at h
  split at h
  · cases h
  · rename_i hb
    simp only [Option.some.injEq] at h; subst h
    simp [binOp, Op.intDiv, hb]
theorem rem_run {P : Program} {a b z : Int} (h : rem? a b = some z) (t : TypeId) (w : World) : (binOp .rem t (.int .i64 a) (.int .i64 b)).run P w = .ok (.int .i64 z) w := by
  unfold rem? at h
  split at h
  · cases h
  · rename_i hb
    simp only [Option.some.injEq] at h; subst h
    simp [binOp, Op.intDiv, hb]

theorem does_bin {P : Program} {o : Oper} {a : Act} {w : World} {op : BinOp} {t yt : TypeId} {x y : Operand} (ho : o.op = .binOp op t x y yt) {vx vy u : Value} (hx : a.eval x = vx) (hy : a.eval y = vy)
    (hg : (eqGuard op t x y vx vy).run P w = .ok () w) (hr : (binOp op t vx vy).run P w = .ok u w) : Does P o a w fun v w' => v = u ∧ w' = w := by
  refine does_value (v := u) (w' := w) ?_ ⟨rfl, rfl⟩
  obtain ⟨dst, op', type, pos, after, guard⟩ := o
  simp only at ho; subst ho
  simp only [execOp, hx, hy]
  simp [hg, hr]

section
variable {P : Program} {ops : Array Oper} {Q : Exit → Act → World → Prop} {a : Act} {w : World} {N : Nat} {σ : List (Nat × Value)} {k d : Nat} {t yt ty : TypeId} {x y : Operand} {pos : String} {af : Array Edge} {m n z : Int} {kd : IntKind}
theorem s_bin {op : BinOp} {vx vy u : Value} (ho : ops[k]? = some ⟨some d, .binOp op t x y yt, ty, pos, af, none⟩) (hd : Nat.blt d N = true) (hF : FrS N σ a) (hx : opd σ x = some vx) (hy : opd σ y = some vy)
    (hg : (eqGuard op t x y vx vy).run P w = .ok () w) (hr : (binOp op t vx vy).run P w = .ok u w) (h : ∀ fr, FrS N ((d, u) :: σ) fr → wpFrom P ops Q (k + 1) fr w) : wpFrom P ops Q k a w :=
  from_val hF ho rfl rfl (Nat.blt_eq.mp hd) (does_bin rfl (opd_eval hF hx) (opd_eval hF hy) hg hr) fun _ _ fr ⟨hv, hw⟩ hF' => by subst hv; subst hw; exact h fr hF'
theorem s_quo (ho : ops[k]? = some ⟨some d, .binOp .quo t x y yt, ty, pos, af, none⟩) (hd : Nat.blt d N = true) (hF : FrS N σ a) (hx : opd σ x = some (.int .i64 m)) (hy : opd σ y = some (.int .i64 n)) (hz : quo? m n = some z)
    (h : ∀ fr, FrS N ((d, .int .i64 z) :: σ) fr → wpFrom P ops Q (k + 1) fr w) : wpFrom P ops Q k a w := s_bin ho hd hF hx hy (by simp [eqGuard]) (quo_run hz _ _) h
theorem s_rem (ho : ops[k]? = some ⟨some d, .binOp .rem t x y yt, ty, pos, af, none⟩) (hd : Nat.blt d N = true) (hF : FrS N σ a) (hx : opd σ x = some (.int .i64 m)) (hy : opd σ y = some (.int .i64 n)) (hz : rem? m n = some z)
    (h : ∀ fr, FrS N ((d, .int .i64 z) :: σ) fr → wpFrom P ops Q (k + 1) fr w) : wpFrom P ops Q k a w := s_bin ho hd hF hx hy (by simp [eqGuard]) (rem_run hz _ _) h

/-- a part of a slice -/
theorem cut_elems {α : Type} [Rep α] {w : World} {F : Nat → Prop} {ad : Addr} {l : List α} (h : elems w F ad 0 l) (lo hi : Nat) : elems w F (ad.add (lo * Rep.sz α)) 0 ((l.take hi).drop lo) := by
  refine elems_of fun i x hx => ?_
  rw [List.getElem?_drop, List.getElem?_take] at hx
  split at hx
  · obtain ⟨cs, h1, h2⟩ := elems_get h hx
    refine ⟨cs, h1, ?_⟩
    rw [add_add, show lo * Rep.sz α + (0 + i) * Rep.sz α = (0 + (lo + i)) * Rep.sz α by rw [Nat.zero_add, Nat.zero_add, Nat.add_mul]]
    exact h2
  · cases hx

end

section
variable {P : Program} {draw : Bool} {ms : List Nat} {ops : Array Oper} {a0 : Act} {w0 : World} {Q : Exit → Act → World → Prop} {pds : List Pd} {σ : List (Nat × Value)} {N j : Nat} {dst : Option Tmp} {g : Option (Nat × Bool)}
  {t yt ty : TypeId} {x y : Operand} {pos : String} {af : Array Edge} {m n z : Int} {kd : IntKind}
theorem np_bin {op : BinOp} {vx vy u : Value} (hG : Good ops pds []) (hF : FrS N σ a0) (ho : ops[j]? = some ⟨dst, .binOp op t x y yt, ty, pos, af, g⟩) (hx : envP ops σ pds j x = some vx) (hy : envP ops σ pds j y = some vy)
    (hg : ∀ w, (eqGuard op t x y vx vy).run P w = .ok () w) (hr : gc ops pds ops.size j → ∀ w, (binOp op t vx vy).run P w = .ok u w) (hpd : pds.getD j .any = .eq u) : NPB P draw ms ops pds a0 w0 Q j :=
  np_b _ ho hG hF fun _ w _ hgc hv _ => (does_bin rfl (hv x _ (by simp [Op.operands]) hx) (hv y _ (by simp [Op.operands]) hy) (hg w) (hr hgc w)).mono fun v w' ⟨h1, h2⟩ => by
    subst h1; subst h2; rw [hpd]; exact ⟨rfl, Chg.refl _ _⟩
theorem np_shl (hG : Good ops pds []) (hF : FrS N σ a0) (ho : ops[j]? = some ⟨dst, .binOp .shl t x y yt, ty, pos, af, g⟩) (hx : envP ops σ pds j x = some (.int .i64 m)) (hy : envP ops σ pds j y = some (.int kd n))
    (hz : gc ops pds ops.size j → shl? m n = some z) (hpd : pds.getD j .any = .eq (.int .i64 z)) : NPB P draw ms ops pds a0 w0 Q j := np_bin hG hF ho hx hy (fun w => by simp [eqGuard]) (fun h w => shl_run (hz h) _ w) hpd
theorem np_quo (hG : Good ops pds []) (hF : FrS N σ a0) (ho : ops[j]? = some ⟨dst, .binOp .quo t x y yt, ty, pos, af, g⟩) (hx : envP ops σ pds j x = some (.int .i64 m)) (hy : envP ops σ pds j y = some (.int .i64 n))
    (hz : gc ops pds ops.size j → quo? m n = some z) (hpd : pds.getD j .any = .eq (.int .i64 z)) : NPB P draw ms ops pds a0 w0 Q j := np_bin hG hF ho hx hy (fun w => by simp [eqGuard]) (fun h w => quo_run (hz h) _ w) hpd
theorem np_rem (hG : Good ops pds []) (hF : FrS N σ a0) (ho : ops[j]? = some ⟨dst, .binOp .rem t x y yt, ty, pos, af, g⟩) (hx : envP ops σ pds j x = some (.int .i64 m)) (hy : envP ops σ pds j y = some (.int .i64 n))
    (hz : gc ops pds ops.size j → rem? m n = some z) (hpd : pds.getD j .any = .eq (.int .i64 z)) : NPB P draw ms ops pds a0 w0 Q j := np_bin hG hF ho hx hy (fun w => by simp [eqGuard]) (fun h w => rem_run (hz h) _ w) hpd
end
end Go.GL
