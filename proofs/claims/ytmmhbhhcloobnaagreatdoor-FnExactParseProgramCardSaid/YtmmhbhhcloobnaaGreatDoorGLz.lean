/- Own library, part z: a part of a block. -/
import Derived.Test.YtmmhbhhcloobnaaGreatDoorGLy
namespace Go.GL
open Go.RowKit
section
variable {P : Program} {ops : Array Oper} {Q : Exit → Act → World → Prop} {a a0 : Act} {w w0 : World} {N : Nat} {σ : List (Nat × Value)} {k d j : Nat} {t ty : TypeId} {x y : Operand} {pos : String} {af : Array Edge} {α : Type} [Rep α] {b off : Nat} {bt : TypeId} {cs ps : List Value}
  {draw : Bool} {ms : List Nat} {pds : List Pd} {dst : Option Tmp} {g : Option (Nat × Bool)}
theorem Box.part (h : Box w b bt cs) (hp : (cs.drop off).take ps.length = ps) : Cells w ⟨b, off, none⟩ ps := fun j u hu => by
  have e : (⟨b, off, none⟩ : Addr).add j = (⟨b, 0, none⟩ : Addr).add (off + j) := by unfold Addr.add; split <;> simp_all
  rw [e]
  refine h.cells (off + j) u ?_
  rw [← hp] at hu
  rw [List.getElem?_take] at hu
  split at hu
  · rw [List.getElem?_drop] at hu; exact hu
  · cases hu
end

/-! ### a field of an element -/
section
variable {P : Program} {ops : Array Oper} {Q : Exit → Act → World → Prop} {a : Act} {w : World} {N : Nat} {σ : List (Nat × Value)} {k d d2 d3 : Nat} {t ty : TypeId} {x y : Operand} {pos : String} {af : Array Edge}
theorem s_elemField {α β : Type} [Flat α] [Rep β] {e s' t' ty' ty2 : TypeId} {fl : Nat} {pos' pos2 : String} {af' af2 : Array Edge} {F : Nat → Prop} {v u : Value} {l : List α} {kd : IntKind} {n : Int} {z : α} {off : Nat} (he : Ty P e α) (ht : P.underlying t = some (.slice e)) (hT : Ty P t' β)
    (ho : ops[k]? = some ⟨some d, .indexAddr t x y, ty, pos, af, none⟩) (ho2 : ops[k + 1]? = some ⟨some d2, .fieldAddr s' (.tmp d) fl, ty2, pos2, af2, none⟩) (ho' : ops[k + 2]? = some ⟨some d3, .load t' (.tmp d2), ty', pos', af', none⟩) (hd : Nat.blt d N = true) (hd2 : Nat.blt d2 N = true) (hd3 : Nat.blt d3 N = true) (hF : FrS N σ a)
    (hx : opd σ x = some v) (hl : RV w F v l) (hy : opd σ y = some (.int kd n)) (hn : 0 ≤ n) (hz : l[n.toNat]? = some z) (hoff : fieldOff P s' fl = some off) (ha : Rep.agg β = false) (hu : (Flat.enc z)[off]? = some u)
    (h : ∀ p p2 fr, FrS N ((d3, u) :: (d2, p2) :: (d, p) :: σ) fr → wpFrom P ops Q (k + 3) fr w) : wpFrom P ops Q k a w := by
  refine from_val hF ho rfl rfl (Nat.blt_eq.mp hd) (does_index rfl ht he (opd_eval hF hx) hl (opd_eval hF hy) hn hz) fun p w1 fr1 hpw hF1 => ?_
  obtain ⟨⟨ad, cs, rfl, hFb, hok, hc⟩, rfl⟩ := hpw
  have hcs := Flat.iff.1 hok
  subst hcs
  have hp1 := hF1.get d (.pointer (some ad)) (by simp)
  refine from_val hF1 ho2 rfl rfl (Nat.blt_eq.mp hd2) (R := fun p w2 => p = .pointer (some (ad.add off)) ∧ w1 = w2) (does_value (pe_run (P := P) (ρ := fun y => match y with | .tmp s => if s = d then some (.pointer (some ad)) else none | _ => none) (fun y z hy => by
    split at hy
    · split at hy
      · rename_i hyd; subst hyd; rw [← Option.some.inj hy]; exact hp1
      · cases hy
    · cases hy) (by simp [pe, hoff]) w1) ⟨rfl, rfl⟩) fun p2 w2 fr2 hp2 hF2 => ?_
  obtain ⟨rfl, rfl⟩ := hp2
  have hc1 : Cells w1 (ad.add off) [u] := fun j q hq => by
    cases j with
    | zero =>
      simp only [List.getElem?_cons_zero, Option.some.injEq] at hq; subst hq
      rw [add_add, Nat.add_zero]; exact hc off u hu
    | succ j => simp at hq
  have hl1 : ([u] : List Value).length = Rep.sz β := by rw [Rep.sgl ha]; rfl
  refine from_val hF2 ho' rfl rfl (Nat.blt_eq.mp hd3) (R := fun z w3 => z = u ∧ w1 = w3) (does_value (v := u) (w' := w1) ?_ ⟨rfl, rfl⟩) fun z w3 fr3 hz3 hF3 => ?_
  · have hd1 := hF2.get d2 (.pointer (some (ad.add off))) (by simp)
    have := run_loadVar hT hl1 hc1
    have hv : Rep.val β [u] = u := by unfold Rep.val; rw [ha]; rfl
    rw [hv] at this
    simp [execOp, Instr.loadAt, hd1, Instr.sureAddr, this]
  · obtain ⟨rfl, rfl⟩ := hz3
    exact h _ _ fr3 hF3
end

/-! ### regions that draw: what is made is wrapped; literals that are only read -/
section
variable {P : Program} {draw : Bool} {ms : List Nat} {ops : Array Oper} {a0 : Act} {w0 : World} {Q : Exit → Act → World → Prop} {pds : List Pd} {σ : List (Nat × Value)} {N j : Nat} {dst : Option Tmp} {g : Option (Nat × Bool)}
  {t ty : TypeId} {x y : Operand} {pos : String} {af : Array Edge} {ow : Nat → Nat}
open Classical in
theorem lit_does {α : Type} [Rep α] {E : TypeId} {n : Nat} {parts : Array (Nat × Operand)} {a : Act} {w : World} (cells : List Value) (css : List (List Value)) (l : List α)
    (vals : List Value) (hv : parts.toList.map (fun p => envP ops σ pds j p.2) = vals.map some) (hvv : ∀ x v, x ∈ (Op.buildSlice t n parts).operands → envP ops σ pds j x = some v → a.eval x = v)
    (hrun : ∀ w, (Instr.buildSlice t n ((parts.toList.map (·.1)).zip vals).toArray).run P w = .ok (.slice (some ⟨w.heap.size, 0, none⟩) n n) (w.alloc (.cells cells.toArray E)))
    (hcss : ∀ w, Css w Non css l) (hfl : css.flatten = cells) (hln : l.length = n) (hmax : Nat.ble l.length room = true) :
    Does P ⟨dst, .buildSlice t n parts, ty, pos, af, g⟩ a w fun v w' => v = .slice (some ⟨w.heap.size, 0, none⟩) l.length l.length ∧ (SL E v l).ok w' (fun k => w.heap.size ≤ k) ∧ Chg Non w w' := by
  have hmax' : l.length ≤ maxLen := by
    have := Nat.le_of_ble_eq_true hmax
    unfold room at this
    simp only [maxLen]; omega
  have hown := own_new (w := w) (E := E) (G := fun k => w.heap.size ≤ k) (FF := Non) (hcss w) hfl hmax' (Nat.le_refl _) (fun _ _ h => h)
  refine does_value (v := .slice (some ⟨w.heap.size, 0, none⟩) l.length l.length) (w' := w.alloc (.cells cells.toArray E)) ?_ ⟨rfl, .inl ⟨_, hown⟩, Chg.alloc _ _⟩
  have e : (parts.map fun p => (p.1, a.eval p.2)) = ((parts.toList.map (·.1)).zip vals).toArray := by
    have key : ∀ (ps : List (Nat × Operand)) (vs : List Value), (∀ p ∈ ps, p.2 ∈ (Op.buildSlice t n parts).operands) → ps.map (fun p => envP ops σ pds j p.2) = vs.map some → ps.map (fun p => (p.1, a.eval p.2)) = (ps.map (·.1)).zip vs := by
      intro ps
      induction ps with
      | nil => intro vs _ h; cases vs with
        | nil => rfl
        | cons => simp at h
      | cons p ps ih => intro vs hm h; cases vs with
        | nil => simp at h
        | cons v vs =>
          simp only [List.map_cons, List.cons.injEq] at h
          rw [List.map_cons, List.map_cons, List.zip_cons_cons, ih vs (fun p hp => hm p (List.mem_cons_of_mem _ hp)) h.2, hvv p.2 v (hm p List.mem_cons_self) h.1]
    have := key parts.toList vals (fun p hp => by simp [Op.operands]; exact ⟨p.1, by simpa using hp⟩) hv
    rw [← this]; cases parts; simp
  have hr := hrun w
  rw [← e] at hr
  simp only [execOp]
  rw [hln]
  simpa using congrArg (fun r => r.andThen fun v w => Result.ok (Next.value v) w) hr
/-- a literal that is only read -/
theorem np_litI {α : Type} [Rep α] {E : TypeId} {n : Nat} {parts : Array (Nat × Operand)} (cells : List Value) (css : List (List Value)) (l : List α) (hG : Good ops pds []) (hF : FrS N σ a0) (ho : ops[j]? = some ⟨dst, .buildSlice t n parts, ty, pos, af, g⟩)
    (vals : List Value) (hv : parts.toList.map (fun p => envP ops σ pds j p.2) = vals.map some)
    (hrun : ∀ w, (Instr.buildSlice t n ((parts.toList.map (·.1)).zip vals).toArray).run P w = .ok (.slice (some ⟨w.heap.size, 0, none⟩) n n) (w.alloc (.cells cells.toArray E)))
    (hcss : ∀ w, Css w Non css l) (hfl : css.flatten = cells) (hln : l.length = n) (hmax : Nat.ble l.length room = true)
    (hpd : pds.getD j .any = .is fun v w => RV w (fun k => k < w.heap.size) v l) : NPB P draw ms ops pds a0 w0 Q j :=
  np_b _ ho hG hF fun a w _ _ hvv _ => (lit_does cells css l vals hv hvv hrun hcss hfl hln hmax).mono fun v w' ⟨_, h2, h3⟩ => by
    rw [hpd]; exact ⟨(SL.rv h2).sub fun k hk _ => hk, h3⟩
section
open Go.Maps
variable {k e : TypeId} {κ β : Type} [Flat κ] [Flat β] [DecidableEq κ] (T : MapT P k e κ β)
end
end
end Go.GL
namespace Go.GL
open Go.RowKit
/-! ### calls of function values -/
section
variable {P : Program} {ops : Array Oper} {Q : Exit → Act → World → Prop} {a : Act} {w : World} {N : Nat} {σ : List (Nat × Value)} {k d : Nat} {ty : TypeId} {x : Operand} {pos : String} {af : Array Edge} {f : FuncId} {xs : Array Operand} {ts : Array TypeId}
end
end Go.GL
namespace Go.GL
open Go.RowKit
section
variable {P : Program} {draw : Bool} {ms : List Nat} {ops : Array Oper} {a0 : Act} {w0 : World} {Q : Exit → Act → World → Prop} {pds : List Pd} {σ : List (Nat × Value)} {N j : Nat} {dst : Option Tmp} {g : Option (Nat × Bool)}
  {t ty : TypeId} {pos : String} {af : Array Edge}
end
end Go.GL
