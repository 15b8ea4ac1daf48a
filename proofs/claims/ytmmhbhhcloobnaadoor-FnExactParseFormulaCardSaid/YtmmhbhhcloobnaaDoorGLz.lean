/- Own library, part z: a part of a block. -/
import Derived.Test.YtmmhbhhcloobnaaDoorGLy
namespace Go.GL
open Go.RowKit
section
variable {P : Program} {ops : Array Oper} {Q : Exit → Act → World → Prop} {a a0 : Act} {w w0 : World} {N : Nat} {σ : List (Nat × Value)} {k d j : Nat} {t ty : TypeId} {x y : Operand} {pos : String} {af : Array Edge} {α : Type} [Rep α] {b off : Nat} {bt : TypeId} {cs ps : List Value}
  {draw : Bool} {ms : List Nat} {pds : List Pd} {dst : Option Tmp} {g : Option (Nat × Bool)}
theorem Box.part (h : Box w b bt cs) (hp : (cs.drop off).take ps.length = ps) : Cells w ⟨b, off, none⟩ ps := fun j u hu => by
  have e : (⟨b, off, none⟩ : Addr).add j = (⟨b, 0, none⟩ : Addr).add (off + j) := by unfold Addr.add; split <;> simp_all
  rw [e]
  refine h.cells (off + j) u ?_
  rw [← hp] at hu
  rw [List.getElem?_take] at hu
  split at hu
  · rw [List.getElem?_drop] at hu; exact hu
  · cases hu
theorem does_loadPart {o : Oper} (ho : o.op = .load t x) (ht : Ty P t α) (ha : Rep.agg α = true) (hv : a.eval x = .pointer (some ⟨b, off, none⟩)) (hb : Box w b bt cs) (hl : ps.length = Rep.sz α) (hp : (cs.drop off).take ps.length = ps) :
    Does P o a w fun v w' => v = .agg ps.toArray ∧ w' = w := by
  refine does_value (v := .agg ps.toArray) (w' := w) ?_ ⟨rfl, rfl⟩
  have := run_loadVar ht (ad := ⟨b, off, none⟩) hl (hb.part hp)
  obtain ⟨dst, op, type, pos, after, guard⟩ := o
  simp only at ho; subst ho
  simp [execOp, Instr.loadAt, hv, Instr.sureAddr, this, Rep.val, ha]
theorem s_loadPart (ps : List Value) (ht : Ty P t α) (ho : ops[k]? = some ⟨some d, .load t x, ty, pos, af, none⟩) (hd : Nat.blt d N = true) (hF : FrS N σ a)
    (hx : opd σ x = some (.pointer (some ⟨b, off, none⟩))) (hb : Box w b bt cs) (ha : Rep.agg α = true) (hl : ps.length = Rep.sz α) (hp : (cs.drop off).take ps.length = ps) (h : ∀ fr, FrS N ((d, .agg ps.toArray) :: σ) fr → wpFrom P ops Q (k + 1) fr w) : wpFrom P ops Q k a w :=
  from_val hF ho rfl rfl (Nat.blt_eq.mp hd) (does_loadPart rfl ht ha (opd_eval hF hx) hb hl hp) fun _ _ fr ⟨hv, hw⟩ hF' => by subst hv; subst hw; exact h fr hF'
theorem np_loadPart (ps : List Value) {u : Value} (hG : Good ops pds []) (hF : FrS N σ a0) (ht : Ty P t α) (ho : ops[j]? = some ⟨dst, .load t x, ty, pos, af, g⟩)
    (hx : envP ops σ pds j x = some (.pointer (some ⟨b, off, none⟩))) (hb : Box w0 b bt cs) (ha : Rep.agg α = true) (hl : ps.length = Rep.sz α) (hp : (cs.drop off).take ps.length = ps) (hu : .agg ps.toArray = u) (hpd : pds.getD j .any = .eq u) : NPB P draw ms ops pds a0 w0 Q j :=
  np_b _ ho hG hF fun _ w hC _ hv _ => (does_loadPart rfl ht ha (hv x _ (by simp [Op.operands]) hx) (hb.ext hC) hl hp).mono fun v w' ⟨h1, h2⟩ => by
    subst h1; subst h2; rw [hpd]; exact ⟨hu, Chg.refl _ _⟩
end

/-! ### a field of an element -/
section
variable {P : Program} {ops : Array Oper} {Q : Exit → Act → World → Prop} {a : Act} {w : World} {N : Nat} {σ : List (Nat × Value)} {k d d2 d3 : Nat} {t ty : TypeId} {x y : Operand} {pos : String} {af : Array Edge}
theorem s_elemField {α β : Type} [Flat α] [Rep β] {e s' t' ty' ty2 : TypeId} {fl : Nat} {pos' pos2 : String} {af' af2 : Array Edge} {F : Nat → Prop} {v u : Value} {l : List α} {kd : IntKind} {n : Int} {z : α} {off : Nat} (he : Ty P e α) (ht : P.underlying t = some (.slice e)) (hT : Ty P t' β)
    (ho : ops[k]? = some ⟨some d, .indexAddr t x y, ty, pos, af, none⟩) (ho2 : ops[k + 1]? = some ⟨some d2, .fieldAddr s' (.tmp d) fl, ty2, pos2, af2, none⟩) (ho' : ops[k + 2]? = some ⟨some d3, .load t' (.tmp d2), ty', pos', af', none⟩) (hd : Nat.blt d N = true) (hd2 : Nat.blt d2 N = true) (hd3 : Nat.blt d3 N = true) (hF : FrS N σ a)
    (hx : opd σ x = some v) (hl : RV w F v l) (hy : opd σ y = some (.int kd n)) (hn : 0 ≤ n) (hz : l[n.toNat]? = some z) (hoff : fieldOff P s' fl = some off) (ha : Rep.agg β = false) (hu : (Flat.enc z)[off]? = some u)
    (h : ∀ p p2 fr, FrS N ((d3, u) :: (d2, p2) :: (d, p) :: σ) fr → wpFrom P ops Q (k + 3) fr w) : wpFrom P ops Q k a w := by
  refine from_val hF ho rfl rfl (Nat.blt_eq.mp hd) (does_index rfl ht he (opd_eval hF hx) hl (opd_eval hF hy) hn hz) fun p w1 fr1 hpw hF1 => ?_
  obtain ⟨⟨ad, cs, rfl, hFb, hok, hc⟩, rfl⟩ := hpw
  have hcs := Flat.iff.1 hok
  subst hcs
  have hp1 := hF1.get d (.pointer (some ad)) (by simp)
  refine from_val hF1 ho2 rfl rfl (Nat.blt_eq.mp hd2) (R := fun p w2 => p = .pointer (some (ad.add off)) ∧ w1 = w2) (does_value (pe_run (P := P) (ρ := fun y => match y with | .tmp s => if s = d then some (.pointer (some ad)) else none | _ => none) (fun y z hy => by
    split at hy
    · split at hy
      · rename_i hyd; subst hyd; rw [← Option.some.inj hy]; exact hp1
      · cases hy
    · cases hy) (by simp [pe, hoff]) w1) ⟨rfl, rfl⟩) fun p2 w2 fr2 hp2 hF2 => ?_
  obtain ⟨rfl, rfl⟩ := hp2
  have hc1 : Cells w1 (ad.add off) [u] := fun j q hq => by
    cases j with
    | zero =>
      simp only [List.getElem?_cons_zero, Option.some.injEq] at hq; subst hq
      rw [add_add, Nat.add_zero]; exact hc off u hu
    | succ j => simp at hq
  have hl1 : ([u] : List Value).length = Rep.sz β := by rw [Rep.sgl ha]; rfl
  refine from_val hF2 ho' rfl rfl (Nat.blt_eq.mp hd3) (R := fun z w3 => z = u ∧ w1 = w3) (does_value (v := u) (w' := w1) ?_ ⟨rfl, rfl⟩) fun z w3 fr3 hz3 hF3 => ?_
  · have hd1 := hF2.get d2 (.pointer (some (ad.add off))) (by simp)
    have := run_loadVar hT hl1 hc1
    have hv : Rep.val β [u] = u := by unfold Rep.val; rw [ha]; rfl
    rw [hv] at this
    simp [execOp, Instr.loadAt, hd1, Instr.sureAddr, this]
  · obtain ⟨rfl, rfl⟩ := hz3
    exact h _ _ fr3 hF3
end

/-! ### regions that draw: what is made is wrapped; literals that are only read -/
section
variable {P : Program} {draw : Bool} {ms : List Nat} {ops : Array Oper} {a0 : Act} {w0 : World} {Q : Exit → Act → World → Prop} {pds : List Pd} {σ : List (Nat × Value)} {N j : Nat} {dst : Option Tmp} {g : Option (Nat × Bool)}
  {t ty : TypeId} {x y : Operand} {pos : String} {af : Array Edge} {ow : Nat → Nat}
open Classical in
theorem np_thru {ι : Type} {V V' : ι → Value} {H : ι → HP} {i s tag : Nat} {o : Oper} (hG : Good ops pds []) (hF : FrS N σ a0) (ho : ops[j]? = some o) (hj : Nat.blt j ops.size = true) (hs : (o.op.operands.toList.any fun x => match x with | .tmp u => Nat.beq u s | _ => false) = true) (hl : lastW ops s j = some i) (hok : okG ops ops.size j i = true)
    (hpi : pds.getD i .any = .is fun v w => ∃ x, v = V x ∧ (H x).ok w (fun k => w0.heap.size ≤ k ∧ k < w.heap.size ∧ ow k = tag))
    (hpe : ∀ x, pe P (fun y => match y with | .tmp u => if u = s then some (V x) else envP ops σ pds j (.tmp u) | z => envP ops σ pds j z) o.op = some (V' x))
    (hpd : pds.getD j .any = .is fun v w => ∃ x, v = V' x ∧ (H x).ok w (fun k => w0.heap.size ≤ k ∧ k < w.heap.size ∧ ow k = tag)) : NPB P draw ms ops pds a0 w0 Q j :=
  np_b o ho hG hF fun a w hC hg hv hk => by
    have hs' : Operand.tmp s ∈ o.op.operands := by
      rw [List.any_eq_true] at hs
      obtain ⟨x, hx, hb⟩ := hs
      cases x with
      | tmp u => obtain rfl := Nat.eq_of_beq_eq_true hb; simpa using hx
      | const => cases hb
      | global => cases hb
      | func => cases hb
    have h1 := know_is hG hj hl hok hg (hk s hs')
    rw [hpi] at h1
    obtain ⟨z, hz, hH⟩ := h1
    rw [hpd]
    refine does_value (v := V' z) (w' := w) (pe_run (ρ := fun y => if y ∈ o.op.operands then (match y with | .tmp u => if u = s then some (V z) else envP ops σ pds j (.tmp u) | z => envP ops σ pds j z) else none) (fun q u hq => ?_) ?_ w) ⟨⟨z, rfl, hH⟩, Chg.refl _ _⟩
    · split at hq
      · rename_i hmem
        split at hq
        · split at hq
          · rename_i he; subst he
            rw [← Option.some.inj hq]; exact hz
          · exact hv _ _ hmem hq
        · exact hv _ _ hmem hq
      · cases hq
    · rw [← hpe z]
      exact pe_congr _ fun q hq => by rw [if_pos hq]
theorem lit_does {α : Type} [Rep α] {E : TypeId} {n : Nat} {parts : Array (Nat × Operand)} {a : Act} {w : World} (cells : List Value) (css : List (List Value)) (l : List α)
    (vals : List Value) (hv : parts.toList.map (fun p => envP ops σ pds j p.2) = vals.map some) (hvv : ∀ x v, x ∈ (Op.buildSlice t n parts).operands → envP ops σ pds j x = some v → a.eval x = v)
    (hrun : ∀ w, (Instr.buildSlice t n ((parts.toList.map (·.1)).zip vals).toArray).run P w = .ok (.slice (some ⟨w.heap.size, 0, none⟩) n n) (w.alloc (.cells cells.toArray E)))
    (hcss : ∀ w, Css w Non css l) (hfl : css.flatten = cells) (hln : l.length = n) (hmax : Nat.ble l.length room = true) :
    Does P ⟨dst, .buildSlice t n parts, ty, pos, af, g⟩ a w fun v w' => v = .slice (some ⟨w.heap.size, 0, none⟩) l.length l.length ∧ (SL E v l).ok w' (fun k => w.heap.size ≤ k) ∧ Chg Non w w' := by
  have hmax' : l.length ≤ maxLen := by
    have := Nat.le_of_ble_eq_true hmax
    unfold room at this
    simp only [maxLen]; omega
  have hown := own_new (w := w) (E := E) (G := fun k => w.heap.size ≤ k) (FF := Non) (hcss w) hfl hmax' (Nat.le_refl _) (fun _ _ h => h)
  refine does_value (v := .slice (some ⟨w.heap.size, 0, none⟩) l.length l.length) (w' := w.alloc (.cells cells.toArray E)) ?_ ⟨rfl, .inl ⟨_, hown⟩, Chg.alloc _ _⟩
  have e : (parts.map fun p => (p.1, a.eval p.2)) = ((parts.toList.map (·.1)).zip vals).toArray := by
    have key : ∀ (ps : List (Nat × Operand)) (vs : List Value), (∀ p ∈ ps, p.2 ∈ (Op.buildSlice t n parts).operands) → ps.map (fun p => envP ops σ pds j p.2) = vs.map some → ps.map (fun p => (p.1, a.eval p.2)) = (ps.map (·.1)).zip vs := by
      intro ps
      induction ps with
      | nil => intro vs _ h; cases vs with
        | nil => rfl
        | cons => simp at h
      | cons p ps ih => intro vs hm h; cases vs with
        | nil => simp at h
        | cons v vs =>
          simp only [List.map_cons, List.cons.injEq] at h
          rw [List.map_cons, List.map_cons, List.zip_cons_cons, ih vs (fun p hp => hm p (List.mem_cons_of_mem _ hp)) h.2, hvv p.2 v (hm p List.mem_cons_self) h.1]
    have := key parts.toList vals (fun p hp => by simp [Op.operands]; exact ⟨p.1, by simpa using hp⟩) hv
    rw [← this]; cases parts; simp
  have hr := hrun w
  rw [← e] at hr
  simp only [execOp]
  rw [hln]
  simpa using congrArg (fun r => r.andThen fun v w => Result.ok (Next.value v) w) hr
/-- a literal that is only read -/
theorem np_litI {α : Type} [Rep α] {E : TypeId} {n : Nat} {parts : Array (Nat × Operand)} (cells : List Value) (css : List (List Value)) (l : List α) (hG : Good ops pds []) (hF : FrS N σ a0) (ho : ops[j]? = some ⟨dst, .buildSlice t n parts, ty, pos, af, g⟩)
    (vals : List Value) (hv : parts.toList.map (fun p => envP ops σ pds j p.2) = vals.map some)
    (hrun : ∀ w, (Instr.buildSlice t n ((parts.toList.map (·.1)).zip vals).toArray).run P w = .ok (.slice (some ⟨w.heap.size, 0, none⟩) n n) (w.alloc (.cells cells.toArray E)))
    (hcss : ∀ w, Css w Non css l) (hfl : css.flatten = cells) (hln : l.length = n) (hmax : Nat.ble l.length room = true)
    (hpd : pds.getD j .any = .is fun v w => RV w (fun k => k < w.heap.size) v l) : NPB P draw ms ops pds a0 w0 Q j :=
  np_b _ ho hG hF fun a w _ _ hvv _ => (lit_does cells css l vals hv hvv hrun hcss hfl hln hmax).mono fun v w' ⟨_, h2, h3⟩ => by
    rw [hpd]; exact ⟨(SL.rv h2).sub fun k hk _ => hk, h3⟩
/-- an empty literal -/
theorem np_lit0 {E : TypeId} (hG : Good ops pds []) (hF : FrS N σ a0) (ho : ops[j]? = some ⟨dst, .buildSlice t 0 #[], ty, pos, af, g⟩)
    (hrun : ∀ w, (Instr.buildSlice t 0 #[]).run P w = .ok (.slice (some ⟨w.heap.size, 0, none⟩) 0 0) (w.alloc (.cells #[] E)))
    (hpd : pds.getD j .any = .is fun v _ => ∃ b, v = .slice b 0 0) : NPB P draw ms ops pds a0 w0 Q j :=
  np_b _ ho hG hF fun a w _ _ _ _ => (lit_does (α := Int) (E := E) (ops := ops) (σ := σ) (pds := pds) (j := j) [] [] [] [] rfl (fun _ _ h => by simp [Op.operands] at h) (by simpa using hrun) (fun _ => ⟨rfl, fun i cs x h => by simp at h⟩) rfl rfl rfl).mono fun v w' ⟨h1, _, h3⟩ => by
    rw [hpd]; exact ⟨⟨_, h1⟩, h3⟩
theorem mono_lit0 : (Pd.is fun v (_ : World) => ∃ b, v = .slice b 0 0).Mono Non := fun _ _ _ h _ => h
/-- append to an empty literal -/
theorem np_appE {α : Type} [Flat α] {E t' : TypeId} {i s : Nat} {u : Value} {m : List α} {Fr : Nat → Prop} (hG : Good ops pds []) (hF : FrS N σ a0) (ht : P.underlying t = some (.slice E)) (hE : ElT P E α) (ho : ops[j]? = some ⟨dst, .call ⟨.builtin .append, #[.tmp s, y], #[t, t']⟩, ty, pos, af, g⟩) (htt : t' = t) (hj : Nat.blt j ops.size = true)
    (hl : lastW ops s j = some i) (hok : okG ops ops.size j i = true) (hpi : pds.getD i .any = .is fun v _ => ∃ b, v = .slice b 0 0) {r : List α} (hy : envP ops σ pds j y = some u) (hu : RV w0 Fr u m) (hr : gc ops pds ops.size j → app? ([] : List α) m = some r)
    (hpd : pds.getD j .any = .is fun v w => ∃ i : Option Addr × Nat, v = .slice i.1 (List.length r) i.2 ∧ (SL E (.slice i.1 (List.length r) i.2) r).ok w (fun k => w0.heap.size ≤ k ∧ k < w.heap.size ∧ ow k = j)) : NPO P ms ops pds a0 w0 Q ow j :=
  np_new' (V := fun i : Option Addr × Nat => .slice i.1 (List.length r) i.2) (H := fun i => SL E (.slice i.1 (List.length r) i.2) r) _ ho hG hF (fun a w hC hg hv hk => by
    subst htt
    have h1 := know_is hG hj hl hok hg (hk s (by simp [Op.operands, Call.operands]))
    rw [hpi] at h1
    obtain ⟨b, hb⟩ := h1
    have hr := hr hg
    unfold app? at hr
    split at hr
    · rename_i hroom
      simp only [List.nil_append, Option.some.injEq] at hr; subst hr
      obtain ⟨v', w', hrun, hok', hc⟩ := append_empty_run (P := P) (ty := ty) (v := b) ht hE (hu.ext hC) (by simpa using hroom)
      have hsl : ∃ a' c', v' = .slice a' (List.length m) c' := by
        rcases hok' with ⟨go, ho⟩ | ⟨rfl, a', rfl⟩
        · exact ho.slice
        · exact ⟨a', 0, rfl⟩
      obtain ⟨a', c', rfl⟩ := hsl
      refine does_value ?_ ⟨⟨(a', c'), rfl, hok'⟩, hc⟩
      have hyv := hv y u (by simp [Op.operands, Call.operands]) hy
      simp [execOp, resolve, invoke, builtin, hb, hyv, hrun]
    · cases hr) hpd
section
open Go.Maps
variable {k e : TypeId} {κ β : Type} [Flat κ] [Flat β] [DecidableEq κ] (T : MapT P k e κ β)
theorem np_makeMap (hG : Good ops pds []) (hF : FrS N σ a0) (hm : ∀ w, (Instr.makeMap t none).run P w = .ok (.map (some w.heap.size)) (w.alloc (.map #[] 0))) (ho : ops[j]? = some ⟨dst, .makeMap t none, ty, pos, af, g⟩)
    (hpd : pds.getD j .any = .is fun v w => ∃ b, v = .map (some b) ∧ (MP T b []).ok w (fun k => w0.heap.size ≤ k ∧ k < w.heap.size ∧ ow k = j)) : NPO P ms ops pds a0 w0 Q ow j :=
  np_new (V := fun b => .map (some b)) (H := fun b => MP T b []) _ ho hG hF (fun a w _ _ _ => (does_makeMap rfl (hm w)).mono fun v w' ⟨h1, h2⟩ => ⟨⟨w.heap.size, h1, by subst h2; exact ⟨OwnM.made T, Nat.le_refl _⟩⟩, by subst h2; exact Chg.alloc w _⟩) hpd
end
end
end Go.GL
namespace Go.GL
open Go.RowKit
/-! ### calls of function values -/
section
variable {P : Program} {ops : Array Oper} {Q : Exit → Act → World → Prop} {a : Act} {w : World} {N : Nat} {σ : List (Nat × Value)} {k d : Nat} {ty : TypeId} {x : Operand} {pos : String} {af : Array Edge} {f : FuncId} {xs : Array Operand} {ts : Array TypeId}
theorem does_callV {o : Oper} {R : Value → World → Prop} (caps : List Value) (ho : o.op = .call { callee := .value x, args := xs, argTypes := ts }) (hx : a.eval x = .func (.func f) #[] caps.toArray)
    (hf : ∀ (args : Array Value) (w : World), (callFunc f args).run P w = .ok (.enter f args) w) {args : List Value} (ha : xs.toList.map a.eval = args)
    (h : Calls P f (args ++ caps).toArray w fun e w' => ∃ v, e = .returned v ∧ R v w') : Does P o a w R := by
  intro K Q hK
  obtain ⟨dst, op, type, pos, after, guard⟩ := o
  simp only at ho; subst ho
  have e : xs.map a.eval = args.toArray := by rw [← ha]; cases xs; simp
  have hrun : (execOp a.eval { dst, op := .call { callee := .value x, args := xs, argTypes := ts }, type, pos, after, guard }).run P w = .ok (.enter f (args ++ caps).toArray) w := by
    simp only [execOp, resolve, hx, Deferred.ofValue, Sem.run_bind, Sem.run_pure, Result.andThen_ok, invoke, hf, e]
    simp [invoke, hf]
  unfold Oper.wp; rw [hrun]
  refine h.mono fun e w' he => ?_
  obtain ⟨v, rfl, hv⟩ := he
  exact hK v w' hv
theorem s_callV (args caps : List Value) {R : Value → World → Prop} (hf : ∀ (args : Array Value) (w : World), (callFunc f args).run P w = .ok (.enter f args) w)
    (ho : ops[k]? = some ⟨some d, .call ⟨.value x, xs, ts⟩, ty, pos, af, none⟩) (hd : Nat.blt d N = true) (hF : FrS N σ a) (hx : opd σ x = some (.func (.func f) #[] caps.toArray)) (hargs : xs.toList.map (opd σ) = args.map some)
    (hc : Calls P f (args ++ caps).toArray w fun e w' => ∃ v, e = .returned v ∧ R v w') (h : ∀ v w' fr, R v w' → FrS N ((d, v) :: σ) fr → wpFrom P ops Q (k + 1) fr w') : wpFrom P ops Q k a w :=
  from_val hF ho rfl rfl (Nat.blt_eq.mp hd) (does_callV caps rfl (opd_eval hF hx) hf (map_eval hF hargs) hc) fun v w' fr hr hF' => h v w' fr hr hF'
end
end Go.GL
namespace Go.GL
open Go.RowKit
section
variable {P : Program} {draw : Bool} {ms : List Nat} {ops : Array Oper} {a0 : Act} {w0 : World} {Q : Exit → Act → World → Prop} {pds : List Pd} {σ : List (Nat × Value)} {N j : Nat} {dst : Option Tmp} {g : Option (Nat × Bool)}
  {t ty : TypeId} {pos : String} {af : Array Edge}
/-- the call of a function value -/
theorem np_callV {f : FuncId} {x : Operand} {xs : Array Operand} {ts : Array TypeId} (args caps : List Value) (hG : Good ops pds []) (hF : FrS N σ a0) (hf : ∀ (args : Array Value) (w : World), (callFunc f args).run P w = .ok (.enter f args) w)
    (ho : ops[j]? = some ⟨dst, .call ⟨.value x, xs, ts⟩, ty, pos, af, g⟩) (hx : envP ops σ pds j x = some (.func (.func f) #[] caps.toArray)) (hargs : xs.toList.map (envP ops σ pds j) = args.map some)
    (hc : ∀ w, Chg Non w0 w → gc ops pds ops.size j → Calls P f (args ++ caps).toArray w fun e w' => ∃ v, e = .returned v ∧ Chg Non w w' ∧ (pds.getD j .any).sat v w') : NPB P draw ms ops pds a0 w0 Q j :=
  np_b _ ho hG hF fun a w hC hg hv _ => by
    have h1 := map_envP (o := ⟨dst, .call ⟨.value x, xs, ts⟩, ty, pos, af, g⟩) (xs := xs.toList) (fun y hy => by simp [Op.operands, Call.operands]; exact .inr (by simpa using hy)) hv hargs
    have h2 := hv x _ (by simp [Op.operands, Call.operands]) hx
    exact does_callV caps rfl h2 hf h1 ((hc w hC hg).mono fun e w' ⟨v, he, h2, h3⟩ => ⟨v, he, h3, h2⟩)
/-- an element with memory, in a region that draws: it is only read there -/
theorem np_loadD {α : Type} [Rep α] {F : Nat → Prop} {z : α} {i s : Nat} (hG : Good ops pds []) (hF : FrS N σ a0) (ht : Ty P t α) (ho : ops[j]? = some ⟨dst, .load t (.tmp s), ty, pos, af, g⟩) (hj : Nat.blt j ops.size = true)
    (hl : lastW ops s j = some i) (hok : okG ops ops.size j i = true) (hpi : pds.getD i .any = .is fun v w => ElemP w F v z) (hpd : pds.getD j .any = .is fun v w => RV w (fun k => k < w.heap.size) v z) : NPB P draw ms ops pds a0 w0 Q j :=
  np_b _ ho hG hF fun a w _ hg _ hk => (does_load (F := F) (y := z) rfl ht rfl (by
    have := know_is hG hj hl hok hg (hk s (by simp [Op.operands])); rw [hpi] at this; exact this)).mono fun v w' ⟨h1, h2⟩ => by
    subst h2; rw [hpd]; exact ⟨h1.sub fun k hk _ => hk, Chg.refl _ _⟩
end
end Go.GL
