/- Own library, part x: returning; what a region that draws makes. -/
import Derived.Test.YtmmhbhhcloobnaaDoorGLw
namespace Go.GL
open Go.RowKit

section
variable {P : Program} {a : Act} {w : World} {N : Nat} {σ : List (Nat × Value)}

/-- the results, one for one -/
inductive Rets (P : Program) (σ : List (Nat × Value)) (w : World) : List ResultVar → List Value → Prop
  | nil : Rets P σ w [] []
  | tmp {t : Tmp} {v : Value} {rs : List ResultVar} {vs : List Value} (h : σ.lookup t = some v) (r : Rets P σ w rs vs) : Rets P σ w (.tmp t :: rs) (v :: vs)
  | cell {t : Tmp} {ty bt : TypeId} {α : Type} [Rep α] {b : Nat} {cs : List Value} {v : Value} {rs : List ResultVar} {vs : List Value} (h : σ.lookup t = some (.pointer (some ⟨b, 0, none⟩))) (hty : Ty P ty α) (hb : Box w b bt cs) (hl : cs.length = Rep.sz α) (hv : Rep.val α cs = v) (r : Rets P σ w rs vs) : Rets P σ w (.cell t ty :: rs) (v :: vs)

def getRes (a : Act) : ResultVar → Sem Value
  | .tmp t => pure (a.tmps.getD t undef)
  | .cell a' t => do loadVar t (← asAddr (a.tmps.getD a' undef))
theorem rets_run {rs : List ResultVar} {vs : List Value} (hF : FrS N σ a) (h : Rets P σ w rs vs) : (rs.mapM (getRes a)).run P w = .ok vs w := by
  induction h with
  | nil => simp
  | tmp h r ih =>
    have h1 := hF.get _ _ h
    simp only [Act.eval] at h1
    simp [List.mapM_cons, getRes, h1, ih]
  | cell h hty hb hl hv r ih =>
    have h1 := hF.get _ _ h
    simp only [Act.eval] at h1
    have h2 := run_loadVar hty (ad := ⟨_, 0, none⟩) hl hb.cells
    rw [hv] at h2
    simp [List.mapM_cons, getRes, h1, asAddr, h2, ih]

theorem retG {fn : Func} {R : Ending → World → Prop} {rs : List ResultVar} {vs : List Value} {v : Value} (hr : fn.results = rs.toArray) (hF : FrS N σ a) (hv : Rets P σ w rs vs) (hval : (if h : vs.toArray.size = 1 then vs.toArray[0] else .tuple vs.toArray) = v) (h : R (.returned v) w) :
    bodyPost P fn R .ret a w := by
  refine ⟨hF.defers, v, ?_, h⟩
  have := rets_run (P := P) hF hv
  have e : (results fn a.tmps).run P w = ((rs.toArray.mapM (getRes a)).run P w).andThen fun vs w => (pure (if h : vs.size = 1 then vs[0] else .tuple vs) : Sem Value).run P w := by
    unfold results
    rw [hr, Sem.run_bind]
    refine congrArg (fun m => Result.andThen (Sem.run P m w) _) (congrArg (fun f => Array.mapM f rs.toArray) ?_)
    funext x; cases x <;> rfl
  rw [e, Array.mapM_eq_mapM_toList]
  simp only [Sem.run_map, this]
  simp only [Result.andThen_ok, Sem.run_pure]
  rw [hval]
end

/-! ### what a region that draws makes -/
section
variable {P : Program} {draw : Bool} {ms : List Nat} {ops : Array Oper} {a0 : Act} {w0 : World} {Q : Exit → Act → World → Prop} {pds : List Pd} {σ : List (Nat × Value)} {N j : Nat} {dst : Option Tmp} {g : Option (Nat × Bool)}
  {t ty : TypeId} {x y : Operand} {pos : String} {af : Array Edge} {ι : Type} {V : ι → Value} {H : ι → HP} {ow : Nat → Nat}

theorem mono_new : (Pd.own fun ow v w => ∃ i, v = V i ∧ (H i).ok w (fun k => w0.heap.size ≤ k ∧ k < w.heap.size ∧ ow k = j)).MonoO :=
  ⟨fun ow v w w' ⟨i, h1, h2⟩ hc => ⟨i, h1, (H i).mono ((H i).keep h2 hc fun _ _ => id) fun k hk hh => ⟨hh.1, hk, hh.2.2⟩⟩,
   fun ow ow' v w hag ⟨i, h1, h2⟩ => ⟨i, h1, (H i).mono h2 fun k hk hh => ⟨hh.1, hh.2.1, by rw [← hag k hk]; exact hh.2.2⟩⟩⟩
theorem np_new' (o : Oper) (ho : ops[j]? = some o) (hG : Good ops pds []) (hF : FrS N σ a0)
    (hd : ∀ a w, Chg Non w0 w → gc ops pds ops.size j → (∀ x v, x ∈ o.op.operands → envP ops σ pds j x = some v → a.eval x = v) → (∀ t, Operand.tmp t ∈ o.op.operands → Know ops (TT ops pds) a0 j t (a.eval (.tmp t)) w) →
      Does P o a w fun v w' => (∃ i, v = V i ∧ (H i).ok w' (fun k => w.heap.size ≤ k)) ∧ Chg Non w w')
    (hpd : pds.getD j .any = .is fun v w => ∃ i, v = V i ∧ (H i).ok w (fun k => w0.heap.size ≤ k ∧ k < w.heap.size ∧ ow k = j)) : NPO P ms ops pds a0 w0 Q ow j := by
  intro o' ho' a w k _ _ hP hC hg hk K hK
  rw [ho] at ho'
  obtain rfl := Option.some.inj ho'
  refine hd a w hC hg (fun x v hx hv => envP_eval hG hF ho hg hk hx hv) (fun t ht => hk t (looks_operand ht)) K Q fun v w' ⟨⟨i, h1, h2⟩, h3⟩ => hK v w' ?_ h3 fun x hx => hP x (Nat.le_trans h3.size hx)
  rw [hpd]
  exact ⟨i, h1, (H i).mono h2 fun k hk hge => ⟨Nat.le_trans hC.size hge, hk, hP k hge⟩⟩
theorem np_new (o : Oper) (ho : ops[j]? = some o) (hG : Good ops pds []) (hF : FrS N σ a0)
    (hd : ∀ a w, Chg Non w0 w → gc ops pds ops.size j → (∀ x v, x ∈ o.op.operands → envP ops σ pds j x = some v → a.eval x = v) → Does P o a w fun v w' => (∃ i, v = V i ∧ (H i).ok w' (fun k => w.heap.size ≤ k)) ∧ Chg Non w w')
    (hpd : pds.getD j .any = .is fun v w => ∃ i, v = V i ∧ (H i).ok w (fun k => w0.heap.size ≤ k ∧ k < w.heap.size ∧ ow k = j)) : NPO P ms ops pds a0 w0 Q ow j :=
  np_new' o ho hG hF (fun a w h1 h2 h3 _ => hd a w h1 h2 h3) hpd
theorem np_alloc {z : Value} {cs : List Value} (hG : Good ops pds []) (hF : FrS N σ a0) (ho : ops[j]? = some ⟨dst, .alloc t, ty, pos, af, g⟩) (hz : (P.info? t).map (·.zero) = some (some z)) (hcs : z.cells.toList = cs)
    (hpd : pds.getD j .any = .is fun v w => ∃ b, v = .pointer (some ⟨b, 0, none⟩) ∧ (BX b t cs).ok w (fun k => w0.heap.size ≤ k ∧ k < w.heap.size ∧ ow k = j)) : NPO P ms ops pds a0 w0 Q ow j :=
  np_new (V := fun b => .pointer (some ⟨b, 0, none⟩)) (H := fun b => BX b t cs) _ ho hG hF (fun a w _ _ _ => (does_alloc rfl hz).mono fun v w' ⟨b, h1, h2, h3, h4⟩ => ⟨⟨b, h1, by rw [← hcs]; exact h3, by rw [h2]; exact Nat.le_refl _⟩, h4⟩) hpd
theorem np_make {α : Type} [Rep α] {E : TypeId} {n : Int} {zc : α} {r : List α} (hG : Good ops pds []) (hF : FrS N σ a0) (ht : P.underlying t = some (.slice E)) (hE : ElT P E α) (hz : ∀ w, ∀ i, P.info? E = some i → ∀ z, i.zero = some z → Rep.ok w (fun _ => False) z.cells.toList zc)
    (ho : ops[j]? = some ⟨dst, .makeSlice t x y, ty, pos, af, g⟩) (hx : envP ops σ pds j x = some (.int .i64 n)) (hy : envP ops σ pds j y = some (.int .i64 n)) (hr : gc ops pds ops.size j → mk? n zc = some r)
    (hpd : pds.getD j .any = .is fun v w => ∃ i : Option Addr × Nat, v = .slice i.1 (List.length r) i.2 ∧ (SL E (.slice i.1 (List.length r) i.2) r).ok w (fun k => w0.heap.size ≤ k ∧ k < w.heap.size ∧ ow k = j)) : NPO P ms ops pds a0 w0 Q ow j :=
  np_new (V := fun i : Option Addr × Nat => .slice i.1 (List.length r) i.2) (H := fun i => SL E (.slice i.1 (List.length r) i.2) r) _ ho hG hF (fun a w _ hg hv => by
    have hr := hr hg
    unfold mk? at hr
    split at hr
    · rename_i hn
      simp only [Option.some.injEq] at hr; subst hr
      obtain ⟨v', w', go', hrun, h1, h2, g, rfl, hg⟩ := make_run (P := P) (w := w) (E := E) (FF := Non) (G := fun k => w.heap.size ≤ k) ht hE (hz w) hn (Nat.le_refl _)
      obtain ⟨a', c', rfl⟩ := h1.slice
      refine does_value ?_ ⟨⟨(a', c'), rfl, .inl ⟨_, h1⟩⟩, h2⟩
      simp [execOp, hv x _ (by simp [Op.operands]) hx, hv y _ (by simp [Op.operands]) hy, hrun]
    · cases hr) hpd
theorem np_lit {α : Type} [Rep α] {E : TypeId} {n : Nat} {parts : Array (Nat × Operand)} (cells : List Value) (css : List (List Value)) (l : List α) (hG : Good ops pds []) (hF : FrS N σ a0) (ho : ops[j]? = some ⟨dst, .buildSlice t n parts, ty, pos, af, g⟩)
    (vals : List Value) (hv : parts.toList.map (fun p => envP ops σ pds j p.2) = vals.map some)
    (hrun : ∀ w, (Instr.buildSlice t n ((parts.toList.map (·.1)).zip vals).toArray).run P w = .ok (.slice (some ⟨w.heap.size, 0, none⟩) n n) (w.alloc (.cells cells.toArray E)))
    (hcss : ∀ w, Css w Non css l) (hfl : css.flatten = cells) (hln : l.length = n) (hmax : Nat.ble l.length room = true)
    (hpd : pds.getD j .any = .is fun v w => ∃ i : Option Addr × Nat, v = .slice i.1 (List.length l) i.2 ∧ (SL E (.slice i.1 (List.length l) i.2) l).ok w (fun k => w0.heap.size ≤ k ∧ k < w.heap.size ∧ ow k = j)) : NPO P ms ops pds a0 w0 Q ow j :=
  np_new (V := fun i : Option Addr × Nat => .slice i.1 (List.length l) i.2) (H := fun i => SL E (.slice i.1 (List.length l) i.2) l) _ ho hG hF (fun a w _ hg hvv => by
    have hmax' : l.length ≤ maxLen := by
      have := Nat.le_of_ble_eq_true hmax
      unfold room at this
      simp only [maxLen]; omega
    have hown := own_new (w := w) (E := E) (G := fun k => w.heap.size ≤ k) (FF := Non) (hcss w) hfl hmax' (Nat.le_refl _) (fun _ _ h => h)
    refine does_value (v := .slice (some ⟨w.heap.size, 0, none⟩) l.length l.length) (w' := w.alloc (.cells cells.toArray E)) ?_ ⟨⟨(some ⟨w.heap.size, 0, none⟩, l.length), rfl, .inl ⟨_, hown⟩⟩, Chg.alloc _ _⟩
    have e : (parts.map fun p => (p.1, a.eval p.2)) = ((parts.toList.map (·.1)).zip vals).toArray := by
      have key : ∀ (ps : List (Nat × Operand)) (vs : List Value), (∀ p ∈ ps, p.2 ∈ (Op.buildSlice t n parts).operands) → ps.map (fun p => envP ops σ pds j p.2) = vs.map some → ps.map (fun p => (p.1, a.eval p.2)) = (ps.map (·.1)).zip vs := by
        intro ps
        induction ps with
        | nil => intro vs _ h; cases vs with
          | nil => rfl
          | cons => simp at h
        | cons p ps ih => intro vs hm h; cases vs with
          | nil => simp at h
          | cons v vs =>
            simp only [List.map_cons, List.cons.injEq] at h
            rw [List.map_cons, List.map_cons, List.zip_cons_cons, ih vs (fun p hp => hm p (List.mem_cons_of_mem _ hp)) h.2, hvv p.2 v (hm p List.mem_cons_self) h.1]
      have := key parts.toList vals (fun p hp => by simp [Op.operands]; exact ⟨p.1, by simpa using hp⟩) hv
      rw [← this]; cases parts; simp
    have hr := hrun w
    rw [← e] at hr
    simp only [execOp]
    rw [hln]
    simpa using congrArg (fun r => r.andThen fun v w => Result.ok (Next.value v) w) hr) hpd
/-- a call that gives something new -/
theorem np_callN {f : FuncId} {xs : Array Operand} {ts : Array TypeId} (spec : List (Value ⊕ Nat)) (hG : Good ops pds []) (hF : FrS N σ a0) (hf : ∀ (args : Array Value) (w : World), (callFunc f args).run P w = .ok (.enter f args) w)
    (ho : ops[j]? = some ⟨dst, .call ⟨.value (.func f), xs, ts⟩, ty, pos, af, g⟩) (hj : Nat.blt j ops.size = true) (hargs : xs.toList.map (argSpec ops σ pds j) = spec.map some)
    (hpd : pds.getD j .any = .is fun v w => ∃ i, v = V i ∧ (H i).ok w (fun k => w0.heap.size ≤ k ∧ k < w.heap.size ∧ ow k = j))
    (hc : ∀ w vs, Chg Non w0 w → gc ops pds ops.size j → SpecP pds w spec vs → Calls P f vs.toArray w fun e w' => ∃ v, e = .returned v ∧ Chg Non w w' ∧ ∃ i, v = V i ∧ (H i).ok w' (fun k => w.heap.size ≤ k)) : NPO P ms ops pds a0 w0 Q ow j :=
  np_new' _ ho hG hF (fun a w hC hg hv hk => by
    have h1 := spec_args (o := ⟨dst, .call ⟨.value (.func f), xs, ts⟩, ty, pos, af, g⟩) (xs := xs.toList) hG hj hg (fun x hx => by simp [Op.operands, Call.operands]; exact .inr (by simpa using hx)) hv hk hargs
    exact does_call (args := (xs.toList.map a.eval).toArray) rfl hf (by cases xs; simp) ((hc w _ hC hg h1).mono fun e w' ⟨v, he, h2, h3⟩ => ⟨v, he, h3, h2⟩)) hpd
def AllP {α : Type} (q : α → Prop) : List α → Prop
  | [] => True
  | x :: l => q x ∧ AllP q l
theorem AllP.mem {α : Type} {q : α → Prop} {x : α} : ∀ {l : List α}, AllP q l → x ∈ l → q x
  | _ :: _, h, hm => by
    cases hm with
    | head => exact h.1
    | tail _ hm => exact AllP.mem h.2 hm
/-- what different operations made lies apart -/
theorem sepO {w : World} (l : List (Nat × HP)) (hn : (l.map (·.1)).Nodup) (h : AllP (fun p => p.2.ok w (fun k => w0.heap.size ≤ k ∧ k < w.heap.size ∧ ow k = p.1)) l) {L : List HP} (hL : l.map (·.2) = L) : Sep L w (fun k => w0.heap.size ≤ k ∧ k < w.heap.size) := by
  subst hL
  refine ⟨fun i k => ∃ p, l[i]? = some p ∧ w0.heap.size ≤ k ∧ k < w.heap.size ∧ ow k = p.1, fun i P hi => ?_, fun i j k hne ⟨p, hp, _, _, h1⟩ ⟨q, hq, _, _, h2⟩ => ?_⟩
  · rw [List.getElem?_map] at hi
    cases hp : l[i]? with
    | none => rw [hp] at hi; cases hi
    | some p =>
      rw [hp] at hi
      simp only [Option.map_some, Option.some.injEq] at hi
      subst hi
      exact ⟨p.2.mono (h.mem (List.mem_of_getElem? hp)) fun k _ hk => ⟨p, hp, hk⟩, fun k ⟨q, _, h1, h2, _⟩ => ⟨h1, h2⟩⟩
  · refine hne (idx_inj hn (x := p.1) ?_ ?_)
    · rw [List.getElem?_map, hp]; rfl
    · rw [List.getElem?_map, hq]; simp only [Option.map_some, Option.some.injEq]; rw [← h2, h1]
theorem stp_new {w w' : World} (hc : Chg Non w w') : Stp w Non w' (fun k => w.heap.size ≤ k ∧ k < w'.heap.size) := ⟨hc, fun k hk => .inr hk.1, fun k hk => hk.2⟩
theorem EndM.is {m : Nat} {a : Act} {w : World} (hE : EndM ops (TT ops pds) a0 m a w) (t i : Nat) (hl : lastW ops t m = some i) (hg : guardOf ops i = none) : (pds.getD i .any).sat (a.eval (.tmp t)) w := by
  have h1 := hE.2.2 t
  unfold Know at h1
  rw [hl] at h1
  refine h1.1 ?_
  have hi := lastW_lt hl
  obtain ⟨m, hm⟩ : ∃ m, ops.size = m + 1 := ⟨ops.size - 1, by have := wr_lt hi.2; omega⟩
  rw [hm]; unfold gc; rw [hg]; trivial
end

/-- the header of the first part of an own slice -/
theorem np_front {P : Program} {draw : Bool} {ms : List Nat} {ops : Array Oper} {a0 : Act} {w0 : World} {Q : Exit → Act → World → Prop} {pds : List Pd} {σ : List (Nat × Value)} {N j : Nat} {dst : Option Tmp} {g : Option (Nat × Bool)} {t ty : TypeId} {x : Operand} {pos : String} {af : Array Edge}
    {α : Type} [Rep α] {E : TypeId} {lo : Option Operand} {hi : Operand} {b : Option Addr} {len0 c : Nat} {kh : IntKind} {n : Int} {F : Nat → Prop} {l r : List α} (hG : Good ops pds []) (hF : FrS N σ a0) (hE : Ty P E α) (ht : P.underlying t = some (.slice E)) (hop : ops[j]? = some ⟨dst, .slice t x lo (some hi) none, ty, pos, af, g⟩)
    (hx : envP ops σ pds j x = some (.slice b len0 c)) (hlo : lo = none) (hl : RV w0 F (.slice b len0 c) l) (hhi : envP ops σ pds j hi = some (.int kh n)) (hr : gc ops pds ops.size j → cut? l 0 n = some r) (hpd : pds.getD j .any = .eq (.slice b (List.length r) c)) : NPB P draw ms ops pds a0 w0 Q j := by
  subst hlo
  refine np_b _ hop hG hF fun a w hC hg hv _ => ?_
  have hr := hr hg
  obtain ⟨b', c', hvv, hc1, hc2, _⟩ := hl.slice
  simp only [Value.slice.injEq] at hvv
  obtain ⟨rfl, rfl, rfl⟩ := hvv
  unfold cut? at hr
  split at hr
  · rename_i hn
    obtain ⟨_, hn1, hn2⟩ := hn
    simp only [Int.toNat_zero, List.drop_zero, Option.some.injEq] at hr
    have hlen : r.length = n.toNat := by rw [← hr, List.length_take]; omega
    have hadd : b.map (fun x => x.add 0) = b := by cases b <;> simp [Addr.add]
    have hcc : n ≤ (c : Int) := by omega
    refine does_value (v := .slice b n.toNat c) (w' := w) ?_ ⟨by rw [hpd, hlen]; rfl, Chg.refl _ _⟩
    simp [execOp, Instr.sliceAt, Instr.slice, Instr.sliceBounds, Instr.sliceBound, asIntOf, hv x _ (by simp [Op.operands]) hx, hv hi _ (by simp [Op.operands]) hhi, run_underlying ht, hE.sizeOf, hn1, hcc, hadd]
  · cases hr
theorem Sep.front {α : Type} [Flat α] {w w0 : World} {S S0 F F0 : Nat → Prop} {L : List HP} {E : TypeId} {b : Option Addr} {len0 c : Nat} {n : Int} {l r : List α} (i : Nat) (hs : Sep L w S) (hM : Mem w0 S0 F0 w S F) (hL : L[i]? = some (SL E (.slice b len0 c) l)) (hr : cut? l 0 n = some r) :
    ∃ S', Stp w S w S' ∧ Sep (L.set i (SL E (.slice b (List.length r) c) r)) w S' := by
  obtain ⟨A, hok, hup⟩ := hs.upd i hL hM
  unfold cut? at hr
  split at hr
  · rename_i hn
    simp only [Int.toNat_zero, List.drop_zero, Option.some.injEq] at hr
    obtain ⟨_, hn1, hn2⟩ := hn
    have hlen : r.length = n.toNat := by rw [← hr, List.length_take]; omega
    refine hup (P' := SL E (.slice b (List.length r) c) r) (Chg.refl _ _) ?_
    rcases hok with ⟨go, ho⟩ | ⟨rfl, b', hb'⟩
    · obtain ⟨a', c', hv⟩ := ho.slice
      simp only [Value.slice.injEq] at hv
      obtain ⟨rfl, rfl, rfl⟩ := hv
      refine .inl ⟨go, ?_⟩
      rw [hlen, ← hr]
      exact (ho.front (by omega)).regard fun k _ hk => .inl hk
    · simp only [Value.slice.injEq] at hb'
      obtain ⟨rfl, rfl, rfl⟩ := hb'
      have h0 : r = [] := by rw [← hr]; simp
      exact .inr ⟨h0, b, by rw [h0]; rfl⟩
  · cases hr

/-- a call without results -/
theorem s_call0 {P : Program} {ops : Array Oper} {Q : Exit → Act → World → Prop} {a : Act} {w : World} {N : Nat} {σ : List (Nat × Value)} {k : Nat} {ty : TypeId} {pos : String} {af : Array Edge} {f : FuncId} {xs : Array Operand} {ts : Array TypeId} (args : List Value) {R : Value → World → Prop} (hf : ∀ (args : Array Value) (w : World), (callFunc f args).run P w = .ok (.enter f args) w)
    (ho : ops[k]? = some ⟨none, .call ⟨.value (.func f), xs, ts⟩, ty, pos, af, none⟩) (hF : FrS N σ a) (hargs : xs.toList.map (opd σ) = args.map some)
    (hc : Calls P f args.toArray w fun e w' => ∃ v, e = .returned v ∧ R v w') (h : ∀ v w', R v w' → FrS N σ a → wpFrom P ops Q (k + 1) a w') : wpFrom P ops Q k a w :=
  from_eff hF ho rfl rfl (does_call rfl hf (map_eval_arr hF hargs) hc) fun w' ⟨v, hr⟩ hF' => h v w' hr hF'
end Go.GL
namespace Go.GL
theorem Sep.relen {w : World} {S : Nat → Prop} {L : List HP} {α : Type} [Rep α] {E : TypeId} {a : Option Addr} {n c : Nat} {l : List α} (i : Nat) (h : Sep L w S) (hi : L[i]? = some (SL E (.slice a n c) l)) : n = l.length ∧ Sep (L.set i (SL E (.slice a l.length c) l)) w S := by
  obtain ⟨A, h1, h2⟩ := h.get i hi
  have e : n = l.length := by
    rcases h1 with ⟨go, h1⟩ | ⟨rfl, a', h1⟩
    · obtain ⟨a', c', hv⟩ := h1.slice
      simp only [Value.slice.injEq] at hv
      exact hv.2.1
    · simp only [Value.slice.injEq] at h1
      exact h1.2.1
  subst e
  refine ⟨rfl, ?_⟩
  have : L.set i (SL E (.slice a l.length c) l) = L := by
    apply List.ext_getElem?
    intro j
    rw [List.getElem?_set]
    split
    · rename_i hj; subst hj
      rw [hi, if_pos (List.getElem?_eq_some_iff.1 hi).1]
    · rfl
  rw [this]; exact h
theorem mem_outS {w0 w : World} {S F G : Nat → Prop} (h : Mem w0 Non (fun k => G k ∧ k < w0.heap.size) w S F) (k : Nat) (hk : S k) : G k ∨ w0.heap.size ≤ k := (h.sub k hk).elim (fun h => h.elim) .inr
theorem mem_outF {w0 w : World} {S F G : Nat → Prop} (h : Mem w0 Non (fun k => G k ∧ k < w0.heap.size) w S F) (k : Nat) (hk : F k) : G k ∨ w0.heap.size ≤ k := (h.fsub k hk).elim (fun h => .inl h.1) fun h => h.elim (fun h => h.elim) .inr
theorem sep_one {w w' : World} {A : Nat → Prop} {P : HP} (hp : Stp w Non w' A) (hs : Sep [P] w' A) : P.ok w' (fun k => w.heap.size ≤ k) := by
  obtain ⟨B, h1, h2⟩ := hs.get 0 rfl
  exact P.mono h1 fun k _ hk => (hp.sub k (h2 k hk)).elim (fun h => h.elim) id
end Go.GL
namespace Go.GL
theorem nil_of {α : Type} [Rep α] {w : World} {F : Nat → Prop} {a : Option Addr} {n c : Nat} {l : List α} (h : RV w F (.slice a n c) l) (ha : a = none) : l = [] := by
  obtain ⟨a', c', hv, _, _, hne⟩ := h.slice
  simp only [Value.slice.injEq] at hv
  obtain ⟨rfl, _, _⟩ := hv
  cases l with
  | nil => rfl
  | cons x l =>
    obtain ⟨ad, he, _⟩ := hne (by simp)
    rw [ha] at he; cases he
theorem nil_app {α : Type} {l r : List α} (hl : l = []) (h : ((app? ([] : List α) l).bind fun x => some x) = some r) : some ([] : List α) = some r := by
  subst hl
  unfold app? at h
  simpa using h
theorem nil_guard {P : Program} (t : TypeId) (x y : Operand) (a b : Option Addr) (n m c d : Nat) (w : World) : (eqGuard .eql t x y (.slice a n c) (.slice b m d)).run P w = .ok () w := by
  simp [eqGuard]
theorem nil_eq {P : Program} {t e : TypeId} (ht : P.underlying t = some (.slice e)) (a : Option Addr) (n c : Nat) (w : World) : (binOp .eql t (.slice a n c) (.slice none 0 0)).run P w = .ok (.bool (Option.isNone a)) w := by
  have h : (Op.equalIn (9999 + 1) t (.slice a n c) (.slice none 0 0)).run P w = .ok (Option.isNone a) w := by
    unfold Op.equalIn
    cases a <;> simp [run_underlying ht]
  simp only [binOp, Op.equal, Op.maxDepth, Sem.run_bind, Sem.run_pure]
  rw [h]; rfl
end Go.GL
/-! ### several new things at once -/
namespace Go.GL
def HP.sep (L : List HP) : HP := ⟨Sep L, fun h hA => h.mono hA, fun h hc hT => h.keep hc hT⟩
theorem Sep.flat {w : World} {S : Nat → Prop} {L1 L2 : List HP} (h : Sep (HP.sep L1 :: L2) w S) : Sep (L1 ++ L2) w S := by
  obtain ⟨A, R, h1, h2, h3, h4, h5⟩ := Sep.split (L1 := [HP.sep L1]) (L2 := L2) h
  obtain ⟨B, g1, g2⟩ := h1.get 0 rfl
  exact Sep.join (L1 := L1) g1 h2 (fun k _ ha hr => h3 k (g2 k ha) hr) (fun k _ h => h4 k (g2 k h)) (fun k _ h => h5 k h)
theorem sep_new {w w' : World} {A : Nat → Prop} {L : List HP} (hp : Stp w Non w' A) (hs : Sep L w' A) : (HP.sep L).ok w' (fun k => w.heap.size ≤ k) :=
  Sep.mono hs fun k _ hk => (hp.sub k hk).elim (fun h => h.elim) id

/-! ### a region, order by order -/
section
variable {P : Program} {ops : Array Oper} {Q : Exit → Act → World → Prop} {a : Act} {w : World} {L : Array Bool}
theorem any_start {id : Nat} {l : List Oper} (hmix : P.follows .mixedOrders = true) (h : ∀ w', Chg Non w w' → wpAny P .any l.toArray Q l.toArray.size (Array.replicate l.toArray.size false) a w') : (Code.region id l.toArray true).wp P Q a w :=
  wp_region_any hmix (h _ (Chg.drew w))
theorem ra_start {l : List Oper} (h : ∀ w', Chg Non w w' → wpAny P .any l.toArray Q l.toArray.size (Array.replicate l.toArray.size false) a w') : RA P l.toArray Q a w := h _ (Chg.drew w)
theorem any_node {fuel : Nat} (rs : List Nat) (hr : Region.ready .any ops L = rs) (hne : rs ≠ []) (h : AllL (fun i => wpOp P ops Q i (wpAny P .any ops Q fuel (L.setIfInBounds i true)) a w) rs) : wpAny P .any ops Q (fuel + 1) L a w :=
  ⟨fun h0 => absurd (hr.symm.trans h0) hne, fun i hi => h.mem (by rw [← hr]; exact hi)⟩
theorem wp_unthen {o : Oper} {K' K : Act → World → Prop} (hk : ∀ a w, K' a w → K a w) (h : o.wp P a w K' (Exit.then K Q)) : o.wp P a w K Q := by
  unfold Oper.wp at *
  generalize (execOp a.eval o).run P w = r at *
  cases r with
  | ok n w =>
    cases n with
    | value v => exact hk _ w h
    | skip => exact hk _ w h
    | defer d => exact hk _ w h
    | enter f args =>
      refine Calls.mono h fun e w' he => ?_
      cases e with
      | returned v => exact hk _ w' he
      | panicked c => exact he
      | outgrown => exact he
    | row r args => exact Rows.mono h fun v w' he => hk _ w' he
    | _ => exact h
  | halt hh w =>
    cases hh with
    | panic v => exact h
    | _ => exact h
theorem op_of {i : Nat} {K : Act → World → Prop} (o : Oper) (ho : ops[i]? = some o) (hg : o.guard = none) (h : wpFrom P #[o] (Exit.then K Q) 0 a w) : wpOp P ops Q i K a w := by
  unfold wpOp
  simp only [ho]
  have hw : ∀ y, Region.wanted o y = true := fun y => by simp [Region.wanted, hg]
  rw [if_pos (hw _)]
  unfold wpFrom at h
  simp only [List.drop_zero] at h
  unfold wpList at h
  rw [if_pos (hw _)] at h
  rcases h with h | ⟨h1, h2⟩
  · left
    refine wp_unthen (K' := wpList P #[o] (Exit.then K Q) []) (fun a w hh => ?_) h
    unfold wpList at hh
    exact hh
  · exact .inr ⟨h1, h2⟩
def takesB (ops : Array Oper) : Array Bool → List Nat → Bool
  | _, [] => true
  | L, i :: is => Region.free .any ops L i && (Region.ready .any ops L).contains i && takesB ops (L.setIfInBounds i true) is
theorem any_takes0 {N fuel : Nat} (hns : Region.noSelect ops = true) (hQ : ∀ c a d v w, Q (.panic c) (Act.put a (some d) v) w → Q (.panic c) a w) :
    ∀ (is : List Nat) (L : Array Bool) (σ σ1 : List (Nat × Value)) (a : Act), FrS N σ a → takesB ops L is = true → seqV P N (is.filterMap (ops[·]?)) σ = some σ1 → (∀ a', FrS N σ1 a' → wpAny P .any ops Q fuel (is.foldl (fun L i => L.setIfInBounds i true) L) a' w) → wpAny P .any ops Q (fuel + is.length) L a w
  | [], L, σ, σ1, a, hF, _, hs, h => by
    simp only [List.filterMap_nil, seqV, Option.some.injEq] at hs
    subst hs
    exact h a hF
  | i :: is, L, σ, σ1, a, hF, ht, hs, h => by
    simp only [takesB, Bool.and_eq_true] at ht
    obtain ⟨⟨h1, h2⟩, h3⟩ := ht
    cases ho : ops[i]? with
    | none =>
      unfold Region.free at h1
      rw [ho] at h1
      cases h1
    | some o =>
      rw [List.filterMap_cons, ho] at hs
      simp only at hs
      unfold seqV at hs
      split at hs
      · rename_i d v hg hd hv
        split at hs
        · rename_i hdN
          have hw : Region.wanted o (yielded ops a.tmps) = true := by simp [Region.wanted, hg]
          have hy : Yields P ops o v a := .inl ⟨hw, fun w => pe_run (P := P) (ρ' := a.eval) (fun x u hx => opd_eval hF hx) hv w⟩
          refine wpAny_take (fuel := fuel + is.length) ho hns h1 h2 (fun c a w => by rw [hd]; exact hQ c a d v w) hy ?_
          rw [hd]
          exact any_takes0 hns hQ is _ _ σ1 _ (hF.put hdN v) h3 hs h
        · cases hs
      · cases hs
/-- what touches no memory and stands apart from the rest is taken first -/
theorem any_takes {N fuel : Nat} (is : List Nat) (σ' : List (Nat × Value)) {σ : List (Nat × Value)} (hF : FrS N σ a) (hns : Region.noSelect ops = true) (ht : takesB ops L is = true)
    (hs : (seqV P N (is.filterMap (ops[·]?)) σ).map (fun s => σ'.map fun p => s.lookup p.1) = some (σ'.map fun p => some p.2)) (hQ : ∀ c a d v w, Q (.panic c) (Act.put a (some d) v) w → Q (.panic c) a w)
    (h : ∀ a', FrS N σ' a' → wpAny P .any ops Q fuel (is.foldl (fun L i => L.setIfInBounds i true) L) a' w) : wpAny P .any ops Q (fuel + is.length) L a w := by
  cases hq : seqV P N (is.filterMap (ops[·]?)) σ with
  | none => rw [hq] at hs; cases hs
  | some s =>
    rw [hq] at hs
    simp only [Option.map_some, Option.some.injEq] at hs
    exact any_takes0 hns hQ is L σ s a hF ht hq fun a' hF' => h a' (hF'.sub σ' hs)
theorem any_leaf {fuel : Nat} (hr : Region.ready .any ops L = []) (h : Q .normal a w) : wpAny P .any ops Q fuel L a w := by
  cases fuel with
  | zero => exact ⟨hr, h⟩
  | succ n => exact ⟨fun _ => h, fun i hi => by rw [hr] at hi; cases hi⟩
end
/-! more that is hoisted: sums of what is moved -/
def quietB (σ : List (Nat × Value)) (o : Oper) : Bool :=
  match o.op with
  | .move _ => true
  | .binOp .sub _ x y _ => (match opd σ x, opd σ y with | some (.int .i64 _), some (.int .i64 _) => true | _, _ => false)
  | .binOp .add _ x y _ => (match opd σ x, opd σ y with | some (.int .i64 _), some (.int .i64 _) => true | _, _ => false)
  | _ => false
theorem quiet_asks {P : Program} {N : Nat} {σ : List (Nat × Value)} {o : Oper} {a : Act} {w : World} (hF : FrS N σ a) (h : quietB σ o = true) : ¬ o.asks P a w := by
  intro hk
  have h1 := hk.1
  unfold quietB at h
  split at h
  · rename_i x ho
    simp [execOp, ho, noRoomEvent] at h1
    have h5 : noRoomEvent ∈ (#[] : Array _) := h1
    simp at h5
  · rename_i t x y yt ho
    split at h
    · rename_i m n hx hy
      simp [execOp, ho, opd_eval hF hx, opd_eval hF hy, binOp, Op.intArith, eqGuard, noRoomEvent] at h1
      have h5 : noRoomEvent ∈ (#[] : Array _) := h1
      simp at h5
    · cases h
  · rename_i t x y yt ho
    split at h
    · rename_i m n hx hy
      simp [execOp, ho, opd_eval hF hx, opd_eval hF hy, binOp, Op.intArith, eqGuard, noRoomEvent] at h1
      have h5 : noRoomEvent ∈ (#[] : Array _) := h1
      simp at h5
    · cases h
  · cases h
def hoistAll : List Nat → Array Oper → Array Oper
  | [], ops => ops
  | f :: is, ops => hoistAll is (hoist f ops)
section
variable {P : Program} {Q : Exit → Act → World → Prop} {w : World} {N : Nat}
theorem hoistAll_get (i : Nat) : ∀ (is : List Nat) (ops : Array Oper) (o : Oper), ops[i]? = some o → ∃ af, (hoistAll is ops)[i]? = some { o with after := af }
  | [], _, o, h => ⟨o.after, h⟩
  | f :: is, ops, o, h => by
    have h1 : ∃ af, (hoist f ops)[i]? = some { o with after := af } := by
      rw [hoist_get, h]
      simp only [Option.map_some]
      split
      · exact ⟨_, rfl⟩
      · exact ⟨o.after, rfl⟩
    obtain ⟨af, h1⟩ := h1
    have h2 := hoistAll_get i is (hoist f ops) { o with after := af } h1
    exact h2
theorem hoistAll_size : ∀ (is : List Nat) (ops : Array Oper), (hoistAll is ops).size = ops.size
  | [], _ => rfl
  | f :: is, ops => by unfold hoistAll; rw [hoistAll_size is, hoist_size]
theorem unhoistAll {fuel : Nat} {L : Array Bool} {a : Act} : ∀ (is : List Nat) (ops : Array Oper), (∀ f ∈ is, L.getD f false = true) → wpAny P .any (hoistAll is ops) Q fuel L a w → wpAny P .any ops Q fuel L a w
  | [], _, _, h => h
  | f :: is, ops, hl, h => wpAny_unhoist fuel L a w (hl f (by simp)) (unhoistAll is (hoist f ops) (fun g hg => hl g (by simp [hg])) h)
def quietS (P : Program) (N : Nat) (ops : Array Oper) : List Nat → List (Nat × Value) → Bool
  | [], _ => true
  | i :: is, σ =>
    match ops[i]? with
    | some o =>
      (match o.guard, o.dst, pe P (opd σ) o.op with
       | none, some d, some v => quietB σ o && decide (d < N) && quietS P N ops is ((d, v) :: σ)
       | _, _, _ => false)
    | none => false
theorem hoists_aux {fuel : Nat} {ops H : Array Oper} (hget : ∀ (i : Nat) (o : Oper), ops[i]? = some o → ∃ af, H[i]? = some { o with after := af }) (hns : Region.noSelect ops = true) (hQ : ∀ c a d v w, Q (.panic c) (Act.put a (some d) v) w → Q (.panic c) a w) :
    ∀ (is : List Nat) (L : Array Bool) (σ : List (Nat × Value)) (a : Act), FrS N σ a → takesB ops L is = true → takesB H L is = true → quietS P N ops is σ = true →
      (∀ a', wpAny P .any H Q fuel (is.foldl (fun L i => L.setIfInBounds i true) L) a' w → wpAny P .any ops Q fuel (is.foldl (fun L i => L.setIfInBounds i true) L) a' w) →
      wpAny P .any H Q (fuel + is.length) L a w → wpAny P .any ops Q (fuel + is.length) L a w
  | [], L, σ, a, _, _, _, _, hk, h => hk a h
  | i :: is, L, σ, a, hF, ht, hH, hq, hk, h => by
    simp only [takesB, Bool.and_eq_true] at ht hH
    obtain ⟨⟨h1, h2⟩, h3⟩ := ht
    obtain ⟨⟨g1, g2⟩, g3⟩ := hH
    unfold quietS at hq
    split at hq
    · rename_i o ho
      split at hq
      · rename_i d v hg hd hv
        simp only [Bool.and_eq_true, decide_eq_true_eq] at hq
        obtain ⟨⟨q1, hdN⟩, q2⟩ := hq
        have hrun : ∀ w, (execOp a.eval o).run P w = .ok (.value v) w := fun w => pe_run (P := P) (ρ' := a.eval) (fun x u hx => opd_eval hF hx) hv w
        have hw : ∀ y, Region.wanted o y = true := fun y => by simp [Region.wanted, hg]
        have hy : Yields P ops o v a := .inl ⟨hw _, hrun⟩
        refine wpAny_take (fuel := fuel + is.length) ho hns h1 h2 (fun c a w => by rw [hd]; exact hQ c a d v w) hy ?_
        rw [hd]
        refine hoists_aux hget hns hQ is _ _ _ (hF.put hdN v) h3 g3 q2 hk ?_
        obtain ⟨af, hHi⟩ := hget i o ho
        have h4 : wpOp P H Q i _ a w := h.2 i (by simpa using g2)
        unfold wpOp at h4
        rw [hHi] at h4
        simp only at h4
        rw [if_pos (by simp [Region.wanted, hg])] at h4
        rcases h4 with h4 | h4
        · unfold Oper.wp at h4
          have hr : (execOp a.eval { o with after := af }).run P w = .ok (.value v) w := hrun w
          rw [hr] at h4
          simp only [Oper.upon, hd] at h4
          exact h4
        · exact absurd h4.1 (quiet_asks hF (o := { o with after := af }) q1)
      · cases hq
    · cases hq
theorem ra_hoists {ops : Array Oper} (is : List Nat) {σ : List (Nat × Value)} {a : Act} (hF : FrS N σ a) (n : Nat) (hn : ops.size = n + is.length) (hns : Region.noSelect ops = true) (ht : takesB ops (Array.replicate ops.size false) is = true) (hH : takesB (hoistAll is ops) (Array.replicate ops.size false) is = true)
    (hq : quietS P N ops is σ = true) (hl : (is.all fun f => (is.foldl (fun L i => L.setIfInBounds i true) (Array.replicate ops.size false)).getD f false) = true) (hQ : ∀ c a d v w, Q (.panic c) (Act.put a (some d) v) w → Q (.panic c) a w) (h : RA P (hoistAll is ops) Q a w) : RA P ops Q a w := by
  unfold RA at *
  rw [hoistAll_size] at h
  have key := fun w1 : World => hoists_aux (w := w1) (fuel := n) (ops := ops) (H := hoistAll is ops) (fun i o ho => hoistAll_get i is ops o ho) hns hQ is (Array.replicate ops.size false) σ a hF ht hH hq (fun a' h' => unhoistAll is ops (fun f hf => List.all_eq_true.1 hl f hf) h')
  rw [← hn] at key
  exact key _ h
end
end Go.GL


/-! ### a block that is only read -/
namespace Go.GL
def FB (w : World) (F : Nat → Prop) (b : Nat) (t : TypeId) (cs : List Value) : Prop := Box w b t cs ∧ F b
section
variable {w w' w0 : World} {F F' F0 S S' S0 : Nat → Prop} {b : Nat} {t : TypeId} {cs : List Value}
theorem FB.ext (h : FB w F b t cs) (hc : Chg Non w w') : FB w' F b t cs := ⟨h.1.ext hc, h.2⟩
theorem FB.stp (h : FB w F b t cs) (hM : Mem w0 S0 F0 w S F) (hp : Stp w S w' S') : FB w' F b t cs := ⟨h.1.chg hp.chg fun hs => hM.dj b hs h.2, h.2⟩
theorem FB.mem (h : FB w0 F0 b t cs) (hM : Mem w0 S0 F0 w S F) : FB w F b t cs := ⟨h.1.chg hM.chg fun hs => hM.dj0 b hs h.2, hM.fz b h.2⟩
theorem FB.big (h : FB w F b t cs) (hf : ∀ k, F k → F' k) : FB w F' b t cs := ⟨h.1, hf b h.2⟩
theorem FB.sub (h : FB w F b t cs) (hf : ∀ k, k < w.heap.size → F k → F' k) : FB w F' b t cs := ⟨h.1, hf b h.1.lt h.2⟩
theorem Sep.fb {L : List HP} (i : Nat) (h : Sep L w S) (hi : L[i]? = some (BX b t cs)) : FB w S b t cs := by
  obtain ⟨A, h1, h2⟩ := h.get i hi
  exact ⟨h1.1, h2 b h1.2⟩
theorem RV.len {α : Type} [Rep α] {a : Option Addr} {n c : Nat} {l : List α} (h : RV w F (.slice a n c) l) : n = l.length := by
  obtain ⟨a', c', hv, _⟩ := h.slice
  simp only [Value.slice.injEq] at hv
  exact hv.2.1
end
end Go.GL

/-! more ends -/
namespace Go.GL
section
variable {P : Program} {a : Act} {w : World} {N : Nat} {σ : List (Nat × Value)}
theorem retGn {fn : Func} {R : Ending → World → Prop} {rs : List ResultVar} {vs : List Value} {v : Value} (hr : fn.results = rs.toArray) (hF : FrS N σ a) (hv : Rets P σ w rs vs) (hval : (if h : vs.toArray.size = 1 then vs.toArray[0] else .tuple vs.toArray) = v) (h : R (.returned v) w) :
    bodyPost P fn R .normal a w := retG hr hF hv hval h
theorem ret1n {fn : Func} {R : Ending → World → Prop} {t : Tmp} (hr : fn.results = #[.tmp t]) (hF : FrS N σ a) {v : Value} (hv : σ.lookup t = some v) (h : R (.returned v) w) : bodyPost P fn R .normal a w := ret1 hr hF hv h
theorem retSn {fn : Func} {R : Ending → World → Prop} {t : Tmp} {ty : TypeId} {α : Type} [Rep α] (hr : fn.results = #[.cell t ty]) (hF : FrS N σ a) (hty : Ty P ty α) (ha : Rep.agg α = true) {b : Nat} (hv : σ.lookup t = some (.pointer (some ⟨b, 0, none⟩)))
    {bt : TypeId} {cs : List Value} (hb : Box w b bt cs) (hl : cs.length = Rep.sz α) (h : R (.returned (.agg cs.toArray)) w) : bodyPost P fn R .normal a w := retS hr hF hty ha hv hb hl h
/-- two ways that meet again -/
theorem wp_merge {Q : Exit → Act → World → Prop} {x y : Code} {c : Operand} {b : Bool} (σ' : List (Nat × Value)) (hF : FrS N σ a) (hc : opd σ c = some (.bool b)) (ht : b = true → x.wp P (fun e a' w' => e = .normal ∧ w' = w ∧ FrS N σ' a') a w) (hf : b = false → y.wp P (fun e a' w' => e = .normal ∧ w' = w ∧ FrS N σ' a') a w)
    (h : ∀ a', FrS N σ' a' → Q .normal a' w) : (Code.cond c x y).wp P Q a w :=
  wp_if hF hc (fun hb => wp_mono (ht hb) fun e a' w' ⟨h1, h2, h3⟩ => by subst h1; subst h2; exact h a' h3) (fun hb => wp_mono (hf hb) fun e a' w' ⟨h1, h2, h3⟩ => by subst h1; subst h2; exact h a' h3)
end
end Go.GL
namespace Go.GL
theorem FrS.eqs {N : Nat} {σ σ' : List (Nat × Value)} {a : Act} (h : FrS N σ a) (e : σ = σ') : FrS N σ' a := e ▸ h
end Go.GL
