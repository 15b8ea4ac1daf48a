/- Own library, part x: returning; what a region that draws makes. -/
import Derived.Test.YtdkfoghhjkjjlaaGLw
namespace Go.GL
open Go.RowKit

section
variable {P : Program} {a : Act} {w : World} {N : Nat} {σ : List (Nat × Value)}

/-- the results, one for one -/
inductive Rets (P : Program) (σ : List (Nat × Value)) (w : World) : List ResultVar → List Value → Prop
  | nil : Rets P σ w [] []
  | tmp {t : Tmp} {v : Value} {rs : List ResultVar} {vs : List Value} (h : σ.lookup t = some v) (r : Rets P σ w rs vs) : Rets P σ w (.tmp t :: rs) (v :: vs)
  | cell {t : Tmp} {ty bt : TypeId} {α : Type} [Rep α] {b : Nat} {cs : List Value} {v : Value} {rs : List ResultVar} {vs : List Value} (h : σ.lookup t = some (.pointer (some ⟨b, 0, none⟩))) (hty : Ty P ty α) (hb : Box w b bt cs) (hl : cs.length = Rep.sz α) (hv : Rep.val α cs = v) (r : Rets P σ w rs vs) : Rets P σ w (.cell t ty :: rs) (v :: vs)

def getRes (a : Act) : ResultVar → Sem Value
  | .tmp t => pure (a.tmps.getD t undef)
  | .cell a' t => do loadVar t (← asAddr (a.tmps.getD a' undef))
theorem rets_run {rs : List ResultVar} {vs : List Value} (hF : FrS N σ a) (h : Rets P σ w rs vs) : (rs.mapM (getRes a)).run P w = .ok vs w := by
  induction h with
  | nil => simp
  | tmp h r ih =>
    have h1 := hF.get _ _ h
    simp only [Act.eval] at h1
    simp [List.mapM_cons, getRes, h1, ih]
  | cell h hty hb hl hv r ih =>
    have h1 := hF.get _ _ h
    simp only [Act.eval] at h1
    have h2 := run_loadVar hty (ad := ⟨_, 0, none⟩) hl hb.cells
    rw [hv] at h2
    simp [List.mapM_cons, getRes, h1, asAddr, h2, ih]

theorem retG {fn : Func} {R : Ending → World → Prop} {rs : List ResultVar} {vs : List Value} {v : Value} (hr : fn.results = rs.toArray) (hF : FrS N σ a) (hv : Rets P σ w rs vs) (hval : (if h : vs.toArray.size = 1 then vs.toArray[0] else .tuple vs.toArray) = v) (h : R (.returned v) w) :
    bodyPost P fn R .ret a w := by
  refine ⟨hF.defers, v, ?_, h⟩
  have := rets_run (P := P) hF hv
  have e : (results fn a.tmps).run P w = ((rs.toArray.mapM (getRes a)).run P w).andThen fun vs w => (pure (if h : vs.size = 1 then vs[0] else .tuple vs) : Sem Value).run P w := by
    unfold results
    rw [hr, Sem.run_bind]
    refine congrArg (fun m => Result.andThen (Sem.run P m w) _) (congrArg (fun f => Array.mapM f rs.toArray) ?_)
    funext x; cases x <;> rfl
  rw [e, Array.mapM_eq_mapM_toList]
  simp only [Sem.run_map, this]
  simp only [Result.andThen_ok, Sem.run_pure]
  rw [hval]
end

/-! ### what a region that draws makes -/
section
variable {P : Program} {draw : Bool} {ms : List Nat} {ops : Array Oper} {a0 : Act} {w0 : World} {Q : Exit → Act → World → Prop} {pds : List Pd} {σ : List (Nat × Value)} {N j : Nat} {dst : Option Tmp} {g : Option (Nat × Bool)}
  {t ty : TypeId} {x y : Operand} {pos : String} {af : Array Edge} {ι : Type} {V : ι → Value} {H : ι → HP} {ow : Nat → Nat}

theorem mono_new : (Pd.own fun ow v w => ∃ i, v = V i ∧ (H i).ok w (fun k => w0.heap.size ≤ k ∧ k < w.heap.size ∧ ow k = j)).MonoO :=
  ⟨fun ow v w w' ⟨i, h1, h2⟩ hc => ⟨i, h1, (H i).mono ((H i).keep h2 hc fun _ _ => id) fun k hk hh => ⟨hh.1, hk, hh.2.2⟩⟩,
   fun ow ow' v w hag ⟨i, h1, h2⟩ => ⟨i, h1, (H i).mono h2 fun k hk hh => ⟨hh.1, hh.2.1, by rw [← hag k hk]; exact hh.2.2⟩⟩⟩
theorem np_new' (o : Oper) (ho : ops[j]? = some o) (hG : Good ops pds []) (hF : FrS N σ a0)
    (hd : ∀ a w, Chg Non w0 w → gc ops pds ops.size j → (∀ x v, x ∈ o.op.operands → envP ops σ pds j x = some v → a.eval x = v) → (∀ t, Operand.tmp t ∈ o.op.operands → Know ops (TT ops pds) a0 j t (a.eval (.tmp t)) w) →
      Does P o a w fun v w' => (∃ i, v = V i ∧ (H i).ok w' (fun k => w.heap.size ≤ k)) ∧ Chg Non w w')
    (hpd : pds.getD j .any = .is fun v w => ∃ i, v = V i ∧ (H i).ok w (fun k => w0.heap.size ≤ k ∧ k < w.heap.size ∧ ow k = j)) : NPO P ms ops pds a0 w0 Q ow j := by
  intro o' ho' a w k _ _ hP hC hg hk K hK
  rw [ho] at ho'
  obtain rfl := Option.some.inj ho'
  refine hd a w hC hg (fun x v hx hv => envP_eval hG hF ho hg hk hx hv) (fun t ht => hk t (looks_operand ht)) K Q fun v w' ⟨⟨i, h1, h2⟩, h3⟩ => hK v w' ?_ h3 fun x hx => hP x (Nat.le_trans h3.size hx)
  rw [hpd]
  exact ⟨i, h1, (H i).mono h2 fun k hk hge => ⟨Nat.le_trans hC.size hge, hk, hP k hge⟩⟩
/-- a call that gives something new -/
theorem np_callN {f : FuncId} {xs : Array Operand} {ts : Array TypeId} (spec : List (Value ⊕ Nat)) (hG : Good ops pds []) (hF : FrS N σ a0) (hf : ∀ (args : Array Value) (w : World), (callFunc f args).run P w = .ok (.enter f args) w)
    (ho : ops[j]? = some ⟨dst, .call ⟨.value (.func f), xs, ts⟩, ty, pos, af, g⟩) (hj : Nat.blt j ops.size = true) (hargs : xs.toList.map (argSpec ops σ pds j) = spec.map some)
    (hpd : pds.getD j .any = .is fun v w => ∃ i, v = V i ∧ (H i).ok w (fun k => w0.heap.size ≤ k ∧ k < w.heap.size ∧ ow k = j))
    (hc : ∀ w vs, Chg Non w0 w → gc ops pds ops.size j → SpecP pds w spec vs → Calls P f vs.toArray w fun e w' => ∃ v, e = .returned v ∧ Chg Non w w' ∧ ∃ i, v = V i ∧ (H i).ok w' (fun k => w.heap.size ≤ k)) : NPO P ms ops pds a0 w0 Q ow j :=
  np_new' _ ho hG hF (fun a w hC hg hv hk => by
    have h1 := spec_args (o := ⟨dst, .call ⟨.value (.func f), xs, ts⟩, ty, pos, af, g⟩) (xs := xs.toList) hG hj hg (fun x hx => by simp [Op.operands, Call.operands]; exact .inr (by simpa using hx)) hv hk hargs
    exact does_call (args := (xs.toList.map a.eval).toArray) rfl hf (by cases xs; simp) ((hc w _ hC hg h1).mono fun e w' ⟨v, he, h2, h3⟩ => ⟨v, he, h3, h2⟩)) hpd
def AllP {α : Type} (q : α → Prop) : List α → Prop
  | [] => True
  | x :: l => q x ∧ AllP q l
theorem AllP.mem {α : Type} {q : α → Prop} {x : α} : ∀ {l : List α}, AllP q l → x ∈ l → q x
  | _ :: _, h, hm => by
    cases hm with
    | head => exact h.1
    | tail _ hm => exact AllP.mem h.2 hm
/-- what different operations made lies apart -/
theorem sepO {w : World} (l : List (Nat × HP)) (hn : (l.map (·.1)).Nodup) (h : AllP (fun p => p.2.ok w (fun k => w0.heap.size ≤ k ∧ k < w.heap.size ∧ ow k = p.1)) l) {L : List HP} (hL : l.map (·.2) = L) : Sep L w (fun k => w0.heap.size ≤ k ∧ k < w.heap.size) := by
  subst hL
  refine ⟨fun i k => ∃ p, l[i]? = some p ∧ w0.heap.size ≤ k ∧ k < w.heap.size ∧ ow k = p.1, fun i P hi => ?_, fun i j k hne ⟨p, hp, _, _, h1⟩ ⟨q, hq, _, _, h2⟩ => ?_⟩
  · rw [List.getElem?_map] at hi
    cases hp : l[i]? with
    | none => rw [hp] at hi; cases hi
    | some p =>
      rw [hp] at hi
      simp only [Option.map_some, Option.some.injEq] at hi
      subst hi
      exact ⟨p.2.mono (h.mem (List.mem_of_getElem? hp)) fun k _ hk => ⟨p, hp, hk⟩, fun k ⟨q, _, h1, h2, _⟩ => ⟨h1, h2⟩⟩
  · refine hne (idx_inj hn (x := p.1) ?_ ?_)
    · rw [List.getElem?_map, hp]; rfl
    · rw [List.getElem?_map, hq]; simp only [Option.map_some, Option.some.injEq]; rw [← h2, h1]
theorem stp_new {w w' : World} (hc : Chg Non w w') : Stp w Non w' (fun k => w.heap.size ≤ k ∧ k < w'.heap.size) := ⟨hc, fun k hk => .inr hk.1, fun k hk => hk.2⟩
theorem EndM.is {m : Nat} {a : Act} {w : World} (hE : EndM ops (TT ops pds) a0 m a w) (t i : Nat) (hl : lastW ops t m = some i) (hg : guardOf ops i = none) : (pds.getD i .any).sat (a.eval (.tmp t)) w := by
  have h1 := hE.2.2 t
  unfold Know at h1
  rw [hl] at h1
  refine h1.1 ?_
  have hi := lastW_lt hl
  obtain ⟨m, hm⟩ : ∃ m, ops.size = m + 1 := ⟨ops.size - 1, by have := wr_lt hi.2; omega⟩
  rw [hm]; unfold gc; rw [hg]; trivial
end

end Go.GL
namespace Go.GL
theorem Sep.relen {w : World} {S : Nat → Prop} {L : List HP} {α : Type} [Rep α] {E : TypeId} {a : Option Addr} {n c : Nat} {l : List α} (i : Nat) (h : Sep L w S) (hi : L[i]? = some (SL E (.slice a n c) l)) : n = l.length ∧ Sep (L.set i (SL E (.slice a l.length c) l)) w S := by
  obtain ⟨A, h1, h2⟩ := h.get i hi
  have e : n = l.length := by
    rcases h1 with ⟨go, h1⟩ | ⟨rfl, a', h1⟩
    · obtain ⟨a', c', hv⟩ := h1.slice
      simp only [Value.slice.injEq] at hv
      exact hv.2.1
    · simp only [Value.slice.injEq] at h1
      exact h1.2.1
  subst e
  refine ⟨rfl, ?_⟩
  have : L.set i (SL E (.slice a l.length c) l) = L := by
    apply List.ext_getElem?
    intro j
    rw [List.getElem?_set]
    split
    · rename_i hj; subst hj
      rw [hi, if_pos (List.getElem?_eq_some_iff.1 hi).1]
    · rfl
  rw [this]; exact h
end Go.GL
namespace Go.GL
end Go.GL
/-! ### several new things at once -/
namespace Go.GL
def HP.sep (L : List HP) : HP := { ok := Sep L, mono := fun h hA => h.mono hA, keep := fun h hc hT => h.keep hc hT }
theorem Sep.flat {w : World} {S : Nat → Prop} {L1 L2 : List HP} (h : Sep (HP.sep L1 :: L2) w S) : Sep (L1 ++ L2) w S := by
  obtain ⟨A, R, h1, h2, h3, h4, h5⟩ := Sep.split (L1 := [HP.sep L1]) (L2 := L2) h
  obtain ⟨B, g1, g2⟩ := h1.get 0 rfl
  exact Sep.join (L1 := L1) g1 h2 (fun k _ ha hr => h3 k (g2 k ha) hr) (fun k _ h => h4 k (g2 k h)) (fun k _ h => h5 k h)
/-! ### a region, order by order -/
section
variable {P : Program} {ops : Array Oper} {Q : Exit → Act → World → Prop} {a : Act} {w : World} {L : Array Bool}
theorem any_start {id : Nat} {l : List Oper} (hmix : P.follows .mixedOrders = true) (h : ∀ w', Chg Non w w' → wpAny P .any l.toArray Q l.toArray.size (Array.replicate l.toArray.size false) a w') : (Code.region id l.toArray true).wp P Q a w :=
  wp_region_any hmix (h _ (Chg.drew w))
theorem any_node {fuel : Nat} (rs : List Nat) (hr : Region.ready .any ops L = rs) (hne : rs ≠ []) (h : AllL (fun i => wpOp P ops Q i (wpAny P .any ops Q fuel (L.setIfInBounds i true)) a w) rs) : wpAny P .any ops Q (fuel + 1) L a w :=
  ⟨fun h0 => absurd (hr.symm.trans h0) hne, fun i hi => h.mem (by rw [← hr]; exact hi)⟩
theorem wp_unthen {o : Oper} {K' K : Act → World → Prop} (hk : ∀ a w, K' a w → K a w) (h : o.wp P a w K' (Exit.then K Q)) : o.wp P a w K Q := by
  unfold Oper.wp at *
  generalize (execOp a.eval o).run P w = r at *
  cases r with
  | ok n w =>
    cases n with
    | value v => exact hk _ w h
    | skip => exact hk _ w h
    | defer d => exact hk _ w h
    | enter f args =>
      refine Calls.mono h fun e w' he => ?_
      cases e with
      | returned v => exact hk _ w' he
      | panicked c => exact he
      | outgrown => exact he
    | row r args => exact Rows.mono h fun v w' he => hk _ w' he
    | _ => exact h
  | halt hh w =>
    cases hh with
    | panic v => exact h
    | _ => exact h
theorem op_of {i : Nat} {K : Act → World → Prop} (o : Oper) (ho : ops[i]? = some o) (hg : o.guard = none) (h : wpFrom P #[o] (Exit.then K Q) 0 a w) : wpOp P ops Q i K a w := by
  unfold wpOp
  simp only [ho]
  have hw : ∀ y, Region.wanted o y = true := fun y => by simp [Region.wanted, hg]
  rw [if_pos (hw _)]
  unfold wpFrom at h
  simp only [List.drop_zero] at h
  unfold wpList at h
  rw [if_pos (hw _)] at h
  rcases h with h | ⟨h1, h2⟩
  · left
    refine wp_unthen (K' := wpList P #[o] (Exit.then K Q) []) (fun a w hh => ?_) h
    unfold wpList at hh
    exact hh
  · exact .inr ⟨h1, h2⟩
theorem any_leaf {fuel : Nat} (hr : Region.ready .any ops L = []) (h : Q .normal a w) : wpAny P .any ops Q fuel L a w := by
  cases fuel with
  | zero => exact ⟨hr, h⟩
  | succ n => exact ⟨fun _ => h, fun i hi => by rw [hr] at hi; cases hi⟩
end
/-! more that is hoisted: sums of what is moved -/
section
variable {P : Program} {Q : Exit → Act → World → Prop} {w : World} {N : Nat}
end
end Go.GL


/-! ### a block that is only read -/
namespace Go.GL
def FB (w : World) (F : Nat → Prop) (b : Nat) (t : TypeId) (cs : List Value) : Prop := Box w b t cs ∧ F b
section
variable {w w' w0 : World} {F F' F0 S S' S0 : Nat → Prop} {b : Nat} {t : TypeId} {cs : List Value}
theorem FB.ext (h : FB w F b t cs) (hc : Chg Non w w') : FB w' F b t cs := ⟨h.1.ext hc, h.2⟩
theorem FB.stp (h : FB w F b t cs) (hM : Mem w0 S0 F0 w S F) (hp : Stp w S w' S') : FB w' F b t cs := ⟨h.1.chg hp.chg fun hs => hM.dj b hs h.2, h.2⟩
theorem FB.mem (h : FB w0 F0 b t cs) (hM : Mem w0 S0 F0 w S F) : FB w F b t cs := ⟨h.1.chg hM.chg fun hs => hM.dj0 b hs h.2, hM.fz b h.2⟩
theorem FB.big (h : FB w F b t cs) (hf : ∀ k, F k → F' k) : FB w F' b t cs := ⟨h.1, hf b h.2⟩
theorem FB.sub (h : FB w F b t cs) (hf : ∀ k, k < w.heap.size → F k → F' k) : FB w F' b t cs := ⟨h.1, hf b h.1.lt h.2⟩
theorem RV.len {α : Type} [Rep α] {a : Option Addr} {n c : Nat} {l : List α} (h : RV w F (.slice a n c) l) : n = l.length := by
  obtain ⟨a', c', hv, _⟩ := h.slice
  simp only [Value.slice.injEq] at hv
  exact hv.2.1
end
end Go.GL

/-! more ends -/
namespace Go.GL
section
variable {P : Program} {a : Act} {w : World} {N : Nat} {σ : List (Nat × Value)}
/-- two ways that meet again -/
theorem wp_merge {Q : Exit → Act → World → Prop} {x y : Code} {c : Operand} {b : Bool} (σ' : List (Nat × Value)) (hF : FrS N σ a) (hc : opd σ c = some (.bool b)) (ht : b = true → x.wp P (fun e a' w' => e = .normal ∧ w' = w ∧ FrS N σ' a') a w) (hf : b = false → y.wp P (fun e a' w' => e = .normal ∧ w' = w ∧ FrS N σ' a') a w)
    (h : ∀ a', FrS N σ' a' → Q .normal a' w) : (Code.cond c x y).wp P Q a w :=
  wp_if hF hc (fun hb => wp_mono (ht hb) fun e a' w' ⟨h1, h2, h3⟩ => by subst h1; subst h2; exact h a' h3) (fun hb => wp_mono (hf hb) fun e a' w' ⟨h1, h2, h3⟩ => by subst h1; subst h2; exact h a' h3)
end
end Go.GL
namespace Go.GL
theorem FrS.eqs {N : Nat} {σ σ' : List (Nat × Value)} {a : Act} (h : FrS N σ a) (e : σ = σ') : FrS N σ' a := e ▸ h
end Go.GL
