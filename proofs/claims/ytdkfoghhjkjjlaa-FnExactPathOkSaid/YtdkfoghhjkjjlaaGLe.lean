/- Own library, part e: what single operations do; stepping through a region; calls, loops, the beginning and the end of a function. -/
import Derived.Test.YtdkfoghhjkjjlaaGLd
namespace Go.GL
open Go.RowKit

/-- the operation gives a value and a world of which R holds -/
def Does (P : Program) (o : Oper) (a : Act) (w : World) (R : Value → World → Prop) : Prop :=
  ∀ (K : Act → World → Prop) (Q : Exit → Act → World → Prop), (∀ v w', R v w' → K (a.put o.dst v) w') → o.wp P a w K Q

section
variable {P : Program} {o : Oper} {a : Act} {w : World} {R R' : Value → World → Prop}

theorem Does.mono (h : Does P o a w R) (hr : ∀ v w', R v w' → R' v w') : Does P o a w R' := fun K Q hK => h K Q fun v w' hv => hK v w' (hr v w' hv)

theorem does_value {v : Value} {w' : World} (h : (execOp a.eval o).run P w = .ok (.value v) w') (hr : R v w') : Does P o a w R := by
  intro K Q hK
  unfold Oper.wp; rw [h]
  exact hK v w' hr
theorem does_skip {w' : World} (h : (execOp a.eval o).run P w = .ok .skip w') (hr : R undef w') : Does P o a w R := by
  intro K Q hK
  unfold Oper.wp; rw [h]
  exact hK undef w' hr

/-- a call of a named function -/
theorem does_call {f : FuncId} {xs : Array Operand} {ts : Array TypeId} (ho : o.op = .call { callee := .value (.func f), args := xs, argTypes := ts })
    (hf : ∀ (args : Array Value) (w : World), (callFunc f args).run P w = .ok (.enter f args) w) {args : Array Value} (ha : xs.map a.eval = args)
    (h : Calls P f args w fun e w' => ∃ v, e = .returned v ∧ R v w') : Does P o a w R := by
  intro K Q hK
  obtain ⟨dst, op, type, pos, after, guard⟩ := o
  simp only at ho; subst ho
  have hrun : (execOp a.eval { dst, op := .call { callee := .value (.func f), args := xs, argTypes := ts }, type, pos, after, guard }).run P w = .ok (.enter f args) w := by
    simp only [execOp, resolve, Deferred.ofValue, Act.eval, Sem.run_bind, Sem.run_pure, Result.andThen_ok, invoke, hf]
    rw [← ha]
    simp
  unfold Oper.wp; rw [hrun]
  refine h.mono fun e w' he => ?_
  obtain ⟨v, rfl, hv⟩ := he
  exact hK v w' hv
end

/-! ### a region in the text's order -/
def wpFrom (P : Program) (ops : Array Oper) (Q : Exit → Act → World → Prop) (k : Nat) (a : Act) (w : World) : Prop := wpList P ops Q (ops.toList.drop k) a w

section
variable {P : Program} {ops : Array Oper} {Q : Exit → Act → World → Prop} {a : Act} {w : World} {N : Nat} {σ : List (Nat × Value)}

theorem wp_text {id : Nat} (h : wpFrom P ops Q 0 a w) : (Code.region id ops false).wp P Q a w := wp_region_list (by simpa [wpFrom] using h)
theorem wp_text' {id : Nat} {l : List Oper} (h : wpFrom P l.toArray Q 0 a w) : (Code.region id l.toArray false).wp P Q a w := wp_text h

theorem from_end {k : Nat} (hk : ops.size = k) (h : Q .normal a w) : wpFrom P ops Q k a w := by
  unfold wpFrom
  rw [List.drop_of_length_le (by simp; omega)]
  exact wpList_nil h

theorem from_step {k : Nat} {o : Oper} (ho : ops[k]? = some o) (hg : o.guard = none) {R : Value → World → Prop} (hd : Does P o a w R)
    (h : ∀ v w', R v w' → wpFrom P ops Q (k + 1) (a.put o.dst v) w') : wpFrom P ops Q k a w := by
  unfold wpFrom at h ⊢
  have hk : k < ops.toList.length := by simpa using (Array.getElem?_eq_some_iff.1 ho).1
  rw [List.drop_eq_getElem_cons hk]
  have e : ops.toList[k] = o := by
    have := (Array.getElem?_eq_some_iff.1 ho).2
    simpa using this
  rw [e]
  exact wpList_plain hg fun K hK => hd K Q fun v w' hv => hK _ _ (h v w' hv)

/-- one operation; its value goes into slot d -/
theorem from_val {k d : Nat} {o : Oper} (hF : FrS N σ a) (ho : ops[k]? = some o) (hg : o.guard = none) (hd : o.dst = some d) (hdN : d < N) {R : Value → World → Prop} (hdo : Does P o a w R)
    (h : ∀ v w' a', R v w' → FrS N ((d, v) :: σ) a' → wpFrom P ops Q (k + 1) a' w') : wpFrom P ops Q k a w :=
  from_step ho hg hdo fun v w' hv => by rw [hd]; exact h v w' _ hv (hF.put hdN v)
/-- one operation without a value -/
theorem from_eff {k : Nat} {o : Oper} (hF : FrS N σ a) (ho : ops[k]? = some o) (hg : o.guard = none) (hd : o.dst = none) {R : Value → World → Prop} (hdo : Does P o a w R)
    (h : ∀ w', (∃ v, R v w') → FrS N σ a → wpFrom P ops Q (k + 1) a w') : wpFrom P ops Q k a w :=
  from_step ho hg hdo fun v w' hv => by rw [hd]; exact h w' ⟨v, hv⟩ hF

/-- some operations that touch no memory -/
def seqV (P : Program) (N : Nat) : List Oper → List (Nat × Value) → Option (List (Nat × Value))
  | [], σ => some σ
  | o :: os, σ =>
    match o.guard, o.dst, pe P (opd σ) o.op with
    | none, some d, some v => if d < N then seqV P N os ((d, v) :: σ) else none
    | _, _, _ => none

theorem list_pure {rest : List Oper} : ∀ {l : List Oper} {σ σ1 : List (Nat × Value)} {a : Act}, FrS N σ a → seqV P N l σ = some σ1 → (∀ a', FrS N σ1 a' → wpList P ops Q rest a' w) → wpList P ops Q (l ++ rest) a w
  | [], σ, σ1, a, hF, hs, h => by
    simp only [seqV, Option.some.injEq] at hs; subst hs
    exact h a hF
  | o :: l, σ, σ1, a, hF, hs, h => by
    unfold seqV at hs
    split at hs
    · rename_i d v hg hd hv
      split at hs
      · rename_i hdN
        refine wpList_plain hg fun K hK => ?_
        unfold Oper.wp
        rw [pe_run (P := P) (ρ' := a.eval) (fun x u hx => opd_eval hF hx) hv w]
        refine hK _ _ ?_
        rw [hd]
        exact list_pure (hF.put hdN v) hs h
      · cases hs
    · cases hs

end

/-! ### for regions that may draw -/
section
variable {P : Program} {draw : Bool} {ms : List Nat} {ops : Array Oper} {eff : List Nat} {Φ : Nat → World → Prop} {S : Nat → Prop}
  {a0 : Act} {w0 : World} {Q : Exit → Act → World → Prop} {pds : List Pd} {σ : List (Nat × Value)} {N : Nat}

end

/-! ### memory -/
section
variable {P : Program} {o : Oper} {a : Act} {w : World} {R : Value → World → Prop} {α : Type} [Rep α]

/-- the address of something that reads as x -/
def ElemP (w : World) (F : Nat → Prop) (v : Value) (x : α) : Prop := ∃ ad cs, v = .pointer (some ad) ∧ F ad.block ∧ Rep.ok w F cs x ∧ Cells w ad cs
theorem ElemP.chg {S : Nat → Prop} {w w' : World} {F : Nat → Prop} {v : Value} {x : α} (h : ElemP w F v x) (hc : Chg S w w') (hs : ∀ k, F k → ¬ S k) : ElemP w' F v x := by
  obtain ⟨ad, cs, h1, h2, h3, h4⟩ := h
  exact ⟨ad, cs, h1, h2, Rep.keep h3 fun k hk hf => ⟨hc.block k hk (hs k hf), hf⟩, h4.keep fun hn => hc.block _ (h4.lt hn) (hs _ h2)⟩

theorem does_index {t e : TypeId} {x i : Operand} (ho : o.op = .indexAddr t x i) (ht : P.underlying t = some (.slice e)) (he : Ty P e α) {F : Nat → Prop} {v : Value} {l : List α} (hv : a.eval x = v) (hl : RV w F v l)
    {k : IntKind} {n : Int} (hi : a.eval i = .int k n) (hn : 0 ≤ n) {y : α} (hy : l[n.toNat]? = some y) : Does P o a w fun v w' => ElemP w F v y ∧ w' = w := by
  obtain ⟨b, cap, rfl, h1, h2, h3⟩ := hl.slice
  have hlt : n.toNat < l.length := (List.getElem?_eq_some_iff.1 hy).1
  obtain ⟨ad, rfl, hF, hel⟩ := h3 (by rintro rfl; simp at hlt)
  obtain ⟨cs, hok, hc⟩ := elems_get hel hy
  refine does_value (v := .pointer (some (ad.add (n.toNat * Rep.sz α)))) (w' := w) ?_ ⟨⟨_, cs, rfl, by rw [add_block]; exact hF, hok, ?_⟩, rfl⟩
  · obtain ⟨dst, op, type, pos, after, guard⟩ := o
    simp only at ho; subst ho
    have hb : 0 ≤ n ∧ n < (l.length : Int) := ⟨hn, by omega⟩
    simp [execOp, Instr.indexAt, hv, hi, asIntOf, run_underlying ht, hb, he.sizeOf]
  · simpa using hc

theorem does_load {t : TypeId} {x : Operand} (ho : o.op = .load t x) (ht : Ty P t α) {F : Nat → Prop} {v : Value} {y : α} (hv : a.eval x = v) (hp : ElemP w F v y) : Does P o a w fun v w' => RV w F v y ∧ w' = w := by
  obtain ⟨ad, cs, rfl, hF, hok, hc⟩ := hp
  refine does_value (v := Rep.val α cs) (w' := w) ?_ ⟨⟨cs, hok, rfl⟩, rfl⟩
  obtain ⟨dst, op, type, pos, after, guard⟩ := o
  simp only at ho; subst ho
  simp [execOp, Instr.loadAt, hv, Instr.sureAddr, run_loadVar ht (Rep.len hok) hc]

/-- a block of its own: a variable, or what a literal made -/
def Box (w : World) (b : Nat) (t : TypeId) (cs : List Value) : Prop := w.heap[b]? = some (.cells cs.toArray t (0, 0))
theorem Box.lt {b : Nat} {t : TypeId} {cs : List Value} (h : Box w b t cs) : b < w.heap.size := (Array.getElem?_eq_some_iff.1 h).1
theorem Box.chg {S : Nat → Prop} {w w' : World} {b : Nat} {t : TypeId} {cs : List Value} (h : Box w b t cs) (hc : Chg S w w') (hs : ¬ S b) : Box w' b t cs := (hc.block b h.lt hs).trans h
theorem Box.ext {w w' : World} {b : Nat} {t : TypeId} {cs : List Value} (h : Box w b t cs) (hc : Chg Non w w') : Box w' b t cs := h.chg hc id
theorem Box.cell {b : Nat} {t : TypeId} {cs : List Value} (h : Box w b t cs) (i : Nat) : w.cell? ⟨b, i, none⟩ = cs[i]? := by
  rw [cell_of_row w b i cs.toArray t (0, 0) h]; simp
theorem Box.cells {b : Nat} {t : TypeId} {cs : List Value} (h : Box w b t cs) : Cells w ⟨b, 0, none⟩ cs := fun j u hu => by
  have : (⟨b, 0, none⟩ : Addr).add j = ⟨b, j, none⟩ := by unfold Addr.add; split <;> simp_all
  rw [this, h.cell, hu]

/-- a new block that holds a value -/
theorem does_box {t : TypeId} {x : Operand} (ho : o.op = .box t x) {v : Value} (hv : a.eval x = v) :
    Does P o a w fun u w' => ∃ b, u = .pointer (some ⟨b, 0, none⟩) ∧ b = w.heap.size ∧ Box w' b t v.cells.toList ∧ Chg Non w w' := by
  refine does_value (v := .pointer (some ⟨w.heap.size, 0, none⟩)) (w' := w.alloc (.cells v.cells t)) ?_ ⟨_, rfl, rfl, ?_, Chg.alloc _ _⟩
  · obtain ⟨dst, op, type, pos, after, guard⟩ := o
    simp only at ho; subst ho
    simp [execOp, hv, Instr.box, newVar, newRow]
  · unfold Box; rw [heap_alloc_new]
theorem does_alloc {t : TypeId} (ho : o.op = .alloc t) {z : Value} (hz : (P.info? t).map (·.zero) = some (some z)) :
    Does P o a w fun u w' => ∃ b, u = .pointer (some ⟨b, 0, none⟩) ∧ b = w.heap.size ∧ Box w' b t z.cells.toList ∧ Chg Non w w' := by
  refine does_value (v := .pointer (some ⟨w.heap.size, 0, none⟩)) (w' := w.alloc (.cells z.cells t)) ?_ ⟨_, rfl, rfl, ?_, Chg.alloc _ _⟩
  · cases hi : P.info? t with
    | none => rw [hi] at hz; cases hz
    | some i =>
      rw [hi] at hz
      simp only [Option.map_some, Option.some.injEq] at hz
      obtain ⟨dst, op, type, pos, after, guard⟩ := o
      simp only at ho; subst ho
      simp [execOp, Instr.alloc, zeroValue, typeInfo, hi, hz, newVar, newRow]
  · unfold Box; rw [heap_alloc_new]

/-- a store of one cell into a block of its own -/
theorem does_storeBox {t : TypeId} {x y : Operand} (ho : o.op = .store t x y) (ht : (P.info? t).map (·.size) = some 1) {b i : Nat} {bt : TypeId} {cs : List Value} (hv : a.eval x = .pointer (some ⟨b, i, none⟩)) (hb : Box w b bt cs)
    (hi : i < cs.length) {u : Value} (hu : a.eval y = u) (h1 : u.oneCell' = true) : Does P o a w fun _ w' => Box w' b bt (cs.set i u) ∧ Chg (fun k => k = b) w w' := by
  refine does_skip (w' := w.setCell ⟨b, i, none⟩ u) ?_ ⟨?_, Chg.setCell _ _ _ rfl⟩
  · cases hinf : P.info? t with
    | none => rw [hinf] at ht; cases ht
    | some inf =>
      rw [hinf] at ht
      simp only [Option.map_some, Option.some.injEq] at ht
      have hcell : u.cells = #[u] := by cases u <;> simp_all [Value.cells, Value.oneCell']
      have hc : w.cell? ⟨b, i, none⟩ = some cs[i] := by rw [hb.cell]; simp [hi]
      have hfr : w.frozen? ⟨b, i, none⟩ = false := frozen_of_row w b i cs.toArray bt hb
      obtain ⟨dst, op, type, pos, after, guard⟩ := o
      simp only at ho; subst ho
      simp [execOp, Instr.storeAt, hv, hu, Instr.sureAddr, storeVar, sizeOf, typeInfo, hinf, ht, hcell, storeCells, run_store _ _ _ _ _ h1, Addr.add, hc, hfr]
  · unfold Box
    rw [heap_setCell_same w b i cs.toArray bt u hb]
    simp

/-- a store of a whole struct into a block of its own -/
theorem does_storeBoxS {t : TypeId} {x y : Operand} (ho : o.op = .store t x y) {b : Nat} {bt : TypeId} {cs new : List Value} (ht : (P.info? t).map (·.size) = some new.length) (hv : a.eval x = .pointer (some ⟨b, 0, none⟩)) (hb : Box w b bt cs)
    (hl : new.length = cs.length) {u : Value} (hu : a.eval y = u) (huc : u.cells.toList = new) (h1 : ∀ z ∈ new, z.oneCell' = true) : Does P o a w fun _ w' => Box w' b bt new ∧ Chg (fun k => k = b) w w' := by
  refine does_skip (w' := w.setRow b u.cells) ?_ ⟨?_, ?_⟩
  · have h := run_storeVar_row (P := P) w b bt t cs.toArray u.cells hb (by rw [ht, ← huc]; simp) (by rw [← huc] at hl; simpa using hl.symm) (by
      rw [Array.all_eq_true_iff_forall_mem]; intro z hz; exact h1 z (by rw [← huc]; simpa using hz))
    have h2 : (storeVar t ⟨b, 0, none⟩ u).run P w = .ok () (w.setRow b u.cells) := by
      rw [← h]; unfold storeVar; rfl
    obtain ⟨dst, op, type, pos, after, guard⟩ := o
    simp only at ho; subst ho
    simp [execOp, Instr.storeAt, hv, hu, Instr.sureAddr, h2]
  · unfold Box
    rw [setRow_heap w b cs.toArray u.cells bt (0, 0) hb, ← huc]
  · exact ⟨rfl, rfl, rfl, by simp, fun k _ hn => setRow_other w b k u.cells hn⟩
end

/-! ### control -/
section
variable {P : Program} {Q : Exit → Act → World → Prop} {a : Act} {w : World} {N : Nat} {σ : List (Nat × Value)}

theorem wp_if {c : Operand} {x y : Code} (hF : FrS N σ a) {b : Bool} (hc : opd σ c = some (.bool b)) (ht : b = true → x.wp P Q a w) (hf : b = false → y.wp P Q a w) : (Code.cond c x y).wp P Q a w :=
  wp_cond_split (opd_eval hF hc) ht hf

/-- A LOOP: the rounds are those of B; it ends with r. -/
theorem wp_iter {σt ρt : Type} {c : Code} {B : σt → Option (σt ⊕ ρt)} (Inv : σt → Act → World → Prop) {n : Nat} {s0 : σt} {r : ρt} (h : iterN B n s0 = some r) (h0 : Inv s0 a w)
    (round : ∀ (s : σt) (s1 : σt ⊕ ρt) (a : Act) (w : World), Inv s a w → B s = some s1 → (∀ r0, s1 = .inr r0 → r0 = r) → c.wp P (Exit.then (fun a' w' => ∃ s', s1 = .inl s' ∧ Inv s' a' w') Q) a w) : (Code.loop c).wp P Q a w := by
  let I : Act × World → Nat → Prop := fun p k => ∃ s, iterN B k s = some r ∧ Inv s p.1 p.2
  have key : ∀ k a w, I (a, w) k → ∀ (b : Frame) (K : List Item) (cs : List Frame),
      ∃ e a' w', Q e a' w' ∧ Arrives P (lone (b.at a (.code c :: .inLoop c :: K)) cs w) b K cs e a' w' := by
    intro k
    induction k with
    | zero => rintro a w ⟨s, hs, _⟩; cases hs
    | succ k ih =>
      rintro a w ⟨s, hs, hI⟩ b K cs
      unfold iterN at hs
      cases hB : B s with
      | none => rw [hB] at hs; cases hs
      | some s1 =>
        rw [hB] at hs
        have hr : ∀ r0, s1 = .inr r0 → r0 = r := by
          rintro r0 rfl
          simpa using hs
        obtain ⟨e, a₁, w₁, hq, harr⟩ := round s s1 a w hI hB hr b (.inLoop c :: K) cs
        cases e with
        | normal =>
          obtain ⟨s', rfl, hI'⟩ := hq
          obtain ⟨e₂, a₂, w₂, hq₂, harr₂⟩ := ih a₁ w₁ ⟨s', hs, hI'⟩ b K cs
          exact ⟨e₂, a₂, w₂, hq₂, .of_steps (Steps.trans harr (.one step_inLoop)) harr₂⟩
        | exit id => exact ⟨_, a₁, w₁, hq, .pass (x := .inLoop c) rfl (fun _ _ => .inl (by simp)) harr⟩
        | goto l => exact ⟨_, a₁, w₁, hq, .pass (x := .inLoop c) rfl (fun _ _ => .inl (by simp)) harr⟩
        | ret => exact ⟨_, a₁, w₁, hq, .pass (x := .inLoop c) rfl (fun _ _ => .inl (by simp)) harr⟩
        | panic ch => exact ⟨_, a₁, w₁, hq, .pass (x := .inLoop c) rfl (fun _ _ => .inl (by simp)) harr⟩
        | outgrown => exact ⟨_, a₁, w₁, hq, .pass (x := .inLoop c) rfl (fun _ _ => .inl (by simp)) harr⟩
  intro b K cs
  obtain ⟨e, a', w', hq, harr⟩ := key n a w ⟨s0, h, h0⟩ b K cs
  exact ⟨e, a', w', hq, .of_steps (.one step_loop) harr⟩

theorem bindE {α β : Type} {o : Option α} {f : α → Option β} {r : β} (h : o.bind f = some r) : ∃ x, o = some x ∧ f x = some r := by
  cases o with
  | none => cases h
  | some x => exact ⟨x, rfl, h⟩
theorem iteT {β : Type} {c : Bool} {x y : β} {r : β} (hc : c = true) (h : (if c = true then x else y) = r) : x = r := by rwa [if_pos hc] at h
theorem iteF {β : Type} {c : Bool} {x y : β} {r : β} (hc : c = false) (h : (if c = true then x else y) = r) : y = r := by rwa [if_neg (by simp [hc])] at h

/-! the beginning and the end of a function -/
def args0 : Nat → List Value → List (Nat × Value)
  | _, [] => []
  | n, v :: vs => (n, v) :: args0 (n + 1) vs

theorem frs_args (args : List Value) (m : Nat) : FrS (args.length + m) (args0 0 args) { tmps := args.toArray ++ Array.replicate m undef, defers := [] } := by
  refine ⟨rfl, by simp, fun t v h => ?_⟩
  have key : ∀ (l : List Value) (n : Nat), (args0 n l).lookup t = some v → n ≤ t ∧ l[t - n]? = some v := by
    intro l
    induction l with
    | nil => intro n h; cases h
    | cons u l ih =>
      intro n h
      unfold args0 at h
      rw [List.lookup_cons] at h
      by_cases e : t = n
      · subst e; simp at h; subst h; simp
      · have : (t == n) = false := by simpa using e
        rw [this] at h
        obtain ⟨h1, h2⟩ := ih (n + 1) h
        refine ⟨by omega, ?_⟩
        rw [show t - n = (t - (n + 1)) + 1 by omega]
        simpa using h2
  obtain ⟨_, h2⟩ := key args 0 h
  have hlt : t < args.length := by
    rcases Nat.lt_or_ge t args.length with h3 | h3
    · exact h3
    · rw [List.getElem?_eq_none (by omega)] at h2; cases h2
  simp only [Act.eval, Array.getD_eq_getD_getElem?]
  rw [Array.getElem?_append_left (by simpa using hlt)]
  simpa using congrArg (fun o => o.getD undef) h2

theorem enter {f : FuncId} {fn : Func} {c : Code} {args : List Value} {R : Ending → World → Prop} (hf : P.funcs[f]? = some fn) (hb : fn.body = some c) (hN : fn.ntmps = N) (hle' : Nat.ble args.length N = true)
    (h : ∀ a, FrS N (args0 0 args) a → c.wp P (bodyPost P fn R) a w) : Calls P f args.toArray w R := by
  have hle := Nat.le_of_ble_eq_true hle'
  refine calls_of_wp hf hb (h _ ?_)
  have := frs_args args (N - args.length)
  rw [show args.length + (N - args.length) = N by omega] at this
  simpa [hN] using this

theorem ret1 {fn : Func} {R : Ending → World → Prop} {t : Tmp} (hr : fn.results = #[.tmp t]) (hF : FrS N σ a) {v : Value} (hv : σ.lookup t = some v) (h : R (.returned v) w) : bodyPost P fn R .ret a w := by
  refine ⟨hF.defers, v, ?_, h⟩
  have := hF.get t v hv
  simp only [Act.eval, Array.getD_eq_getD_getElem?] at this
  simp [results, hr, this]
end
end Go.GL
