/- Own library, part V: the values of operations that only compute or read known blocks; regions by them. -/
import Derived.Test.YtdkfoghhjkjjlaaGLl
import Derived.Test.YtdkfoghhjkjjlaaGLy
import Derived.KernelRfl
set_option linter.unusedVariables false
namespace Go.GL
open Go.RowKit

/-- any struct of n + 1 cells -/
structure Agg (n : Nat) where
  cs : List Value
instance {n : Nat} : Rep (Agg n) where
  sz := n + 1
  agg := true
  ok := fun _ _ cs _ => cs.length = n + 1 ∧ ∀ u ∈ cs, u.oneCell' = true
  len := fun h => h.1
  one := fun h => h.2
  pos := Nat.succ_pos n
  sgl := fun h => by cases h
  keep := fun h _ => h

def cellN (P : Program) (t : TypeId) : Option (Nat × Bool) :=
  match P.info? t, P.underlying t with
  | some i, some (.struct _) => some (i.size, true)
  | some i, some (.array _ _) => none
  | some i, some _ => some (i.size, false)
  | _, _ => none
/-- what a load of a t at these cells gives -/
def loadV (P : Program) (t : TypeId) (off : Nat) (cs : List Value) : Option Value :=
  match cellN P t with
  | some (n + 1, true) => if Nat.beq ((cs.drop off).take (n + 1)).length (n + 1) then some (.agg ((cs.drop off).take (n + 1)).toArray) else none
  | some (1, false) => cs[off]?
  | _ => none
theorem loadV_run {P : Program} {t : TypeId} {off b : Nat} {bt : TypeId} {cs : List Value} {v : Value} {w : World} (h : loadV P t off cs = some v) (hb : Box w b bt cs) : (loadVar t ⟨b, off, none⟩).run P w = .ok v w := by
  unfold loadV cellN at h
  cases hi : P.info? t with
  | none => simp [hi] at h
  | some i =>
    cases hu : P.underlying t with
    | none => simp [hi, hu] at h
    | some dd =>
      have key : ∀ (n : Nat), i.size = n + 1 → (P.underlying t = some dd) → (match P.underlying t with | some (.struct _) => true | some (.array _ _) => true | some _ => false | none => !true) = true → Ty P t (Agg n) := fun n hn _ ha => ⟨by rw [hi]; exact congrArg some hn, ha⟩
      have agg : ∀ n, i.size = n + 1 → Ty P t (Agg n) → (if Nat.beq ((cs.drop off).take (n + 1)).length (n + 1) then some (Value.agg ((cs.drop off).take (n + 1)).toArray) else none) = some v → (loadVar t ⟨b, off, none⟩).run P w = .ok v w := by
        intro n hn hT h
        split at h
        · rename_i hlen
          have hlen := Nat.eq_of_beq_eq_true hlen
          obtain rfl := Option.some.inj h
          have hp := hb.part (off := off) (ps := (cs.drop off).take (n + 1)) (by rw [hlen])
          exact run_loadVar hT hlen hp
        · cases h
      cases dd with
      | struct fs =>
        simp only [hi, hu] at h
        cases hn : i.size with
        | zero => simp [hn] at h
        | succ n => simp only [hn] at h; exact agg n hn (key n hn hu (by rw [hu])) h
      | array _ _ => simp [hi, hu] at h
      | _ =>
        simp only [hi, hu] at h
        have hT : i.size = 1 → Ty P t Int := fun h1 => ⟨by rw [hi]; exact congrArg some h1, by rw [hu]; rfl⟩
        split at h
        · rename_i heq; simp at heq
        · rename_i heq
          simp only [Option.some.injEq, Prod.mk.injEq, and_true] at heq
          have hc : Cells w ⟨b, off, none⟩ [v] := fun j u hj => by
            cases j with
            | zero =>
              simp only [List.getElem?_cons_zero, Option.some.injEq] at hj; subst hj
              have : (⟨b, off, none⟩ : Addr).add 0 = ⟨b, off, none⟩ := by simp [Addr.add]
              rw [this, hb.cell]; exact h
            | succ j => simp at hj
          exact run_loadVar (hT heq) (cs := [v]) rfl hc
        · cases h

abbrev Bxs := List (Nat × List Value)
def Bxs.at (bx : Bxs) (w : World) : Prop := ∀ p ∈ bx, ∃ t, Box w p.1 t p.2
/-- the value of an operation; and two blocks that must be one -/
def evB (P : Program) (bx : Bxs) (ρ : Operand → Option Value) (h : Option Nat) (o : Op) : Option (Value × List (Nat × Nat)) :=
  match h with
  | none => (pe P ρ o).map fun v => (v, [])
  | some i =>
    match o with
    | .load t x =>
      match ρ x, bx[i]? with
      | some (.pointer (some ⟨b, off, none⟩)), some (b', cs) => (loadV P t off cs).map fun v => (v, [(b, b')])
      | _, _ => none
    | _ => none
def seqB (P : Program) (N : Nat) (bx : Bxs) (hs : List (Nat × Nat)) : Nat → List Oper → List (Nat × Value) → Option (List (Nat × Value) × List (Nat × Nat))
  | _, [], σ => some (σ, [])
  | j, o :: os, σ =>
    match o.guard, o.dst, evB P bx (opd σ) (hs.lookup j) o.op with
    | none, some d, some (v, e) => if d < N then (seqB P N bx hs (j + 1) os ((d, v) :: σ)).map fun r => (r.1, e ++ r.2) else none
    | _, _, _ => none
/-- it has a value, and the blocks are the same -/
def okB {α : Type} (o : Option (α × List (Nat × Nat))) : Prop := o.map (fun r => r.2.map (·.1)) = some ((o.map (fun r => r.2.map (·.2))).getD [])
theorem okB_out {α : Type} {o : Option (α × List (Nat × Nat))} (h : okB o) : ∃ x e, o = some (x, e) ∧ ∀ p ∈ e, p.1 = p.2 := by
  unfold okB at h
  cases o with
  | none => cases h
  | some r =>
    obtain ⟨x, e⟩ := r
    simp only [Option.map_some, Option.getD_some, Option.some.injEq] at h
    exact ⟨x, e, rfl, fun p hp => List.map_inj_left.1 h p hp⟩

section
variable {P : Program} {ops : Array Oper} {Q : Exit → Act → World → Prop} {a : Act} {w : World} {N : Nat} {σ : List (Nat × Value)} {bx : Bxs} {hs : List (Nat × Nat)}
theorem evB_wp {ρ : Operand → Option Value} {o : Oper} {h : Option Nat} {v : Value} {e : List (Nat × Nat)} {K : Act → World → Prop} (hρ : ∀ x v, ρ x = some v → a.eval x = v) (hbx : bx.at w) (he : evB P bx ρ h o.op = some (v, e)) (heq : ∀ p ∈ e, p.1 = p.2)
    (hK : K (a.put o.dst v) w) : o.wp P a w K Q := by
  unfold evB at he
  cases h with
  | none =>
    simp only at he
    cases hp : pe P ρ o.op with
    | none => rw [hp] at he; cases he
    | some u =>
      rw [hp] at he
      simp only [Option.map_some, Option.some.injEq, Prod.mk.injEq] at he
      obtain ⟨rfl, rfl⟩ := he
      unfold Oper.wp
      rw [pe_run (P := P) (ρ' := a.eval) hρ hp w]
      exact hK
  | some i =>
    simp only at he
    split at he
    · rename_i t x ho
      split at he
      · rename_i b off b' cs hx hi
        cases hl : loadV P t off cs with
        | none => rw [hl] at he; cases he
        | some u =>
          rw [hl] at he
          simp only [Option.map_some, Option.some.injEq, Prod.mk.injEq] at he
          obtain ⟨rfl, rfl⟩ := he
          have hb : b = b' := heq (b, b') (by simp)
          subst hb
          obtain ⟨bt, hB⟩ := hbx _ (List.mem_of_getElem? hi)
          have hr := loadV_run hl hB
          have hx' := hρ x _ hx
          unfold Oper.wp
          have : (execOp a.eval o).run P w = .ok (.value u) w := by
            simp [execOp, ho, Instr.loadAt, hx', Instr.sureAddr, hr]
          rw [this]
          exact hK
      · cases he
    · cases he
theorem list_pureB {rest : List Oper} (hbx : bx.at w) : ∀ {l : List Oper} {j : Nat} {σ σ1 : List (Nat × Value)} {e : List (Nat × Nat)} {a : Act}, FrS N σ a → seqB P N bx hs j l σ = some (σ1, e) → (∀ p ∈ e, p.1 = p.2) → (∀ a', FrS N σ1 a' → wpList P ops Q rest a' w) → wpList P ops Q (l ++ rest) a w
  | [], j, σ, σ1, e, a, hF, hs, _, h => by
    simp only [seqB, Option.some.injEq, Prod.mk.injEq] at hs
    obtain ⟨rfl, _⟩ := hs
    exact h a hF
  | o :: l, j, σ, σ1, e, a, hF, hs, he, h => by
    unfold seqB at hs
    split at hs
    · rename_i d v e1 hg hd hv
      split at hs
      · rename_i hdN
        cases hr : seqB P N bx _ (j + 1) l ((d, v) :: σ) with
        | none => rw [hr] at hs; cases hs
        | some r =>
          obtain ⟨σ2, e2⟩ := r
          rw [hr] at hs
          simp only [Option.map_some, Option.some.injEq, Prod.mk.injEq] at hs
          obtain ⟨rfl, rfl⟩ := hs
          refine wpList_plain hg fun K hK => evB_wp (fun x u hx => opd_eval hF hx) hbx hv (fun p hp => he p (List.mem_append.2 (.inl hp))) (hK _ _ ?_)
          rw [hd]
          exact list_pureB hbx (hF.put hdN v) hr (fun p hp => he p (List.mem_append.2 (.inr hp))) h
      · cases hs
    · cases hs
end

/-! ### regions that draw, or with guards: what only computes need not be told -/
def pureB (P : Program) (bx : Bxs) (hs : List (Nat × Nat)) (ops : Array Oper) (σ : List (Nat × Value)) (pds : List Pd) (j : Nat) : Option (Value × List (Nat × Nat)) :=
  match hs.lookup j with
  | none => (pureV P ops σ pds j).map fun v => (v, [])
  | some i =>
    match ops[j]? with
    | some o => evB P bx (envP ops σ pds j) (some i) o.op
    | none => none
def pdsB (P : Program) (bx : Bxs) (hs : List (Nat × Nat)) (ops : Array Oper) (σ : List (Nat × Value)) (np : List (Nat × Pd)) : Nat → List Pd
  | 0 => []
  | n + 1 => pdsB P bx hs ops σ np n ++ [match np.lookup n with
    | some p => p
    | none => match pureB P bx hs ops σ (pdsB P bx hs ops σ np n) n with
      | some v => .eq v.1
      | none => .any]
/-- of the first m operations; nothing is known of the others -/
def pdsM (P : Program) (bx : Bxs) (hs : List (Nat × Nat)) (ops : Array Oper) (σ : List (Nat × Value)) (np : List (Nat × Pd)) (m : Nat) : List Pd := pdsB P bx hs ops σ np m ++ List.replicate (ops.size - m) .any
def freeI (np : List (Nat × Pd)) (m : Nat) : List Nat := (List.range m).filter fun j => (np.lookup j).isNone
def isPB (hs : List (Nat × Nat)) (np : List (Nat × Pd)) (m : Nat) : List Bool := (List.range m).map fun j => (np.lookup j).isNone && (hs.lookup j).isNone
/-- the frame behind them -/
def outS (ops : Array Oper) (σ : List (Nat × Value)) (pds : List Pd) (m : Nat) : List (Nat × Value) :=
  ((List.range m).filterMap fun i => match (ops[i]?).bind (·.dst), guardOf ops i, valAt pds i with
    | some d, none, some v => if lastW ops d m == some i then some (d, v) else none
    | _, _, _ => none) ++ σ.filter fun p => (lastW ops p.1 m).isNone

section
variable {P : Program} {bx : Bxs} {hs : List (Nat × Nat)} {ops : Array Oper} {σ : List (Nat × Value)} {np : List (Nat × Pd)} {pds : List Pd} {m : Nat}
theorem pdsB_len : ∀ n, (pdsB P bx hs ops σ np n).length = n
  | 0 => rfl
  | n + 1 => by simp [pdsB, pdsB_len n]
theorem pdsB_get : ∀ n j, j < n → ∀ p, np.lookup j = some p → (pdsB P bx hs ops σ np n).getD j .any = p
  | 0, j, h, _, _ => absurd h (Nat.not_lt_zero _)
  | n + 1, j, h, p, hp => by
    unfold pdsB
    rw [List.getD_eq_getElem?_getD]
    rcases Nat.lt_or_ge j n with h1 | h1
    · rw [List.getElem?_append_left (by rw [pdsB_len]; exact h1), ← List.getD_eq_getElem?_getD]
      exact pdsB_get n j h1 p hp
    · obtain rfl : j = n := by omega
      rw [List.getElem?_append_right (by rw [pdsB_len]; exact Nat.le_refl _), pdsB_len, Nat.sub_self]
      simp [hp]
theorem pdsM_get {j : Nat} (h : j < m) {p : Pd} (hp : np.lookup j = some p) : (pdsM P bx hs ops σ np m).getD j .any = p := by
  unfold pdsM
  rw [List.getD_eq_getElem?_getD, List.getElem?_append_left (by rw [pdsB_len]; exact h), ← List.getD_eq_getElem?_getD]
  exact pdsB_get m j h p hp
theorem pdsM_rest {j : Nat} (h : m ≤ j) : (pdsM P bx hs ops σ np m).getD j .any = .any := by
  unfold pdsM
  rw [List.getD_eq_getElem?_getD, List.getElem?_append_right (by rw [pdsB_len]; exact h), List.getElem?_replicate]
  split <;> rfl
theorem lookup_filter {t : Nat} {v : Value} {f : Nat → Bool} : ∀ {σ : List (Nat × Value)}, (σ.filter fun p => f p.1).lookup t = some v → f t = true ∧ σ.lookup t = some v
  | [], h => by cases h
  | (k, u) :: σ, h => by
    rw [List.filter_cons] at h
    by_cases e : t = k
    · subst e
      by_cases hf : f t = true
      · rw [if_pos (by simpa using hf)] at h
        simp only [List.lookup_cons, beq_self_eq_true] at h ⊢
        exact ⟨hf, h⟩
      · rw [if_neg (by simpa using hf)] at h
        exact absurd (lookup_filter h).1 hf
    · have e' : (t == k) = false := by simpa using e
      have h2 : (σ.filter fun p => f p.1).lookup t = some v := by
        split at h
        · rw [List.lookup_cons, e'] at h; exact h
        · exact h
      rw [List.lookup_cons, e']
      exact lookup_filter h2
theorem outS_out {t : Nat} {v : Value} (h : (outS ops σ pds m).lookup t = some v) : outVm ops σ pds m t = some v := by
  unfold outS at h
  rw [List.lookup_append] at h
  unfold outVm
  cases h1 : ((List.range m).filterMap fun i => match (ops[i]?).bind (·.dst), guardOf ops i, valAt pds i with
    | some d, none, some v => if lastW ops d m == some i then some (d, v) else none
    | _, _, _ => none).lookup t with
  | some u =>
    rw [h1] at h
    simp only [Option.some_or, Option.some.injEq] at h; subst h
    have hm := lookup_mem h1
    rw [List.mem_filterMap] at hm
    obtain ⟨i, _, hi⟩ := hm
    split at hi
    · rename_i d v hd hg hv
      split at hi
      · rename_i hl
        simp only [Option.some.injEq, Prod.mk.injEq] at hi
        obtain ⟨rfl, rfl⟩ := hi
        rw [beq_iff_eq] at hl
        rw [hl]; simp [hg, hv]
      · cases hi
    · cases hi
  | none =>
    rw [h1] at h
    simp only [Option.none_or] at h
    obtain ⟨h2, h3⟩ := lookup_filter (f := fun k => (lastW ops k m).isNone) h
    rw [Option.isNone_iff_eq_none] at h2
    rw [h2]; exact h3
theorem allL_of {p : Nat → Prop} : ∀ {l : List Nat}, (∀ j ∈ l, p j) → AllL p l
  | [], _ => trivial
  | j :: _, h => ⟨h j List.mem_cons_self, allL_of fun i hi => h i (List.mem_cons_of_mem _ hi)⟩
theorem outVm_eval {N : Nat} {a a' : Act} {w : World} (hF : FrS N σ a) (hE : EndM ops (TT ops pds) a m a' w) {t : Nat} {v : Value} (h : outVm ops σ pds m t = some v) : a'.eval (.tmp t) = v := by
  have h1 := hE.2.2 t
  unfold Know at h1
  unfold outVm at h
  cases hl : lastW ops t m with
  | none => simp only [hl] at h h1; rw [h1]; exact hF.get t v h
  | some i =>
    simp only [hl] at h h1
    split at h
    · rename_i hg
      have hi := wr_lt (lastW_lt hl).2
      have hgi : gc ops pds ops.size i := by
        obtain ⟨k, hk⟩ : ∃ k, ops.size = k + 1 := ⟨ops.size - 1, by omega⟩
        rw [hk]; unfold gc
        rw [Option.isNone_iff_eq_none] at hg
        rw [hg]; trivial
      have h2 := h1.1 hgi
      unfold valAt Pd.val? at h
      split at h
      · rename_i u hu
        simp only [Option.some.injEq] at h; subst h
        rw [hu] at h2; exact h2
      · cases h
    · cases h
theorem lookup_of_mem {j : Nat} {p : Pd} : ∀ {np : List (Nat × Pd)}, np.lookup j = some p → (j, p) ∈ np
  | (k, q) :: np, h => by
    rw [List.lookup_cons] at h
    by_cases e : j = k
    · subst e; simp at h; subst h; exact List.mem_cons_self
    · have : (j == k) = false := by simpa using e
      rw [this] at h; exact List.mem_cons_of_mem _ (lookup_of_mem h)
theorem isPB_get {j : Nat} (h : j < m) : (isPB hs np m).getD j false = ((np.lookup j).isNone && (hs.lookup j).isNone) := by
  unfold isPB
  rw [List.getD_eq_getElem?_getD, List.getElem?_map, List.getElem?_range h]; rfl

variable {N : Nat} {a : Act} {w : World} {Q : Exit → Act → World → Prop} {draw : Bool} {ms : List Nat}
/-- what a walk must show of the operations that are told: the others are checked by the kernel -/
structure ChkB (P : Program) (bx : Bxs) (hs : List (Nat × Nat)) (ops : Array Oper) (σ : List (Nat × Value)) (np : List (Nat × Pd)) (m : Nat) (pds : List Pd) : Prop where
  val : (freeI np m).map (fun j => (pureB P bx hs ops σ pds j).map (·.1)) = (freeI np m).map fun j => (pds.getD j .any).val?
  some : ((freeI np m).all fun j => (pds.getD j .any).val?.isSome) = true
  blk : (freeI np m).map (fun j => (pureB P bx hs ops σ pds j).map fun r => r.2.map (·.1)) = (freeI np m).map fun j => (pureB P bx hs ops σ pds j).map fun r => r.2.map (·.2)
theorem ChkB.at {j : Nat} (h : ChkB P bx hs ops σ np m pds) (hj : j < m) (hn : np.lookup j = none) : ∃ v e, pureB P bx hs ops σ pds j = .some (v, e) ∧ (pds.getD j .any) = .eq v ∧ ∀ p ∈ e, p.1 = p.2 := by
  have hm : j ∈ freeI np m := List.mem_filter.2 ⟨List.mem_range.2 hj, by rw [hn]; rfl⟩
  have h1 := List.map_inj_left.1 h.val j hm
  have h2 := h.some
  rw [List.all_eq_true] at h2
  obtain ⟨v, hv⟩ := Option.isSome_iff_exists.1 (h2 j hm)
  have h3 := List.map_inj_left.1 h.blk j hm
  have hpd : pds.getD j .any = .eq v := by
    cases hp : pds.getD j .any with
    | eq u => rw [hp] at hv; simp only [Pd.val?, Option.some.injEq] at hv; rw [hv]
    | is p => rw [hp] at hv; cases hv
    | own p => rw [hp] at hv; cases hv
    | any => rw [hp] at hv; cases hv
  cases hb : pureB P bx hs ops σ pds j with
  | none => rw [hb, hv] at h1; cases h1
  | some r =>
    obtain ⟨u, e⟩ := r
    rw [hb, hv] at h1
    simp only [Option.map_some, Option.some.injEq] at h1
    subst h1
    rw [hb] at h3
    simp only [Option.map_some, Option.some.injEq] at h3
    exact ⟨u, e, rfl, hpd, fun p hp => List.map_inj_left.1 h3 p hp⟩
theorem np_loadV {j i : Nat} {v : Value} {e : List (Nat × Nat)} (hbx : bx.at w) (hG : Good ops pds []) (hF : FrS N σ a) (hi : hs.lookup j = some i) (hp : pureB P bx hs ops σ pds j = some (v, e)) (he : ∀ p ∈ e, p.1 = p.2) (hpd : pds.getD j .any = .eq v) : NPB P draw ms ops pds a w Q j := by
  unfold pureB at hp
  rw [hi] at hp
  simp only at hp
  cases ho : ops[j]? with
  | none => rw [ho] at hp; cases hp
  | some o =>
    rw [ho] at hp
    simp only at hp
    obtain ⟨dst, op, ty, pos, af, g⟩ := o
    unfold evB at hp
    simp only at hp
    split at hp
    · rename_i t x
      split at hp
      · rename_i b off b' cs hx hbi
        cases hl : loadV P t off cs with
        | none => rw [hl] at hp; cases hp
        | some u =>
          rw [hl] at hp
          simp only [Option.map_some, Option.some.injEq, Prod.mk.injEq] at hp
          obtain ⟨rfl, rfl⟩ := hp
          have hb : b = b' := he (b, b') (by simp)
          subst hb
          obtain ⟨bt, hB⟩ := hbx _ (List.mem_of_getElem? hbi)
          exact np_b _ ho hG hF fun a' w' hC _ hv _ => by
            have hr := loadV_run hl (hB.ext hC)
            have hx' := hv x _ (by simp [Op.operands]) hx
            refine does_value (v := u) (w' := w') ?_ (by rw [hpd]; exact ⟨rfl, Chg.refl _ _⟩)
            simp [execOp, Instr.loadAt, hx', Instr.sureAddr, hr]
      · cases hp
    · cases hp
end
end Go.GL
