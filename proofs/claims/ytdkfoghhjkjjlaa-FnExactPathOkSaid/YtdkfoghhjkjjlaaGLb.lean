/- Own library, part b: what a frame holds; the value of an operation that touches no memory; regions by lists of predicates; a walk through a region in the text's order. -/
import Derived.Test.YtdkfoghhjkjjlaaGLa
namespace Go.GL
open Go.RowKit

/-- the frame has N slots, no deferred calls, and holds these values -/
structure FrS (N : Nat) (σ : List (Nat × Value)) (a : Act) : Prop where
  defers : a.defers = []
  size : a.tmps.size = N
  get : ∀ t v, σ.lookup t = some v → a.eval (.tmp t) = v

theorem FrS.put {N : Nat} {σ : List (Nat × Value)} {a : Act} (h : FrS N σ a) {d : Nat} (hd : d < N) (v : Value) : FrS N ((d, v) :: σ) (a.put (some d) v) := by
  refine ⟨by rw [Act.defers_put]; exact h.defers, by rw [Act.size_put]; exact h.size, fun t u hu => ?_⟩
  rw [List.lookup_cons] at hu
  by_cases e : t = d
  · subst e
    simp at hu
    rw [Act.eval_put_eq _ _ _ (by rw [h.size]; exact hd)]; exact hu
  · have : (t == d) = false := by simpa using e
    rw [this] at hu
    rw [Act.eval_put_ne _ _ _ _ (by simpa using Ne.symm e)]; exact h.get t u hu
theorem FrS.nil {N : Nat} {σ : List (Nat × Value)} {a : Act} (h : FrS N σ a) : FrS N [] a := ⟨h.defers, h.size, fun _ _ h => by cases h⟩
theorem FrS.cons {N : Nat} {σ : List (Nat × Value)} {a : Act} (h : FrS N σ a) {t : Nat} {v : Value} (hv : a.eval (.tmp t) = v) : FrS N ((t, v) :: σ) a := by
  refine ⟨h.defers, h.size, fun t' u hu => ?_⟩
  rw [List.lookup_cons] at hu
  by_cases e : t' = t
  · subst e; simp at hu; rw [hv]; exact hu
  · have : (t' == t) = false := by simpa using e
    rw [this] at hu; exact h.get t' u hu

theorem lookup_mem {t : Nat} {v : Value} : ∀ {σ : List (Nat × Value)}, σ.lookup t = some v → (t, v) ∈ σ
  | (t', u) :: σ, h => by
    rw [List.lookup_cons] at h
    by_cases e : t = t'
    · subst e; simp at h; subst h; exact List.mem_cons_self
    · have : (t == t') = false := by simpa using e
      rw [this] at h; exact List.mem_cons_of_mem _ (lookup_mem h)
  | [], h => by cases h

/-- only some of what is known -/
theorem FrS.sub {N : Nat} {σ : List (Nat × Value)} {a : Act} (h : FrS N σ a) (σ' : List (Nat × Value)) (hs : σ'.map (fun p => σ.lookup p.1) = σ'.map fun p => some p.2) : FrS N σ' a := by
  refine ⟨h.defers, h.size, fun t v hv => ?_⟩
  have hm := lookup_mem hv
  have := List.map_inj_left.1 hs _ hm
  exact h.get t v this

def opd (σ : List (Nat × Value)) : Operand → Option Value
  | .tmp t => σ.lookup t
  | .const v => some v
  | .global g => some (.pointer (some ⟨g, 0, none⟩))
  | .func f => some (.func (.func f) #[] #[])

theorem opd_eval {N : Nat} {σ : List (Nat × Value)} {a : Act} (h : FrS N σ a) {x : Operand} {v : Value} (hx : opd σ x = some v) : a.eval x = v := by
  cases x with
  | tmp t => exact h.get t v hx
  | const u => simpa [opd, Act.eval] using hx
  | global g => simpa [opd, Act.eval] using hx
  | func f => simpa [opd, Act.eval] using hx

/-! ### values of operations that touch no memory -/
def binI (op : BinOp) (k : IntKind) (a b : Int) : Option Value :=
  match op with
  | .add => some (.int k (k.wrap (a + b)))
  | .sub => some (.int k (k.wrap (a - b)))
  | .mul => some (.int k (k.wrap (a * b)))
  | .and => some (.int k (k.wrap (BitVec.ofInt k.bits a &&& BitVec.ofInt k.bits b).toNat))
  | .or => some (.int k (k.wrap (BitVec.ofInt k.bits a ||| BitVec.ofInt k.bits b).toNat))
  | .xor => some (.int k (k.wrap (BitVec.ofInt k.bits a ^^^ BitVec.ofInt k.bits b).toNat))
  | .eql => some (.bool (a == b))
  | .neq => some (.bool (a != b))
  | .lss => some (.bool (decide (a < b)))
  | .leq => some (.bool (decide (a ≤ b)))
  | .gtr => some (.bool (decide (a > b)))
  | .geq => some (.bool (decide (a ≥ b)))
  | _ => none
def binS (op : BinOp) (a b : ByteArray) : Option Value :=
  match op with
  | .eql => some (.bool (a.toList == b.toList))
  | .neq => some (.bool (!(a.toList == b.toList)))
  | .lss => some (.bool (Op.bytesLess a.toList b.toList))
  | .leq => some (.bool (Op.bytesLess a.toList b.toList || a.toList == b.toList))
  | .gtr => some (.bool (!(Op.bytesLess a.toList b.toList || a.toList == b.toList)))
  | .geq => some (.bool (!Op.bytesLess a.toList b.toList))
  | _ => none
def binB (op : BinOp) (a b : Bool) : Option Value :=
  match op with
  | .eql => some (.bool (a == b))
  | .neq => some (.bool (!(a == b)))
  | _ => none

/-- the place of a field: its offset, if the field is not of size 0 -/
def fieldOff (P : Program) (s : TypeId) (f : Nat) : Option Nat :=
  match P.underlying s with
  | some (.struct fs) =>
    match fs[f]? with
    | some x =>
      match P.info? x.type with
      | some i => if i.size = 0 then none else some x.offset
      | none => none
    | none => none
  | _ => none

def pe (P : Program) (ρ : Operand → Option Value) (o : Op) : Option Value :=
  match o with
  | .move x | .assign x => ρ x
  | .binOp op t x y _ =>
    match ρ x, ρ y with
    | some (.int k a), some (.int k' b) => if k = k' ∧ op ≠ .shl ∧ op ≠ .shr then binI op k a b else none
    | some (.string a), some (.string b) => binS op a b
    | some (.bool a), some (.bool b) => match P.underlying t with | some .bool => binB op a b | _ => none
    | _, _ => none
  | .unOp op _ x =>
    match op, ρ x with
    | .not, some (.bool b) => some (.bool (!b))
    | .neg, some (.int k n) => some (.int k (k.wrap (0 - n)))
    | _, _ => none
  | .fieldAddr s x f =>
    match ρ x, fieldOff P s f with
    | some (.pointer (some a)), some n => some (.pointer (some (a.add n)))
    | _, _ => none
  | .call { callee := .builtin .min, args := xs, argTypes := _ } =>
    match xs.toList with
    | [x, y] =>
      match ρ x, ρ y with
      | some (.int k a), some (.int _ b) => some (.int k (if b < a then b else a))
      | _, _ => none
    | _ => none
  | .call { callee := .builtin .max, args := xs, argTypes := _ } =>
    match xs.toList with
    | [x, y] =>
      match ρ x, ρ y with
      | some (.int k a), some (.int _ b) => some (.int k (if b > a then b else a))
      | _, _ => none
    | _ => none
  | .call { callee := .builtin .len, args := xs, argTypes := ts } =>
    match xs.toList, ts.toList with
    | [x], [t] =>
      match P.underlying t, ρ x with
      | some (.slice _), some (.slice _ n _) => some (.int .i64 n)
      | some .string, some (.string s) => some (.int .i64 s.size)
      | _, _ => none
    | _, _ => none
  | .extract x i =>
    match ρ x with
    | some (.tuple vs) => vs[i]?
    | _ => none
  | .convert s d x =>
    match P.underlying s, P.underlying d, ρ x with
    | some _, some (.int k), some (.int _ n) => some (.int k (k.wrap n))
    | _, _, _ => none
  | .build t parts =>
    match parts.toList.mapM (fun p => (ρ p.2).map fun v => (p.1, v)) with
    | some vs => (P.built t vs).map .agg
    | none => none
  | .nilCheck x =>
    match ρ x with
    | some (.pointer (some a)) => some (.pointer (some a))
    | _ => none
  | .makeFunc (.func f) first captured =>
    match first.toList, captured.toList.mapM ρ with
    | [], some vs => some (.func (.func f) #[] vs.toArray)
    | _, _ => none
  | _ => none

section
variable {P : Program}

theorem binI_run {op : BinOp} {k : IntKind} {a b : Int} {v : Value} (h : binI op k a b = some v) (h1 : op ≠ .shl) (h2 : op ≠ .shr) (t : TypeId) (w : World) : (binOp op t (.int k a) (.int k b)).run P w = .ok v w := by
  cases op <;> simp only [binI, Option.some.injEq, reduceCtorEq] at h <;> first
    | (subst h; simp [binOp, Op.intArith, Op.intBits, Op.intCmp])
    | (exact absurd rfl h1)
    | (exact absurd rfl h2)

theorem binS_run {op : BinOp} {a b : ByteArray} {v : Value} (h : binS op a b = some v) (t : TypeId) (w : World) : (binOp op t (.string a) (.string b)).run P w = .ok v w := by
  cases op <;> simp only [binS, Option.some.injEq, reduceCtorEq] at h <;> (subst h; simp [binOp, Op.stringOp])

theorem binB_run {op : BinOp} {a b : Bool} {v : Value} {t : TypeId} (h : binB op a b = some v) (ht : P.underlying t = some .bool) (w : World) : (binOp op t (.bool a) (.bool b)).run P w = .ok v w := by
  cases op <;> simp only [binB, Option.some.injEq, reduceCtorEq] at h
  · subst h; exact run_eql_bool w t a b ht
  · subst h; exact run_neq_bool w t a b ht

theorem pe_run {ρ : Operand → Option Value} {ρ' : Operand → Value} (hρ : ∀ x v, ρ x = some v → ρ' x = v) {o : Oper} {v : Value} (h : pe P ρ o.op = some v) (w : World) :
    (execOp ρ' o).run P w = .ok (.value v) w := by
  obtain ⟨dst, op, type, pos, after, guard⟩ := o
  simp only at h
  unfold pe at h
  split at h
  · rename_i x
    rw [← hρ _ _ h]; simp [execOp]
  · rename_i x
    rw [← hρ _ _ h]; simp [execOp]
  · rename_i op t x y _
    split at h
    · rename_i k a k' b hx hy
      split at h
      · rename_i hk
        obtain ⟨rfl, h1, h2⟩ := hk
        simp only [execOp]
        rw [hρ _ _ hx, hρ _ _ hy]
        have := binI_run (P := P) h h1 h2 t w
        simp [eqGuard, this]
      · cases h
    · rename_i a b hx hy
      simp only [execOp]
      rw [hρ _ _ hx, hρ _ _ hy]
      have := binS_run (P := P) h t w
      simp [eqGuard, this]
    · rename_i a b hx hy
      split at h
      · rename_i ht
        simp only [execOp]
        rw [hρ _ _ hx, hρ _ _ hy]
        have := binB_run (P := P) h ht w
        simp [eqGuard, this]
      · cases h
    · cases h
  · rename_i op t x
    split at h
    · rename_i b hx
      simp only [Option.some.injEq] at h; subst h
      simp only [execOp]; rw [hρ _ _ hx]; simp [Op.unary]
    · rename_i k n hx
      simp only [Option.some.injEq] at h; subst h
      simp only [execOp]; rw [hρ _ _ hx]; simp [Op.unary, Op.intArith]
    · cases h
  · rename_i s x f
    split at h
    · rename_i a n hx hf
      simp only [Option.some.injEq] at h; subst h
      unfold fieldOff at hf
      split at hf
      · rename_i fs hs
        split at hf
        · rename_i fld hfl
          split at hf
          · rename_i i hi
            split at hf
            · cases hf
            · rename_i hz
              simp only [Option.some.injEq] at hf; subst hf
              simp only [execOp]; rw [hρ _ _ hx]
              simp [Instr.fieldAt, run_underlying hs, hfl, Instr.sureAddr, fieldPlace, sizeOf, typeInfo, hi, hz]
          · cases hf
        · cases hf
      · cases hf
    · cases h
  · rename_i xs ts
    split at h
    · rename_i x y hxs
      obtain rfl : xs = #[x, y] := by cases xs; simp_all
      split at h
      · rename_i k a k' b hx hy
        simp only [Option.some.injEq] at h; subst h
        simp [execOp, resolve, invoke, builtin, hρ _ _ hx, hρ _ _ hy, run_min_int2]
      · cases h
    · cases h
  · rename_i xs ts
    split at h
    · rename_i x y hxs
      obtain rfl : xs = #[x, y] := by cases xs; simp_all
      split at h
      · rename_i k a k' b hx hy
        simp only [Option.some.injEq] at h; subst h
        simp [execOp, resolve, invoke, builtin, hρ _ _ hx, hρ _ _ hy, run_max_int2]
      · cases h
    · cases h
  · rename_i xs ts
    split at h
    · rename_i x t hxs hts
      obtain rfl : xs = #[x] := by cases xs; simp_all
      obtain rfl : ts = #[t] := by cases ts; simp_all
      split at h
      · rename_i e a n c ht hx
        simp only [Option.some.injEq] at h; subst h
        simp [execOp, resolve, invoke, builtin, Builtin.len_, run_underlying ht, hρ _ _ hx, goInt]
      · rename_i s ht hx
        simp only [Option.some.injEq] at h; subst h
        simp [execOp, resolve, invoke, builtin, Builtin.len_, run_underlying ht, hρ _ _ hx, goInt]
      · cases h
    · cases h
  · rename_i x i
    split at h
    · rename_i vs hx
      simp only [execOp]; rw [hρ _ _ hx]; simp [Instr.extract, h]
    · cases h
  · rename_i s d x
    split at h
    · rename_i sd k k' n hs hd hx
      simp only [Option.some.injEq] at h; subst h
      simp only [execOp]; rw [hρ _ _ hx]
      simp [convert, run_underlying hs, run_underlying hd, Conv.intToInt]
    · cases h
  · rename_i t parts
    split at h
    · rename_i vs hvs
      cases hb : P.built t vs with
      | none => rw [hb] at h; cases h
      | some cells =>
        rw [hb] at h
        simp only [Option.map_some, Option.some.injEq] at h; subst h
        have e : (parts.map fun p => (p.1, ρ' p.2)).toList = vs := by
          have key : ∀ (ps : List (Nat × Operand)) (vs : List (Nat × Value)), ps.mapM (fun p => (ρ p.2).map fun v => (p.1, v)) = some vs → ps.map (fun p => (p.1, ρ' p.2)) = vs := by
            intro ps
            induction ps with
            | nil => intro vs h; simpa using h
            | cons p ps ih =>
              intro vs h
              simp only [List.mapM_cons, Option.bind_eq_bind, Option.bind_eq_some_iff, Option.map_eq_some_iff, Option.pure_def, Option.some.injEq] at h
              obtain ⟨q, ⟨v, hv, rfl⟩, rs, hrs, rfl⟩ := h
              rw [List.map_cons, ih rs hrs, hρ _ _ hv]
          have := key parts.toList vs hvs
          cases parts; simpa using this
        have := run_build (P := P) w t (parts.map fun p => (p.1, ρ' p.2)) cells (by rw [e]; exact hb)
        simp only [execOp]
        simpa using congrArg (fun r => r.andThen fun v w => Result.ok (Next.value v) w) this
    · cases h
  · rename_i x
    split at h
    · rename_i a hx
      simp only [Option.some.injEq] at h; subst h
      simp [execOp, hρ _ _ hx]
    · cases h
  · rename_i f first captured
    split at h
    · rename_i vs hf hvs
      simp only [Option.some.injEq] at h; subst h
      obtain rfl : first = #[] := by cases first; simp_all
      have key : ∀ (ps : List Operand) (vs : List Value), ps.mapM ρ = some vs → ps.map ρ' = vs := by
        intro ps
        induction ps with
        | nil => intro vs h; simpa using h
        | cons p ps ih =>
          intro vs h
          simp only [List.mapM_cons, Option.bind_eq_bind, Option.bind_eq_some_iff, Option.pure_def, Option.some.injEq] at h
          obtain ⟨v, hv, rs, hrs, rfl⟩ := h
          rw [List.map_cons, ih rs hrs, hρ _ _ hv]
      have := key captured.toList vs hvs
      have e : captured.map ρ' = vs.toArray := by rw [← this]; cases captured; simp
      simp [execOp, Instr.makeFunc, e]
    · cases h
  · cases h
end
end Go.GL
