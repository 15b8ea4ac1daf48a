/- Own library, part c: regions by lists of predicates. -/
import Derived.Test.YtdkfoghhjkjjlaaGLb
namespace Go.GL
open Go.RowKit

/-- what is known of an operation's value -/
inductive Pd where
  | eq (v : Value)
  | is (p : Value → World → Prop)
  | own (p : (Nat → Nat) → Value → World → Prop)
  | any

def Pd.sat : Pd → Value → World → Prop
  | .eq u, v, _ => v = u
  | .is p, v, w => p v w
  | .own _, _, _ => True
  | .any, _, _ => True
def Pd.val? : Pd → Option Value
  | .eq v => some v
  | _ => none
def Pd.boolIs : Pd → Bool → Prop
  | .eq (.bool x), b => x = b
  | _, _ => False
def Pd.isBool : Pd → Bool
  | .eq (.bool _) => true
  | _ => false
def Pd.Mono (S : Nat → Prop) (p : Pd) : Prop := ∀ v w w', p.sat v w → Chg S w w' → p.sat v w'
theorem Pd.mono_eq {S : Nat → Prop} {v : Value} : (Pd.eq v).Mono S := fun _ _ _ h _ => h
theorem Pd.mono_any {S : Nat → Prop} : Pd.any.Mono S := fun _ _ _ h _ => h

def guardOf (ops : Array Oper) (j : Nat) : Option (Nat × Bool) := ops[j]?.bind (·.guard)

/-- operation j is carried out -/
def gc (ops : Array Oper) (pds : List Pd) : Nat → Nat → Prop
  | 0, _ => False
  | n + 1, j => match guardOf ops j with
    | none => True
    | some (g, b) => gc ops pds n g ∧ (pds.getD g .any).boolIs b

/-- if operation j is carried out, then so is operation i -/
def okG (ops : Array Oper) : Nat → Nat → Nat → Bool
  | 0, _, i => (guardOf ops i).isNone
  | n + 1, j, i => (guardOf ops i).isNone || guardOf ops i == guardOf ops j || i == j ||
    match guardOf ops j with
    | some (g, _) => okG ops n g i
    | none => false

def valAt (pds : List Pd) (i : Nat) : Option Value := (pds.getD i .any).val?

def envP (ops : Array Oper) (σ : List (Nat × Value)) (pds : List Pd) (j : Nat) : Operand → Option Value
  | .tmp t => match lastW ops t j with
    | some i => if okG ops ops.size j i then valAt pds i else none
    | none => σ.lookup t
  | x => opd σ x

/-- the same for an operand that is looked at where the guard says b alone -/
def envG (ops : Array Oper) (σ : List (Nat × Value)) (pds : List Pd) (j : Nat) (g : Option Nat) (b : Bool) : Operand → Option Value
  | .tmp t => match lastW ops t j with
    | some i => if okG ops ops.size j i || (g.isSome && guardOf ops i == g.map (·, b)) then valAt pds i else none
    | none => σ.lookup t
  | x => opd σ x

theorem envP_tmp (ops : Array Oper) (σ : List (Nat × Value)) (pds : List Pd) (j t : Nat) : envP ops σ pds j (.tmp t) = match lastW ops t j with
    | some i => if okG ops ops.size j i then valAt pds i else none
    | none => σ.lookup t := rfl
theorem envG_tmp (ops : Array Oper) (σ : List (Nat × Value)) (pds : List Pd) (j : Nat) (g : Option Nat) (b : Bool) (t : Nat) : envG ops σ pds j g b (.tmp t) = match lastW ops t j with
    | some i => if okG ops ops.size j i || (g.isSome && guardOf ops i == g.map (·, b)) then valAt pds i else none
    | none => σ.lookup t := rfl

def pickV (x : Bool) (u v : Value) : Value :=
  match u, v with
  | .bool p, .bool q => .bool (cond x p q)
  | u, v => cond x u v
theorem pickV_eq (x : Bool) (u v : Value) : pickV x u v = if x then u else v := by
  unfold pickV
  split <;> cases x <;> rfl

def pureV (P : Program) (ops : Array Oper) (σ : List (Nat × Value)) (pds : List Pd) (j : Nat) : Option Value :=
  match ops[j]? with
  | none => none
  | some o =>
    match o.op with
    | .pick c a b =>
      match c, envP ops σ pds j c with
      | .tmp t, some (.bool x) =>
        match envG ops σ pds j (lastW ops t j) true a, envG ops σ pds j (lastW ops t j) false b with
        | some u, some v => some (pickV x u v)
        | _, _ => none
      | _, _ => none
    | op => pe P (envP ops σ pds j) op

def TT (ops : Array Oper) (pds : List Pd) (j : Nat) (v : Value) (w : World) : Prop := (gc ops pds ops.size j → (pds.getD j .any).sat v w) ∧ (¬ gc ops pds ops.size j → v = undef)

/-- guards look at operations before them, whose value is a Bool; an operation that is guarded is no effect -/
def statG (ops : Array Oper) (pds : List Pd) (eff : List Nat) : Bool :=
  pds.length == ops.size &&
  (List.range ops.size).all fun j =>
    match guardOf ops j with
    | none => true
    | some (g, _) => decide (g < j) && (pds.getD g .any).isBool && !eff.contains j && (match ops[g]?.bind (·.dst) with | some d => lastW ops d j == some g | none => false)

section
variable {P : Program} {draw : Bool} {ms : List Nat} {ops : Array Oper} {eff : List Nat} {Φ : Nat → World → Prop} {S : Nat → Prop}
  {a0 : Act} {w0 : World} {Q : Exit → Act → World → Prop} {pds : List Pd} {σ : List (Nat × Value)} {N : Nat}

theorem gc_mono (hg : ∀ j g b, guardOf ops j = some (g, b) → g < j) : ∀ n m j, j < n → j < m → gc ops pds n j → gc ops pds m j
  | 0, _, _, h, _, _ => by omega
  | n + 1, 0, _, _, h, _ => by omega
  | n + 1, m + 1, j, h1, h2, h => by
    unfold gc at h ⊢
    cases hj : guardOf ops j with
    | none => trivial
    | some p =>
      obtain ⟨g, b⟩ := p
      rw [hj] at h
      have := hg j g b hj
      exact ⟨gc_mono hg n m g (by omega) (by omega) h.1, h.2⟩

theorem okG_gc (hg : ∀ j g b, guardOf ops j = some (g, b) → g < j) : ∀ n j i, okG ops n j i = true → ∀ m, j < m → i < m → gc ops pds m j → gc ops pds m i
  | 0, j, i, h, m, _, him, _ => by
    obtain ⟨m, rfl⟩ : ∃ k, m = k + 1 := ⟨m - 1, by omega⟩
    unfold okG at h; unfold gc
    rw [Option.isNone_iff_eq_none] at h
    rw [h]; trivial
  | n + 1, j, i, h, m, hjm, him, hj => by
    obtain ⟨m, rfl⟩ : ∃ k, m = k + 1 := ⟨m - 1, by omega⟩
    unfold okG at h
    simp only [Bool.or_eq_true, Option.isNone_iff_eq_none, beq_iff_eq] at h
    rcases h with ((h | h) | h) | h
    · unfold gc; rw [h]; trivial
    · unfold gc at hj ⊢; rw [h]; exact hj
    · subst h; exact hj
    · cases hgj : guardOf ops j with
      | none => rw [hgj] at h; cases h
      | some p =>
        obtain ⟨g, b⟩ := p
        rw [hgj] at h
        have hlt := hg j g b hgj
        unfold gc at hj; rw [hgj] at hj
        have h1 : gc ops pds (m + 1) g := gc_mono hg m (m + 1) g (by omega) (by omega) hj.1
        exact okG_gc hg n g i h (m + 1) (by omega) him h1

theorem lastW_lt {t : Tmp} : ∀ {n i : Nat}, lastW ops t n = some i → i < n ∧ wr ops t i = true
  | 0, i, h => by cases h
  | n + 1, i, h => by
    unfold lastW at h
    split at h
    · rename_i hw
      simp only [Option.some.injEq] at h; subst h
      exact ⟨by omega, hw⟩
    · have := lastW_lt h
      exact ⟨by omega, this.2⟩

theorem wr_lt {t : Tmp} {i : Nat} (h : wr ops t i = true) : i < ops.size := by
  unfold wr at h
  rcases Nat.lt_or_ge i ops.size with h1 | h1
  · exact h1
  · rw [Array.getElem?_eq_none h1] at h; simp at h

structure Good (ops : Array Oper) (pds : List Pd) (eff : List Nat) : Prop where
  lt : ∀ j g b, guardOf ops j = some (g, b) → g < j
  bool : ∀ j g b, guardOf ops j = some (g, b) → ∃ x, pds.getD g .any = .eq (.bool x)
  eff : ∀ j g b, guardOf ops j = some (g, b) → j ∉ eff
  dst : ∀ j g b, guardOf ops j = some (g, b) → ∃ d, ops[g]?.bind (·.dst) = some d ∧ lastW ops d j = some g

theorem guardOf_lt {j : Nat} {p : Nat × Bool} (h : guardOf ops j = some p) : j < ops.size := by
  unfold guardOf at h
  rcases Nat.lt_or_ge j ops.size with h1 | h1
  · exact h1
  · rw [Array.getElem?_eq_none h1] at h; cases h

theorem good_of (h : statG ops pds eff = true) : Good ops pds eff := by
  unfold statG at h
  simp only [Bool.and_eq_true, List.all_eq_true, List.mem_range] at h
  obtain ⟨_, h⟩ := h
  have key : ∀ j g b, guardOf ops j = some (g, b) → g < j ∧ (pds.getD g .any).isBool = true ∧ j ∉ eff ∧ ∃ d, ops[g]?.bind (·.dst) = some d ∧ lastW ops d j = some g := by
    intro j g b hj
    have h1 := h j (guardOf_lt hj)
    rw [hj] at h1
    simp only [Bool.and_eq_true, decide_eq_true_eq, Bool.not_eq_true', List.contains_eq_mem, decide_eq_false_iff_not] at h1
    obtain ⟨⟨⟨h1, h2⟩, h3⟩, h4⟩ := h1
    refine ⟨h1, h2, h3, ?_⟩
    cases hd : ops[g]?.bind (·.dst) with
    | none => rw [hd] at h4; cases h4
    | some d => rw [hd] at h4; exact ⟨d, rfl, by simpa using h4⟩
  refine ⟨fun j g b hj => (key j g b hj).1, fun j g b hj => ?_, fun j g b hj => (key j g b hj).2.2.1, fun j g b hj => (key j g b hj).2.2.2⟩
  have := (key j g b hj).2.1
  cases hp : pds.getD g .any with
  | eq v => cases v <;> rw [hp] at this <;> simp [Pd.isBool] at this <;> exact ⟨_, rfl⟩
  | is p => rw [hp] at this; cases this
  | own p => rw [hp] at this; cases this
  | any => rw [hp] at this; cases this

theorem looks_operand {o : Oper} {t : Tmp} (h : Operand.tmp t ∈ o.op.operands) : t ∈ o.looksAt ops :=
  List.mem_append_left _ (List.mem_filterMap.2 ⟨.tmp t, by simpa using h, rfl⟩)
theorem looks_guard {o : Oper} {g : Nat} {b : Bool} {d : Tmp} (h : o.guard = some (g, b)) (hd : ops[g]?.bind (·.dst) = some d) : d ∈ o.looksAt ops := by
  refine List.mem_append_right _ ?_
  simp [h, hd]

/-- an operation is carried out just where its guard says so -/
theorem wanted_gc (hG : Good ops pds eff) {j : Nat} {o : Oper} (ho : ops[j]? = some o) {a : Act} {w : World} (hs : ∀ d, (∃ i, wr ops d i = true) → d < a.tmps.size)
    (hk : ∀ t ∈ o.looksAt ops, Know ops (TT ops pds) a0 j t (a.eval (.tmp t)) w) : Region.wanted o (yielded ops a.tmps) = true ↔ gc ops pds ops.size j := by
  have hj : j < ops.size := (Array.getElem?_eq_some_iff.1 ho).1
  obtain ⟨m, hm⟩ : ∃ m, ops.size = m + 1 := ⟨ops.size - 1, by omega⟩
  cases hgd : o.guard with
  | none =>
    have hgj : guardOf ops j = none := by simp [guardOf, ho, hgd]
    exact ⟨fun _ => by rw [hm]; unfold gc; rw [hgj]; trivial, fun _ => by simp [Region.wanted, hgd]⟩
  | some p =>
    obtain ⟨g, b⟩ := p
    have hgj : guardOf ops j = some (g, b) := by simp [guardOf, ho, hgd]
    obtain ⟨d, hd, hlast⟩ := hG.dst j g b hgj
    obtain ⟨x, hx⟩ := hG.bool j g b hgj
    have hlt := hG.lt j g b hgj
    have h1 := hk d (looks_guard hgd hd)
    unfold Know at h1; rw [hlast] at h1
    have hd' : d < a.tmps.size := hs d ⟨g, (lastW_lt hlast).2⟩
    have h4 : ∀ u, a.eval (.tmp d) = u → a.tmps[d]? = some u := fun u hu => by
      simp only [Act.eval, Array.getD_eq_getD_getElem?] at hu
      rw [Array.getElem?_eq_getElem hd'] at hu ⊢
      simpa using hu
    have hgcj : gc ops pds ops.size j ↔ gc ops pds ops.size g ∧ x = b := by
      constructor
      · intro h
        rw [hm] at h; unfold gc at h; rw [hgj] at h
        refine ⟨gc_mono hG.lt m ops.size g (by omega) (by omega) h.1, ?_⟩
        have := h.2; rw [hx] at this; exact this
      · intro h
        rw [hm]; unfold gc; rw [hgj]
        refine ⟨gc_mono hG.lt ops.size m g (by omega) (by omega) h.1, ?_⟩
        rw [hx]; exact h.2
    rw [hgcj]
    by_cases hgg : gc ops pds ops.size g
    · have h2 := h1.1 hgg
      rw [hx] at h2
      have h3 := h4 _ h2
      have hy : yielded ops a.tmps g = some x := by simp [yielded, hd, h3]
      simp [Region.wanted, hgd, hy, hgg]
    · have h2 := h4 _ (h1.2 hgg)
      have hy : yielded ops a.tmps g = none := by simp [yielded, hd, h2, undef]
      simp [Region.wanted, hgd, hy, hgg]

/-- What is left to show of one operation that touches memory, calls, or may panic. -/
def NP (P : Program) (draw : Bool) (ms : List Nat) (ops : Array Oper) (eff : List Nat) (pds : List Pd) (Φ : Nat → World → Prop) (S : Nat → Prop)
    (a0 : Act) (w0 : World) (Q : Exit → Act → World → Prop) (j : Nat) : Prop :=
  ∀ (o : Oper), ops[j]? = some o → ∀ (a : Act) (w : World) (k : Nat), eff.countP (fun e => bef draw ms j e) ≤ k → k ≤ eff.countP (fun e => e != j && !bef draw ms e j) →
    Φ k w → Chg S w0 w → gc ops pds ops.size j → (∀ t ∈ o.looksAt ops, Know ops (TT ops pds) a0 j t (a.eval (.tmp t)) w) →
    ∀ K : Act → World → Prop, (∀ v w', (pds.getD j .any).sat v w' → Chg S w w' → Φ (k + effOf eff j) w' → K (a.put o.dst v) w') → o.wp P a w K Q

theorem tri_of_np (hG : Good ops pds eff) (hN : a0.tmps.size = N) (hdst : ∀ d, (∃ i, wr ops d i = true) → d < N) {j : Nat} (h : NP P draw ms ops eff pds Φ S a0 w0 Q j) :
    Tri P draw ms ops eff (TT ops pds) Φ S a0 w0 Q j := by
  intro o ho a w k h1 h2 h3 h4 h5 h6
  have hw := wanted_gc hG ho (fun d hd => by rw [h5, hN]; exact hdst d hd) h6
  split
  · rename_i hwant
    have hgc := hw.1 hwant
    intro K hK
    exact h o ho a w k h1 h2 h3 h4 hgc h6 K fun v w' hs hc hp => hK v w' ⟨fun _ => hs, fun hn => absurd hgc hn⟩ hc hp
  · rename_i hwant
    have hgc : ¬ gc ops pds ops.size j := fun hh => hwant (hw.2 hh)
    refine ⟨⟨fun hh => absurd hh hgc, fun _ => rfl⟩, ?_⟩
    cases hgd : guardOf ops j with
    | none =>
      exfalso
      apply hgc
      have hj : j < ops.size := (Array.getElem?_eq_some_iff.1 ho).1
      obtain ⟨m, hm⟩ : ∃ m, ops.size = m + 1 := ⟨ops.size - 1, by omega⟩
      rw [hm]; unfold gc; rw [hgd]; trivial
    | some p => simp [effOf, hG.eff j p.1 p.2 hgd]

theorem envP_eval (hG : Good ops pds eff) (hF : FrS N σ a0) {j : Nat} {o : Oper} (ho : ops[j]? = some o) {a : Act} {w : World} (hgc : gc ops pds ops.size j)
    (hk : ∀ t ∈ o.looksAt ops, Know ops (TT ops pds) a0 j t (a.eval (.tmp t)) w) {x : Operand} (hx : x ∈ o.op.operands) {v : Value} (hv : envP ops σ pds j x = some v) : a.eval x = v := by
  have hj : j < ops.size := (Array.getElem?_eq_some_iff.1 ho).1
  cases x with
  | tmp t =>
    have h1 := hk t (looks_operand hx)
    unfold Know at h1
    rw [envP_tmp] at hv
    cases hl : lastW ops t j with
    | none =>
      rw [hl] at h1 hv
      rw [h1]; exact hF.get t v hv
    | some i =>
      rw [hl] at h1 hv
      simp only at hv
      split at hv
      · rename_i hok
        have hi := lastW_lt hl
        have hgi := okG_gc hG.lt ops.size j i hok ops.size hj (by omega) hgc
        have h2 := h1.1 hgi
        unfold valAt Pd.val? at hv
        split at hv
        · rename_i u hu
          simp only [Option.some.injEq] at hv; subst hv
          rw [hu] at h2; exact h2
        · cases hv
      · cases hv
  | const u => simpa [envP, opd, Act.eval] using hv
  | global g => simpa [envP, opd, Act.eval] using hv
  | func f => simpa [envP, opd, Act.eval] using hv

theorem guarded_gc (hG : Good ops pds eff) {i g : Nat} {b x : Bool} (hi : guardOf ops i = some (g, b)) (hil : i < ops.size) (hg : gc ops pds ops.size g) (hx : pds.getD g .any = .eq (.bool x)) (hb : x = b) : gc ops pds ops.size i := by
  obtain ⟨m, hm⟩ : ∃ m, ops.size = m + 1 := ⟨ops.size - 1, by omega⟩
  have hlt := hG.lt i g b hi
  rw [hm]; unfold gc; rw [hi]
  refine ⟨gc_mono hG.lt ops.size m g (by omega) (by omega) hg, ?_⟩
  rw [hx]; exact hb

theorem envG_eval (hG : Good ops pds eff) (hF : FrS N σ a0) {j : Nat} {o : Oper} (ho : ops[j]? = some o) {a : Act} {w : World} (hgc : gc ops pds ops.size j)
    (hk : ∀ t ∈ o.looksAt ops, Know ops (TT ops pds) a0 j t (a.eval (.tmp t)) w) {x : Operand} (hx : x ∈ o.op.operands) {g : Option Nat} {b y : Bool} (hgy : ∀ n, g = some n → gc ops pds ops.size n ∧ pds.getD n .any = .eq (.bool y)) (hy : y = b)
    {v : Value} (hv : envG ops σ pds j g b x = some v) : a.eval x = v := by
  cases x with
  | tmp t =>
    have h1 := hk t (looks_operand hx)
    unfold Know at h1
    rw [envG_tmp] at hv
    cases hl : lastW ops t j with
    | none =>
      rw [hl] at h1 hv
      rw [h1]; exact hF.get t v hv
    | some i =>
      rw [hl] at h1 hv
      simp only at hv
      split at hv
      · rename_i hok
        have hi := lastW_lt hl
        have hj : j < ops.size := (Array.getElem?_eq_some_iff.1 ho).1
        have hgi : gc ops pds ops.size i := by
          rw [Bool.or_eq_true] at hok
          rcases hok with hok | hok
          · exact okG_gc hG.lt ops.size j i hok ops.size hj (by omega) hgc
          · rw [Bool.and_eq_true] at hok
            obtain ⟨h3, h4⟩ := hok
            obtain ⟨n, rfl⟩ := Option.isSome_iff_exists.1 h3
            obtain ⟨h5, h6⟩ := hgy n rfl
            exact guarded_gc hG (by simpa using h4) (by omega) h5 h6 hy
        have h2 := h1.1 hgi
        unfold valAt Pd.val? at hv
        split at hv
        · rename_i u hu
          simp only [Option.some.injEq] at hv; subst hv
          rw [hu] at h2; exact h2
        · cases hv
      · cases hv
  | const u => simpa [envG, opd, Act.eval] using hv
  | global g => simpa [envG, opd, Act.eval] using hv
  | func f => simpa [envG, opd, Act.eval] using hv

/-- the operands that 'pe' looks at are the operation's own -/
theorem pe_congr {ρ ρ' : Operand → Option Value} (o : Op) (h : ∀ x ∈ o.operands, ρ x = ρ' x) : pe P ρ o = pe P ρ' o := by
  cases o with
  | move x => exact h x (by simp [Op.operands])
  | assign x => exact h x (by simp [Op.operands])
  | binOp op t x y yt => simp only [pe]; rw [h x (by simp [Op.operands]), h y (by simp [Op.operands])]
  | unOp op t x => simp only [pe]; rw [h x (by simp [Op.operands])]
  | fieldAddr s x f => simp only [pe]; rw [h x (by simp [Op.operands])]
  | extract x i => simp only [pe]; rw [h x (by simp [Op.operands])]
  | nilCheck x => simp only [pe]; rw [h x (by simp [Op.operands])]
  | convert s d x => simp only [pe]; rw [h x (by simp [Op.operands])]
  | build t parts =>
    simp only [pe]
    have : parts.toList.mapM (fun p => (ρ p.2).map fun v => (p.1, v)) = parts.toList.mapM (fun p => (ρ' p.2).map fun v => (p.1, v)) := by
      have key : ∀ (ps : List (Nat × Operand)), (∀ p ∈ ps, ρ p.2 = ρ' p.2) → ps.mapM (fun p => (ρ p.2).map fun v => (p.1, v)) = ps.mapM (fun p => (ρ' p.2).map fun v => (p.1, v)) := by
        intro ps
        induction ps with
        | nil => intro _; rfl
        | cons p ps ih => intro hh; rw [List.mapM_cons, List.mapM_cons, ih fun q hq => hh q (List.mem_cons_of_mem _ hq), hh p List.mem_cons_self]
      refine key _ fun p hp => h _ ?_
      simp only [Op.operands]
      simpa using ⟨p.1, by simpa using hp⟩
    rw [this]
  | makeFunc fn first captured =>
    cases fn with
    | func f =>
      simp only [pe]
      have : captured.toList.mapM ρ = captured.toList.mapM ρ' := by
        have key : ∀ (ps : List Operand), (∀ p ∈ ps, ρ p = ρ' p) → ps.mapM ρ = ps.mapM ρ' := by
          intro ps
          induction ps with
          | nil => intro _; rfl
          | cons p ps ih => intro hh; rw [List.mapM_cons, List.mapM_cons, ih fun q hq => hh q (List.mem_cons_of_mem _ hq), hh p List.mem_cons_self]
        refine key _ fun p hp => h _ ?_
        simp only [Op.operands]
        simp at hp
        simp [hp]
      rw [this]
    | _ => rfl
  | call c =>
    obtain ⟨callee, xs, ts⟩ := c
    cases callee with
    | builtin b =>
      cases b with
      | min =>
        simp only [pe]
        split
        · rename_i x y hxs
          obtain rfl : xs = #[x, y] := by cases xs; simp_all
          rw [h x (by simp [Op.operands, Call.operands]), h y (by simp [Op.operands, Call.operands])]
        · rfl
      | max =>
        simp only [pe]
        split
        · rename_i x y hxs
          obtain rfl : xs = #[x, y] := by cases xs; simp_all
          rw [h x (by simp [Op.operands, Call.operands]), h y (by simp [Op.operands, Call.operands])]
        · rfl
      | len =>
        simp only [pe]
        split
        · rename_i x t hxs hts
          obtain rfl : xs = #[x] := by cases xs; simp_all
          rw [h x (by simp [Op.operands, Call.operands])]
        · rfl
      | _ => rfl
    | _ => rfl
  | _ => rfl

theorem np_pure (hG : Good ops pds eff) (hF : FrS N σ a0) {j : Nat} (hj : j ∉ eff) (h : pureV P ops σ pds j = (pds.getD j .any).val?) (hsome : (pds.getD j .any).val?.isSome = true) : NP P draw ms ops eff pds Φ S a0 w0 Q j := by
  intro o ho a w k _ _ hΦ _ hgc hk K hK
  obtain ⟨v, hv⟩ := Option.isSome_iff_exists.1 hsome
  rw [hv] at h
  have hpd : pds.getD j .any = .eq v := by
    cases hp : pds.getD j .any with
    | eq u => rw [hp] at hv; simp [Pd.val?] at hv; rw [hv]
    | is p => rw [hp] at hv; cases hv
    | own p => rw [hp] at hv; cases hv
    | any => rw [hp] at hv; cases hv
  classical
  have hrun : (execOp a.eval o).run P w = .ok (.value v) w := by
    unfold pureV at h
    simp only [ho] at h
    split at h
    · rename_i c x y hop
      split at h
      · rename_i t z hc
        split at h
        · rename_i u u' hx hy
          simp only [Option.some.injEq] at h
          have hcv : a.eval (.tmp t) = .bool z := envP_eval hG hF ho hgc hk (by simp [hop, Op.operands]) hc
          have hgz : ∀ n, lastW ops t j = some n → gc ops pds ops.size n ∧ pds.getD n .any = .eq (.bool z) := by
            intro n hn
            rw [envP_tmp, hn] at hc
            simp only at hc
            split at hc
            · rename_i hok
              have hi := lastW_lt hn
              have hjl : j < ops.size := (Array.getElem?_eq_some_iff.1 ho).1
              refine ⟨okG_gc hG.lt ops.size j n hok ops.size hjl (by omega) hgc, ?_⟩
              unfold valAt Pd.val? at hc
              split at hc
              · rename_i u'' hu''
                simp only [Option.some.injEq] at hc
                rw [hu'', hc]
              · cases hc
            · cases hc
          have hval : (if z then a.eval x else a.eval y) = v := by
            rw [← h, pickV_eq]
            cases z with
            | true => exact envG_eval hG hF ho hgc hk (by simp [hop, Op.operands]) hgz rfl hx
            | false => exact envG_eval hG hF ho hgc hk (by simp [hop, Op.operands]) hgz rfl hy
          obtain ⟨dst, op, type, pos, after, guard⟩ := o
          simp only at hop; subst hop
          simp [execOp, hcv, asBool]
          exact hval
        · cases h
      · cases h
    · refine pe_run (ρ := fun x => if x ∈ o.op.operands then envP ops σ pds j x else none) (fun x u hx => ?_) ?_ w
      · split at hx
        · rename_i hmem
          exact envP_eval hG hF ho hgc hk hmem hx
        · cases hx
      · rw [← h]
        exact pe_congr _ fun x hx => by rw [if_pos hx]
  unfold Oper.wp
  rw [hrun]
  have h0 : effOf eff j = 0 := by simp [effOf, hj]
  exact hK v w (by rw [hpd]; rfl) (Chg.refl _ _) (by rw [h0]; exact hΦ)

/-! ### the end of a region -/
def outV (ops : Array Oper) (σ : List (Nat × Value)) (pds : List Pd) (t : Nat) : Option Value :=
  match lastW ops t ops.size with
  | some i => if (guardOf ops i).isNone then valAt pds i else none
  | none => σ.lookup t

theorem outV_eval (hF : FrS N σ a0) {a : Act} {w : World} (hE : EndOf ops (TT ops pds) a0 a w) {t : Nat} {v : Value} (h : outV ops σ pds t = some v) : a.eval (.tmp t) = v := by
  have h1 := hE.2.2 t
  unfold Know at h1
  unfold outV at h
  cases hl : lastW ops t ops.size with
  | none => rw [hl] at h h1; rw [h1]; exact hF.get t v h
  | some i =>
    rw [hl] at h h1
    simp only at h
    split at h
    · rename_i hg
      have hi := lastW_lt hl
      have hgi : gc ops pds ops.size i := by
        obtain ⟨m, hm⟩ : ∃ m, ops.size = m + 1 := ⟨ops.size - 1, by omega⟩
        rw [hm]; unfold gc
        rw [Option.isNone_iff_eq_none] at hg
        rw [hg]; trivial
      have h2 := h1.1 hgi
      unfold valAt Pd.val? at h
      split at h
      · rename_i u hu
        simp only [Option.some.injEq] at h; subst h
        rw [hu] at h2; exact h2
      · cases h
    · cases h

theorem EndOf.is {a : Act} {w : World} (hE : EndOf ops (TT ops pds) a0 a w) (t i : Nat) (hl : lastW ops t ops.size = some i) (hg : guardOf ops i = none) : (pds.getD i .any).sat (a.eval (.tmp t)) w := by
  have h1 := hE.2.2 t
  unfold Know at h1
  rw [hl] at h1
  refine h1.1 ?_
  have hi := lastW_lt hl
  obtain ⟨m, hm⟩ : ∃ m, ops.size = m + 1 := ⟨ops.size - 1, by omega⟩
  rw [hm]; unfold gc; rw [hg]; trivial

def AllL (p : Nat → Prop) : List Nat → Prop
  | [] => True
  | j :: l => p j ∧ AllL p l
theorem AllL.mem {p : Nat → Prop} {j : Nat} : ∀ {l : List Nat}, AllL p l → j ∈ l → p j
  | _ :: _, h, hm => by
    cases hm with
    | head => exact h.1
    | tail _ hm => exact AllL.mem h.2 hm

/-- those operations of which something is left to show -/
def npIdx (ops : Array Oper) (isP : List Bool) : List Nat := (List.range ops.size).filter fun j => !(isP.getD j false)
def pIdx (ops : Array Oper) (isP : List Bool) : List Nat := (List.range ops.size).filter fun j => isP.getD j false

theorem region_pd {id : Nat} (isP : List Bool) (σ' : List (Nat × Value)) (hmix : P.follows .mixedOrders = true) (hst : (stat draw ms ops eff N && statG ops pds eff) = true) (hF : FrS N σ a0)
    (hp : (pIdx ops isP).map (pureV P ops σ pds) = (pIdx ops isP).map fun j => (pds.getD j .any).val?)
    (hps : ((pIdx ops isP).all fun j => (pds.getD j .any).val?.isSome && !eff.contains j) = true)
    (hmono : AllL (fun j => (pds.getD j .any).Mono S) (npIdx ops isP))
    (hΦ : ∀ w, Chg Non w0 w → Φ 0 w)
    (hnp : AllL (NP P draw ms ops eff pds Φ S a0 w0 Q) (npIdx ops isP))
    (hout : σ'.map (fun p => outV ops σ pds p.1) = σ'.map fun p => some p.2)
    (post : ∀ a w, FrS N σ' a → EndOf ops (TT ops pds) a0 a w → Chg S w0 w → Φ eff.length w → Q .normal a w) : (Code.region id ops draw).wp P Q a0 w0 := by
  rw [Bool.and_eq_true] at hst
  obtain ⟨hst, hsg⟩ := hst
  have hG := good_of hsg
  have hlen : pds.length = ops.size := by
    unfold statG at hsg
    rw [Bool.and_eq_true] at hsg
    simpa using hsg.1
  have hmonoAll : ∀ j, (pds.getD j .any).Mono S := by
    intro j
    by_cases hj : j < ops.size
    · cases hb : isP.getD j false with
      | false => exact hmono.mem (List.mem_filter.2 ⟨List.mem_range.2 hj, by simp only [hb]; rfl⟩)
      | true =>
        rw [List.all_eq_true] at hps
        have := hps j (List.mem_filter.2 ⟨List.mem_range.2 hj, hb⟩)
        rw [Bool.and_eq_true] at this
        obtain ⟨v, hv⟩ := Option.isSome_iff_exists.1 this.1
        cases hpj : pds.getD j .any with
        | eq u => exact Pd.mono_eq
        | is p => rw [hpj] at hv; cases hv
        | own p => rw [hpj] at hv; cases hv
        | any => exact Pd.mono_any
    · have : pds.getD j .any = .any := by
        rw [List.getD_eq_getElem?_getD, List.getElem?_eq_none (by omega)]; rfl
      rw [this]; exact Pd.mono_any
  have hdst : ∀ d, (∃ i, wr ops d i = true) → d < N := by
    intro d ⟨i, hi⟩
    have hst' := hst
    unfold stat at hst'
    simp only [Bool.and_eq_true, List.all_eq_true, List.mem_range] at hst'
    have hil := wr_lt hi
    have := hst'.2 i hil
    have ho : ops[i]? = some ops[i] := by simp [hil]
    rw [Array.getD_eq_getD_getElem?, ho] at this
    unfold wr at hi
    rw [ho] at hi
    simp only [Option.bind_some, beq_iff_eq] at hi
    simpa [hi] using this
  refine region_rule (T := TT ops pds) hmix hst hF.size (fun i v w w' ht hc => ⟨fun hg => hmonoAll i v w w' (ht.1 hg) hc, ht.2⟩) hΦ (fun j hj => ?_) (fun a w hE hc hp => ?_)
  · refine tri_of_np hG hF.size hdst ?_
    cases hb : isP.getD j false with
    | false => exact hnp.mem (List.mem_filter.2 ⟨List.mem_range.2 hj, by simp only [hb]; rfl⟩)
    | true =>
      have hm : j ∈ pIdx ops isP := List.mem_filter.2 ⟨List.mem_range.2 hj, hb⟩
      rw [List.all_eq_true] at hps
      have h1 := hps j hm
      rw [Bool.and_eq_true] at h1
      exact np_pure hG hF (by simpa using h1.2) (List.map_inj_left.1 hp j hm) h1.1
  · refine post a w ⟨hE.1.trans hF.defers, hE.2.1.trans hF.size, fun t v hv => ?_⟩ hE hc hp
    have hm := lookup_mem hv
    exact outV_eval hF hE (List.map_inj_left.1 hout _ hm)
end
end Go.GL
