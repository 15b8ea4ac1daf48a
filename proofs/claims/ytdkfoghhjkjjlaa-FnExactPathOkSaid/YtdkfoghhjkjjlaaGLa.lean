/- Own library, part a: how a world may change, and a rule for a region whose operations may come in any order that its edges allow. No program in sight. -/
import Derived.WalkKit
import Derived.WalkSpells
import Derived.WalkLawsBesides
namespace Go.GL
open Go.RowKit

/-- the world may differ only in blocks of S and in new blocks -/
structure Chg (S : Nat → Prop) (w w' : World) : Prop where
  os : w'.os = w.os
  tape : w'.tape = w.tape
  output : w'.output = w.output
  size : w.heap.size ≤ w'.heap.size
  block : ∀ k, k < w.heap.size → ¬ S k → w'.heap[k]? = w.heap[k]?

def Non : Nat → Prop := fun _ => False

theorem Chg.refl (S : Nat → Prop) (w : World) : Chg S w w := ⟨rfl, rfl, rfl, Nat.le_refl _, fun _ _ _ => rfl⟩
theorem Chg.trans {S : Nat → Prop} {a b c : World} (h : Chg S a b) (k : Chg S b c) : Chg S a c :=
  ⟨k.os.trans h.os, k.tape.trans h.tape, k.output.trans h.output, Nat.le_trans h.size k.size,
   fun i hi hs => (k.block i (Nat.lt_of_lt_of_le hi h.size) hs).trans (h.block i hi hs)⟩
theorem Chg.mono {S S' : Nat → Prop} {w w' : World} (h : Chg S w w') (hs : ∀ k, S k → S' k) : Chg S' w w' :=
  ⟨h.os, h.tape, h.output, h.size, fun k hk hn => h.block k hk fun hx => hn (hs k hx)⟩
theorem Chg.of {S : Nat → Prop} {w w' : World} (h : Chg Non w w') : Chg S w w' := h.mono fun _ hx => hx.elim
/-- what is new for w may be changed as well -/
theorem Chg.trans' {S S' : Nat → Prop} {a b c : World} (h : Chg S a b) (k : Chg S' b c) (hs : ∀ x, S' x → S x ∨ a.heap.size ≤ x) : Chg S a c :=
  ⟨k.os.trans h.os, k.tape.trans h.tape, k.output.trans h.output, Nat.le_trans h.size k.size,
   fun i hi hn => (k.block i (Nat.lt_of_lt_of_le hi h.size) fun hx => (hs i hx).elim hn (by omega)).trans (h.block i hi hn)⟩
theorem Chg.drew {S : Nat → Prop} (w : World) : Chg S w w.drew := ⟨rfl, rfl, rfl, Nat.le_refl _, fun _ _ _ => rfl⟩
theorem Chg.drawn {S : Nat → Prop} (w : World) (n : Nat) : Chg S w { w with drawn := n } := ⟨rfl, rfl, rfl, Nat.le_refl _, fun _ _ _ => rfl⟩
theorem Chg.alloc {S : Nat → Prop} (w : World) (o : Obj) : Chg S w (w.alloc o) :=
  ⟨rfl, rfl, rfl, by simp, fun k hk _ => Below.heap_alloc w o k hk⟩
theorem Chg.setCell {S : Nat → Prop} (w : World) (a : Addr) (v : Value) (h : S a.block) : Chg S w (w.setCell a v) :=
  ⟨rfl, rfl, rfl, by simp, fun k _ hn => heap_setCell_other w a k v fun e => hn (e ▸ h)⟩
theorem Chg.to_below {w w' : World} (h : Chg Non w w') : Below w.heap.size w w' :=
  ⟨h.os, h.tape, h.output, h.size, fun k hk => h.block k hk id⟩

/-! ### regions -/

def wr (ops : Array Oper) (t : Tmp) (i : Nat) : Bool := (ops[i]?.bind (·.dst)) == some t

/-- the last of the first n operations that writes t -/
def lastW (ops : Array Oper) (t : Tmp) : Nat → Option Nat
  | 0 => none
  | n + 1 => if wr ops t n then some n else lastW ops t n

def lastL (ops : Array Oper) (L : Array Bool) (t : Tmp) : Nat → Option Nat
  | 0 => none
  | n + 1 => if wr ops t n && L.getD n false then some n else lastL ops L t n

def names (ops : Array Oper) (o : Oper) : List Tmp := o.dst.toList ++ o.looksAt ops

def maskOf (acc : List Nat) (o : Oper) : Nat :=
  o.after.toList.foldl (fun s e => if Region.binds .any e then s ||| (2 ^ e.on ||| acc.getD e.on 0) else s) 0
def masksN (ops : Array Oper) : Nat → List Nat
  | 0 => []
  | n + 1 => masksN ops n ++ [maskOf (masksN ops n) (ops.getD n default)]

/-- operation i is forced before operation j -/
def bef (draw : Bool) (ms : List Nat) (j i : Nat) : Bool := if draw then (ms.getD j 0).testBit i else decide (i < j)

def confl (ops : Array Oper) (i j : Nat) : Bool :=
  match ops[i]?, ops[j]? with
  | some x, some y => (x.dst.elim false fun d => (names ops y).contains d) || (y.dst.elim false fun d => (names ops x).contains d)
  | _, _ => false

def stat (draw : Bool) (ms : List Nat) (ops : Array Oper) (eff : List Nat) (N : Nat) : Bool :=
  (!draw || (ms == masksN ops ops.size && (List.range ops.size).all fun j => (ops.getD j default).after.toList.all fun e => !Region.binds .any e || decide (e.on < j))) &&
  ((List.range ops.size).all fun j => (List.range j).all fun i => !confl ops i j || bef draw ms j i) &&
  (eff.all fun j => decide (j < ops.size) && eff.all fun i => !decide (i < j) || bef draw ms j i) &&
  decide eff.Nodup &&
  ((List.range ops.size).all fun j => ((ops.getD j default).dst).elim true fun d => decide (d < N))

def Know (ops : Array Oper) (T : Nat → Value → World → Prop) (a0 : Act) (n : Nat) (t : Tmp) (v : Value) (w : World) : Prop :=
  match lastW ops t n with
  | some i => T i v w
  | none => v = a0.eval (.tmp t)

def effOf (eff : List Nat) (j : Nat) : Nat := if j ∈ eff then 1 else 0

def Tri (P : Program) (draw : Bool) (ms : List Nat) (ops : Array Oper) (eff : List Nat) (T : Nat → Value → World → Prop) (Φ : Nat → World → Prop) (S : Nat → Prop)
    (a0 : Act) (w0 : World) (Q : Exit → Act → World → Prop) (j : Nat) : Prop :=
  ∀ (o : Oper), ops[j]? = some o → ∀ (a : Act) (w : World) (k : Nat), eff.countP (fun e => bef draw ms j e) ≤ k → k ≤ eff.countP (fun e => e != j && !bef draw ms e j) →
    Φ k w → Chg S w0 w → a.tmps.size = a0.tmps.size → (∀ t ∈ o.looksAt ops, Know ops T a0 j t (a.eval (.tmp t)) w) →
    if Region.wanted o (yielded ops a.tmps) then
      ∀ K : Act → World → Prop, (∀ v w', T j v w' → Chg S w w' → Φ (k + effOf eff j) w' → K (a.put o.dst v) w') → o.wp P a w K Q
    else T j undef w ∧ effOf eff j = 0

section
variable {P : Program} {draw : Bool} {ms : List Nat} {ops : Array Oper} {eff : List Nat} {T : Nat → Value → World → Prop} {Φ : Nat → World → Prop} {S : Nat → Prop}
  {a0 : Act} {w0 : World} {Q : Exit → Act → World → Prop}

def cnt (eff : List Nat) (L : Array Bool) : Nat := eff.countP fun e => L.getD e false

structure J (draw : Bool) (ms : List Nat) (ops : Array Oper) (eff : List Nat) (T : Nat → Value → World → Prop) (Φ : Nat → World → Prop) (S : Nat → Prop)
    (a0 : Act) (w0 : World) (L : Array Bool) (a : Act) (w : World) : Prop where
  size : L.size = ops.size
  closed : ∀ i h, L.getD i false = true → bef draw ms i h = true → L.getD h false = true
  defers : a.defers = a0.defers
  tsize : a.tmps.size = a0.tmps.size
  chg : Chg S w0 w
  phi : Φ (cnt eff L) w
  cur : ∀ t, match lastL ops L t ops.size with
    | some i => T i (a.eval (.tmp t)) w
    | none => a.eval (.tmp t) = a0.eval (.tmp t)

theorem lastL_eq (L : Array Bool) (t : Tmp) (j : Nat) : ∀ n, j ≤ n → (∀ i, i < n → wr ops t i = true → (L.getD i false = true ↔ i < j)) → lastL ops L t n = lastW ops t j
  | 0, hj, _ => by obtain rfl : j = 0 := by omega
                   rfl
  | n + 1, hj, h => by
    by_cases e : j = n + 1
    · subst e
      unfold lastL lastW
      have hn := h n (by omega)
      cases hw : wr ops t n with
      | false =>
        simp only [Bool.false_and, Bool.false_eq_true, if_false]
        refine lastL_eq L t n n (Nat.le_refl _) fun i hi hwi => ?_
        have := h i (by omega) hwi
        exact ⟨fun _ => hi, fun _ => this.2 (by omega)⟩
      | true => simp [(hn hw).2 (by omega)]
    · unfold lastL
      have hn := h n (by omega)
      have : (wr ops t n && L.getD n false) = false := by
        cases hw : wr ops t n with
        | false => rfl
        | true =>
          cases hl : L.getD n false with
          | false => rfl
          | true => exact absurd ((hn hw).1 hl) (by omega)
      rw [this]
      exact lastL_eq L t j n (by omega) fun i hi hwi => h i (by omega) hwi

theorem lastL_set_ne (L : Array Bool) (t : Tmp) (j : Nat) (hw : wr ops t j = false) : ∀ n, lastL ops (L.setIfInBounds j true) t n = lastL ops L t n
  | 0 => rfl
  | n + 1 => by
    unfold lastL
    rw [lastL_set_ne L t j hw n]
    by_cases e : n = j
    · subst e; simp [hw]
    · have : (L.setIfInBounds j true).getD n false = L.getD n false := by
        simp [Array.getD_eq_getD_getElem?, Ne.symm e]
      rw [this]

theorem lastL_set_eq (L : Array Bool) (t : Tmp) (j : Nat) (hw : wr ops t j = true) (hj : j < L.size) : ∀ n, j < n → (∀ i, i < n → wr ops t i = true → j < i → L.getD i false = false) →
    lastL ops (L.setIfInBounds j true) t n = some j
  | 0, h, _ => by omega
  | n + 1, h, hl => by
    unfold lastL
    by_cases e : n = j
    · subst e
      have : (L.setIfInBounds n true).getD n false = true := by simp [Array.getD_eq_getD_getElem?, hj]
      rw [this, hw]; rfl
    · have h1 : (L.setIfInBounds j true).getD n false = L.getD n false := by
        simp [Array.getD_eq_getD_getElem?, Ne.symm e]
      rw [h1]
      have : (wr ops t n && L.getD n false) = false := by
        cases hwn : wr ops t n with
        | false => rfl
        | true => simp [hl n (by omega) hwn (by omega)]
      rw [this]
      exact lastL_set_eq L t j hw hj n (by omega) fun i hi => hl i (by omega)

theorem Act.eval_put_eq (a : Act) (d : Tmp) (v : Value) (h : d < a.tmps.size) : (a.put (some d) v).eval (.tmp d) = v := by
  simp [Act.put, Act.eval, Array.getD_eq_getD_getElem?, h]
theorem Act.eval_put_ne (a : Act) (d : Option Tmp) (t : Tmp) (v : Value) (h : d ≠ some t) : (a.put d v).eval (.tmp t) = a.eval (.tmp t) := by
  cases d with
  | none => rfl
  | some d =>
    have : d ≠ t := fun e => h (by rw [e])
    simp [Act.put, Act.eval, Array.getD_eq_getD_getElem?, this]
theorem Act.size_put (a : Act) (d : Option Tmp) (v : Value) : (a.put d v).tmps.size = a.tmps.size := by cases d <;> simp [Act.put]
theorem Act.defers_put (a : Act) (d : Option Tmp) (v : Value) : (a.put d v).defers = a.defers := by cases d <;> simp [Act.put]

theorem cnt_set (L : Array Bool) (j : Nat) (hj : j < L.size) (hl : L.getD j false = false) : ∀ eff : List Nat, eff.Nodup → cnt eff (L.setIfInBounds j true) = cnt eff L + effOf eff j
  | [], _ => by simp [cnt, effOf]
  | e :: eff, hn => by
    obtain ⟨h1, h2⟩ := List.nodup_cons.1 hn
    have ih := cnt_set L j hj hl eff h2
    unfold cnt effOf at ih ⊢
    rw [List.countP_cons, List.countP_cons, ih]
    by_cases he : e = j
    · subst he
      have h3 : (L.setIfInBounds e true).getD e false = true := by simp [Array.getD_eq_getD_getElem?, hj]
      simp [h3, hl, h1]
    · have h3 : (L.setIfInBounds j true).getD e false = L.getD e false := by
        simp [Array.getD_eq_getD_getElem?, Ne.symm he]
      rw [h3]
      have : (j ∈ e :: eff) ↔ j ∈ eff := by simp [Ne.symm he]
      simp only [this]
      omega

/-- one operation that comes up -/
theorem J.step_wp {N : Nat} (hst : stat draw ms ops eff N = true) (hN : a0.tmps.size = N) (hT : ∀ i v w w', T i v w → Chg S w w' → T i v w') {L : Array Bool} {a : Act} {w : World}
    (hJ : J draw ms ops eff T Φ S a0 w0 L a w) {j : Nat} (hj : j < ops.size) (hl : L.getD j false = false) (hb : ∀ i, bef draw ms j i = true → L.getD i false = true)
    (ht : Tri P draw ms ops eff T Φ S a0 w0 Q j) : ∃ o, ops[j]? = some o ∧ if Region.wanted o (yielded ops a.tmps) then o.wp P a w (J draw ms ops eff T Φ S a0 w0 (L.setIfInBounds j true)) Q else J draw ms ops eff T Φ S a0 w0 (L.setIfInBounds j true) (a.put o.dst undef) w := by
  unfold stat at hst
  simp only [Bool.and_eq_true, List.all_eq_true, List.mem_range, decide_eq_true_eq] at hst
  obtain ⟨⟨⟨⟨_, hconf⟩, heff⟩, hnd⟩, hdst⟩ := hst
  obtain ⟨o, ho⟩ : ∃ o, ops[j]? = some o := ⟨ops[j], by simp [hj]⟩
  have hconf' : ∀ i j, i < j → j < ops.size → confl ops i j = true → bef draw ms j i = true := fun i j h1 h2 h3 => by
    have := hconf j h2 i h1
    simpa [h3] using this
  have hjL : j < L.size := by rw [hJ.size]; exact hj
  -- what j looks at
  have hsee : ∀ t ∈ names ops o, lastL ops L t ops.size = lastW ops t j := by
    intro t htn
    refine lastL_eq L t j ops.size (by omega) fun i hi hw => ?_
    have hwi : ∃ x, ops[i]? = some x ∧ x.dst = some t := by
      unfold wr at hw
      cases hx : ops[i]? with
      | none => simp [hx] at hw
      | some x => exact ⟨x, rfl, by simpa [hx] using hw⟩
    obtain ⟨x, hx, hxd⟩ := hwi
    constructor
    · intro hli
      rcases Nat.lt_trichotomy i j with h | h | h
      · exact h
      · subst h; rw [hl] at hli; cases hli
      · exfalso
        have hc : confl ops j i = true := by
          unfold confl; simp only [ho, hx]
          simp [hxd, htn]
        have := hJ.closed i j hli (hconf' j i h hi hc)
        rw [hl] at this; cases this
    · intro hij
      refine hb i (hconf' i j hij hj ?_)
      unfold confl; simp only [ho, hx]
      simp [hxd, htn]
  have hcur : ∀ t ∈ o.looksAt ops, Know ops T a0 j t (a.eval (.tmp t)) w := by
    intro t htl
    have h1 := hJ.cur t
    rw [hsee t (List.mem_append_right _ htl)] at h1
    exact h1
  have hlo : eff.countP (fun e => bef draw ms j e) ≤ cnt eff L := List.countP_mono_left fun e _ he => hb e he
  have hhi : cnt eff L ≤ eff.countP (fun e => e != j && !bef draw ms e j) := List.countP_mono_left fun e _ he => by
    have h1 : e ≠ j := fun h => by subst h; rw [hl] at he; cases he
    have h2 : bef draw ms e j = false := by
      cases hh : bef draw ms e j with
      | false => rfl
      | true => have := hJ.closed e j he hh; rw [hl] at this; cases this
    simp [h1, h2]
  have htri := ht o ho a w (cnt eff L) hlo hhi hJ.phi hJ.chg hJ.tsize hcur
  -- the state behind it
  have hnext : ∀ v w', T j v w' → Chg S w w' → Φ (cnt eff L + effOf eff j) w' → J draw ms ops eff T Φ S a0 w0 (L.setIfInBounds j true) (a.put o.dst v) w' := by
    intro v w' hTv hc hphi
    refine ⟨by simp [hJ.size], ?_, by rw [Act.defers_put]; exact hJ.defers, by rw [Act.size_put]; exact hJ.tsize, hJ.chg.trans hc, by rw [cnt_set L j hjL hl eff hnd]; exact hphi, ?_⟩
    · intro i h hi hbi
      have hmono : ∀ x, L.getD x false = true → (L.setIfInBounds j true).getD x false = true := fun x hx => by
        by_cases e : x = j
        · subst e; rw [hl] at hx; cases hx
        · simpa [Array.getD_eq_getD_getElem?, Ne.symm e] using hx
      by_cases e : i = j
      · subst e; exact hmono h (hb h hbi)
      · refine hmono h (hJ.closed i h ?_ hbi)
        simpa [Array.getD_eq_getD_getElem?, Ne.symm e] using hi
    · intro t
      have hold := hJ.cur t
      cases hw : wr ops t j with
      | false =>
        rw [lastL_set_ne L t j hw]
        have hne : o.dst ≠ some t := by simpa [wr, ho] using hw
        rw [Act.eval_put_ne _ _ _ _ hne]
        cases hlast : lastL ops L t ops.size with
        | none => rw [hlast] at hold; exact hold
        | some i => rw [hlast] at hold; exact hT _ _ _ _ hold hc
      | true =>
        have hd : o.dst = some t := by simpa [wr, ho] using hw
        rw [lastL_set_eq L t j hw hjL ops.size hj ?_]
        · have hdN := hdst j hj
          rw [Array.getD_eq_getD_getElem?, ho] at hdN
          simp only [Option.getD_some, hd, Option.elim_some, decide_eq_true_eq] at hdN
          rw [hd, Act.eval_put_eq _ _ _ (by rw [hJ.tsize, hN]; exact hdN)]
          exact hTv
        · intro i hi hwi hji
          cases hli : L.getD i false with
          | false => rfl
          | true =>
            exfalso
            obtain ⟨x, hx, hxd⟩ : ∃ x, ops[i]? = some x ∧ x.dst = some t := by
              unfold wr at hwi
              cases hx : ops[i]? with
              | none => simp [hx] at hwi
              | some x => exact ⟨x, rfl, by simpa [hx] using hwi⟩
            have hc2 : confl ops j i = true := by
              unfold confl; simp only [ho, hx]
              simp [hxd, names, hd]
            have := hJ.closed i j hli (hconf' j i hji hi hc2)
            rw [hl] at this; cases this
  refine ⟨o, ho, ?_⟩
  split
  · rename_i hw
    rw [if_pos hw] at htri
    exact htri _ hnext
  · rename_i hw
    rw [if_neg hw] at htri
    obtain ⟨h1, h2⟩ := htri
    refine hnext undef w h1 (Chg.refl _ _) ?_
    rw [h2]; exact hJ.phi
theorem J.step {N : Nat} (hst : stat draw ms ops eff N = true) (hN : a0.tmps.size = N) (hT : ∀ i v w w', T i v w → Chg S w w' → T i v w') {L : Array Bool} {a : Act} {w : World}
    (hJ : J draw ms ops eff T Φ S a0 w0 L a w) {j : Nat} (hj : j < ops.size) (hl : L.getD j false = false) (hb : ∀ i, bef draw ms j i = true → L.getD i false = true)
    (ht : Tri P draw ms ops eff T Φ S a0 w0 Q j) : wpOp P ops Q j (J draw ms ops eff T Φ S a0 w0 (L.setIfInBounds j true)) a w := by
  obtain ⟨o, ho, h⟩ := hJ.step_wp hst hN hT hj hl hb ht
  unfold wpOp
  simp only [ho]
  split
  · rename_i hw
    rw [if_pos hw] at h
    exact .inl h
  · rename_i hw
    rw [if_neg hw] at h
    exact h

def EndOf (ops : Array Oper) (T : Nat → Value → World → Prop) (a0 : Act) (a : Act) (w : World) : Prop :=
  a.defers = a0.defers ∧ a.tmps.size = a0.tmps.size ∧ ∀ t, Know ops T a0 ops.size t (a.eval (.tmp t)) w

theorem J.done {L : Array Bool} {a : Act} {w : World} (hJ : J draw ms ops eff T Φ S a0 w0 L a w) (hall : ∀ i, i < ops.size → L.getD i false = true)
    (heff : ∀ e ∈ eff, e < ops.size) : EndOf ops T a0 a w ∧ Chg S w0 w ∧ Φ eff.length w := by
  refine ⟨⟨hJ.defers, hJ.tsize, fun t => ?_⟩, hJ.chg, ?_⟩
  · have := hJ.cur t
    rw [lastL_eq L t ops.size ops.size (Nat.le_refl _) fun i hi _ => ⟨fun _ => hi, fun _ => hall i hi⟩] at this
    exact this
  · have : cnt eff L = eff.length := by
      unfold cnt
      rw [List.countP_eq_length]
      exact fun e he => hall e (heff e he)
    rw [← this]; exact hJ.phi

theorem J.start (hΦ : ∀ w, Chg Non w0 w → Φ 0 w) (n : Nat) : J draw ms ops eff T Φ S a0 w0 (Array.replicate ops.size false) a0 { w0 with drawn := n } := by
  have hf : ∀ i, (Array.replicate ops.size false).getD i false = false := fun i => by
    simp [Array.getD_eq_getD_getElem?, Array.getElem?_replicate]
    split <;> rfl
  refine ⟨by simp, fun i h hi _ => (by rw [hf] at hi; exact absurd hi (by simp)), rfl, rfl, Chg.drawn _ _, ?_, fun t => ?_⟩
  · have : cnt eff (Array.replicate ops.size false) = 0 := by
      unfold cnt; rw [List.countP_eq_zero]; intro e _; rw [hf]; simp
    rw [this]; exact hΦ _ (Chg.drawn _ _)
  · have : ∀ n, lastL ops (Array.replicate ops.size false) t n = none := by
      intro n
      induction n with
      | zero => rfl
      | succ n ih => unfold lastL; rw [hf]; simp [ih]
    rw [this]

/-! the order of the text -/
theorem text_run {N : Nat} (hst : stat false ms ops eff N = true) (hN : a0.tmps.size = N) (hT : ∀ i v w w', T i v w → Chg S w w' → T i v w')
    (ht : ∀ j, j < ops.size → Tri P false ms ops eff T Φ S a0 w0 Q j) (post : ∀ a w, EndOf ops T a0 a w → Chg S w0 w → Φ eff.length w → Q .normal a w) :
    ∀ m j, m + j = ops.size → ∀ (L : Array Bool) (a : Act) (w : World), (∀ i, L.getD i false = true ↔ i < j) → J false ms ops eff T Φ S a0 w0 L a w → wpOps P ops Q (List.range' j m) a w
  | 0, j, hm, L, a, w, hL, hJ => by
    have heff : ∀ e ∈ eff, e < ops.size := by
      unfold stat at hst
      simp only [Bool.and_eq_true, List.all_eq_true, decide_eq_true_eq] at hst
      exact fun e he => (hst.1.1.2 e he).1
    obtain ⟨h1, h2, h3⟩ := hJ.done (fun i hi => (hL i).2 (by omega)) heff
    exact post a w h1 h2 h3
  | m + 1, j, hm, L, a, w, hL, hJ => by
    rw [List.range'_succ, wpOps_cons]
    have hl : L.getD j false = false := by
      cases h : L.getD j false with
      | false => rfl
      | true => have := (hL j).1 h; omega
    refine wpOp_mono (fun a' w' hJ' => ?_) (hJ.step hst hN hT (by omega) hl (fun i hi => (hL i).2 (by simpa [bef] using hi)) (ht j (by omega)))
    refine text_run hst hN hT ht post m (j + 1) (by omega) _ a' w' (fun i => ?_) hJ'
    by_cases e : i = j
    · subst e
      have : i < L.size := by rw [hJ.size]; omega
      simp [Array.getD_eq_getD_getElem?, this]
    · have h1 : (L.setIfInBounds j true).getD i false = L.getD i false := by
        simp [Array.getD_eq_getD_getElem?, Ne.symm e]
      rw [h1, hL i]
      omega

/-! whatever order -/
def Closed (ops : Array Oper) (L : Array Bool) : Prop :=
  ∀ j o, L.getD j false = true → ops[j]? = some o → ∀ e ∈ o.after.toList, Region.binds .any e = true → L.getD e.on false = true

theorem foldMask (acc : List Nat) (i : Nat) : ∀ (l : List Edge) (s : Nat), (l.foldl (fun s e => if Region.binds .any e then s ||| (2 ^ e.on ||| acc.getD e.on 0) else s) s).testBit i = true →
    s.testBit i = true ∨ ∃ e ∈ l, Region.binds .any e = true ∧ (e.on = i ∨ (acc.getD e.on 0).testBit i = true)
  | [], s, h => .inl h
  | e :: l, s, h => by
    rw [List.foldl_cons] at h
    rcases foldMask acc i l _ h with h1 | ⟨x, hx, hb, hi⟩
    · by_cases hb : Region.binds .any e = true
      · rw [if_pos hb] at h1
        simp only [Nat.testBit_or, Bool.or_eq_true] at h1
        rcases h1 with h1 | h1 | h1
        · exact .inl h1
        · refine .inr ⟨e, List.mem_cons_self, hb, .inl ?_⟩
          simpa [Nat.testBit_two_pow] using h1
        · exact .inr ⟨e, List.mem_cons_self, hb, .inr h1⟩
      · rw [if_neg hb] at h1; exact .inl h1
    · exact .inr ⟨x, List.mem_cons_of_mem _ hx, hb, hi⟩

theorem masksN_length (ops : Array Oper) : ∀ n, (masksN ops n).length = n
  | 0 => rfl
  | n + 1 => by simp [masksN, masksN_length ops n]

theorem masksN_getD (ops : Array Oper) : ∀ n j, j < n → (masksN ops n).getD j 0 = maskOf (masksN ops j) (ops.getD j default)
  | 0, j, h => by omega
  | n + 1, j, h => by
    show (masksN ops n ++ [maskOf (masksN ops n) (ops.getD n default)]).getD j 0 = _
    by_cases e : j = n
    · subst e
      rw [List.getD_eq_getElem?_getD, List.getElem?_append_right (by rw [masksN_length]; omega)]
      simp [masksN_length]
    · rw [List.getD_eq_getElem?_getD, List.getElem?_append_left (by rw [masksN_length]; omega), ← List.getD_eq_getElem?_getD]
      exact masksN_getD ops n j (by omega)

theorem mask_before (L : Array Bool) (hc : Closed ops L) (i : Nat) : ∀ j, j < ops.size → (maskOf (masksN ops j) (ops.getD j default)).testBit i = true →
    (∀ e ∈ (ops.getD j default).after.toList, Region.binds .any e = true → L.getD e.on false = true) → L.getD i false = true := by
  intro j
  induction j using Nat.strongRecOn with
  | _ j ih =>
    intro hj hbit hafter
    rcases foldMask _ i _ _ hbit with h | ⟨e, he, hb, hi⟩
    · simp at h
    · have hle := hafter e he hb
      rcases hi with rfl | hi
      · exact hle
      · by_cases hlt : e.on < j
        · rw [masksN_getD ops j e.on hlt] at hi
          refine ih e.on hlt (by omega) hi fun e' he' hb' => ?_
          have : ops[e.on]? = some (ops.getD e.on default) := by
            simp [Array.getD_eq_getD_getElem?, (by omega : e.on < ops.size)]
          exact hc e.on _ hle this e' he' hb'
        · rw [List.getD_eq_getElem?_getD, List.getElem?_eq_none (by rw [masksN_length]; omega)] at hi
          simp at hi

theorem any_run {N : Nat} (hst : stat true ms ops eff N = true) (hN : a0.tmps.size = N) (hT : ∀ i v w w', T i v w → Chg S w w' → T i v w')
    (ht : ∀ j, j < ops.size → Tri P true ms ops eff T Φ S a0 w0 Q j) (post : ∀ a w, EndOf ops T a0 a w → Chg S w0 w → Φ eff.length w → Q .normal a w) :
    ∀ fuel (L : Array Bool) (a : Act) (w : World), Closed ops L → (L.toList.countP (fun b => !b) ≤ fuel) → J true ms ops eff T Φ S a0 w0 L a w → wpAny P .any ops Q fuel L a w := by
  have hst0 := hst
  unfold stat at hst
  simp only [Bool.and_eq_true, List.all_eq_true, decide_eq_true_eq, Bool.not_true, Bool.false_or, beq_iff_eq, List.mem_range] at hst
  obtain ⟨⟨⟨⟨⟨hms, hearly⟩, _⟩, heffs⟩, _⟩, _⟩ := hst
  have heff : ∀ e ∈ eff, e < ops.size := fun e he => (heffs e he).1
  have hearly' : ∀ j o, ops[j]? = some o → ∀ e ∈ o.after.toList, Region.binds .any e = true → e.on < j := fun j o ho e he hb => by
    have hj : j < ops.size := (Array.getElem?_eq_some_iff.1 ho).1
    have h1 := hearly j hj e (by rw [Array.getD_eq_getD_getElem?, ho]; exact he)
    simpa [hb] using h1
  -- if nothing is ready, all is listed
  have hnone : ∀ L : Array Bool, L.size = ops.size → Region.ready .any ops L = [] → ∀ i, i < ops.size → L.getD i false = true := by
    intro L hs hr i
    induction i using Nat.strongRecOn with
    | _ i ih =>
      intro hi
      cases hli : L.getD i false with
      | true => rfl
      | false =>
        exfalso
        have hmem : i ∈ Region.ready .any ops L := by
          unfold Region.ready
          rw [List.mem_filter]
          refine ⟨List.mem_range.2 hi, ?_⟩
          have ho : ops[i]? = some ops[i] := by simp [hi]
          have h2 : ((ops[i]).after.all fun e => !Region.binds .any e || L.getD e.on false) = true := by
            rw [Array.all_eq_true_iff_forall_mem]
            intro e he
            cases hb : Region.binds .any e with
            | false => rfl
            | true =>
              have he' : e ∈ (ops[i]).after.toList := by simpa using he
              have hlt := hearly' i _ ho e he' hb
              simp [ih e.on hlt (by omega)]
          rw [ho]
          simp only [Option.map_some, Option.getD_some, h2, Bool.and_true, Bool.not_eq_true']
          have hs' : i < L.size := by omega
          simpa [Array.getD_eq_getD_getElem?, hs'] using hli
        rw [hr] at hmem; cases hmem
  have hq : ∀ (L : Array Bool) (a : Act) (w : World), J true ms ops eff T Φ S a0 w0 L a w → Region.ready .any ops L = [] → Q .normal a w := fun L a w hJ hr => by
    obtain ⟨h1, h2, h3⟩ := hJ.done (hnone L hJ.size hr) heff
    exact post a w h1 h2 h3
  have hready : ∀ (L : Array Bool) (i : Nat), L.size = ops.size → i ∈ Region.ready .any ops L → i < ops.size ∧ L.getD i false = false ∧
      ∀ o, ops[i]? = some o → ∀ e ∈ o.after.toList, Region.binds .any e = true → L.getD e.on false = true := by
    intro L i hs hi
    unfold Region.ready at hi
    rw [List.mem_filter, List.mem_range] at hi
    obtain ⟨h1, h2⟩ := hi
    simp only [Bool.and_eq_true, Bool.not_eq_true'] at h2
    obtain ⟨h2, h3⟩ := h2
    refine ⟨h1, ?_, fun o ho e he hb => ?_⟩
    · have hs' : i < L.size := by omega
      simpa [Array.getD_eq_getD_getElem?, hs'] using h2
    · rw [ho] at h3
      simp only [Option.map_some, Option.getD_some, Array.all_eq_true_iff_forall_mem] at h3
      have := h3 e (by simpa using he)
      simpa [hb] using this
  intro fuel
  induction fuel with
  | zero =>
    intro L a w _ hcount hJ
    have hr : Region.ready .any ops L = [] := by
      cases hr : Region.ready .any ops L with
      | nil => rfl
      | cons i r =>
        exfalso
        obtain ⟨h1, h2, _⟩ := hready L i hJ.size (by rw [hr]; exact List.mem_cons_self)
        have h3 : L.toList.countP (fun b => !b) = 0 := by omega
        rw [List.countP_eq_zero] at h3
        have hs' : i < L.size := by rw [hJ.size]; exact h1
        have hm : L[i] ∈ L.toList := by simp
        have h4 := h3 _ hm
        simp [Array.getD_eq_getD_getElem?, hs'] at h2
        simp [h2] at h4
    exact ⟨hr, hq L a w hJ hr⟩
  | succ fuel ih =>
    intro L a w hcl hcount hJ
    refine ⟨hq L a w hJ, fun i hi => ?_⟩
    obtain ⟨h1, h2, h3⟩ := hready L i hJ.size hi
    have hiL : i < L.size := by rw [hJ.size]; exact h1
    have ho : ops[i]? = some (ops.getD i default) := by simp [Array.getD_eq_getD_getElem?, h1]
    have hbef : ∀ h, bef true ms i h = true → L.getD h false = true := fun h hb => by
      unfold bef at hb
      simp only [if_true] at hb
      rw [hms, masksN_getD ops ops.size i h1] at hb
      exact mask_before L hcl h i h1 hb (h3 _ ho)
    refine wpOp_mono (fun a' w' hJ' => ih _ a' w' ?_ ?_ hJ') (hJ.step hst0 hN hT h1 h2 hbef (ht i h1))
    · intro j o hj hoj e he hb
      have hmono : ∀ x, L.getD x false = true → (L.setIfInBounds i true).getD x false = true := fun x hx => by
        by_cases e : x = i
        · subst e; rw [h2] at hx; cases hx
        · simpa [Array.getD_eq_getD_getElem?, Ne.symm e] using hx
      by_cases ej : j = i
      · subst ej
        exact hmono _ (h3 o hoj e he hb)
      · refine hmono _ (hcl j o ?_ hoj e he hb)
        simpa [Array.getD_eq_getD_getElem?, Ne.symm ej] using hj
    · have hlt : (L.setIfInBounds i true).toList.countP (fun b => !b) + 1 = L.toList.countP (fun b => !b) := by
        rw [Array.toList_setIfInBounds]
        have hl : i < L.toList.length := by simpa using hiL
        have h5 : L.toList[i] = false := by
          simp [Array.getD_eq_getD_getElem?, hiL] at h2
          simpa using h2
        rw [List.countP_set hl, h5]
        have hpos : 0 < L.toList.countP (fun b => !b) := by
          rw [List.countP_pos_iff]
          exact ⟨L.toList[i], List.getElem_mem hl, by rw [h5]; rfl⟩
        simp only [Bool.not_false, if_true, Bool.not_true, Bool.false_eq_true, if_false]
        omega
      omega

/-- THE RULE FOR A REGION: whether it draws its order or not. T: what each operation's value is; Φ k: what is known of the world behind k of the operations 'eff'; every operation changes at most S. -/
theorem region_rule {id N : Nat} (hmix : P.follows .mixedOrders = true) (hst : stat draw ms ops eff N = true) (hN : a0.tmps.size = N)
    (hT : ∀ i v w w', T i v w → Chg S w w' → T i v w') (hΦ : ∀ w, Chg Non w0 w → Φ 0 w)
    (ht : ∀ j, j < ops.size → Tri P draw ms ops eff T Φ S a0 w0 Q j) (post : ∀ a w, EndOf ops T a0 a w → Chg S w0 w → Φ eff.length w → Q .normal a w) :
    (Code.region id ops draw).wp P Q a0 w0 := by
  have hst' := hst
  cases draw with
  | false =>
    refine wp_region ?_
    have h := text_run hst hN hT ht post ops.size 0 (by omega) (Array.replicate ops.size false) a0 w0 (fun i => ⟨fun h => ?_, fun h => by omega⟩) (J.start hΦ w0.drawn)
    · rw [List.range_eq_range']; exact h
    · simp [Array.getD_eq_getD_getElem?, Array.getElem?_replicate] at h
      split at h <;> simp at h
  | true =>
    refine wp_region_any hmix ?_
    refine any_run hst hN hT ht post ops.size _ a0 _ (fun j o hj => ?_) ?_ (J.start hΦ _)
    · simp [Array.getD_eq_getD_getElem?, Array.getElem?_replicate] at hj
      split at hj <;> simp at hj
    · refine Nat.le_trans List.countP_le_length ?_
      simp
end
end Go.GL
