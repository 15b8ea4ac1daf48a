/- Own library, part n: the rest of an own slice; the address of an element. -/
import Derived.Test.YtdkfoghhjkjjlaaGLl
import Derived.ArgAppend
namespace Go.GL
open Go.RowKit
/-! ### the rest of an own slice: what is ahead of it is no longer looked at -/
theorem Sep.swapT {w : World} {S : Nat → Prop} {L : List HP} {Q Q' : HP} (i : Nat) (h : Sep L w S) (hi : L[i]? = some Q) (f : ∀ A, Q.ok w A → Q'.ok w A) : Sep (L.set i Q') w S := by
  obtain ⟨g, h1, h2⟩ := h
  refine ⟨g, fun j R hj => ?_, h2⟩
  rw [List.getElem?_set] at hj
  by_cases e : i = j
  · subst e
    have hlt : i < L.length := (List.getElem?_eq_some_iff.1 hi).1
    simp only [if_true, hlt, Option.some.injEq] at hj
    subst hj
    exact ⟨f _ (h1 i Q hi).1, (h1 i Q hi).2⟩
  · rw [if_neg e] at hj
    exact h1 j R hj
/-- the rest of an own slice of integers -/
def TL (E : TypeId) (v : Value) (l : List Int) : HP where
  ok w A := (∃ g c lo a' c' base, OwnS w E (some g) A Non (.slice (some ⟨g, 0, none⟩) base.length c) base ∧ VW 1 (some ⟨g, 0, none⟩) c lo a' c' ∧ lo.toNat + l.length = base.length ∧ l = base.drop lo.toNat ∧ v = .slice a' l.length c') ∨ (l = [] ∧ ∃ a, v = .slice a 0 0)
  mono := fun h hA => by
    rcases h with ⟨g, c, lo, a', c', base, h, r⟩ | h
    · exact .inl ⟨g, c, lo, a', c', base, h.regard hA, r⟩
    · exact .inr h
  keep := fun h hc hT => by
    rcases h with ⟨g, c, lo, a', c', base, h, r⟩ | h
    · exact .inl ⟨g, c, lo, a', c', base, h.chg hc (fun k _ hk => hT k hk) (fun _ h => h.elim), r⟩
    · exact .inr h
theorem VW.zero {b : Option Addr} {c : Nat} : VW 1 b c 0 b c := by
  refine ⟨Int.le_refl _, ?_, by simp⟩
  cases b with
  | none => simp
  | some ad => simp [Addr.add]
theorem tl_of {E : TypeId} {v : Value} {l : List Int} {w : World} {A : Nat → Prop} (h : (SL E v l).ok w A) : (TL E v l).ok w A := by
  rcases h with ⟨go, h⟩ | h
  · have h' := h
    obtain ⟨F, css, h1, h2, h3, h4, h5⟩ := h'
    rcases h2.2 with ⟨hn, hz⟩ | ⟨g, cap, cur, hv, rest⟩
    · exact .inr ⟨List.eq_nil_of_length_eq_zero hz, _, hn⟩
    · subst hv
      have hgo : go = some g := by rw [← h3]; rfl
      subst hgo
      exact .inl ⟨g, cap, 0, _, cap, l, h, VW.zero, by simp, by simp, rfl⟩
  · exact .inr h
theorem Sep.toT {w : World} {S : Nat → Prop} {L : List HP} {E : TypeId} {v : Value} {l : List Int} (i : Nat) (h : Sep L w S) (hi : L[i]? = some (SL E v l)) : Sep (L.set i (TL E v l)) w S := h.swapT i hi fun _ => tl_of
section
variable {P : Program} {ops : Array Oper} {Q : Exit → Act → World → Prop} {a : Act} {w w0 : World} {S S0 F F0 : Nat → Prop} {N : Nat} {σ : List (Nat × Value)} {k d : Nat} {t t' ty E : TypeId} {x y : Operand} {pos : String} {af : Array Edge}
  {L : List HP}
theorem Cells.ext {w' : World} {ad : Addr} {cs : List Value} (h : Cells w ad cs) (hc : Chg Non w w') : Cells w' ad cs := fun j u hu => by
  have h1 := h j u hu
  have hb : (ad.add j).block < w.heap.size := by
    by_cases hlt : (ad.add j).block < w.heap.size
    · exact hlt
    · have : w.cell? (ad.add j) = none := by
        unfold World.cell?
        rw [Array.getElem?_eq_none (by omega)]
      rw [this] at h1; cases h1
  rw [← h1]
  unfold World.cell?
  rw [hc.block _ hb id]
/-! ### operations under a guard, one by one -/
theorem yielded_of {t j : Nat} {b : Bool} {o : Oper} (hF : FrS N σ a) (ho : ops[j]? = some o) (hd : o.dst = some t) (ht : Nat.blt t N = true) (hv : opd σ (.tmp t) = some (.bool b)) : yielded ops a.tmps j = some b := by
  have h1 := opd_eval hF hv
  have h2 := hF.size
  have ht' : t < a.tmps.size := by rw [h2]; exact Nat.blt_eq.mp ht
  have h3 : a.tmps[t]? = some (.bool b) := by
    rw [Array.getElem?_eq_getElem ht']
    rw [← h1]
    simp [Act.eval, ht']
  unfold yielded
  rw [ho, Option.bind_some, hd, Option.bind_some, h3]
theorem wpList_ops {ops ops' : Array Oper} (hy : ∀ j : Nat, (ops[j]?).bind (·.dst) = (ops'[j]?).bind (·.dst)) : ∀ (l : List Oper), wpList P ops Q l = wpList P ops' Q l := by
  intro l
  induction l with
  | nil => rfl
  | cons o l ih =>
    funext a w
    have : yielded ops a.tmps = yielded ops' a.tmps := by
      funext j; unfold yielded; rw [hy j]
    unfold wpList
    rw [ih, this]
theorem from_take {g t : Nat} {want : Bool} {o og : Oper} (hF : FrS N σ a) (ho : ops[k]? = some o) (hg : o.guard = some (g, want)) (hog : ops[g]? = some og) (ht : og.dst = some t) (htN : Nat.blt t N = true) (hv : opd σ (.tmp t) = some (.bool want))
    (h : wpFrom P (ops.toList.set k { o with guard := none }).toArray Q k a w) : wpFrom P ops Q k a w := by
  have hk : k < ops.toList.length := by simpa using (Array.getElem?_eq_some_iff.1 ho).1
  have e : ops.toList[k] = o := by
    have := (Array.getElem?_eq_some_iff.1 ho).2
    simpa using this
  have hw : Region.wanted o (yielded ops a.tmps) = true := by
    simp [Region.wanted, hg, yielded_of hF hog ht htN hv]
  unfold wpFrom at h ⊢
  have hy : ∀ j : Nat, (ops[j]?).bind (·.dst) = ((ops.toList.set k { o with guard := none }).toArray[j]?).bind (·.dst) := fun j => by
    have h1 : (ops.toList.set k { o with guard := none }).toArray[j]? = (ops.toList.set k { o with guard := none })[j]? := by simp
    rw [h1, List.getElem?_set]
    split
    · rename_i e2; subst e2
      rw [ho]; rfl
    · rw [Array.getElem?_toList]
  have hdrop : (ops.toList.set k { o with guard := none }).toArray.toList.drop k = { o with guard := none } :: ops.toList.drop (k + 1) := by
    rw [List.drop_eq_getElem_cons (by simpa using hk)]
    simp [List.drop_set_of_lt]
  rw [hdrop] at h
  rw [List.drop_eq_getElem_cons hk, e]
  unfold wpList at h ⊢
  rw [if_pos hw]
  rw [if_pos (by simp [Region.wanted]), ← wpList_ops hy] at h
  exact h
theorem from_takeL {l : List Oper} {g t : Nat} {want : Bool} {o og : Oper} (hF : FrS N σ a) (ho : l[k]? = some o) (hg : o.guard = some (g, want)) (hog : l[g]? = some og) (ht : og.dst = some t) (htN : Nat.blt t N = true) (hv : opd σ (.tmp t) = some (.bool want))
    (h : wpFrom P (l.set k { o with guard := none }).toArray Q k a w) : wpFrom P l.toArray Q k a w :=
  from_take hF (by simpa using ho) hg (by simpa using hog) ht htN hv h
theorem from_skip {g t d : Nat} {want b : Bool} {o og : Oper} (hF : FrS N σ a) (ho : ops[k]? = some o) (hg : o.guard = some (g, want)) (hog : ops[g]? = some og) (ht : og.dst = some t) (htN : Nat.blt t N = true) (hv : opd σ (.tmp t) = some (.bool b)) (hb : (b == want) = false)
    (hd : o.dst = some d) (hdN : Nat.blt d N = true) (h : ∀ fr, FrS N ((d, undef) :: σ) fr → wpFrom P ops Q (k + 1) fr w) : wpFrom P ops Q k a w := by
  have hk : k < ops.toList.length := by simpa using (Array.getElem?_eq_some_iff.1 ho).1
  have e : ops.toList[k] = o := by
    have := (Array.getElem?_eq_some_iff.1 ho).2
    simpa using this
  have hw : Region.wanted o (yielded ops a.tmps) = false := by
    simpa [Region.wanted, hg, yielded_of hF hog ht htN hv] using hb
  unfold wpFrom at h ⊢
  rw [List.drop_eq_getElem_cons hk, e]
  unfold wpList
  rw [if_neg (by simp [hw])]
  have := h _ (hF.put (Nat.blt_eq.mp hdN) undef)
  rw [hd]
  exact this
theorem from_skipU {g t d : Nat} {want : Bool} {o og : Oper} (hF : FrS N σ a) (ho : ops[k]? = some o) (hg : o.guard = some (g, want)) (hog : ops[g]? = some og) (ht : og.dst = some t) (htN : Nat.blt t N = true) (hv : opd σ (.tmp t) = some undef)
    (hd : o.dst = some d) (hdN : Nat.blt d N = true) (h : ∀ fr, FrS N ((d, undef) :: σ) fr → wpFrom P ops Q (k + 1) fr w) : wpFrom P ops Q k a w := by
  have hk : k < ops.toList.length := by simpa using (Array.getElem?_eq_some_iff.1 ho).1
  have e : ops.toList[k] = o := by
    have := (Array.getElem?_eq_some_iff.1 ho).2
    simpa using this
  have hy : yielded ops a.tmps g = none := by
    have h1 := opd_eval hF hv
    have ht' : t < a.tmps.size := by rw [hF.size]; exact Nat.blt_eq.mp htN
    have h3 : a.tmps[t]? = some undef := by
      rw [Array.getElem?_eq_getElem ht', ← h1]
      simp [Act.eval, ht']
    unfold yielded
    rw [hog, Option.bind_some, ht, Option.bind_some, h3]
    rfl
  have hw : Region.wanted o (yielded ops a.tmps) = false := by simp [Region.wanted, hg, hy]
  unfold wpFrom at h ⊢
  rw [List.drop_eq_getElem_cons hk, e]
  unfold wpList
  rw [if_neg (by simp [hw])]
  have := h _ (hF.put (Nat.blt_eq.mp hdN) undef)
  rw [hd]
  exact this
theorem ite_split {β : Type} {b : Bool} {x y r : β} (h : (if b = true then x else y) = r) : (b = true ∧ x = r) ∨ (b = false ∧ y = r) := by
  cases b
  · exact .inr ⟨rfl, h⟩
  · exact .inl ⟨rfl, h⟩
theorem from_pick {b : Bool} {c : Operand} {v : Value} (ho : ops[k]? = some ⟨some d, .pick c x y, ty, pos, af, none⟩) (hd : Nat.blt d N = true) (hF : FrS N σ a) (hc : opd σ c = some (.bool b)) (hv : opd σ (if b then x else y) = some v)
    (h : ∀ fr, FrS N ((d, v) :: σ) fr → wpFrom P ops Q (k + 1) fr w) : wpFrom P ops Q k a w := by
  refine from_val hF ho rfl rfl (Nat.blt_eq.mp hd) (R := fun z w' => z = v ∧ w' = w) (does_value (v := v) (w' := w) ?_ ⟨rfl, rfl⟩) fun z w' fr hz hF' => ?_
  · have h1 := opd_eval hF hc
    have h2 := opd_eval hF hv
    cases b <;> simp_all [execOp, asBool]
  · obtain ⟨rfl, rfl⟩ := hz; exact h fr hF'
end
end Go.GL
