/- Own library, part k: own things whose parts own memory of their own. -/
import Derived.Test.YtdkfoghhjkjjlaaGLz
namespace Go.GL
open Go.RowKit

/-- the header of a slice -/
structure Hd where
  a : Option Addr
  n : Nat
  c : Nat
def Hd.v (h : Hd) : Value := .slice h.a h.n h.c
instance : Rep Hd where
  sz := 1
  agg := false
  ok := fun _ _ cs x => cs = [x.v]
  len := by rintro w F cs x rfl; rfl
  one := by rintro w F cs x rfl u hu; simp at hu; subst hu; rfl
  pos := by decide
  sgl := fun _ => rfl
  keep := fun h _ => h
instance : Flat Hd where
  enc := fun x => [x.v]
  iff := Iff.rfl

/-! ### assertions made of others -/
def HP.pure (p : Prop) : HP := { ok := fun _ _ => p, mono := fun h _ => h, keep := fun h _ _ => h }
def HP.ex {ι : Type} (P : ι → HP) : HP := { ok := fun w A => ∃ i, (P i).ok w A, mono := fun ⟨i, h⟩ hA => ⟨i, (P i).mono h hA⟩, keep := fun ⟨i, h⟩ hc hT => ⟨i, (P i).keep h hc hT⟩ }
def HP.two (P Q : HP) : HP where
  ok w A := ∃ B C : Nat → Prop, P.ok w B ∧ Q.ok w C ∧ (∀ k, B k → C k → False) ∧ ∀ k, B k ∨ C k → A k
  mono := fun {w A A'} ⟨B, C, h1, h2, h3, h4⟩ hA => ⟨fun k => B k ∧ k < w.heap.size, fun k => C k ∧ k < w.heap.size, P.mono h1 fun _ hk h => ⟨h, hk⟩, Q.mono h2 fun _ hk h => ⟨h, hk⟩, fun k h h' => h3 k h.1 h'.1, fun k h => h.elim (fun h => hA k h.2 (h4 k (.inl h.1))) fun h => hA k h.2 (h4 k (.inr h.1))⟩
  keep := fun ⟨B, C, h1, h2, h3, h4⟩ hc hT => ⟨B, C, P.keep h1 hc fun k h => hT k (h4 k (.inl h)), Q.keep h2 hc fun k h => hT k (h4 k (.inr h)), h3, h4⟩
def HP.all {R α : Type} (own : R → α → HP) : List R → List α → HP
  | [], [] => .pure True
  | r :: rs, x :: xs => .two (own r x) (HP.all own rs xs)
  | _, _ => .pure False
/-- all but one -/
def HP.but {R α : Type} (own : R → α → HP) (i : Nat) (rs : List R) (xs : List α) : HP := .two (.all own (rs.take i) (xs.take i)) (.all own (rs.drop (i + 1)) (xs.drop (i + 1)))

section
variable {w : World} {A : Nat → Prop} {P Q P' Q' : HP}
theorem HP.big {A' : Nat → Prop} (h : P.ok w A) (hA : ∀ k, A k → A' k) : P.ok w A' := P.mono h fun k _ => hA k
variable {R α : Type} {own : R → α → HP} {rs rs' : List R} {xs xs' : List α}
theorem all_cons {r : R} {x : α} : HP.all own (r :: rs) (x :: xs) = .two (own r x) (.all own rs xs) := rfl
end

/-! ### several of them -/
section
variable {w w0 : World} {S S0 F F0 : Nat → Prop} {L : List HP} {P Q R : HP}
theorem Sep.cons_ok (h : Sep (P :: L) w S) : ∃ A B, P.ok w A ∧ Sep L w B ∧ (∀ k, A k → B k → False) ∧ (∀ k, A k → S k) ∧ ∀ k, B k → S k := by
  obtain ⟨A, B, h1, h2, h3, h4, h5⟩ := Sep.split (L1 := [P]) (L2 := L) h
  obtain ⟨C, g1, g2⟩ := h1.get 0 rfl
  exact ⟨C, B, g1, h2, fun k h h' => h3 k (g2 k h) h', fun k h => h4 k (g2 k h), h5⟩
theorem Sep.of_ok {A : Nat → Prop} (h : P.ok w A) : Sep [P] w A := ⟨fun i k => i = 0 ∧ A k, fun i Q hi => by
    cases i with
    | zero => simp at hi; subst hi; exact ⟨P.big h fun k hk => ⟨rfl, hk⟩, fun k hk => hk.2⟩
    | succ i => simp at hi, fun i j k hne hi hj => hne (hi.1.trans hj.1.symm)⟩
theorem Sep.mk_cons {A B : Nat → Prop} (h1 : P.ok w A) (h2 : Sep L w B) (hd : ∀ k, A k → B k → False) (hA : ∀ k, A k → S k) (hB : ∀ k, B k → S k) : Sep (P :: L) w S :=
  Sep.join (L1 := [P]) (Sep.of_ok h1) h2 (fun k _ => hd k) (fun k _ => hA k) (fun k _ => hB k)
theorem Sep.imp (h : Sep (P :: L) w S) (hi : ∀ A, P.ok w A → Q.ok w A) : Sep (Q :: L) w S := by
  obtain ⟨A, B, h1, h2, h3, h4, h5⟩ := h.cons_ok
  exact Sep.mk_cons (hi A h1) h2 h3 h4 h5
theorem Sep.emp (P : HP) (h : Sep L w S) (hp : P.ok w Non) : Sep (P :: L) w S := Sep.mk_cons hp h (fun _ h => h.elim) (fun _ h => h.elim) fun _ h => h
theorem Sep.tail (h : Sep (P :: L) w S) : Sep L w S := by
  obtain ⟨A, B, h1, h2, h3, h4, h5⟩ := h.cons_ok
  exact h2.mono fun k _ => h5 k
theorem Sep.swap (h : Sep (P :: Q :: L) w S) : Sep (Q :: P :: L) w S := by
  obtain ⟨A, B, h1, h2, h3, h4, h5⟩ := h.cons_ok
  obtain ⟨C, D, g1, g2, g3, g4, g5⟩ := h2.cons_ok
  exact Sep.mk_cons (B := fun k => A k ∨ D k) g1 (Sep.mk_cons h1 g2 (fun k h h' => h3 k h (g5 k h')) (fun _ h => .inl h) fun _ h => .inr h) (fun k h h' => h'.elim (fun h' => h3 k h' (g4 k h)) (g3 k h)) (fun k h => h5 k (g4 k h)) fun k h => h.elim (h4 k) fun h => h5 k (g5 k h)
theorem Sep.under (h : Sep (P :: L) w S) {L' : List HP} (hf : ∀ A, Sep L w A → Sep L' w A) : Sep (P :: L') w S := by
  obtain ⟨A, B, h1, h2, h3, h4, h5⟩ := h.cons_ok
  exact Sep.mk_cons h1 (hf B h2) h3 h4 h5
theorem Sep.two (h : Sep (HP.two P Q :: L) w S) : Sep (P :: Q :: L) w S := by
  obtain ⟨A, B, ⟨C, D, a, b, c, d⟩, h2, h3, h4, h5⟩ := h.cons_ok
  refine Sep.mk_cons (S := S) (B := fun k => D k ∨ B k) a (Sep.mk_cons b h2 (fun k h h' => h3 k (d k (.inr h)) h') (fun _ h => .inl h) fun _ h => .inr h) (fun k h h' => h'.elim (c k h) (h3 k (d k (.inl h)))) (fun k h => h4 k (d k (.inl h))) fun k h => h.elim (fun h => h4 k (d k (.inr h))) (h5 k)
theorem Sep.open {ι : Type} {P : ι → HP} (h : Sep (HP.ex P :: L) w S) : ∃ i, Sep (P i :: L) w S := by
  obtain ⟨A, B, ⟨i, h1⟩, h2, h3, h4, h5⟩ := h.cons_ok
  exact ⟨i, Sep.mk_cons h1 h2 h3 h4 h5⟩
theorem Sep.fact {p : Prop} (h : Sep (HP.pure p :: L) w S) : p ∧ Sep L w S := by
  obtain ⟨A, B, h1, h2, h3, h4, h5⟩ := h.cons_ok
  exact ⟨h1, h2.mono fun k _ => h5 k⟩
end

/-! ### slices whose elements own memory -/
section
variable {w : World} {A : Nat → Prop} {R α : Type} [Flat R] {own : R → α → HP} {E : TypeId} {v : Value} {rs : List R} {xs : List α}
end
section
variable {w : World} {S : Nat → Prop} {L : List HP} {R α : Type} {own : R → α → HP} {rs : List R} {xs : List α}
end
section
variable {w : World} {A : Nat → Prop} {R α : Type} [Flat R] [Rep α] {own : R → α → HP} {E : TypeId} {v : Value} {rs : List R} {xs : List α}
/-- how raw elements stand for elements -/
structure Owns (own : R → α → HP) : Prop where
  sz : Rep.sz R = Rep.sz α
  agg : Rep.agg R = Rep.agg α
  rv : ∀ w A r x, (own r x).ok w A → Rep.ok w A (Flat.enc r) x
end
section
variable {w : World} {S : Nat → Prop} {L : List HP} {R α : Type} [Flat R] [Rep α] {own : R → α → HP} {E : TypeId} {v : Value} {rs : List R} {xs : List α}
end
end Go.GL

/-! ### steps -/
namespace Go.GL
open Go.RowKit
theorem mk?_raw {α β : Type} {n : Int} {z : α} {z' : β} {r : List α} (h : mk? n z = some r) : mk? n z' = some (List.replicate r.length z') ∧ r = List.replicate r.length z := by
  unfold mk? at *
  split at h
  · rename_i hc
    simp only [Option.some.injEq] at h
    subst h
    rw [if_pos hc]
    simp
  · cases h
theorem set?_raw {α β : Type} {l r : List α} {l' : List β} {i : Int} {x : α} (y : β) (h : set? l i x = some r) (hl : l'.length = l.length) : set? l' i y = some (l'.set i.toNat y) ∧ r = l.set i.toNat x ∧ i.toNat < l.length := by
  unfold set? at *
  split at h
  · rename_i hc
    simp only [Option.some.injEq] at h
    rw [if_pos (by omega)]
    exact ⟨rfl, h.symm, hc.2⟩
  · cases h
section
variable {w : World} {S : Nat → Prop} {L : List HP} {R α : Type} {own : R → α → HP} {rs : List R} {xs : List α}
end
section
variable {P : Program} {ops : Array Oper} {Q : Exit → Act → World → Prop} {a : Act} {w w0 : World} {S S0 F F0 : Nat → Prop} {N : Nat} {σ : List (Nat × Value)} {k d : Nat} {t ty : TypeId} {x : Operand} {pos : String} {af : Array Edge}
  {L : List HP} {R α : Type} [Flat R] {own : R → α → HP} {E : TypeId}
end
section
variable {P : Program} {ops : Array Oper} {Q : Exit → Act → World → Prop} {a : Act} {w w0 : World} {S S0 F F0 : Nat → Prop} {N : Nat} {σ : List (Nat × Value)} {k d d' : Nat} {t ty : TypeId} {x y : Operand} {pos : String} {af : Array Edge}
  {L : List HP} {R α : Type} [Flat R] {own : R → α → HP} {E : TypeId} {v u : Value} {rs rs2 : List R} {xs ms : List α}
end
end Go.GL

/-! ### parts of an own slice, which are still parts of it -/
namespace Go.GL
open Go.RowKit
/-- how the header of l[lo:] follows from that of l -/
structure VW (sz : Nat) (b : Option Addr) (c : Nat) (lo : Int) (a' : Option Addr) (c' : Nat) : Prop where
  nn : 0 ≤ lo
  addr : a' = (if c = lo.toNat then b else b.map (·.add (lo.toNat * sz)))
  cap : c' = c - lo.toNat
section
variable {P : Program} {ops : Array Oper} {Q : Exit → Act → World → Prop} {a : Act} {w w0 : World} {S S0 F F0 : Nat → Prop} {N : Nat} {σ : List (Nat × Value)} {k d d' : Nat} {t ty : TypeId} {x y : Operand} {pos : String} {af : Array Edge}
  {L : List HP} {E : TypeId}
end
end Go.GL
