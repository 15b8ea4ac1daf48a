/- Own library, part k: own things whose parts own memory of their own. -/
import Derived.Test.YtmmhbhhcloobnaaDoorGLz
namespace Go.GL
open Go.RowKit

/-- the header of a slice -/
structure Hd where
  a : Option Addr
  n : Nat
  c : Nat
def Hd.v (h : Hd) : Value := .slice h.a h.n h.c
instance : Rep Hd where
  sz := 1
  agg := false
  ok := fun _ _ cs x => cs = [x.v]
  len := by rintro w F cs x rfl; rfl
  one := by rintro w F cs x rfl u hu; simp at hu; subst hu; rfl
  pos := by decide
  sgl := fun _ => rfl
  keep := fun h _ => h
instance : Flat Hd where
  enc := fun x => [x.v]
  iff := Iff.rfl

/-! ### assertions made of others -/
def HP.pure (p : Prop) : HP := ⟨fun _ _ => p, fun h _ => h, fun h _ _ => h⟩
def HP.ex {ι : Type} (P : ι → HP) : HP := ⟨fun w A => ∃ i, (P i).ok w A, fun ⟨i, h⟩ hA => ⟨i, (P i).mono h hA⟩, fun ⟨i, h⟩ hc hT => ⟨i, (P i).keep h hc hT⟩⟩
def HP.two (P Q : HP) : HP where
  ok w A := ∃ B C : Nat → Prop, P.ok w B ∧ Q.ok w C ∧ (∀ k, B k → C k → False) ∧ ∀ k, B k ∨ C k → A k
  mono := fun {w A A'} ⟨B, C, h1, h2, h3, h4⟩ hA => ⟨fun k => B k ∧ k < w.heap.size, fun k => C k ∧ k < w.heap.size, P.mono h1 fun _ hk h => ⟨h, hk⟩, Q.mono h2 fun _ hk h => ⟨h, hk⟩, fun k h h' => h3 k h.1 h'.1, fun k h => h.elim (fun h => hA k h.2 (h4 k (.inl h.1))) fun h => hA k h.2 (h4 k (.inr h.1))⟩
  keep := fun ⟨B, C, h1, h2, h3, h4⟩ hc hT => ⟨B, C, P.keep h1 hc fun k h => hT k (h4 k (.inl h)), Q.keep h2 hc fun k h => hT k (h4 k (.inr h)), h3, h4⟩
def HP.all {R α : Type} (own : R → α → HP) : List R → List α → HP
  | [], [] => .pure True
  | r :: rs, x :: xs => .two (own r x) (HP.all own rs xs)
  | _, _ => .pure False
/-- all but one -/
def HP.but {R α : Type} (own : R → α → HP) (i : Nat) (rs : List R) (xs : List α) : HP := .two (.all own (rs.take i) (xs.take i)) (.all own (rs.drop (i + 1)) (xs.drop (i + 1)))

section
variable {w : World} {A : Nat → Prop} {P Q P' Q' : HP}
theorem HP.big {A' : Nat → Prop} (h : P.ok w A) (hA : ∀ k, A k → A' k) : P.ok w A' := P.mono h fun k _ => hA k
theorem two_imp (h1 : ∀ A, P.ok w A → P'.ok w A) (h2 : ∀ A, Q.ok w A → Q'.ok w A) (h : (HP.two P Q).ok w A) : (HP.two P' Q').ok w A := by
  obtain ⟨B, C, a, b, c, d⟩ := h
  exact ⟨B, C, h1 B a, h2 C b, c, d⟩
theorem two_comm (h : (HP.two P Q).ok w A) : (HP.two Q P).ok w A := by
  obtain ⟨B, C, a, b, c, d⟩ := h
  exact ⟨C, B, b, a, fun k h h' => c k h' h, fun k h => d k h.symm⟩
theorem two_assoc {R : HP} (h : (HP.two P (.two Q R)).ok w A) : (HP.two (.two P Q) R).ok w A := by
  obtain ⟨B, C, a, ⟨D, E, b, c, d, e⟩, f, g⟩ := h
  exact ⟨fun k => B k ∨ D k, E, ⟨B, D, a, b, fun k h h' => f k h (e k (.inl h')), fun _ h => h⟩, c, fun k h h' => h.elim (fun h => f k h (e k (.inr h'))) fun h => d k h h', fun k h => g k (h.elim (fun h => h.elim .inl fun h => .inr (e k (.inl h))) fun h => .inr (e k (.inr h)))⟩
theorem two_fst (h : (HP.two P Q).ok w A) : P.ok w A := by
  obtain ⟨B, C, a, b, c, d⟩ := h
  exact P.big a fun k hk => d k (.inl hk)
theorem two_snd (h : (HP.two P Q).ok w A) : Q.ok w A := two_fst (two_comm h)
theorem two_emp (h : P.ok w A) (hq : Q.ok w Non) : (HP.two P Q).ok w A := ⟨A, Non, h, hq, fun _ _ h => h.elim, fun _ h => h.elim id fun h => h.elim⟩
theorem emp_two (h : Q.ok w A) (hp : P.ok w Non) : (HP.two P Q).ok w A := two_comm (two_emp h hp)

variable {R α : Type} {own : R → α → HP} {rs rs' : List R} {xs xs' : List α}
theorem all_len (h : (HP.all own rs xs).ok w A) : rs.length = xs.length := by
  induction rs generalizing xs A with
  | nil => cases xs with
    | nil => rfl
    | cons => exact h.elim
  | cons r rs ih => cases xs with
    | nil => exact h.elim
    | cons x xs => simp [ih (two_snd h)]
theorem all_append (h : (HP.two (.all own rs xs) (.all own rs' xs')).ok w A) : (HP.all own (rs ++ rs') (xs ++ xs')).ok w A := by
  induction rs generalizing xs A with
  | nil => cases xs with
    | nil => exact two_snd h
    | cons => exact (two_fst h).elim
  | cons r rs ih => cases xs with
    | nil => exact (two_fst h).elim
    | cons x xs =>
      obtain ⟨B, C, ⟨D, E, a, b, c, d⟩, e, f, g⟩ := h
      exact ⟨D, fun k => E k ∨ C k, a, ih ⟨E, C, b, e, fun k h h' => f k (d k (.inr h)) h', fun _ h => h⟩, fun k h h' => h'.elim (c k h) (f k (d k (.inl h))), fun k h => g k (h.elim (fun h => .inl (d k (.inl h))) fun h => h.elim (fun h => .inl (d k (.inr h))) .inr)⟩
theorem all_split (n : Nat) (h : (HP.all own rs xs).ok w A) : (HP.two (.all own (rs.take n) (xs.take n)) (.all own (rs.drop n) (xs.drop n))).ok w A := by
  induction rs generalizing xs A n with
  | nil => cases xs with
    | nil => simp only [List.take_nil, List.drop_nil]; exact two_emp h trivial
    | cons => exact h.elim
  | cons r rs ih => cases xs with
    | nil => exact h.elim
    | cons x xs =>
      cases n with
      | zero => exact emp_two h trivial
      | succ n =>
        obtain ⟨B, C, a, b, c, d⟩ := h
        exact two_assoc ⟨B, C, a, ih n b, c, d⟩
theorem all_cons {r : R} {x : α} : HP.all own (r :: rs) (x :: xs) = .two (own r x) (.all own rs xs) := rfl
theorem all_focus {i : Nat} {r : R} {x : α} (h : (HP.all own rs xs).ok w A) (hr : rs[i]? = some r) (hx : xs[i]? = some x) : (HP.two (own r x) (.but own i rs xs)).ok w A := by
  have h1 := all_split i h
  have e1 : rs.drop i = r :: rs.drop (i + 1) := by
    have hl := (List.getElem?_eq_some_iff.1 hr)
    rw [List.drop_eq_getElem_cons hl.1, hl.2]
  have e2 : xs.drop i = x :: xs.drop (i + 1) := by
    have hl := (List.getElem?_eq_some_iff.1 hx)
    rw [List.drop_eq_getElem_cons hl.1, hl.2]
  rw [e1, e2, all_cons] at h1
  -- two T (two o D) -> two o (two T D)
  have h2 := two_assoc h1
  have h3 := two_imp (fun A h => two_comm h) (fun A h => h) h2
  obtain ⟨B, C, ⟨D, E, a, b, c, d⟩, e, f, g⟩ := h3
  exact ⟨D, fun k => E k ∨ C k, a, ⟨E, C, b, e, fun k h h' => f k (d k (.inr h)) h', fun _ h => h⟩, fun k h h' => h'.elim (c k h) (f k (d k (.inl h))), fun k h => g k (h.elim (fun h => .inl (d k (.inl h))) fun h => h.elim (fun h => .inl (d k (.inr h))) .inr)⟩
theorem all_fill {i : Nat} {r : R} {x : α} (hi : i < rs.length) (hi' : i < xs.length) (h : (HP.two (own r x) (.but own i rs xs)).ok w A) : (HP.all own (rs.set i r) (xs.set i x)).ok w A := by
  have e1 : rs.set i r = rs.take i ++ (r :: rs.drop (i + 1)) := by rw [List.set_eq_take_append_cons_drop, if_pos hi]
  have e2 : xs.set i x = xs.take i ++ (x :: xs.drop (i + 1)) := by rw [List.set_eq_take_append_cons_drop, if_pos hi']
  rw [e1, e2]
  refine all_append ?_
  have h1 := two_assoc h
  have h2 := two_imp (fun A h => two_comm h) (fun A h => h) h1
  obtain ⟨B, C, ⟨D, E, a, b, c, d⟩, e, f, g⟩ := h2
  exact ⟨D, fun k => E k ∨ C k, a, ⟨E, C, b, e, fun k h h' => f k (d k (.inr h)) h', fun _ h => h⟩, fun k h h' => h'.elim (c k h) (f k (d k (.inl h))), fun k h => g k (h.elim (fun h => .inl (d k (.inl h))) fun h => h.elim (fun h => .inl (d k (.inr h))) .inr)⟩
theorem all_set {i : Nat} {r : R} {x : α} (hi : i < xs.length) (h : (HP.two (own r x) (.all own rs xs)).ok w A) : (HP.all own (rs.set i r) (xs.set i x)).ok w A := by
  have hl := all_len (two_snd h)
  refine all_fill (by omega) hi (two_imp (fun _ h => h) (fun A h => ?_) h)
  obtain ⟨r0, hr0⟩ : ∃ r0, rs[i]? = some r0 := ⟨rs[i], List.getElem?_eq_getElem (by omega)⟩
  obtain ⟨x0, hx0⟩ : ∃ x0, xs[i]? = some x0 := ⟨xs[i], List.getElem?_eq_getElem hi⟩
  exact two_snd (all_focus h hr0 hx0)
theorem all_get {i : Nat} {r : R} {x : α} (h : (HP.all own rs xs).ok w A) (hr : rs[i]? = some r) (hx : xs[i]? = some x) : (own r x).ok w A := two_fst (all_focus h hr hx)
theorem all_take (n : Nat) (h : (HP.all own rs xs).ok w A) : (HP.all own (rs.take n) (xs.take n)).ok w A := two_fst (all_split n h)
theorem all_drop (n : Nat) (h : (HP.all own rs xs).ok w A) : (HP.all own (rs.drop n) (xs.drop n)).ok w A := two_snd (all_split n h)
theorem all_fresh {r : R} {x : α} (hr : ∀ w, (own r x).ok w Non) (n : Nat) (w : World) : (HP.all own (List.replicate n r) (List.replicate n x)).ok w Non := by
  induction n with
  | zero => trivial
  | succ n ih => exact two_emp (hr w) ih
theorem all_nil (w : World) : (HP.all own [] []).ok w Non := trivial
theorem all_one {r : R} {x : α} (h : (own r x).ok w A) : (HP.all own [r] [x]).ok w A := two_emp h trivial
end

/-! ### several of them -/
section
variable {w w0 : World} {S S0 F F0 : Nat → Prop} {L : List HP} {P Q R : HP}
theorem Sep.cons_ok (h : Sep (P :: L) w S) : ∃ A B, P.ok w A ∧ Sep L w B ∧ (∀ k, A k → B k → False) ∧ (∀ k, A k → S k) ∧ ∀ k, B k → S k := by
  obtain ⟨A, B, h1, h2, h3, h4, h5⟩ := Sep.split (L1 := [P]) (L2 := L) h
  obtain ⟨C, g1, g2⟩ := h1.get 0 rfl
  exact ⟨C, B, g1, h2, fun k h h' => h3 k (g2 k h) h', fun k h => h4 k (g2 k h), h5⟩
theorem Sep.of_ok {A : Nat → Prop} (h : P.ok w A) : Sep [P] w A := ⟨fun i k => i = 0 ∧ A k, fun i Q hi => by
    cases i with
    | zero => simp at hi; subst hi; exact ⟨P.big h fun k hk => ⟨rfl, hk⟩, fun k hk => hk.2⟩
    | succ i => simp at hi, fun i j k hne hi hj => hne (hi.1.trans hj.1.symm)⟩
theorem Sep.mk_cons {A B : Nat → Prop} (h1 : P.ok w A) (h2 : Sep L w B) (hd : ∀ k, A k → B k → False) (hA : ∀ k, A k → S k) (hB : ∀ k, B k → S k) : Sep (P :: L) w S :=
  Sep.join (L1 := [P]) (Sep.of_ok h1) h2 (fun k _ => hd k) (fun k _ => hA k) (fun k _ => hB k)
theorem Sep.imp (h : Sep (P :: L) w S) (hi : ∀ A, P.ok w A → Q.ok w A) : Sep (Q :: L) w S := by
  obtain ⟨A, B, h1, h2, h3, h4, h5⟩ := h.cons_ok
  exact Sep.mk_cons (hi A h1) h2 h3 h4 h5
theorem Sep.emp (P : HP) (h : Sep L w S) (hp : P.ok w Non) : Sep (P :: L) w S := Sep.mk_cons hp h (fun _ h => h.elim) (fun _ h => h.elim) fun _ h => h
theorem Sep.tail (h : Sep (P :: L) w S) : Sep L w S := by
  obtain ⟨A, B, h1, h2, h3, h4, h5⟩ := h.cons_ok
  exact h2.mono fun k _ => h5 k
theorem Sep.swap (h : Sep (P :: Q :: L) w S) : Sep (Q :: P :: L) w S := by
  obtain ⟨A, B, h1, h2, h3, h4, h5⟩ := h.cons_ok
  obtain ⟨C, D, g1, g2, g3, g4, g5⟩ := h2.cons_ok
  exact Sep.mk_cons (B := fun k => A k ∨ D k) g1 (Sep.mk_cons h1 g2 (fun k h h' => h3 k h (g5 k h')) (fun _ h => .inl h) fun _ h => .inr h) (fun k h h' => h'.elim (fun h' => h3 k h' (g4 k h)) (g3 k h)) (fun k h => h5 k (g4 k h)) fun k h => h.elim (h4 k) fun h => h5 k (g5 k h)
theorem Sep.under (h : Sep (P :: L) w S) {L' : List HP} (hf : ∀ A, Sep L w A → Sep L' w A) : Sep (P :: L') w S := by
  obtain ⟨A, B, h1, h2, h3, h4, h5⟩ := h.cons_ok
  exact Sep.mk_cons h1 (hf B h2) h3 h4 h5
theorem Sep.two (h : Sep (HP.two P Q :: L) w S) : Sep (P :: Q :: L) w S := by
  obtain ⟨A, B, ⟨C, D, a, b, c, d⟩, h2, h3, h4, h5⟩ := h.cons_ok
  refine Sep.mk_cons (S := S) (B := fun k => D k ∨ B k) a (Sep.mk_cons b h2 (fun k h h' => h3 k (d k (.inr h)) h') (fun _ h => .inl h) fun _ h => .inr h) (fun k h h' => h'.elim (c k h) (h3 k (d k (.inl h)))) (fun k h => h4 k (d k (.inl h))) fun k h => h.elim (fun h => h4 k (d k (.inr h))) (h5 k)
theorem Sep.join2 (h : Sep (P :: Q :: L) w S) : Sep (HP.two P Q :: L) w S := by
  obtain ⟨A, B, h1, h2, h3, h4, h5⟩ := h.cons_ok
  obtain ⟨C, D, g1, g2, g3, g4, g5⟩ := h2.cons_ok
  exact Sep.mk_cons (A := fun k => A k ∨ C k) ⟨A, C, h1, g1, fun k h h' => h3 k h (g4 k h'), fun _ h => h⟩ g2 (fun k h h' => h.elim (fun h => h3 k h (g5 k h')) fun h => g3 k h h') (fun k h => h.elim (h4 k) fun h => h5 k (g4 k h)) fun k h => h5 k (g5 k h)
theorem Sep.merge (h : Sep (P :: Q :: L) w S) (hi : ∀ A, (HP.two P Q).ok w A → R.ok w A) : Sep (R :: L) w S := h.join2.imp hi
theorem Sep.open {ι : Type} {P : ι → HP} (h : Sep (HP.ex P :: L) w S) : ∃ i, Sep (P i :: L) w S := by
  obtain ⟨A, B, ⟨i, h1⟩, h2, h3, h4, h5⟩ := h.cons_ok
  exact ⟨i, Sep.mk_cons h1 h2 h3 h4 h5⟩
theorem Sep.shut {ι : Type} {P : ι → HP} (i : ι) (h : Sep (P i :: L) w S) : Sep (HP.ex P :: L) w S := h.imp fun _ h => ⟨i, h⟩
theorem Sep.fact {p : Prop} (h : Sep (HP.pure p :: L) w S) : p ∧ Sep L w S := by
  obtain ⟨A, B, h1, h2, h3, h4, h5⟩ := h.cons_ok
  exact ⟨h1, h2.mono fun k _ => h5 k⟩
end

/-! ### slices whose elements own memory -/
section
variable {w : World} {A : Nat → Prop} {R α : Type} [Flat R] {own : R → α → HP} {E : TypeId} {v : Value} {rs : List R} {xs : List α}
theorem deep_len (h : (HP.two (SL E v rs) (.all own rs xs)).ok w A) : ∃ a c, v = .slice a xs.length c := by
  obtain ⟨B, C, h1, h2, h3, h4⟩ := h
  rw [← all_len h2]
  rcases h1 with ⟨go, h1⟩ | ⟨rfl, a, rfl⟩
  · exact h1.slice
  · exact ⟨a, 0, rfl⟩
end
section
variable {w : World} {S : Nat → Prop} {L : List HP} {R α : Type} {own : R → α → HP} {rs : List R} {xs : List α}
theorem Sep.dlen (j : Nat) (h : Sep L w S) (hj : L[j]? = some (.all own rs xs)) : rs.length = xs.length := by
  obtain ⟨A, h1, _⟩ := h.get j hj
  exact all_len h1
end
section
variable {w : World} {A : Nat → Prop} {R α : Type} [Flat R] [Rep α] {own : R → α → HP} {E : TypeId} {v : Value} {rs : List R} {xs : List α}
/-- how raw elements stand for elements -/
structure Owns (own : R → α → HP) : Prop where
  sz : Rep.sz R = Rep.sz α
  agg : Rep.agg R = Rep.agg α
  rv : ∀ w A r x, (own r x).ok w A → Rep.ok w A (Flat.enc r) x
def SLd (own : R → α → HP) (E : TypeId) (h : Hd) (xs : List α) : HP := .ex fun rs : List R => .two (SL E h.v rs) (.all own rs xs)
theorem deep_rv (ho : Owns own) (h : (HP.two (SL E v rs) (.all own rs xs)).ok w A) : RV w A v xs := by
  obtain ⟨B, C, h1, h2, h3, h4⟩ := h
  have hl := all_len h2
  rcases h1 with ⟨go, h1⟩ | ⟨rfl, a, rfl⟩
  · obtain ⟨F, css, g1, g2, g3, g4, g5⟩ := h1
    have hcss : Css w C css xs := ⟨g1.1.trans hl, fun i cs x hcs hx => by
      have hlt : i < rs.length := by rw [hl]; exact (List.getElem?_eq_some_iff.1 hx).1
      have := g1.2 i cs rs[i] hcs (List.getElem?_eq_getElem hlt)
      rw [Flat.iff.1 this]
      exact ho.rv w C _ x (all_get h2 (List.getElem?_eq_getElem hlt) hx)⟩
    have hcb : Css w (fun k => C k ∧ k < w.heap.size) css xs := hcss.keep fun k hk hc => ⟨rfl, hc, hk⟩
    have : OwnS w E go B C v xs := ⟨fun k => C k ∧ k < w.heap.size, css, hcb, by rw [← ho.sz, ← hl]; exact g2, g3, fun g hg => ⟨(g4 g hg).1, fun hc => h3 g (g4 g hg).1 hc.1⟩, fun k hk => hk⟩
    exact this.rv.sub fun k _ hk => hk.elim (fun hk => h4 k (.inl hk.2)) fun hk => h4 k (.inr hk)
  · have : xs = [] := List.eq_nil_of_length_eq_zero hl.symm
    subst this
    exact RV.mk_slice (l := ([] : List α)) (Nat.le_refl _) (Nat.zero_le _) fun h => absurd rfl h
theorem owns_sl (α : Type) [Rep α] (E : TypeId) : Owns (fun (h : Hd) (xs : List α) => SL E h.v xs) := ⟨rfl, rfl, fun w A r x h => RV.one rfl (SL.rv h)⟩
theorem owns_sld (ho : Owns own) : Owns (SLd own E) := ⟨rfl, rfl, fun w A r x ⟨rs, h⟩ => RV.one rfl (deep_rv ho h)⟩
end
section
variable {w : World} {S : Nat → Prop} {L : List HP} {R α : Type} [Flat R] [Rep α] {own : R → α → HP} {E : TypeId} {v : Value} {rs : List R} {xs : List α}
/-- the deep value of things i and j -/
theorem Sep.drv (ho : Owns own) (i j : Nat) (h : Sep L w S) (hi : L[i]? = some (SL E v rs)) (hj : L[j]? = some (.all own rs xs)) (hne : i ≠ j) : RV w S v xs := by
  obtain ⟨f, f1, f2⟩ := h
  have a := f1 i _ hi
  have b := f1 j _ hj
  exact deep_rv ho ⟨f i, f j, a.1, b.1, fun k => f2 i j k hne, fun k h => h.elim (a.2 k) (b.2 k)⟩
/-- an element's value -/
theorem Sep.delem (ho : Owns own) (j : Nat) (h : Sep L w S) (hj : L[j]? = some (.all own rs xs)) {i : Nat} {r : R} {x : α} (hr : rs[i]? = some r) (hx : xs[i]? = some x) : RV w S (Rep.val α (Flat.enc r)) x := by
  obtain ⟨A, h1, h2⟩ := h.get j hj
  exact ⟨_, Rep.keep (ho.rv w A r x (all_get h1 hr hx)) fun k _ hk => ⟨rfl, h2 k hk⟩, rfl⟩
end
end Go.GL

/-! ### steps -/
namespace Go.GL
open Go.RowKit
theorem mk?_raw {α β : Type} {n : Int} {z : α} {z' : β} {r : List α} (h : mk? n z = some r) : mk? n z' = some (List.replicate r.length z') ∧ r = List.replicate r.length z := by
  unfold mk? at *
  split at h
  · rename_i hc
    simp only [Option.some.injEq] at h
    subst h
    rw [if_pos hc]
    simp
  · cases h
theorem app?_raw {α β : Type} {l m r : List α} {l' m' : List β} (h : app? l m = some r) (hl : l'.length = l.length) (hm : m'.length = m.length) : app? l' m' = some (l' ++ m') ∧ r = l ++ m := by
  unfold app? at *
  split at h
  · rename_i hc
    simp only [Option.some.injEq] at h
    rw [if_pos (by omega)]
    exact ⟨rfl, h.symm⟩
  · cases h
theorem set?_raw {α β : Type} {l r : List α} {l' : List β} {i : Int} {x : α} (y : β) (h : set? l i x = some r) (hl : l'.length = l.length) : set? l' i y = some (l'.set i.toNat y) ∧ r = l.set i.toNat x ∧ i.toNat < l.length := by
  unfold set? at *
  split at h
  · rename_i hc
    simp only [Option.some.injEq] at h
    rw [if_pos (by omega)]
    exact ⟨rfl, h.symm, hc.2⟩
  · cases h
section
variable {w : World} {S : Nat → Prop} {L : List HP} {R α : Type} {own : R → α → HP} {rs : List R} {xs : List α}
/-- an element is taken out, and put back -/
theorem Sep.focus {n : Int} {r : R} {z : α} (hs : Sep (HP.all own rs xs :: L) w S) (hr : rs[n.toNat]? = some r) (hz : get? xs n = some z) : Sep (own r z :: HP.but own n.toNat rs xs :: L) w S :=
  (hs.imp fun _ h => all_focus h hr (get?_at hz)).two
theorem Sep.fill {n : Int} {r : R} {z : α} {ys : List α} (hs : Sep (own r z :: HP.but own n.toNat rs xs :: L) w S) (hl : rs.length = xs.length) (hr : rs[n.toNat]? = some r) (hz : set? xs n z = some ys) : Sep (HP.all own rs ys :: L) w S := by
  obtain ⟨_, h2, h3⟩ := set?_raw (l' := xs) z hz rfl
  have e : rs.set n.toNat r = rs := by
    rw [List.getElem?_eq_some_iff] at hr
    obtain ⟨h, rfl⟩ := hr
    exact List.set_getElem_self h
  have := hs.merge fun A h => all_fill (by omega) h3 h
  rw [e, ← h2] at this
  exact this
end
section
variable {P : Program} {ops : Array Oper} {Q : Exit → Act → World → Prop} {a : Act} {w w0 : World} {S S0 F F0 : Nat → Prop} {N : Nat} {σ : List (Nat × Value)} {k d : Nat} {t ty : TypeId} {x : Operand} {pos : String} {af : Array Edge}
  {L : List HP} {R α : Type} [Flat R] {own : R → α → HP} {E : TypeId}
theorem q_makeD {y' : Operand} {n : Int} {zx : α} (zr : R) (how : ∀ w, (own zr zx).ok w Non) (hs : Sep L w S) (hM : Mem w0 S0 F0 w S F) (ht : P.underlying t = some (.slice E)) (hE : ElT P E R) (hz : ∀ i, P.info? E = some i → ∀ z, i.zero = some z → Rep.ok w (fun _ => False) z.cells.toList zr)
    (hop : ops[k]? = some ⟨some d, .makeSlice t x y', ty, pos, af, none⟩) (hd : Nat.blt d N = true) (hF : FrS N σ a) (hx : opd σ x = some (.int .i64 n)) (hy : opd σ y' = some (.int .i64 n)) {r : List α} (hr : mk? n zx = some r)
    (h : ∀ a' c' rs w' S' fr, Sep (SL E (.slice a' (List.length r) c') rs :: HP.all own rs r :: L) w' S' → Stp w S w' S' → FrS N ((d, .slice a' (List.length r) c') :: σ) fr → wpFrom P ops Q (k + 1) fr w') : wpFrom P ops Q k a w := by
  obtain ⟨h1, h2⟩ := mk?_raw (z' := zr) hr
  refine q_make (α := R) hs hM ht hE hz hop hd hF hx hy h1 fun a' c' w' S' fr hs hp hF => ?_
  rw [List.length_replicate] at hs hF
  refine h a' c' (List.replicate r.length zr) w' S' fr ?_ hp hF
  have e : (HP.all own (List.replicate r.length zr) r).ok w' Non := by
    have := all_fresh (own := own) how r.length w'
    rw [← h2] at this; exact this
  exact (hs.emp _ e).swap
end
section
variable {P : Program} {ops : Array Oper} {Q : Exit → Act → World → Prop} {a : Act} {w w0 : World} {S S0 F F0 : Nat → Prop} {N : Nat} {σ : List (Nat × Value)} {k d d' : Nat} {t ty : TypeId} {x y : Operand} {pos : String} {af : Array Edge}
  {L : List HP} {R α : Type} [Flat R] {own : R → α → HP} {E : TypeId} {v u : Value} {rs rs2 : List R} {xs ms : List α}
theorem q_appendD {y' : Operand} {t' : TypeId} {Fr : Nat → Prop} (hs : Sep (SL E v rs :: HP.all own rs xs :: HP.all own rs2 ms :: L) w S) (hM : Mem w0 S0 F0 w S F) (ht : P.underlying t = some (.slice E)) (hE : ElT P E R)
    (hop : ops[k]? = some ⟨some d, .call ⟨.builtin .append, #[x, y'], #[t, t']⟩, ty, pos, af, none⟩) (htt : t' = t) (hd : Nat.blt d N = true) (hF : FrS N σ a) (hx : opd σ x = some v) (hy : opd σ y' = some u) (hu : RV w Fr u rs2)
    {r : List α} (hr : app? xs ms = some r)
    (h : ∀ a' c' rs' w' S' fr, Sep (SL E (.slice a' (List.length r) c') rs' :: HP.all own rs' r :: L) w' S' → Stp w S w' S' → FrS N ((d, .slice a' (List.length r) c') :: σ) fr → wpFrom P ops Q (k + 1) fr w') : wpFrom P ops Q k a w := by
  have l1 := hs.dlen 1 rfl
  have l2 := hs.dlen 2 rfl
  obtain ⟨h1, h2⟩ := app?_raw (l' := rs) (m' := rs2) hr l1 l2
  refine q_append 0 hs hM rfl ht hE hop htt hd hF hx hy hu h1 fun a' c' w' S' fr hs hp hF => ?_
  have e : List.length (rs ++ rs2) = List.length r := by rw [h2]; simp [l1, l2]
  rw [e] at hs hF
  refine h a' c' (rs ++ rs2) w' S' fr ?_ hp hF
  have hs' : Sep (SL E (.slice a' (List.length r) c') (rs ++ rs2) :: HP.all own rs xs :: HP.all own rs2 ms :: L) w' S' := hs
  refine hs'.under fun A hA => ?_
  rw [h2]
  exact hA.merge fun A h => all_append h
theorem q_setD {t' ty' : TypeId} {idx z : Operand} {pos' : String} {af' : Array Edge} {kd : IntKind} {n : Int} {P3 : HP} (q : R) {zx : α} (hs : Sep (SL E v rs :: HP.all own rs xs :: P3 :: L) w S) (hM : Mem w0 S0 F0 w S F) (how : ∀ w A, P3.ok w A → (own q zx).ok w A) (ht : P.underlying t = some (.slice E)) (hE : Ty P E R)
    (hop : ops[k]? = some ⟨some d, .indexAddr t x idx, ty, pos, af, none⟩) (hop' : ops[k + 1]? = some ⟨none, .store t' (.tmp d) z, ty', pos', af', none⟩) (hte : t' = E) (hd : Nat.blt d N = true) (hF : FrS N σ a)
    (hx : opd σ x = some v) (hi : opd σ idx = some (.int kd n)) (hz : z ≠ .tmp d) (hzu : opd σ z = some u) (hu : Rep.val R (Flat.enc q) = u) {r : List α} (hr : set? xs n zx = some r)
    (h : ∀ rs' w' S' fr p, Sep (SL E v rs' :: HP.all own rs' r :: L) w' S' → Stp w S w' S' → FrS N ((d, p) :: σ) fr → wpFrom P ops Q (k + 2) fr w') : wpFrom P ops Q k a w := by
  have l1 := hs.dlen 1 rfl
  obtain ⟨h1, h2, h3⟩ := set?_raw (l' := rs) q hr l1
  refine q_set (q := q) 0 hs hM rfl ht hE hop hop' hte hd hF hx hi hz hzu hu h1 fun w' S' fr p hs hp hF => ?_
  refine h (rs.set n.toNat q) w' S' fr p ?_ hp hF
  have hs' : Sep (SL E v (rs.set n.toNat q) :: HP.all own rs xs :: P3 :: L) w' S' := hs
  refine hs'.under fun A hA => ?_
  rw [h2]
  exact hA.swap.merge fun A h => all_set h3 (two_imp (fun A h => how w' A h) (fun _ h => h) h)
theorem q_getD {t' ty' : TypeId} {pos' : String} {af' : Array Edge} {kd : IntKind} {n : Int} {z : α} (i j : Nat) (hs : Sep L w S) (hi : L[i]? = some (SL E v rs)) (hj : L[j]? = some (HP.all own rs xs)) (he : Ty P E R) (ht : P.underlying t = some (.slice E))
    (ho : ops[k]? = some ⟨some d, .indexAddr t x y, ty, pos, af, none⟩) (ho' : ops[k + 1]? = some ⟨some d', .load t' (.tmp d), ty', pos', af', none⟩) (hte : t' = E) (hd : Nat.blt d N = true) (hd' : Nat.blt d' N = true) (hF : FrS N σ a)
    (hx : opd σ x = some v) (hy : opd σ y = some (.int kd n)) (hz : get? xs n = some z)
    (h : ∀ r p fr, rs[n.toNat]? = some r → FrS N ((d', Rep.val R (Flat.enc r)) :: (d, p) :: σ) fr → wpFrom P ops Q (k + 2) fr w) : wpFrom P ops Q k a w := by
  have l1 := hs.dlen j hj
  have hlt : n.toNat < rs.length := by
    have := (List.getElem?_eq_some_iff.1 (get?_at hz)).1
    omega
  refine s_elemF (z := rs[n.toNat]) _ he ht ho ho' hte hd hd' hF hx (hs.rv i hi) hy (get?_nn hz) (List.getElem?_eq_getElem hlt) rfl fun p fr hF => ?_
  exact h _ p fr (List.getElem?_eq_getElem hlt) hF
/-- an element that is a slice -/
theorem q_getDs {α : Type} [Rep α] {own : Hd → List α → HP} {rs : List Hd} {xs : List (List α)} {t' ty' : TypeId} {pos' : String} {af' : Array Edge} {kd : IntKind} {n : Int} {z : List α} (hown : Owns own) (i j : Nat) (hs : Sep L w S) (hi : L[i]? = some (SL E v rs)) (hj : L[j]? = some (HP.all own rs xs)) (he : Ty P E Hd) (ht : P.underlying t = some (.slice E))
    (ho : ops[k]? = some ⟨some d, .indexAddr t x y, ty, pos, af, none⟩) (ho' : ops[k + 1]? = some ⟨some d', .load t' (.tmp d), ty', pos', af', none⟩) (hte : t' = E) (hd : Nat.blt d N = true) (hd' : Nat.blt d' N = true) (hF : FrS N σ a)
    (hx : opd σ x = some v) (hy : opd σ y = some (.int kd n)) (hz : get? xs n = some z)
    (h : ∀ a' c' p fr, rs[n.toNat]? = some ⟨a', List.length z, c'⟩ → FrS N ((d', .slice a' (List.length z) c') :: (d, p) :: σ) fr → wpFrom P ops Q (k + 2) fr w) : wpFrom P ops Q k a w :=
  q_getD i j hs hi hj he ht ho ho' hte hd hd' hF hx hy hz fun r p fr hr hF => by
    have hrv := hs.delem hown j hj hr (get?_at hz)
    obtain ⟨a', c', hv, _⟩ := hrv.slice
    obtain ⟨ra, rn, rc⟩ := r
    have hv' : (Value.slice ra rn rc) = .slice a' (List.length z) c' := hv
    simp only [Value.slice.injEq] at hv'
    obtain ⟨rfl, rfl, rfl⟩ := hv'
    exact h _ _ p fr hr hF
theorem Sep.relenD {b : Option Addr} {n c : Nat} (i j : Nat) (h : Sep L w S) (hi : L[i]? = some (SL E (.slice b n c) rs)) (hj : L[j]? = some (HP.all own rs xs)) : n = xs.length ∧ Sep (L.set i (SL E (.slice b xs.length c) rs)) w S := by
  have h1 := h.relen i hi
  have h2 := h.dlen j hj
  rw [h2] at h1
  exact h1
theorem Sep.freezeD [Rep α] (ho : Owns own) {F : Nat → Prop} (h : Sep (SL E v rs :: HP.all own rs xs :: L) w S) (hM : Mem w0 S0 F0 w S F) : ∃ S' F', Mem w0 S0 F0 w S' F' ∧ Sep L w S' ∧ RV w F' v xs ∧ ∀ k, F k → F' k := by
  obtain ⟨S', F', a, b, c, d⟩ := Sep.freeze h.join2 hM
  exact ⟨S', F', a, b, deep_rv ho c, d⟩
end
end Go.GL

/-! ### parts of an own slice, which are still parts of it -/
namespace Go.GL
open Go.RowKit
/-- how the header of l[lo:] follows from that of l -/
structure VW (sz : Nat) (b : Option Addr) (c : Nat) (lo : Int) (a' : Option Addr) (c' : Nat) : Prop where
  nn : 0 ≤ lo
  addr : a' = (if c = lo.toNat then b else b.map (·.add (lo.toNat * sz)))
  cap : c' = c - lo.toNat
section
variable {P : Program} {ops : Array Oper} {Q : Exit → Act → World → Prop} {a : Act} {w w0 : World} {S S0 F F0 : Nat → Prop} {N : Nat} {σ : List (Nat × Value)} {k d d' : Nat} {t ty : TypeId} {x y : Operand} {pos : String} {af : Array Edge}
  {L : List HP} {E : TypeId}
theorem s_view {α : Type} [Rep α] {lo hi : Option Operand} {b : Option Addr} {n0 c : Nat} {l r : List α} {m n : Int} (he : Ty P E α) (ht : P.underlying t = some (.slice E)) (ho : ops[k]? = some ⟨some d, .slice t x lo hi none, ty, pos, af, none⟩) (hd : Nat.blt d N = true) (hF : FrS N σ a)
    (hx : opd σ x = some (.slice b n0 c)) (hl : RV w F (.slice b n0 c) l) (hlo : match lo with | none => m = 0 | some y => ∃ k, opd σ y = some (.int k m)) (hhi : match hi with | none => n = (l.length : Int) | some y => ∃ k, opd σ y = some (.int k n)) (hr : cut? l m n = some r)
    (h : ∀ a' c' fr, VW (Rep.sz α) b c m a' c' → m.toNat + r.length ≤ l.length → FrS N ((d, .slice a' (List.length r) c') :: σ) fr → wpFrom P ops Q (k + 1) fr w) : wpFrom P ops Q k a w := by
  have hr' := hr
  unfold cut? at hr
  split at hr
  · rename_i hb
    obtain ⟨h0, h1, h2⟩ := hb
    simp only [Option.some.injEq] at hr
    have hlen : r.length = n.toNat - m.toNat := by
      rw [← hr, List.length_drop, List.length_take]; omega
    obtain ⟨b', cap, hv, hc1, hc2, hc3⟩ := hl.slice
    simp only [Value.slice.injEq] at hv
    obtain ⟨rfl, rfl, rfl⟩ := hv
    refine from_val hF ho rfl rfl (Nat.blt_eq.mp hd) (R := fun v w' => v = .slice (if c = m.toNat then b else b.map (·.add (m.toNat * Rep.sz α))) (n.toNat - m.toNat) (c - m.toNat) ∧ w' = w) (does_value ?_ ⟨rfl, rfl⟩) fun v w' fr hv hF' => ?_
    · have hn2 : n ≤ (c : Int) := by omega
      cases lo with
      | none =>
        simp only at hlo; subst hlo
        cases hi with
        | none =>
          simp only at hhi; subst hhi
          simp [execOp, Instr.sliceAt, Instr.slice, Instr.sliceBounds, opd_eval hF hx, run_underlying ht, he.sizeOf]
        | some y =>
          obtain ⟨kk, hy⟩ := hhi
          simp [execOp, Instr.sliceAt, Instr.slice, Instr.sliceBounds, Instr.sliceBound, asIntOf, opd_eval hF hx, opd_eval hF hy, run_underlying ht, he.sizeOf, h1, hn2]
      | some z =>
        obtain ⟨kz, hz⟩ := hlo
        cases hi with
        | none =>
          simp only at hhi; subst hhi
          simp [execOp, Instr.sliceAt, Instr.slice, Instr.sliceBounds, Instr.sliceBound, asIntOf, opd_eval hF hx, opd_eval hF hz, run_underlying ht, he.sizeOf, h0, h1]
        | some y =>
          obtain ⟨kk, hy⟩ := hhi
          have h01 : 0 ≤ n := by omega
          simp [execOp, Instr.sliceAt, Instr.slice, Instr.sliceBounds, Instr.sliceBound, asIntOf, opd_eval hF hx, opd_eval hF hy, opd_eval hF hz, run_underlying ht, he.sizeOf, h0, h01, hn2]
          try omega
    · obtain ⟨rfl, rfl⟩ := hv
      exact h _ _ fr ⟨h0, rfl, rfl⟩ (by omega) (by rw [hlen]; exact hF')
  · cases hr
end
end Go.GL
