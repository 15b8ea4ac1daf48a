/- Own library, part q: what a call owns: assertions on parts of the memory that lie apart. -/
import Derived.Test.YtdkfoghhjkjjlaaGLm
namespace Go.GL
open Go.RowKit

/-- an assertion on a world and a set of blocks -/
structure HP where
  ok : World → (Nat → Prop) → Prop
  mono : ∀ {w : World} {A A' : Nat → Prop}, ok w A → (∀ k, k < w.heap.size → A k → A' k) → ok w A'
  keep : ∀ {w w' : World} {A T : Nat → Prop}, ok w A → Chg T w w' → (∀ k, A k → ¬ T k) → ok w' A
  box : Option (Nat × List Value) := none
  isb : ∀ {w : World} {A : Nat → Prop} {p : Nat × List Value}, box = some p → ok w A → ∃ t, Box w p.1 t p.2 := by intro _ _ _ h; cases h

/-- a slice of the call's own, its elements without memory -/
def SL {α : Type} [Rep α] (E : TypeId) (v : Value) (l : List α) : HP where
  ok w A := (∃ go, OwnS w E go A Non v l) ∨ (l = [] ∧ ∃ a, v = .slice a 0 0)
  mono := fun h hA => h.elim (fun ⟨go, h⟩ => .inl ⟨go, h.regard hA⟩) .inr
  keep := fun h hc hT => h.elim (fun ⟨go, h⟩ => .inl ⟨go, h.chg hc (fun k _ hk => hT k hk) (fun _ h => h.elim)⟩) .inr
/-- a block of the call's own -/
def BX (b : Nat) (t : TypeId) (cs : List Value) : HP where
  ok w A := Box w b t cs ∧ A b
  mono := fun h hA => ⟨h.1, hA b h.1.lt h.2⟩
  keep := fun h hc hT => ⟨h.1.chg hc (hT b h.2), h.2⟩
  box := some (b, cs)
  isb := fun h hok => by cases h; exact ⟨t, hok.1⟩
/-- a map of the call's own -/
def MP {P : Program} {k e : TypeId} {κ β : Type} [Flat κ] [Flat β] [DecidableEq κ] (T : MapT P k e κ β) (b : Nat) (m : List (κ × β)) : HP where
  ok w A := OwnM T w b m ∧ A b
  mono := fun h hA => ⟨h.1, hA b h.1.lt h.2⟩
  keep := fun h hc hT => ⟨h.1.chg T hc (hT b h.2), h.2⟩

/-- all of these, in parts of S that lie apart -/
def Sep (L : List HP) (w : World) (S : Nat → Prop) : Prop :=
  ∃ f : Nat → Nat → Prop, (∀ i P, L[i]? = some P → P.ok w (f i) ∧ ∀ k, f i k → S k) ∧ ∀ i j k, i ≠ j → f i k → f j k → False

/-- a step that changes S, which then is S' -/
structure Stp (w : World) (S : Nat → Prop) (w' : World) (S' : Nat → Prop) : Prop where
  chg : Chg S w w'
  sub : ∀ k, S' k → S k ∨ w.heap.size ≤ k
  bd : ∀ k, S' k → k < w'.heap.size

/-- from w0, where S0 was owned and F0 was not to change, to w -/
structure Mem (w0 : World) (S0 F0 : Nat → Prop) (w : World) (S F : Nat → Prop) : Prop where
  chg : Chg S0 w0 w
  sub : ∀ k, S k → S0 k ∨ w0.heap.size ≤ k
  bd : ∀ k, S k → k < w.heap.size
  bdF : ∀ k, F k → k < w.heap.size
  dj : ∀ k, S k → F k → False
  dj0 : ∀ k, S0 k → F0 k → False
  fz : ∀ k, F0 k → F k
  fsub : ∀ k, F k → F0 k ∨ S0 k ∨ w0.heap.size ≤ k

section
variable {w0 w w' w1 : World} {S0 F0 S F S' F' S1 F1 : Nat → Prop} {L L' L1 L2 : List HP}

theorem Mem.start (hb : ∀ k, S k → k < w.heap.size) (hf : ∀ k, F k → k < w.heap.size) (hd : ∀ k, S k → F k → False) : Mem w S F w S F :=
  ⟨Chg.refl _ _, fun _ h => .inl h, hb, hf, hd, hd, fun _ h => h, fun _ h => .inl h⟩
theorem Mem.stp (h : Mem w0 S0 F0 w S F) (hp : Stp w S w' S') : Mem w0 S0 F0 w' S' F :=
  ⟨h.chg.trans' hp.chg h.sub, fun k hk => (hp.sub k hk).elim (h.sub k) fun hl => .inr (Nat.le_trans h.chg.size hl), hp.bd, fun k hk => Nat.lt_of_lt_of_le (h.bdF k hk) hp.chg.size,
   fun k hk hf => (hp.sub k hk).elim (fun hs => h.dj k hs hf) fun hl => Nat.lt_irrefl _ (Nat.lt_of_lt_of_le (h.bdF k hf) hl), h.dj0, h.fz, h.fsub⟩
theorem Mem.ext (h : Mem w0 S0 F0 w S F) (hc : Chg Non w w') : Mem w0 S0 F0 w' S F :=
  ⟨h.chg.trans hc.of, h.sub, fun k hk => Nat.lt_of_lt_of_le (h.bd k hk) hc.size, fun k hk => Nat.lt_of_lt_of_le (h.bdF k hk) hc.size, h.dj, h.dj0, h.fz, h.fsub⟩
theorem Mem.trans (h : Mem w0 S0 F0 w1 S1 F1) (k : Mem w1 S1 F1 w S F) : Mem w0 S0 F0 w S F :=
  ⟨h.chg.trans' k.chg h.sub, fun x hx => (k.sub x hx).elim (h.sub x) fun hl => .inr (Nat.le_trans h.chg.size hl), k.bd, k.bdF, k.dj, h.dj0, fun x hx => k.fz x (h.fz x hx), fun x hx => (k.fsub x hx).elim (h.fsub x) fun hx => .inr (hx.elim (h.sub x) fun hl => .inr (Nat.le_trans h.chg.size hl))⟩
/-- what is new may be read as well -/
theorem Mem.grow (h : Mem w0 S0 F0 w S F) (hc : Chg Non w w') : ∃ F', Mem w0 S0 F0 w' S F' ∧ (∀ k, F k → F' k) ∧ ∀ k, w.heap.size ≤ k → k < w'.heap.size → F' k :=
  ⟨fun k => F k ∨ (w.heap.size ≤ k ∧ k < w'.heap.size),
    ⟨h.chg.trans hc.of, h.sub, fun k hk => Nat.lt_of_lt_of_le (h.bd k hk) hc.size, fun k hk => hk.elim (fun hk => Nat.lt_of_lt_of_le (h.bdF k hk) hc.size) fun hk => hk.2,
     fun k hk hf => hf.elim (h.dj k hk) fun hf => Nat.lt_irrefl _ (Nat.lt_of_lt_of_le (h.bd k hk) hf.1), h.dj0, fun k hk => .inl (h.fz k hk), fun k hk => hk.elim (h.fsub k) fun hk => .inr (.inr (Nat.le_trans h.chg.size hk.1))⟩, fun _ h => .inl h, fun _ h1 h2 => .inr ⟨h1, h2⟩⟩
theorem Mem.out (h : Mem w0 S0 F0 w S F) : Stp w0 S0 w S := ⟨h.chg, h.sub, h.bd⟩
theorem RV.mem {α : Type} [Rep α] {v : Value} {x : α} (h : RV w0 F0 v x) (hM : Mem w0 S0 F0 w S F) : RV w F v x :=
  (h.chg hM.chg fun k hf hs => hM.dj0 k hs hf).sub fun k _ hk => hM.fz k hk
theorem RV.stp {α : Type} [Rep α] {v : Value} {x : α} (h : RV w F v x) (hM : Mem w0 S0 F0 w S F) (hp : Stp w S w' S') : RV w' F v x :=
  h.chg hp.chg fun k hf hs => hM.dj k hs hf
theorem RV.big {α : Type} [Rep α] {v : Value} {x : α} (h : RV w F v x) (hf : ∀ k, F k → F' k) : RV w F' v x := h.sub fun k _ hk => hf k hk

theorem Sep.nil (w : World) (S : Nat → Prop) : Sep [] w S := ⟨fun _ => Non, fun i P h => by simp at h, fun _ _ _ _ h => h.elim⟩
theorem Sep.keep {T : Nat → Prop} (h : Sep L w S) (hc : Chg T w w') (hT : ∀ k, S k → ¬ T k) : Sep L w' S := by
  obtain ⟨f, h1, h2⟩ := h
  exact ⟨f, fun i P hi => ⟨P.keep (h1 i P hi).1 hc fun k hk => hT k ((h1 i P hi).2 k hk), (h1 i P hi).2⟩, h2⟩
theorem Sep.ext (h : Sep L w S) (hc : Chg Non w w') : Sep L w' S := h.keep hc fun _ _ => id
theorem Sep.mono (h : Sep L w S) (hs : ∀ k, k < w.heap.size → S k → S' k) : Sep L w S' := by
  obtain ⟨f, h1, h2⟩ := h
  exact ⟨fun i k => f i k ∧ k < w.heap.size, fun i P hi => ⟨P.mono (h1 i P hi).1 fun k hk hf => ⟨hf, hk⟩, fun k hk => hs k hk.2 ((h1 i P hi).2 k hk.1)⟩, fun i j k hne hi hj => h2 i j k hne hi.1 hj.1⟩

theorem idx_inj {is : List Nat} (hn : is.Nodup) {i j x : Nat} (hi : is[i]? = some x) (hj : is[j]? = some x) : i = j := by
  have h1 := (List.getElem?_eq_some_iff.1 hi)
  have h2 := (List.getElem?_eq_some_iff.1 hj)
  obtain ⟨a, ha⟩ := h1; obtain ⟨b, hb⟩ := h2
  rcases Nat.lt_trichotomy i j with h | h | h
  · exact absurd (ha.trans hb.symm) (List.pairwise_iff_getElem.1 hn i j a b h)
  · exact h
  · exact absurd (hb.trans ha.symm) (List.pairwise_iff_getElem.1 hn j i b a h)

/-- some of them, in another order -/
theorem Sep.pick (is : List Nat) (h : Sep L w S) (hn : is.Nodup) {L' : List HP} (hL : is.map (fun i => L[i]?) = L'.map some) : Sep L' w S := by
  obtain ⟨f, h1, h2⟩ := h
  refine ⟨fun m k => ∃ i, is[m]? = some i ∧ f i k, fun m P hm => ?_, fun m m' k hne ⟨i, hi, hf⟩ ⟨j, hj, hg⟩ => ?_⟩
  · have h3 : (is.map fun i => L[i]?)[m]? = some (some P) := by rw [hL, List.getElem?_map, hm]; rfl
    rw [List.getElem?_map] at h3
    cases hi : is[m]? with
    | none => rw [hi] at h3; cases h3
    | some i =>
      rw [hi] at h3
      simp only [Option.map_some, Option.some.injEq] at h3
      obtain ⟨g1, g2⟩ := h1 i P h3
      exact ⟨P.mono g1 fun k _ hk => ⟨i, hi, hk⟩, fun k ⟨j, hj, hk⟩ => by
        rw [hi] at hj
        obtain rfl := Option.some.inj hj
        exact g2 k hk⟩
  · by_cases e : i = j
    · subst e; exact hne (idx_inj hn hi hj)
    · exact h2 i j k e hf hg

theorem Sep.get (i : Nat) (h : Sep L w S) {P : HP} (hi : L[i]? = some P) : ∃ A, P.ok w A ∧ ∀ k, A k → S k := by
  obtain ⟨f, h1, _⟩ := h
  exact ⟨f i, h1 i P hi⟩
theorem Sep.rv {α : Type} [Rep α] {E : TypeId} {v : Value} {l : List α} (i : Nat) (h : Sep L w S) (hi : L[i]? = some (SL E v l)) : RV w S v l := by
  obtain ⟨A, h1, h2⟩ := h.get i hi
  rcases h1 with ⟨go, h1⟩ | ⟨rfl, a, rfl⟩
  · exact h1.rv.sub fun k _ hk => hk.elim (fun hk => h2 k hk.2) fun hk => hk.elim
  · exact RV.mk_slice (l := ([] : List α)) (Nat.le_refl _) (Nat.zero_le _) fun h => absurd rfl h
theorem Sep.bx {b : Nat} {t : TypeId} {cs : List Value} (i : Nat) (h : Sep L w S) (hi : L[i]? = some (BX b t cs)) : Box w b t cs := by
  obtain ⟨A, h1, h2⟩ := h.get i hi
  exact h1.1
theorem Sep.mp {P : Program} {k e : TypeId} {κ β : Type} [Flat κ] [Flat β] [DecidableEq κ] {T : MapT P k e κ β} {b : Nat} {m : List (κ × β)} (i : Nat) (h : Sep L w S) (hi : L[i]? = some (MP T b m)) : OwnM T w b m := by
  obtain ⟨A, h1, h2⟩ := h.get i hi
  exact h1.1

/-- one of them changes -/
theorem Sep.upd (i : Nat) (h : Sep L w S) {P : HP} (hi : L[i]? = some P) (hM : Mem w0 S0 F0 w S F) : ∃ A, P.ok w A ∧ ∀ {w' : World} {P' : HP}, Chg A w w' → P'.ok w' (fun k => A k ∨ w.heap.size ≤ k) →
    ∃ S', Stp w S w' S' ∧ Sep (L.set i P') w' S' := by
  obtain ⟨f, h1, h2⟩ := h
  have hbd := hM.bd
  refine ⟨f i, (h1 i P hi).1, fun {w' P'} hc hok => ⟨fun k => (S k ∨ w.heap.size ≤ k) ∧ k < w'.heap.size, ⟨hc.mono (h1 i P hi).2, fun k hk => hk.1, fun k hk => hk.2⟩, ?_⟩⟩
  refine ⟨fun j k => if j = i then (f i k ∨ w.heap.size ≤ k) ∧ k < w'.heap.size else j < L.length ∧ f j k, fun j Q hj => ?_, fun j j' k hne hf hg => ?_⟩
  · rw [List.getElem?_set] at hj
    by_cases e : i = j
    · subst e
      have hlt : i < L.length := (List.getElem?_eq_some_iff.1 hi).1
      simp only [if_true, hlt, Option.some.injEq] at hj
      subst hj
      simp only [if_true]
      exact ⟨P'.mono hok fun k hk hA => ⟨hA, hk⟩, fun k hk => ⟨hk.1.elim (fun hk => .inl ((h1 i P hi).2 k hk)) .inr, hk.2⟩⟩
    · rw [if_neg e] at hj
      simp only [if_neg (Ne.symm e)]
      have hlt : j < L.length := (List.getElem?_eq_some_iff.1 hj).1
      refine ⟨Q.mono (Q.keep (h1 j Q hj).1 hc fun k hk hk' => h2 i j k e hk' hk) fun k _ hk => ⟨hlt, hk⟩, fun k hk => ⟨.inl ((h1 j Q hj).2 k hk.2), Nat.lt_of_lt_of_le (hbd k ((h1 j Q hj).2 k hk.2)) hc.size⟩⟩
  · have key : ∀ j, j ≠ i → j < L.length → f j k → (f i k ∨ w.heap.size ≤ k) → False := fun j hj hlt hf hg => by
      obtain ⟨Q, hQ⟩ : ∃ Q, L[j]? = some Q := ⟨L[j], by simp [hlt]⟩
      rcases hg with hg | hg
      · exact h2 j i k hj hf hg
      · exact Nat.lt_irrefl _ (Nat.lt_of_lt_of_le (hbd k ((h1 j Q hQ).2 k hf)) hg)
    simp only at hf hg
    by_cases e : j = i
    · rw [if_pos e] at hf
      have e' : j' ≠ i := fun h => hne (e.trans h.symm)
      rw [if_neg e'] at hg
      exact key j' e' hg.1 hg.2 hf.1
    · rw [if_neg e] at hf
      by_cases e' : j' = i
      · rw [if_pos e'] at hg; exact key j e hf.1 hf.2 hg.1
      · rw [if_neg e'] at hg; exact h2 j j' k hne hf.2 hg.2

theorem Sep.split (h : Sep (L1 ++ L2) w S) : ∃ A R, Sep L1 w A ∧ Sep L2 w R ∧ (∀ k, A k → R k → False) ∧ (∀ k, A k → S k) ∧ ∀ k, R k → S k := by
  obtain ⟨f, h1, h2⟩ := h
  refine ⟨fun k => ∃ i, i < L1.length ∧ f i k, fun k => ∃ i, i < L2.length ∧ f (i + L1.length) k, ⟨fun i k => i < L1.length ∧ f i k, fun i P hi => ?_, fun i j k hne a b => h2 i j k hne a.2 b.2⟩, ⟨fun i k => i < L2.length ∧ f (i + L1.length) k, fun i P hi => ?_, fun i j k hne a b => h2 _ _ k (by omega) a.2 b.2⟩, ?_, ?_, ?_⟩
  · have hlt : i < L1.length := (List.getElem?_eq_some_iff.1 hi).1
    exact ⟨P.mono (h1 i P (by rw [List.getElem?_append_left hlt]; exact hi)).1 fun k _ hk => ⟨hlt, hk⟩, fun k hk => ⟨i, hk⟩⟩
  · have hlt : i < L2.length := (List.getElem?_eq_some_iff.1 hi).1
    exact ⟨P.mono (h1 (i + L1.length) P (by rw [List.getElem?_append_right (by omega)]; simpa using hi)).1 fun k _ hk => ⟨hlt, hk⟩, fun k hk => ⟨i, hk⟩⟩
  · rintro k ⟨i, hi, hf⟩ ⟨j, hj, hg⟩
    exact h2 i (j + L1.length) k (by omega) hf hg
  · rintro k ⟨i, hi, hf⟩
    exact (h1 i L1[i] (by rw [List.getElem?_append_left hi]; simp [hi])).2 k hf
  · rintro k ⟨i, hi, hf⟩
    exact (h1 (i + L1.length) L2[i] (by rw [List.getElem?_append_right (by omega)]; simp [hi])).2 k hf

theorem Sep.join {A R : Nat → Prop} (h1 : Sep L1 w A) (h2 : Sep L2 w R) (hd : ∀ k, k < w.heap.size → A k → R k → False) (hA : ∀ k, k < w.heap.size → A k → S k) (hR : ∀ k, k < w.heap.size → R k → S k) : Sep (L1 ++ L2) w S := by
  obtain ⟨f, f1, f2⟩ := h1
  obtain ⟨g, g1, g2⟩ := h2
  have fr : ∀ i k, i < L1.length → f i k → A k := fun i k hi hf => (f1 i L1[i] (by simp [hi])).2 k hf
  have gr : ∀ i k, i < L2.length → g i k → R k := fun i k hi hf => (g1 i L2[i] (by simp [hi])).2 k hf
  refine ⟨fun i k => k < w.heap.size ∧ ((i < L1.length ∧ f i k) ∨ (L1.length ≤ i ∧ i - L1.length < L2.length ∧ g (i - L1.length) k)), fun i P hi => ?_, ?_⟩
  · by_cases hlt : i < L1.length
    · rw [List.getElem?_append_left hlt] at hi
      refine ⟨P.mono (f1 i P hi).1 fun k hk hf => ⟨hk, .inl ⟨hlt, hf⟩⟩, fun k hk => ?_⟩
      rcases hk with ⟨hk, ⟨_, hf⟩ | ⟨hn, _⟩⟩
      · exact hA k hk (fr i k hlt hf)
      · omega
    · rw [List.getElem?_append_right (by omega)] at hi
      have hlt2 : i - L1.length < L2.length := (List.getElem?_eq_some_iff.1 hi).1
      refine ⟨P.mono (g1 _ P hi).1 fun k hk hf => ⟨hk, .inr ⟨by omega, hlt2, hf⟩⟩, fun k hk => ?_⟩
      rcases hk with ⟨hk, ⟨hn, _⟩ | ⟨_, _, hf⟩⟩
      · omega
      · exact hR k hk (gr _ k hlt2 hf)
  · rintro i j k hne ⟨hk, ⟨hi, hf⟩ | ⟨hi, hi2, hf⟩⟩ ⟨_, ⟨hj, hg⟩ | ⟨hj, hj2, hg⟩⟩
    · exact f2 i j k hne hf hg
    · exact hd k hk (fr i k hi hf) (gr _ k hj2 hg)
    · exact hd k hk (fr j k hj hg) (gr _ k hi2 hf)
    · exact g2 _ _ k (by omega) hf hg

/-- something new -/
theorem Sep.new {P : HP} (h : Sep L w S) (hM : Mem w0 S0 F0 w S F) (hc : Chg Non w w') (hok : P.ok w' (fun k => w.heap.size ≤ k)) : ∃ S', Stp w S w' S' ∧ Sep (P :: L) w' S' := by
  refine ⟨fun k => (S k ∨ w.heap.size ≤ k) ∧ k < w'.heap.size, ⟨hc.of, fun k hk => hk.1, fun k hk => hk.2⟩, ?_⟩
  have h1 : Sep [P] w' (fun k => w.heap.size ≤ k) := ⟨fun i k => i = 0 ∧ w.heap.size ≤ k, fun i Q hi => by
    cases i with
    | zero => simp at hi; subst hi; exact ⟨P.mono hok fun k _ hk => ⟨rfl, hk⟩, fun k hk => hk.2⟩
    | succ i => simp at hi, fun i j k hne hi hj => hne (hi.1.trans hj.1.symm)⟩
  exact Sep.join (L1 := [P]) h1 (h.ext hc) (fun k _ ha hr => Nat.lt_irrefl _ (Nat.lt_of_lt_of_le (hM.bd k hr) ha)) (fun k hk ha => ⟨.inr ha, hk⟩) (fun k hk ha => ⟨.inl ha, hk⟩)
/-- an empty slice -/
theorem Sep.cons_nil {α : Type} [Rep α] (E : TypeId) (h : Sep L w S) : Sep (SL E (.slice none 0 0) ([] : List α) :: L) w S := by
  have h1 : Sep [SL E (.slice none 0 0) ([] : List α)] w Non := ⟨fun i k => False, fun i Q hi => by
    cases i with
    | zero => simp at hi; subst hi; exact ⟨.inr ⟨rfl, none, rfl⟩, fun k hk => hk.elim⟩
    | succ i => simp at hi, fun i j k hne hi hj => hi.elim⟩
  exact Sep.join (L1 := [SL E (.slice none 0 0) ([] : List α)]) h1 h (fun _ _ h => h.elim) (fun _ _ h => h.elim) (fun _ _ h => h)

/-- a call takes the first of them -/
theorem Sep.call (h : Sep (L1 ++ L2) w S) (hM : Mem w0 S0 F0 w S F) : ∃ A R, Sep L1 w A ∧ Sep L2 w R ∧ (∀ k, A k → (F k ∨ R k) → False) ∧ (∀ k, A k → k < w.heap.size) ∧
    ∀ {w' : World} {A' : Nat → Prop} {L' : List HP}, Stp w A w' A' → Sep L' w' A' → ∃ S', Stp w S w' S' ∧ Sep (L' ++ L2) w' S' := by
  obtain ⟨A, R, h1, h2, h3, h4, h5⟩ := h.split
  refine ⟨A, R, h1, h2, fun k ha hf => hf.elim (hM.dj k (h4 k ha)) (h3 k ha), fun k ha => hM.bd k (h4 k ha), fun {w' A' L'} hp hs => ?_⟩
  refine ⟨fun k => A' k ∨ R k, ⟨hp.chg.mono h4, fun k hk => hk.elim (fun hk => (hp.sub k hk).elim (fun hk => .inl (h4 k hk)) .inr) fun hk => .inl (h5 k hk),
    fun k hk => hk.elim (hp.bd k) fun hk => Nat.lt_of_lt_of_le (hM.bd k (h5 k hk)) hp.chg.size⟩, ?_⟩
  refine Sep.join hs (h2.keep hp.chg fun k hr ha => h3 k ha hr) (fun k _ ha hr => ?_) (fun k _ h => .inl h) (fun k _ h => .inr h)
  rcases hp.sub k ha with ha | ha
  · exact h3 k ha hr
  · exact Nat.lt_irrefl _ (Nat.lt_of_lt_of_le (hM.bd k (h5 k hr)) ha)
/-- a call that takes none of them, but gives some -/
theorem Sep.got {A' : Nat → Prop} (h : Sep L w S) (hM : Mem w0 S0 F0 w S F) (hp : Stp w Non w' A') (hs : Sep L' w' A') : ∃ S', Stp w S w' S' ∧ Sep (L' ++ L) w' S' := by
  refine ⟨fun k => A' k ∨ S k, ⟨hp.chg.of, fun k hk => hk.elim (fun hk => (hp.sub k hk).elim (fun hk => hk.elim) .inr) .inl,
    fun k hk => hk.elim (hp.bd k) fun hk => Nat.lt_of_lt_of_le (hM.bd k hk) hp.chg.size⟩, ?_⟩
  refine Sep.join hs (h.ext hp.chg) (fun k _ ha hr => ?_) (fun k _ h => .inl h) (fun k _ h => .inr h)
  rcases hp.sub k ha with ha | ha
  · exact ha.elim
  · exact Nat.lt_irrefl _ (Nat.lt_of_lt_of_le (hM.bd k hr) ha)

/-- one of them is no longer its own, but stays as it is -/
theorem Sep.freeze {P : HP} (h : Sep (P :: L) w S) (hM : Mem w0 S0 F0 w S F) : ∃ S' F', Mem w0 S0 F0 w S' F' ∧ Sep L w S' ∧ P.ok w F' ∧ ∀ k, F k → F' k := by
  obtain ⟨A, R, h1, h2, h3, h4, h5⟩ := Sep.split (L1 := [P]) (L2 := L) h
  refine ⟨R, fun k => F k ∨ A k, ⟨hM.chg, fun k hk => hM.sub k (h5 k hk), fun k hk => hM.bd k (h5 k hk), fun k hk => hk.elim (hM.bdF k) fun hk => hM.bd k (h4 k hk),
    fun k hk hf => hf.elim (hM.dj k (h5 k hk)) fun hf => h3 k hf hk, hM.dj0, fun k hk => .inl (hM.fz k hk), fun k hk => hk.elim (hM.fsub k) fun hk => .inr (hM.sub k (h4 k hk))⟩, h2, ?_, fun _ h => .inl h⟩
  obtain ⟨B, g1, g2⟩ := h1.get 0 rfl
  exact P.mono g1 fun k _ hk => .inr (g2 k hk)
theorem SL.rv {α : Type} [Rep α] {E : TypeId} {v : Value} {l : List α} (h : (SL E v l).ok w F) : RV w F v l := by
  rcases h with ⟨go, h1⟩ | ⟨rfl, a, rfl⟩
  · exact h1.rv.sub fun k _ hk => hk.elim (fun hk => hk.2) fun hk => hk.elim
  · exact RV.mk_slice (l := ([] : List α)) (Nat.le_refl _) (Nat.zero_le _) fun h => absurd rfl h
end
end Go.GL
