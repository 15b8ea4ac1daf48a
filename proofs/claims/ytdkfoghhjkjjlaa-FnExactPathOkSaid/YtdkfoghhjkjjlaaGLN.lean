/- Own library, part N: own slices whose elements hold what is only read. -/
import Derived.Test.YtdkfoghhjkjjlaaGLR
set_option linter.unusedVariables false
namespace Go.GL
open Go.RowKit

section
variable {ρ α : Type} [Flat ρ] [Rep α] [RawOf ρ α] {w : World} {F : Nat → Prop} {v : Value}
omit [RawOf ρ α] in
theorem val_inj {cs cs' : List Value} (ha : Rep.agg ρ = Rep.agg α) (hs : Rep.sz ρ = Rep.sz α) (hl : cs.length = Rep.sz ρ) (hl' : cs'.length = Rep.sz α) (h : Rep.val ρ cs = Rep.val α cs') : cs = cs' := by
  unfold Rep.val at h
  rw [← ha] at h
  cases hb : Rep.agg ρ with
  | true =>
    rw [hb] at h
    simp only [if_true, Value.agg.injEq] at h
    simpa using congrArg Array.toList h
  | false =>
    rw [hb] at h
    have h1 := Rep.sgl hb
    simp only [Bool.false_eq_true, if_false] at h
    cases cs with
    | nil => simp [h1] at hl
    | cons u us =>
      cases cs' with
      | nil => rw [← hs, h1] at hl'; simp at hl'
      | cons u' us' =>
        rw [h1] at hl; rw [← hs, h1] at hl'
        simp only [List.length_cons, Nat.add_eq_right, List.length_eq_zero_iff] at hl hl'
        subst hl; subst hl'
        simpa using h
theorem raw_ok {q : ρ} {x : α} (h : RV w F (Rep.val ρ (Flat.enc q)) x) : Rep.ok w F (Flat.enc q) x := by
  obtain ⟨cs, h1, h2⟩ := h
  have := val_inj (ρ := ρ) (α := α) (RawOf.agg) (RawOf.sz) (Rep.len (w := w) (F := F) (Flat.iff.2 rfl : Rep.ok w F (Flat.enc q) q)) (Rep.len h1) h2
  rw [this]; exact h1
theorem elems_raw {ad : Addr} : ∀ {rs : List ρ} {xs : List α} {i : Nat}, elems w F ad i rs → Css w F (rs.map Flat.enc) xs → elems w F ad i xs
  | [], [], _, _, _ => trivial
  | [], x :: xs, _, _, h => by have := h.1; simp at this
  | q :: rs, [], _, _, h => by have := h.1; simp at this
  | q :: rs, x :: xs, i, h, hc => by
    obtain ⟨⟨cs, h1, h2⟩, h3⟩ := h
    obtain rfl := Flat.iff.1 h1
    refine ⟨⟨_, hc.2 0 _ _ rfl rfl, by rw [← RawOf.sz (ρ := ρ) (α := α)]; exact h2⟩, elems_raw h3 ⟨by simpa using hc.1, fun j cs y hj hy => hc.2 (j + 1) cs y (by simpa using hj) (by simpa using hy)⟩⟩
theorem list_raw {rs : List ρ} {xs : List α} (h : RV w F v rs) (hc : Css w F (rs.map Flat.enc) xs) : RV w F v xs := by
  obtain ⟨a, cp, rfl, h1, h2, h3⟩ := RV.slice h
  have hl : rs.length = xs.length := by simpa using hc.1
  rw [hl]
  refine RV.mk_slice (by omega) h2 fun hn => ?_
  obtain ⟨ad, rfl, hF, he⟩ := h3 (by rintro rfl; exact hn (List.length_eq_zero_iff.1 hl.symm))
  exact ⟨ad, rfl, hF, elems_raw he hc⟩
omit [RawOf ρ α] in
theorem css_set {rs : List ρ} {xs : List α} {n : Nat} {q : ρ} {x : α} (hc : Css w F (rs.map Flat.enc) xs) (hq : Rep.ok w F (Flat.enc q) x) : Css w F ((rs.set n q).map Flat.enc) (xs.set n x) := by
  refine ⟨by simpa using hc.1, fun i cs y hi hy => ?_⟩
  rw [List.getElem?_map, List.getElem?_set] at hi
  rw [List.getElem?_set] at hy
  have hl : rs.length = xs.length := by simpa using hc.1
  by_cases e : n = i
  · subst e
    by_cases hlt : n < rs.length
    · simp only [if_true, hlt, Option.map_some, Option.some.injEq] at hi
      rw [hl] at hlt
      simp only [if_true, hlt, Option.some.injEq] at hy
      subst hi; subst hy; exact hq
    · simp [hlt] at hi
  · rw [if_neg e] at hi hy
    exact hc.2 i cs y (by rw [List.getElem?_map]; exact hi) hy
omit [RawOf ρ α] in
theorem css_rep {n : Nat} {q : ρ} {x : α} (hq : Rep.ok w F (Flat.enc q) x) : Css w F ((List.replicate n q).map Flat.enc) (List.replicate n x) :=
  ⟨by simp, fun i cs y hi hy => by
    rw [List.getElem?_map, List.getElem?_replicate] at hi
    rw [List.getElem?_replicate] at hy
    split at hi
    · rename_i h; rw [if_pos h] at hy
      simp only [Option.map_some, Option.some.injEq] at hi hy
      subst hi; subst hy; exact hq
    · cases hi⟩
end

section
variable {ρ α : Type} [Flat ρ] [Rep α]
/-- the raw values of a literal's elements -/
def LitA (Φ : List RF) (w : World) : List ρ → List α → Prop
  | [], [] => True
  | q :: rs, x :: xs => Ava [] Φ w (RO (Rep.val ρ (Flat.enc q)) x) ∧ LitA Φ w rs xs
  | _, _ => False
theorem LitA.css [RawOf ρ α] {Φ : List RF} {w : World} {F : Nat → Prop} (hf : AllF Φ w F) : ∀ {rs : List ρ} {xs : List α}, LitA Φ w rs xs → Css w F (rs.map Flat.enc) xs
  | [], [], _ => ⟨rfl, fun i cs x h => by simp at h⟩
  | [], _ :: _, h => h.elim
  | _ :: _, [], h => h.elim
  | q :: rs, x :: xs, h => by
    have h2 := LitA.css hf h.2
    refine ⟨by simpa using h2.1, fun i cs y hi hy => ?_⟩
    cases i with
    | zero => simp only [List.map_cons, List.getElem?_cons_zero, Option.some.injEq] at hi hy; subst hi; subst hy; exact raw_ok (h.1.ro hf)
    | succ i => exact h2.2 i cs y (by simpa using hi) (by simpa using hy)

variable {P : Program} {B : Bs} {N : Nat} {σ : List (Nat × Value)} {Γ : List HP} {Φ : List RF} {a : Act} {w : World} {Q : Exit → Act → World → Prop}
  {ops : Array Oper} {k d d2 : Nat} {t t' ty ty' : TypeId} {pos pos' : String} {af af' : Array Edge} {x y z : Operand} {E : TypeId} {v u : Value} {rs : List ρ} {xs ms r : List α}
theorem Ava.gr [RawOf ρ α] (i j : Nat) (hi : Γ[i]? = some (SL E v rs) := by rfl) (hj : Φ[j]? = some (CS rs xs) := by rfl) : Ava Γ Φ w (RO v xs) := fun S F hs hf => by
  have h1 := RV.sub (F' := fun k => F k ∨ S k) (hs.rv i hi) fun _ _ h => .inr h
  have h2 := (CS rs xs).sub (F' := fun k => F k ∨ S k) (hf.get hj) fun _ _ h => .inl h
  exact list_raw h1 h2
theorem Cx.relenr {b : Option Addr} {n cp : Nat} (i j : Nat) (c : Cx B N σ Γ Φ a w) (hi : Γ[i]? = some (SL E (.slice b n cp) rs) := by rfl) (hj : Φ[j]? = some (CS rs xs) := by rfl) : n = xs.length ∧ Cx B N σ (Γ.set i (SL E (.slice b xs.length cp) rs)) Φ a w := by
  obtain ⟨he, c⟩ := c.relen i hi
  obtain ⟨F, h⟩ := c.use (Ava.f j hj)
  have hl : rs.length = xs.length := by simpa using h.1
  rw [hl] at c
  exact ⟨he.trans hl, c⟩
theorem Cx.fzr [RawOf ρ α] (i j : Nat) (c : Cx B N σ Γ Φ a w) (hi : Γ[i]? = some (SL E v rs) := by rfl) (hj : Φ[j]? = some (CS rs xs) := by rfl) : Cx B N σ (rest [i] Γ) (Φ ++ [RO v xs]) a w := by
  obtain ⟨h, S, F, h1, h2, h3⟩ := c
  have hp := h2.part [i] (Γ1 := [SL E v rs]) (by simp [hi]) (by simp)
  obtain ⟨S', F', hM, hs, hr, hfz⟩ := Sep.freeze (L := rest [i] Γ) hp h1
  have h3' := h3.sub (F' := F') fun k _ hk => hfz k hk
  exact ⟨h, S', F', hM, hs, h3'.add (list_raw (SL.rv hr) (h3'.get hj))⟩
theorem Emkr {n : Int} {zx : α} (E : TypeId) (zr : ρ) (hzr : ∀ (w : World) (F : Nat → Prop), Rep.ok w F (Flat.enc zr) zx) (c : Cx B N σ Γ Φ a w) (hr : mk? n zx = some r)
    (h : ∀ a' c' fr w', Cx B N ((d, .slice a' r.length c') :: σ) (Γ ++ [SL E (.slice a' r.length c') (List.replicate r.length zr)]) (Φ ++ [CS (List.replicate r.length zr) r]) fr w' → wpFrom P ops Q (k + 1) fr w')
    (ho : ops[k]? = some ⟨some d, .makeSlice t x y, ty, pos, af, none⟩ := by rfl) (hd : Nat.blt d N = true := by rfl) (he : ElT P E ρ := by refine elT ?_; kernel_rfl) (ht : P.underlying t = some (.slice E) := by kernel_rfl)
    (hz : (P.info? E).map (fun i => i.zero.map fun z => z.cells.toList) = some (some (Flat.enc zr)) := by kernel_rfl) (hx : opd σ x = some (.int .i64 n) := by kernel_rfl) (hy : opd σ y = some (.int .i64 n) := by kernel_rfl) : wpFrom P ops Q k a w := by
  obtain ⟨h1, h2⟩ := mk?_raw (z' := zr) hr
  refine Emk (r := List.replicate r.length zr) E c h1 (fun a' c' fr w' c => ?_) ho hd he ht hz hx hy
  have c := c.fad (Rf := CS (List.replicate r.length zr) r) fun F _ => by
    have := css_rep (n := r.length) (hzr w' F)
    rw [← h2] at this; exact this
  simp only [List.length_replicate] at c
  exact h a' c' fr w' c
theorem Esetr [RawOf ρ α] {n : Int} {q : ρ} {e : α} (i j : Nat) (c : Cx B N σ Γ Φ a w) (hx : Ava [] Φ w (RO (Rep.val ρ (Flat.enc q)) e)) (hr : set? xs n e = some r)
    (h : ∀ p fr w', Cx B N ((d, p) :: σ) (Γ.set i (SL E v (rs.set n.toNat q))) (Φ ++ [CS (rs.set n.toNat q) r]) fr w' → wpFrom P ops Q (k + 2) fr w') (hi : Γ[i]? = some (SL E v rs) := by rfl) (hj : Φ[j]? = some (CS rs xs) := by rfl)
    (ho : ops[k]? = some ⟨some d, .indexAddr t x y, ty, pos, af, none⟩ := by rfl) (ho' : ops[k + 1]? = some ⟨none, .store t' (.tmp d) z, ty', pos', af', none⟩ := by rfl) (hte : t' = E := by rfl) (hd : Nat.blt d N = true := by rfl) (hz : z ≠ .tmp d := by simp)
    (he : Ty P E ρ := by constructor <;> kernel_rfl) (ht : P.underlying t = some (.slice E) := by kernel_rfl) (hxv : opd σ x = some v := by kernel_rfl) (hy : numOf (opd σ y) = some n := by kernel_rfl) (hq : opd σ z = some (Rep.val ρ (Flat.enc q)) := by kernel_rfl) : wpFrom P ops Q k a w := by
  obtain ⟨F0, h0⟩ := c.use (Ava.f j hj)
  have hl : rs.length = xs.length := by simpa using h0.1
  obtain ⟨h1, h2, h3⟩ := set?_raw q hr hl
  have c := c.fad (Rf := CS (rs.set n.toNat q) r) fun F hf => by
    rw [h2]; exact css_set (hf.get hj) (raw_ok (hx.ro hf))
  exact Eset i c h1 h hi ho ho' hte hd hz he ht hxv hy hq
end
end Go.GL
