/- Own library, part W: steps, with frame, memory and facts in one hypothesis. -/
import Derived.Test.YtdkfoghhjkjjlaaGLX
import Derived.Test.YtdkfoghhjkjjlaaGLn
import Derived.Test.YtdkfoghhjkjjlaaGLA
import Derived.Test.YtdkfoghhjkjjlaaGLE
set_option linter.unusedVariables false
namespace Go.GL
open Go.RowKit

section
variable {P : Program} {B : Bs} {N : Nat} {σ : List (Nat × Value)} {Γ : List HP} {Φ : List RF} {a : Act} {w : World} {Q : Exit → Act → World → Prop}
  {ops : Array Oper} {k d d2 d3 : Nat} {t t' s' ty ty' ty2 yt : TypeId} {pos pos' pos2 : String} {af af' af2 : Array Edge} {x y y' z : Operand} {kd kk : IntKind}

/-! values -/
/-- the number that an operand is, of whatever kind -/
def numOf : Option Value → Option Int
  | some (.int _ n) => some n
  | _ => none
theorem numOf_eq {o : Option Value} {n : Int} (h : numOf o = some n) : ∃ kd, o = some (.int kd n) := by
  unfold numOf at h
  split at h
  · rename_i kd m; exact ⟨kd, by rw [Option.some.inj h]⟩
  · cases h
theorem Eix {s : Str} {n r : Int} (c : Cx B N σ Γ Φ a w) (hz : sidx? s n = some r) (h : ∀ fr, Cx B N ((d, .int .u8 r) :: σ) Γ Φ fr w → wpFrom P ops Q (k + 1) fr w)
    (ho : ops[k]? = some ⟨some d, .index t x y, ty, pos, af, none⟩ := by rfl) (hd : Nat.blt d N = true := by rfl) (ht : P.underlying t = some .string := by kernel_rfl) (hx : opd σ x = some s.val := by kernel_rfl) (hy : opd σ y = some (.int kd n) := by kernel_rfl) : wpFrom P ops Q k a w :=
  s_index ht ho hd c.fr hx hy hz fun fr hF => h fr (c.to hF)
theorem Epk {b : Bool} {p : Operand} {v : Value} (c : Cx B N σ Γ Φ a w) (h : ∀ fr, Cx B N ((d, v) :: σ) Γ Φ fr w → wpFrom P ops Q (k + 1) fr w) (ho : ops[k]? = some ⟨some d, .pick p x y, ty, pos, af, none⟩ := by rfl) (hd : Nat.blt d N = true := by rfl)
    (hc : opd σ p = some (.bool b) := by kernel_rfl) (hv : opd σ (if b then x else y) = some v := by kernel_rfl) : wpFrom P ops Q k a w := from_pick ho hd c.fr hc hv fun fr hF => h fr (c.to hF)

/-! blocks -/
theorem Ebx (cs : List Value) (c : Cx B N σ Γ Φ a w) (h : ∀ b fr w', Cx B N ((d, .pointer (some ⟨b, 0, none⟩)) :: σ) (Γ ++ [BX b t cs]) Φ fr w' → wpFrom P ops Q (k + 1) fr w') (hv : (opd σ x).map (fun v => v.cells.toList) = some cs := by kernel_rfl)
    (ho : ops[k]? = some ⟨some d, .box t x, ty, pos, af, none⟩ := by rfl) (hd : Nat.blt d N = true := by rfl) : wpFrom P ops Q k a w := by
  obtain ⟨hF, S, F, hM, hs, hf⟩ := c
  cases hx : opd σ x with
  | none => rw [hx] at hv; cases hv
  | some v =>
    rw [hx] at hv
    exact q_box hs hM cs ho hd hF hx (by simpa using hv) fun b w' S' fr hs' hp hF' => h b fr w' ⟨hF', S', F, hM.stp hp, pick_append (Γ2 := [_]) hs', hf.chg hp.chg fun k hk hS => hM.dj k hS hk⟩
theorem Eal (cs : List Value) (c : Cx B N σ Γ Φ a w) (h : ∀ b fr w', Cx B N ((d, .pointer (some ⟨b, 0, none⟩)) :: σ) (Γ ++ [BX b t cs]) Φ fr w' → wpFrom P ops Q (k + 1) fr w') (ho : ops[k]? = some ⟨some d, .alloc t, ty, pos, af, none⟩ := by rfl) (hd : Nat.blt d N = true := by rfl)
    (hz : (P.info? t).map (fun i => i.zero.map fun z => z.cells.toList) = some (some cs) := by kernel_rfl) : wpFrom P ops Q k a w := by
  obtain ⟨hF, S, F, hM, hs, hf⟩ := c
  cases hi : P.info? t with
  | none => rw [hi] at hz; cases hz
  | some i =>
    rw [hi] at hz
    cases hzz : i.zero with
    | none => simp [hzz] at hz
    | some z =>
      simp only [Option.map_some, hzz, Option.some.injEq] at hz
      exact q_alloc (z := z) hs hM cs ho hd hF (by simp [hi, hzz]) hz fun b w' S' fr hs' hp hF' => h b fr w' ⟨hF', S', F, hM.stp hp, pick_append (Γ2 := [_]) hs', hf.chg hp.chg fun k hk hS => hM.dj k hS hk⟩
theorem Esb {b bt : Nat} {cs : List Value} (i n : Nat) (u : Value) (c : Cx B N σ Γ Φ a w) (h : ∀ w', Cx B N σ (Γ.set i (BX b bt (cs.set n u))) Φ a w' → wpFrom P ops Q (k + 1) a w') (hi : Γ[i]? = some (BX b bt cs) := by rfl) (ho : ops[k]? = some ⟨none, .store t x y, ty, pos, af, none⟩ := by rfl)
    (hn : Nat.blt n cs.length = true := by rfl) (h1 : u.oneCell' = true := by rfl) (ht : (P.info? t).map (·.size) = some 1 := by kernel_rfl) (hx : opd σ x = some (.pointer (some ⟨b, n, none⟩)) := by kernel_rfl) (hy : opd σ y = some u := by kernel_rfl) : wpFrom P ops Q k a w := by
  obtain ⟨hF, S, F, hM, hs, hf⟩ := c
  exact q_storeBox i hs hM hi (cs.set n u) ho hF hx hy ht hn h1 rfl fun w' S' hs' hp hF' => h w' ⟨hF', S', F, hM.stp hp, hs', hf.chg hp.chg fun k hk hS => hM.dj k hS hk⟩
theorem Ess {b bt : Nat} {cs : List Value} (i : Nat) (cs' : List Value) (c : Cx B N σ Γ Φ a w) (h : ∀ w', Cx B N σ (Γ.set i (BX b bt cs')) Φ a w' → wpFrom P ops Q (k + 1) a w') (hi : Γ[i]? = some (BX b bt cs) := by rfl) (ho : ops[k]? = some ⟨none, .store t x y, ty, pos, af, none⟩ := by rfl)
    (hl : cs'.length = cs.length := by rfl) (h1 : (cs'.all fun z => z.oneCell') = true := by rfl) (ht : (P.info? t).map (·.size) = some cs'.length := by kernel_rfl) (hx : opd σ x = some (.pointer (some ⟨b, 0, none⟩)) := by kernel_rfl) (hy : (opd σ y).map (fun v => v.cells.toList) = some cs' := by kernel_rfl) : wpFrom P ops Q k a w := by
  obtain ⟨hF, S, F, hM, hs, hf⟩ := c
  cases hx' : opd σ y with
  | none => rw [hx'] at hy; cases hy
  | some v =>
    rw [hx'] at hy
    exact q_storeBoxS i hs hM hi cs' ho hF hx hx' ht hl (by simpa using hy) h1 fun w' S' hs' hp hF' => h w' ⟨hF', S', F, hM.stp hp, hs', hf.chg hp.chg fun k hk hS => hM.dj k hS hk⟩

/-! slices -/
section
variable {α : Type} {E : TypeId} {v : Value} {l m r : List α}
theorem Eel [Flat α] {n : Int} {q : α} (c : Cx B N σ Γ Φ a w) (hl : Ava Γ Φ w (RO v l)) (hz : get? l n = some q) (h : ∀ p fr, Cx B N ((d2, Rep.val α (Flat.enc q)) :: (d, p) :: σ) Γ Φ fr w → wpFrom P ops Q (k + 2) fr w)
    (ho : ops[k]? = some ⟨some d, .indexAddr t x y, ty, pos, af, none⟩ := by rfl) (ho' : ops[k + 1]? = some ⟨some d2, .load t' (.tmp d), ty', pos', af', none⟩ := by rfl) (hd : Nat.blt d N = true := by rfl) (hd' : Nat.blt d2 N = true := by rfl)
    (he : Ty P t' α := by constructor <;> kernel_rfl) (ht : P.underlying t = some (.slice t') := by kernel_rfl) (hx : opd σ x = some v := by kernel_rfl) (hy : numOf (opd σ y) = some n := by kernel_rfl) : wpFrom P ops Q k a w := by
  obtain ⟨F, hl⟩ := c.use hl
  obtain ⟨kd, hy⟩ := numOf_eq hy
  exact s_elemF _ he ht ho ho' rfl hd hd' c.fr hx hl hy (get?_nn hz) (get?_at hz) rfl fun p fr hF => h p fr (c.to hF)
/-- an element with memory, of what is only read -/
theorem Eem [Rep α] {n : Int} {q : α} (c : Cx B N σ Γ Φ a w) (hl : Ava [] Φ w (RO v l)) (hz : get? l n = some q) (h : ∀ p u fr, Cx B N ((d2, u) :: (d, p) :: σ) Γ (Φ ++ [RO u q]) fr w → wpFrom P ops Q (k + 2) fr w)
    (ho : ops[k]? = some ⟨some d, .indexAddr t x y, ty, pos, af, none⟩ := by rfl) (ho' : ops[k + 1]? = some ⟨some d2, .load t' (.tmp d), ty', pos', af', none⟩ := by rfl) (hd : Nat.blt d N = true := by rfl) (hd' : Nat.blt d2 N = true := by rfl)
    (he : Ty P t' α := by constructor <;> kernel_rfl) (ht : P.underlying t = some (.slice t') := by kernel_rfl) (hx : opd σ x = some v := by kernel_rfl) (hy : numOf (opd σ y) = some n := by kernel_rfl) : wpFrom P ops Q k a w := by
  obtain ⟨hF, S, F, hM, hs, hf⟩ := c
  obtain ⟨kd, hy⟩ := numOf_eq hy
  have hl' := hl Non F (Sep.nil w Non) hf
  exact s_elem he ht ho ho' rfl hd hd' hF hx hl' hy (get?_nn hz) (get?_at hz) fun p u fr hr hF' => h p u fr ⟨hF', S, F, hM, hs, hf.add (RV.sub hr fun _ _ h => h.elim id fun h => h.elim)⟩
/-- a field of an element -/
theorem Eef [Rep α] {n : Int} {q : α} {u : Value} {fl off : Nat} (c : Cx B N σ Γ Φ a w) (hl : Ava Γ Φ w (RO v l)) (hz : get? l n = some q) (hu : ∀ {w : World} {F : Nat → Prop} {cs : List Value}, Rep.ok w F cs q → cs[off]? = some u)
    (h : ∀ p p2 fr, Cx B N ((d3, u) :: (d2, p2) :: (d, p) :: σ) Γ Φ fr w → wpFrom P ops Q (k + 3) fr w)
    (ho : ops[k]? = some ⟨some d, .indexAddr t x y, ty, pos, af, none⟩ := by rfl) (ho2 : ops[k + 1]? = some ⟨some d2, .fieldAddr s' (.tmp d) fl, ty2, pos2, af2, none⟩ := by rfl) (ho' : ops[k + 2]? = some ⟨some d3, .load t' (.tmp d2), ty', pos', af', none⟩ := by rfl)
    (hd : Nat.blt d N = true := by rfl) (hd2 : Nat.blt d2 N = true := by rfl) (hd3 : Nat.blt d3 N = true := by rfl) (he : Ty P s' α := by constructor <;> kernel_rfl) (ht : P.underlying t = some (.slice s') := by kernel_rfl) (hT : Ty P t' Int := by constructor <;> kernel_rfl)
    (hoff : fieldOff P s' fl = some off := by kernel_rfl) (hx : opd σ x = some v := by kernel_rfl) (hy : numOf (opd σ y) = some n := by kernel_rfl) : wpFrom P ops Q k a w := by
  obtain ⟨F, hl⟩ := c.use hl
  obtain ⟨kd, hy⟩ := numOf_eq hy
  refine from_val c.fr ho rfl rfl (Nat.blt_eq.mp hd) (does_index rfl ht he (opd_eval c.fr hx) hl (opd_eval c.fr hy) (get?_nn hz) (get?_at hz)) fun p w1 fr1 hpw hF1 => ?_
  obtain ⟨⟨ad, cs, rfl, hFb, hok, hc⟩, rfl⟩ := hpw
  have hp1 := hF1.get d (.pointer (some ad)) (by simp)
  refine from_val hF1 ho2 rfl rfl (Nat.blt_eq.mp hd2) (R := fun p w2 => p = .pointer (some (ad.add off)) ∧ w1 = w2) (does_value (pe_run (P := P) (ρ := fun y => match y with | .tmp s => if s = d then some (.pointer (some ad)) else none | _ => none) (fun y z hy => by
    split at hy
    · split at hy
      · rename_i hyd; subst hyd; rw [← Option.some.inj hy]; exact hp1
      · cases hy
    · cases hy) (by simp [pe, hoff]) w1) ⟨rfl, rfl⟩) fun p2 w2 fr2 hp2 hF2 => ?_
  obtain ⟨rfl, rfl⟩ := hp2
  have hc1 : Cells w1 (ad.add off) [u] := fun j q' hq => by
    cases j with
    | zero =>
      simp only [List.getElem?_cons_zero, Option.some.injEq] at hq; subst hq
      rw [add_add, Nat.add_zero]; exact hc off u (hu hok)
    | succ j => simp at hq
  refine from_val hF2 ho' rfl rfl (Nat.blt_eq.mp hd3) (R := fun z w3 => z = u ∧ w1 = w3) (does_value (v := u) (w' := w1) ?_ ⟨rfl, rfl⟩) fun z w3 fr3 hz3 hF3 => ?_
  · have hd1 := hF2.get d2 (.pointer (some (ad.add off))) (by simp)
    have := run_loadVar hT (cs := [u]) rfl hc1
    have hv : Rep.val Int [u] = u := rfl
    rw [hv] at this
    simp [execOp, Instr.loadAt, hd1, Instr.sureAddr, this]
  · obtain ⟨rfl, rfl⟩ := hz3
    exact h _ _ fr3 (c.to hF3)
/-- a part of what is only read -/
theorem Esl [Rep α] {lo hi : Option Operand} {m n : Int} (E : TypeId) (c : Cx B N σ Γ Φ a w) (hl : Ava [] Φ w (RO v l)) (hr : cut? l m n = some r) (h : ∀ u fr, Cx B N ((d, u) :: σ) Γ (Φ ++ [RO u r]) fr w → wpFrom P ops Q (k + 1) fr w)
    (ho : ops[k]? = some ⟨some d, .slice t x lo hi none, ty, pos, af, none⟩ := by rfl) (hd : Nat.blt d N = true := by rfl) (he : Ty P E α := by constructor <;> kernel_rfl) (ht : P.underlying t = some (.slice E) := by kernel_rfl) (hx : opd σ x = some v := by kernel_rfl)
    (hlo : (match lo with | none => some 0 | some y => numOf (opd σ y)) = some m := by kernel_rfl) (hhi : (match hi with | none => some (len l) | some y => numOf (opd σ y)) = some n := by kernel_rfl) : wpFrom P ops Q k a w := by
  obtain ⟨hF, S, F, hM, hs, hf⟩ := c
  have hl' := hl Non F (Sep.nil w Non) hf
  refine s_slice he ht ho hd hF hx hl' (m := m) (n := n) ?_ ?_ hr fun u fr hr hF' => h u fr ⟨hF', S, F, hM, hs, hf.add (RV.sub hr fun _ _ h => h.elim id fun h => h.elim)⟩
  · cases lo with
    | none => exact (Option.some.inj hlo).symm
    | some y => exact numOf_eq hlo
  · cases hi with
    | none => exact (Option.some.inj hhi).symm
    | some y => exact numOf_eq hhi
end
section
variable {α : Type} [Flat α] {E : TypeId} {v u : Value} {l m r : List α}
theorem Eset {n : Int} {q : α} (i : Nat) (c : Cx B N σ Γ Φ a w) (hr : set? l n q = some r) (h : ∀ p fr w', Cx B N ((d, p) :: σ) (Γ.set i (SL E v r)) Φ fr w' → wpFrom P ops Q (k + 2) fr w') (hi : Γ[i]? = some (SL E v l) := by rfl)
    (ho : ops[k]? = some ⟨some d, .indexAddr t x y, ty, pos, af, none⟩ := by rfl) (ho' : ops[k + 1]? = some ⟨none, .store t' (.tmp d) z, ty', pos', af', none⟩ := by rfl) (hte : t' = E := by rfl) (hd : Nat.blt d N = true := by rfl) (hz : z ≠ .tmp d := by simp)
    (he : Ty P E α := by constructor <;> kernel_rfl) (ht : P.underlying t = some (.slice E) := by kernel_rfl) (hx : opd σ x = some v := by kernel_rfl) (hy : numOf (opd σ y) = some n := by kernel_rfl) (hq : opd σ z = some (Rep.val α (Flat.enc q)) := by kernel_rfl) : wpFrom P ops Q k a w := by
  obtain ⟨hF, S, F, hM, hs, hf⟩ := c
  obtain ⟨kd, hy⟩ := numOf_eq hy
  exact q_set i hs hM hi ht he ho ho' hte hd hF hx hy hz hq rfl hr fun w' S' fr p hs' hp hF' => h p fr w' ⟨hF', S', F, hM.stp hp, hs', hf.chg hp.chg fun k hk hS => hM.dj k hS hk⟩
theorem Emk {n : Int} {zc : α} (E : TypeId) (c : Cx B N σ Γ Φ a w) (hr : mk? n zc = some r) (h : ∀ a' c' fr w', Cx B N ((d, .slice a' (List.length r) c') :: σ) (Γ ++ [SL E (.slice a' (List.length r) c') r]) Φ fr w' → wpFrom P ops Q (k + 1) fr w')
    (ho : ops[k]? = some ⟨some d, .makeSlice t x y, ty, pos, af, none⟩ := by rfl) (hd : Nat.blt d N = true := by rfl) (he : ElT P E α := by refine elT ?_; kernel_rfl) (ht : P.underlying t = some (.slice E) := by kernel_rfl)
    (hz : (P.info? E).map (fun i => i.zero.map fun z => z.cells.toList) = some (some (Flat.enc zc)) := by kernel_rfl) (hx : opd σ x = some (.int .i64 n) := by kernel_rfl) (hy : opd σ y = some (.int .i64 n) := by kernel_rfl) : wpFrom P ops Q k a w := by
  obtain ⟨hF, S, F, hM, hs, hf⟩ := c
  exact q_make hs hM ht he (zero_flat _ hz) ho hd hF hx hy hr fun a' c' w' S' fr hs' hp hF' => h a' c' fr w' ⟨hF', S', F, hM.stp hp, pick_append (Γ2 := [_]) hs', hf.chg hp.chg fun k hk hS => hM.dj k hS hk⟩
theorem Elt {n : Nat} {parts : Array (Nat × Operand)} (E : TypeId) (l : List α) (c : Cx B N σ Γ Φ a w) (h : ∀ a' c' fr w', Cx B N ((d, .slice a' (List.length l) c') :: σ) (Γ ++ [SL E (.slice a' (List.length l) c') l]) Φ fr w' → wpFrom P ops Q (k + 1) fr w')
    (ho : ops[k]? = some ⟨some d, .buildSlice t n parts, ty, pos, af, none⟩ := by rfl) (hd : Nat.blt d N = true := by rfl) (hln : l.length = n := by rfl) (hmax : Nat.ble l.length room = true := by rfl)
    (hv : parts.toList.map (fun p => opd σ p.2) = (l.map fun x => Rep.val α (Flat.enc x)).map some := by kernel_rfl)
    (hrun : ∀ w, (Instr.buildSlice t n ((parts.toList.map (·.1)).zip (l.map fun x => Rep.val α (Flat.enc x))).toArray).run P w = .ok (.slice (some ⟨w.heap.size, 0, none⟩) n n) (w.alloc (.cells (l.map Flat.enc).flatten.toArray E)) := by intro _; kernel_rfl) : wpFrom P ops Q k a w := by
  obtain ⟨hF, S, F, hM, hs, hf⟩ := c
  exact q_lit hs hM (l.map Flat.enc).flatten (l.map Flat.enc) l ho hd hF _ hv hrun (css_flat _) rfl hln hmax fun a' c' w' S' fr hs' hp hF' => h a' c' fr w' ⟨hF', S', F, hM.stp hp, pick_append (Γ2 := [_]) hs', hf.chg hp.chg fun k hk hS => hM.dj k hS hk⟩
theorem Eap (i : Nat) (c : Cx B N σ Γ Φ a w) (hu : Ava Γ Φ w (RO u m)) (hr : app? l m = some r) (h : ∀ a' c' fr w', Cx B N ((d, .slice a' (List.length r) c') :: σ) (Γ.set i (SL E (.slice a' (List.length r) c') r)) Φ fr w' → wpFrom P ops Q (k + 1) fr w') (hi : Γ[i]? = some (SL E v l) := by rfl)
    (ho : ops[k]? = some ⟨some d, .call ⟨.builtin .append, #[x, y], #[t, t']⟩, ty, pos, af, none⟩ := by rfl) (htt : t' = t := by rfl) (hd : Nat.blt d N = true := by rfl) (he : ElT P E α := by refine elT ?_; kernel_rfl) (ht : P.underlying t = some (.slice E) := by kernel_rfl)
    (hx : opd σ x = some v := by kernel_rfl) (hy : opd σ y = some u := by kernel_rfl) : wpFrom P ops Q k a w := by
  obtain ⟨F', hu⟩ := c.use hu
  obtain ⟨hF, S, F, hM, hs, hf⟩ := c
  exact q_append i hs hM hi ht he ho htt hd hF hx hy hu hr fun a' c' w' S' fr hs' hp hF' => h a' c' fr w' ⟨hF', S', F, hM.stp hp, hs', hf.chg hp.chg fun k hk hS => hM.dj k hS hk⟩
end

/-! maps -/
section
variable {K V : TypeId} {κ β : Type} [Flat κ] [Flat β] [DecidableEq κ] {T : MapT P K V κ β} {b : Nat} {m : List (κ × β)}
theorem Emm (T : MapT P K V κ β) (c : Cx B N σ Γ Φ a w) (h : ∀ b fr w', Cx B N ((d, .map (some b)) :: σ) (Γ ++ [MP T b []]) Φ fr w' → wpFrom P ops Q (k + 1) fr w') (ho : ops[k]? = some ⟨some d, .makeMap t none, ty, pos, af, none⟩ := by rfl) (hd : Nat.blt d N = true := by rfl)
    (hm : ∀ w, (Instr.makeMap t none).run P w = .ok (.map (some w.heap.size)) (w.alloc (.map #[] 0)) := by exact fun w => by simp [Instr.makeMap, run_newObj_alloc]) : wpFrom P ops Q k a w := by
  obtain ⟨hF, S, F, hM, hs, hf⟩ := c
  exact q_makeMap T hs hM hm ho hd hF fun b w' S' fr hs' hp hF' => h b fr w' ⟨hF', S', F, hM.stp hp, pick_append (Γ2 := [_]) hs', hf.chg hp.chg fun k hk hS => hM.dj k hS hk⟩
theorem Emp {q : κ} {e : β} {m' : List (κ × β)} {fit : κ → Bool} {efit : β → Bool} (i : Nat) (c : Cx B N σ Γ Φ a w) (hr : mputE? fit efit m q e = some m') (h : ∀ w', Cx B N σ (Γ.set i (MP T b m')) Φ a w' → wpFrom P ops Q (k + 1) a w') (hi : Γ[i]? = some (MP T b m) := by rfl) (hfit : T.fit = fit := by rfl) (hzz : T.efit = efit := by rfl)
    (ho : ops[k]? = some ⟨none, .mapUpdate t x y z, ty, pos, af, none⟩ := by rfl) (ht : P.underlying t = some (.map K V) := by kernel_rfl) (hx : opd σ x = some (.map (some b)) := by kernel_rfl) (hy : opd σ y = some (Rep.val κ (Flat.enc q)) := by kernel_rfl) (hz : opd σ z = some (Rep.val β (Flat.enc e)) := by kernel_rfl) : wpFrom P ops Q k a w := by
  obtain ⟨hF, S, F, hM, hs, hf⟩ := c
  subst hfit; subst hzz
  exact q_mapPut T i hs hM hi ht ho hF (u := q) (mputE?_fit hr) e (mputE?_efit hr) (mputE?_len hr) hx hy rfl hz rfl fun w' S' hs' hp hF' => h w' ⟨hF', S', F, hM.stp hp, by rw [mputE?_val hr]; exact hs', hf.chg hp.chg fun k hk hS => hM.dj k hS hk⟩
end
end
end Go.GL
