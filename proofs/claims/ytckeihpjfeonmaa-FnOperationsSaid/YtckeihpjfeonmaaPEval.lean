/- The plain law of this claim. No program in sight. -/
import Derived.Test.YtckeihpjfeonmaaPlain
namespace Go.Proofs.Ytckeihpjfeonmaa
open Go.GL
def litV (l : List Bool) (a : Int) : Bool := if a < 0 then !((l[(iab a - 1).toNat]?).getD false) else (l[(iab a - 1).toNat]?).getD false
def stepV (l : List Bool) (g : D.Gate) : List Bool := l ++ [litV l g.A && litV l g.B]
theorem get_lit {l : List Bool} {a : Int} (h1 : 1 ≤ iab a) (h2 : iab a ≤ l.length) : ∃ v, l[(iab a - 1).toNat]? = some v ∧ litV l a = if a < 0 then !v else v := by
  have hlt : (iab a - 1).toNat < l.length := by omega
  refine ⟨l[(iab a - 1).toNat], List.getElem?_eq_getElem hlt, ?_⟩
  unfold litV
  rw [List.getElem?_eq_getElem hlt]; rfl
theorem impl_lit {l : List Bool} {a : Int} (hl : l.length ≤ 1048576) (h1 : 1 ≤ iab a) (h2 : iab a ≤ l.length) : impl_litTrue l a = some (litV l a) := by
  obtain ⟨v, hv, he⟩ := get_lit h1 h2
  unfold impl_litTrue
  by_cases c : a < 0
  · have e : iab a = -a := by unfold iab; rw [if_pos c]
    rw [e] at h1 h2 hv
    rw [if_pos (by simpa using c), w64_id (x := 0 - a) (by omega) (by omega), w64_id (by omega) (by omega), show 0 - a - 1 = (((-a - 1).toNat : Nat) : Int) by omega, get?_nat, hv, he, if_pos c]
    rfl
  · have e : iab a = a := by unfold iab; rw [if_neg c]
    rw [e] at h1 h2 hv
    rw [if_neg (by simpa using c), w64_id (by omega) (by omega), show a - 1 = (((a - 1).toNat : Nat) : Int) by omega, get?_nat, hv, he, if_neg c]
    rfl
def outV' (x : D.Circuit) (l : List Bool) (k : Nat) : List Bool := (x.Gates.take k).foldl stepV ([true] ++ l)
theorem fold_len (gs : List D.Gate) (l : List Bool) : (gs.foldl stepV l).length = l.length + gs.length := by
  induction gs generalizing l with
  | nil => simp
  | cons g gs ih => rw [List.foldl_cons, ih]; simp [stepV]; omega
theorem outV_len {x : D.Circuit} {l : List Bool} {k : Nat} (h : k ≤ x.Gates.length) : (outV' x l k).length = 1 + l.length + k := by
  unfold outV'; rw [fold_len]; simp; omega
theorem outV_succ {x : D.Circuit} {l : List Bool} {k : Nat} (h : k < x.Gates.length) : outV' x l (k + 1) = stepV (outV' x l k) x.Gates[k] := by
  unfold outV'; rw [List.take_succ_eq_append_getElem h, List.foldl_append]; rfl
theorem gate_of {x : D.Circuit} (h : circB2 x = true) {k : Nat} (hk : k < x.Gates.length) : 0 ≤ x.Inputs ∧ x.Inputs ≤ 30 ∧ x.Gates.length ≤ 360 ∧ 1 ≤ iab x.Gates[k].A ∧ iab x.Gates[k].A ≤ x.Inputs + 1 + k ∧ 1 ≤ iab x.Gates[k].B ∧ iab x.Gates[k].B ≤ x.Inputs + 1 + k := by
  unfold circB2 at h
  simp only [Bool.and_eq_true, decide_eq_true_eq, List.all_eq_true] at h
  obtain ⟨⟨h1, h2⟩, h3⟩ := h
  have hg := h3 k (by simp [List.mem_range'_1]; omega)
  unfold gateAt at hg
  rw [List.getElem?_eq_getElem hk] at hg
  simp only at hg
  unfold gateB at hg
  have hlt : (x.Gates.take k).length = k := by simp; omega
  rw [hlt] at hg
  simp only [Bool.and_eq_true, decide_eq_true_eq] at hg
  obtain ⟨⟨⟨⟨a1, a2⟩, a3⟩, a4⟩, -⟩ := hg
  refine ⟨h1.1, h1.2, by omega, by omega, ?_, by omega, ?_⟩
  · unfold iab; split <;> omega
  · unfold iab; split <;> omega

def evalB (x : D.Circuit) (l : List Bool) : List Bool := if circB2 x && (len l == x.Inputs) then outV' x l x.Gates.length else []
theorem impl_eval {x : D.Circuit} {l : List Bool} (hx : fit_Circuit x) (hl : x.Gates.length ≤ 1048576) (hl2 : l.length ≤ 1048576) : impl_EvalCircuit fuel x l = some (evalB x l) := by
  unfold impl_EvalCircuit evalB
  rw [impl_circ hx hl]
  simp only [Option.bind_some]
  by_cases c : circB2 x = true ∧ len l = x.Inputs
  · obtain ⟨c1, c2⟩ := c
    rw [if_neg (by simp [c1, c2]), if_pos (by simp [c1, c2])]
    have happ : app? [true] l = some ([true] ++ l) := by
      unfold app?; rw [if_pos (by simp; unfold room; omega)]
    rw [happ]
    simp only [Option.bind_some]
    rw [iterN_up (I := fun k s => s = ((k : Int), outV' x l k)) (m := x.Gates.length) (r := outV' x l x.Gates.length) (fun k s hk hs => ?_) (fun s hs => ?_) x.Gates.length 0 _ (by omega) (by simp [outV']) fuel (lt_fuel hl)]
    · rfl
    all_goals subst hs
    · refine ⟨(((k + 1 : Nat) : Int), outV' x l (k + 1)), ?_, rfl⟩
      obtain ⟨b1, b2, b3, b4, b5, b6, b7⟩ := gate_of c1 hk
      have hlen := outV_len (x := x) (l := l) (k := k) (by omega)
      rw [len_nat] at c2
      rw [outV_succ hk]
      simp only
      rw [if_pos (by rw [len_nat]; simp; omega), get?_nat, List.getElem?_eq_getElem hk]
      simp only [Option.bind_some]
      rw [impl_lit (by omega) b4 (by omega), impl_lit (by omega) b6 (by omega)]
      have happ2 : ∀ b, app? (outV' x l k) [b] = some (outV' x l k ++ [b]) := by
        intro b; unfold app?; rw [if_pos (by simp; unfold room; omega)]
      unfold stepV
      rw [w64_id (by omega) (by omega)]
      cases h1 : litV (outV' x l k) x.Gates[k].A <;> simp [happ2]
    · simp only
      rw [if_neg (by rw [len_nat]; simp)]
  · have hc : (circB2 x && (len l == x.Inputs)) = false := by
      cases h1 : circB2 x <;> simp_all
    rw [hc, if_pos]
    · rfl
    · cases h1 : circB2 x <;> simp_all
theorem eval_len {x : D.Circuit} {l : List Bool} : (evalB x l).length ≤ 1048576 := by
  unfold evalB
  split
  · rename_i h
    rw [outV_len (Nat.le_refl _)]
    rw [Bool.and_eq_true, beq_iff_eq, len_nat] at h
    have h1 := h.1
    unfold circB2 at h1
    simp only [Bool.and_eq_true, decide_eq_true_eq] at h1
    omega
  · simp

end Go.Proofs.Ytckeihpjfeonmaa
