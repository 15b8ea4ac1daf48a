/- The plain laws of this claim. No program in sight. -/
import Derived.Test.YtmmhbhhcloobnaaDoorGLv
import Derived.Test.YtmmhbhhcloobnaaDoorDefs
namespace Go.Proofs.YtmmhbhhcloobnaaDoor
open Go.GL
/-- what is not too long -/
def small (x : D.State) : Prop := x.Regs.length ≤ 1048576 ∧ x.Mem.length ≤ 1048576 ∧ x.Stack.length ≤ 1048576 ∧ x.Out.length ≤ 1048576

/-- fuel that is enough -/
def fuel : Nat := 1048580
theorem lt_fuel {n : Nat} (h : n ≤ 1048576) : n < fuel := by unfold fuel; omega
theorem lt_fuel2 {n : Nat} (h : n ≤ 1048576) : n + 2 < fuel := by unfold fuel; omega
theorem eqIntS_eq {p q : List Int} (h : p.length ≤ 1048576) : laws_eqIntS fuel p q = some (decide (p = q)) := eq_slice (by omega) (lt_fuel h)
/-- a slice whose elements are all looked at -/
theorem all_loop {α : Type} {l : List α} {f : α → Option Bool} {b : α → Bool} (hf : ∀ x ∈ l, f x = some (b x)) (hb : l.length ≤ 9223372036854775807) : ∀ (d i : Nat), i + d = l.length → ∀ n, d < n →
    iterN (fun (s1 : Int) =>
      if (decide (s1 < (len l))) then
        (get? l s1).bind fun x1 =>
        (f x1).bind fun x2 =>
        if (!x2) then
          some (.inr (.inr false))
        else
          some (.inl ((w64 (s1 + 1))))
      else
        some (.inr (.inl ()))) n (i : Int) = some (if (l.drop i).all b then (.inl () : Unit ⊕ Bool) else .inr false)
  | 0, i, hi, n, hn => by
    obtain ⟨n, rfl⟩ : ∃ j, n = j + 1 := ⟨n - 1, by omega⟩
    unfold iterN
    rw [if_neg (by rw [len_nat]; simp; omega)]
    simp [List.drop_of_length_le (show l.length ≤ i by omega)]
  | d + 1, i, hi, n, hn => by
    obtain ⟨n, rfl⟩ : ∃ j, n = j + 1 := ⟨n - 1, by omega⟩
    have hp : i < l.length := by omega
    unfold iterN
    rw [if_pos (by rw [len_nat]; simp; omega), get?_nat, List.getElem?_eq_getElem hp]
    simp only [Option.bind_some]
    rw [hf _ (List.getElem_mem hp), List.drop_eq_getElem_cons hp]
    simp only [Option.bind_some, List.all_cons]
    by_cases h : b l[i] = true
    · rw [if_neg (by simp [h])]
      simp only
      rw [w64_id (by omega) (by omega), show ((i : Int) + 1) = ((i + 1 : Nat) : Int) by omega, all_loop hf hb d (i + 1) (by omega) n (by omega)]
      simp only [h, Bool.true_and]
    · rw [if_pos (by simp [h])]
      simp [h]

theorem shl_pow {w : Int} (h1 : 1 ≤ w) (h2 : w ≤ 16) : ∃ m : Int, shl? 1 w = some m ∧ shl? 1 (IntKind.u64.wrap w) = some m ∧ w64 (m - 1) = m - 1 := by
  have : w = 1 ∨ w = 2 ∨ w = 3 ∨ w = 4 ∨ w = 5 ∨ w = 6 ∨ w = 7 ∨ w = 8 ∨ w = 9 ∨ w = 10 ∨ w = 11 ∨ w = 12 ∨ w = 13 ∨ w = 14 ∨ w = 15 ∨ w = 16 := by omega
  rcases this with rfl | rfl | rfl | rfl | rfl | rfl | rfl | rfl | rfl | rfl | rfl | rfl | rfl | rfl | rfl | rfl <;> exact ⟨_, rfl, by decide, by decide⟩
theorem ite_def {c : Bool} {b : Bool} : (if c = true then some b else some default) = some (if c = true then b else default) := by split <;> rfl

theorem ite_def2 {c : Bool} {b : Bool} : (if c = true then some default else some b) = some (if c = true then default else b) := by split <;> rfl
theorem all_end {c : Bool} : ((some (if c = true then (.inl () : Unit ⊕ Bool) else .inr false)).bind fun (rl1 : (Unit) ⊕ Bool) => match rl1 with | .inl _ => some true | .inr v => some v) = some c := by
  cases c <;> rfl
def placeB (x : D.Program) (v : Int) : Bool := decide (0 ≤ v) && decide (v ≤ (x.Code.length : Int))
theorem spec_place (x : D.Program) (v : Int) : spec_l01In v 0 (len x.Code) = some (placeB x v) := rfl
/-! marks -/
def upI (k : Int) (L : Nat) : List Int := (List.range L).map fun (j : Nat) => k + (j : Int)
theorem upI_len (k : Int) (L : Nat) : (upI k L).length = L := by simp [upI]
theorem upI_get {k : Int} {L i : Nat} (h : i < L) : (upI k L)[i]? = some (k + (i : Int)) := by simp [upI, h]
theorem markIntS_eq {p : List Int} {k : Int} (hk : 0 ≤ k) (hb : k ≤ 4000000000000) (hp : p.length ≤ 1048576) : laws_markIntS fuel p k = some (k + p.length, upI k p.length) := by
  unfold laws_markIntS
  rw [iterN_up (I := fun i s => s = (k + (i : Int), (i : Int), pre (fun (j : Nat) => k + (j : Int)) p i)) (m := p.length) (r := (k + (p.length : Int), upI k p.length)) (fun i s hi hs => ?_) (fun s hs => ?_) p.length 0 _ (by omega) (by simp [pre_zero]) fuel (lt_fuel hp)]
  · rfl
  · subst hs
    refine ⟨_, ?_, rfl⟩
    simp only
    rw [if_pos (by rw [len_nat]; simp; omega), set?_nat (by rw [pre_len (by omega)]; exact hi), pre_set hi]
    simp only [Option.bind_some]
    rw [w64_id (by omega) (by omega), w64_id (by omega) (by omega)]
    simp only [Option.some.injEq, Sum.inl.injEq, Prod.mk.injEq, and_true]
    omega
  · subst hs
    simp only
    rw [if_neg (by rw [len_nat]; simp), pre_all]
    rfl
theorem heldIntS_eq {L : Nat} {k : Int} (hk : 0 ≤ k) (hb : k ≤ 4000000000000) (hp : L ≤ 1048576) : laws_heldIntS fuel (upI k L) k = some (k + L) := by
  unfold laws_heldIntS
  rw [iterN_up (I := fun i s => s = (k + (i : Int), (i : Int))) (m := L) (r := .inl (k + (L : Int))) (fun i s hi hs => ?_) (fun s hs => ?_) L 0 _ (by omega) (by simp) fuel (lt_fuel hp)]
  · rfl
  · subst hs
    refine ⟨_, ?_, rfl⟩
    simp only
    rw [if_pos (by rw [len_nat, upI_len]; simp; omega), get?_nat, upI_get hi]
    simp only [Option.bind_some]
    rw [if_neg (by simp), w64_id (by omega) (by omega), w64_id (by omega) (by omega)]
    simp only [Option.some.injEq, Sum.inl.injEq, Prod.mk.injEq]
    omega
  · subst hs
    simp only
    rw [if_neg (by rw [len_nat, upI_len]; simp)]
/-! the first state -/
def st0 : D.State := ⟨0, [], [], [], 0, [], 0, 0⟩
def new0 (x : D.Program) : D.State := ⟨0, List.replicate 4 0, List.replicate x.Mem.toNat 0, [], 0, [], 0, 0⟩
theorem mk4 : mk? 4 (0 : Int) = some (List.replicate 4 0) := rfl
end Go.Proofs.YtmmhbhhcloobnaaDoor
