/- The plain laws of this claim. No program in sight. -/
import Derived.Test.YtfccdlggophhoaaGLv
import Derived.Test.YtfccdlggophhoaaDefs
namespace Go.Proofs.Ytfccdlggophhoaa
open Go.GL

theorem szIntS_eq {l : List Int} {m : Int} (hl : l.length ≤ 9223372036854775807) (h0 : 0 ≤ m) (h1 : m ≤ 1048576) : laws_szIntS l m = some (if m - l.length < 0 then -1 else m - l.length) := by
  unfold laws_szIntS
  rw [len_nat, w64_id (by omega) (by omega)]
  by_cases h : m - (l.length : Int) < 0
  · rw [if_pos (by simpa using h), if_pos h]
  · rw [if_neg (by simpa using h), if_neg h]

/-- what is not too long -/
def small (x : D.State) : Prop := x.Regs.length ≤ 1048576 ∧ x.Mem.length ≤ 1048576 ∧ x.Stack.length ≤ 1048576 ∧ x.Out.length ≤ 1048576

theorem szState_eq {x : D.State} {m : Int} (hx : fit_State x) (h0 : 0 ≤ m) (h1 : m ≤ 1048576) : ∃ r, laws_szState x m = some r ∧ (r < 0 ∨ 0 ≤ r ∧ r ≤ 1048576 ∧ small x) := by
  obtain ⟨-, ⟨hr, -⟩, ⟨hm, -⟩, ⟨hs, -⟩, -, ⟨ho, -⟩, -⟩ := hx
  unfold laws_szState
  rw [szIntS_eq hr h0 h1]
  simp only [Option.bind_some]
  by_cases c1 : m - (x.Regs.length : Int) < 0
  · rw [if_pos c1]; exact ⟨_, rfl, .inl (by omega)⟩
  rw [if_neg c1, if_neg (by simpa using c1), szIntS_eq hm (by omega) (by omega)]
  simp only [Option.bind_some]
  by_cases c2 : m - (x.Regs.length : Int) - (x.Mem.length : Int) < 0
  · rw [if_pos c2]; exact ⟨_, rfl, .inl (by omega)⟩
  rw [if_neg c2, if_neg (by simpa using c2), szIntS_eq hs (by omega) (by omega)]
  simp only [Option.bind_some]
  by_cases c3 : m - (x.Regs.length : Int) - (x.Mem.length : Int) - (x.Stack.length : Int) < 0
  · rw [if_pos c3]; exact ⟨_, rfl, .inl (by omega)⟩
  rw [if_neg c3, if_neg (by simpa using c3), szIntS_eq ho (by omega) (by omega)]
  simp only [Option.bind_some]
  by_cases c4 : m - (x.Regs.length : Int) - (x.Mem.length : Int) - (x.Stack.length : Int) - (x.Out.length : Int) < 0
  · rw [if_pos c4]; exact ⟨_, rfl, .inl (by omega)⟩
  rw [if_neg c4, if_neg (by simpa using c4)]
  exact ⟨_, rfl, .inr ⟨by omega, by omega, by omega, by omega, by omega, by omega⟩⟩

/-- fuel that is enough -/
def fuel : Nat := 1048577
theorem lt_fuel {n : Nat} (h : n ≤ 1048576) : n < fuel := by unfold fuel; omega
theorem toIntS_eq {l : List Int} (h : l.length ≤ 1048576) : laws_toIntS fuel l = some l := by
  unfold laws_toIntS
  rw [mk?_len (by unfold room; omega)]
  simp only [Option.bind_some]
  rw [copy_loop (by omega) (lt_fuel h)]
  rfl
theorem toState_eq {x : D.State} (h : small x) : laws_toState fuel x = some x := by
  obtain ⟨h1, h2, h3, h4⟩ := h
  unfold laws_toState
  rw [toIntS_eq h1, toIntS_eq h2, toIntS_eq h3, toIntS_eq h4]
  rfl
theorem l05Ints_eq {p q : List Int} (h : p.length ≤ 1048576) : spec_l05Ints fuel p q = some (decide (p = q)) := eq_slice (by omega) (lt_fuel h)
theorem sEqual_eq {p q : List Int} (h : p.length ≤ 1048576) : slices_Equal___int_int_ fuel p q = some (decide (p = q)) := eq_slice (by omega) (lt_fuel h)
theorem eqIntS_eq {p q : List Int} (h : p.length ≤ 1048576) : laws_eqIntS fuel p q = some (decide (p = q)) := eq_slice (by omega) (lt_fuel h)
theorem eqState_refl {x : D.State} (h : small x) : laws_eqState fuel x x = some true := by
  obtain ⟨h1, h2, h3, h4⟩ := h
  unfold laws_eqState
  rw [eqIntS_eq h1, eqIntS_eq h2, eqIntS_eq h3, eqIntS_eq h4]
  simp
theorem SameRun_eq {x y : D.State} (h : small x) : impl_SameRun fuel x y = spec_SameRun fuel x y := by
  unfold impl_SameRun spec_SameRun
  rw [sEqual_eq h.2.2.2, l05Ints_eq h.2.2.2]
theorem SameRun_some {x y : D.State} (h : small x) : ∃ r, spec_SameRun fuel x y = some r := by
  unfold spec_SameRun
  rw [l05Ints_eq h.2.2.2]
  by_cases c : (x.Code == y.Code) = true <;> simp [c]

theorem fin_FnExactSameRun (x : D.State) (hx : fit_State x) (y : D.State) (hy : fit_State y) : ∃ n, laws_FnExactSameRun n x y = some true := by
  refine ⟨fuel, ?_⟩
  obtain ⟨r1, h1, c1⟩ := szState_eq (m := 1048576) hx (by omega) (by omega)
  unfold laws_FnExactSameRun
  rw [h1]
  simp only [Option.bind_some]
  rcases c1 with c1 | ⟨c1, c1', s1⟩
  · rw [if_pos (by simpa using c1)]
  rw [if_neg (by simp; omega)]
  obtain ⟨r2, h2, c2⟩ := szState_eq (m := r1) hy c1 c1'
  rw [h2]
  simp only [Option.bind_some]
  rcases c2 with c2 | ⟨c2, c2', s2⟩
  · rw [if_pos (by simpa using c2)]
  rw [if_neg (by simp; omega)]
  obtain ⟨r, hr⟩ := SameRun_some (x := x) (y := y) s1
  simp only [toState_eq s1, toState_eq s2, Option.bind_some, SameRun_eq s1, hr, eqState_refl s1, eqState_refl s2]
  simp
end Go.Proofs.Ytfccdlggophhoaa
