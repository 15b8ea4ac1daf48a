/- The plain laws of small clauses. No program in sight. -/
import Derived.Test.YtknlknnihinmjaaPGates
namespace Go.Proofs.Ytknlknnihinmjaa
open Go.GL
theorem j0 : w64 0 = 0 := by decide
theorem j1 : w64 1 = 1 := by decide
theorem j2 : w64 2 = 2 := by decide
theorem j3 : w64 3 = 3 := by decide
theorem cmpv {x y : Int} (hx : litN 391 x = true) (hy : litN 391 y = true) (h : iab x < iab y) : impl_MakeClause_1 x y = some (-1) := by
  unfold impl_MakeClause_1
  obtain ⟨fx, fx'⟩ := lit_fit hx (Int.le_refl _)
  obtain ⟨fy, fy'⟩ := lit_fit hy (Int.le_refl _)
  rw [impl_var fx fx', impl_var fy fy']
  simp [cmp_Compare_int_, cmp_isNaN_int_, h]
theorem cmpv' {x y : Int} (hx : litN 391 x = true) (hy : litN 391 y = true) (h : iab y < iab x) : impl_MakeClause_1 x y = some 1 := by
  unfold impl_MakeClause_1
  obtain ⟨fx, fx'⟩ := lit_fit hx (Int.le_refl _)
  obtain ⟨fy, fy'⟩ := lit_fit hy (Int.le_refl _)
  rw [impl_var fx fx', impl_var fy fy']
  have h2 : ¬ iab x < iab y := by omega
  simp [cmp_Compare_int_, cmp_isNaN_int_, h, h2]
theorem insC2 (n : Nat) {x y : Int} (hx : litN 391 x = true) (hy : litN 391 y = true) (h : iab y < iab x) : slices_insertionSortCmpFunc_int___impl_MakeClause_1 (n + 6) [x, y] 0 2 = some [y, x] := by
  unfold slices_insertionSortCmpFunc_int___impl_MakeClause_1
  have e1 := cmpv hy hx h
  simp [iterN, get?, set?, e1, j0, j1, j2]
theorem insC3 (n : Nat) {x y z : Int} (hx : litN 391 x = true) (hy : litN 391 y = true) (hz : litN 391 z = true) (h : iab y < iab z) (h2 : iab z < iab x) : slices_insertionSortCmpFunc_int___impl_MakeClause_1 (n + 6) [x, y, z] 0 3 = some [y, z, x] := by
  unfold slices_insertionSortCmpFunc_int___impl_MakeClause_1
  have e1 := cmpv hy hx (by omega)
  have e2 := cmpv hz hx h2
  have e3 := cmpv' hz hy h
  simp [iterN, get?, set?, e1, e2, e3, j0, j1, j2, j3]
theorem sortC2 (n : Nat) {x y : Int} (hx : litN 391 x = true) (hy : litN 391 y = true) (h : iab y < iab x) : slices_SortFunc___int_int___impl_MakeClause_1 (n + 6) [x, y] = some [y, x] := by
  unfold slices_SortFunc___int_int___impl_MakeClause_1
  have hl : len [x, y] = 2 := rfl
  have hb : math_bits_Len (IntKind.u64.wrap 2) = some 2 := by decide
  rw [hl, hb]
  simp only [Option.bind_some]
  unfold slices_pdqsortCmpFunc_int___impl_MakeClause_1
  simp [iterN, insC2 n hx hy h, j2]
theorem sortC3 (n : Nat) {x y z : Int} (hx : litN 391 x = true) (hy : litN 391 y = true) (hz : litN 391 z = true) (h : iab y < iab z) (h2 : iab z < iab x) : slices_SortFunc___int_int___impl_MakeClause_1 (n + 6) [x, y, z] = some [y, z, x] := by
  unfold slices_SortFunc___int_int___impl_MakeClause_1
  have hl : len [x, y, z] = 3 := rfl
  have hb : math_bits_Len (IntKind.u64.wrap 3) = some 2 := by decide
  rw [hl, hb]
  simp only [Option.bind_some]
  unfold slices_pdqsortCmpFunc_int___impl_MakeClause_1
  simp [iterN, insC3 n hx hy hz h h2, j3]
theorem iab_ne {x y : Int} (h : iab x < iab y) : ¬ x = y ∧ ¬ y = x ∧ ¬ y = -x ∧ ¬ x = -y := by
  unfold iab at h
  split at h <;> split at h <;> omega
theorem compC2 (n : Nat) {x y : Int} (h : iab y < iab x) : slices_Compact___int_int_ (n + 6) [y, x] = some [y, x] := by
  unfold slices_Compact___int_int_
  have hl : len [y, x] = 2 := rfl
  have := iab_ne h
  rw [hl]
  simp [iterN, get?, this, j1, j2, j0]
theorem compC3 (n : Nat) {x y z : Int} (h : iab y < iab z) (h2 : iab z < iab x) : slices_Compact___int_int_ (n + 6) [y, z, x] = some [y, z, x] := by
  unfold slices_Compact___int_int_
  have hl : len [y, z, x] = 3 := rfl
  have t1 := iab_ne h
  have t2 := iab_ne h2
  rw [hl]
  simp [iterN, get?, t1, t2, j1, j2, j0, j3]
theorem lit400 {x : Int} (h : litN 391 x = true) : litN 400 x = true := litN_mono h (by decide)
theorem clauseOk2 {x y : Int} (hx : litN 391 x = true) (hy : litN 391 y = true) (h : iab y < iab x) : impl_clauseOk fuel [y, x] 400 = some true := by
  unfold impl_clauseOk
  rw [impl_lits (by decide) (by decide) (by simp)]
  obtain ⟨fx, fx'⟩ := lit_fit hx (Int.le_refl _)
  obtain ⟨fy, fy'⟩ := lit_fit hy (Int.le_refl _)
  have v1 := impl_var fx fx'
  have v2 := impl_var fy fy'
  have ha : [y, x].all (litN 400) = true := by simp [lit400 hx, lit400 hy]
  have hl : len [y, x] = 2 := rfl
  have hf : fuel = 1048571 + 6 := rfl
  have hn : ¬ iab x ≤ iab y := by omega
  rw [ha, hl, hf]
  simp [iterN, get?, v1, v2, hn, j0, j1, j2]
theorem clauseOk3 {x y z : Int} (hx : litN 391 x = true) (hy : litN 391 y = true) (hz : litN 391 z = true) (h : iab y < iab z) (h2 : iab z < iab x) : impl_clauseOk fuel [y, z, x] 400 = some true := by
  unfold impl_clauseOk
  rw [impl_lits (by decide) (by decide) (by simp)]
  obtain ⟨fx, fx'⟩ := lit_fit hx (Int.le_refl _)
  obtain ⟨fy, fy'⟩ := lit_fit hy (Int.le_refl _)
  obtain ⟨fz, fz'⟩ := lit_fit hz (Int.le_refl _)
  have v1 := impl_var fx fx'
  have v2 := impl_var fy fy'
  have v3 := impl_var fz fz'
  have ha : [y, z, x].all (litN 400) = true := by simp [lit400 hx, lit400 hy, lit400 hz]
  have hl : len [y, z, x] = 3 := rfl
  have hf : fuel = 1048571 + 6 := rfl
  have hn : ¬ iab z ≤ iab y := by omega
  have hn2 : ¬ iab x ≤ iab z := by omega
  rw [ha, hl, hf]
  simp [iterN, get?, v1, v2, v3, hn, hn2, j0, j1, j2, j3]
theorem mkI2 {x y : Int} (hx : litN 391 x = true) (hy : litN 391 y = true) (h : iab y < iab x) : impl_MakeClause fuel [x, y] = some ([y, x], true) := by
  unfold impl_MakeClause
  have ha : [x, y].all (litN 400) = true := by simp [lit400 hx, lit400 hy]
  have hc : slices_Clone___int_int_ [x, y] = some [x, y] := rfl
  rw [impl_lits (by decide) (by decide) (by simp), ha, hc]
  simp only [Option.bind_some, Bool.not_true, Bool.false_eq_true, if_false]
  have h1 : slices_SortFunc___int_int___impl_MakeClause_1 fuel [x, y] = _ := sortC2 1048571 hx hy h
  have h2 : slices_Compact___int_int_ fuel [y, x] = _ := compC2 1048571 h
  rw [h1]
  simp only [Option.bind_some]
  rw [h2]
  simp only [Option.bind_some]
  rw [clauseOk2 hx hy h]
  rfl
theorem mkI3 {x y z : Int} (hx : litN 391 x = true) (hy : litN 391 y = true) (hz : litN 391 z = true) (h : iab y < iab z) (h2 : iab z < iab x) : impl_MakeClause fuel [x, y, z] = some ([y, z, x], true) := by
  unfold impl_MakeClause
  have ha : [x, y, z].all (litN 400) = true := by simp [lit400 hx, lit400 hy, lit400 hz]
  have hc : slices_Clone___int_int_ [x, y, z] = some [x, y, z] := rfl
  rw [impl_lits (by decide) (by decide) (by simp), ha, hc]
  simp only [Option.bind_some, Bool.not_true, Bool.false_eq_true, if_false]
  have e1 : slices_SortFunc___int_int___impl_MakeClause_1 fuel [x, y, z] = _ := sortC3 1048571 hx hy hz h h2
  have e2 : slices_Compact___int_int_ fuel [y, z, x] = _ := compC3 1048571 h h2
  rw [e1]
  simp only [Option.bind_some]
  rw [e2]
  simp only [Option.bind_some]
  rw [clauseOk3 hx hy hz h h2]
  rfl
theorem in400 {x : Int} (h : litN 391 x = true) : spec_l01In x (-400) 400 = some true ∧ ¬ x = 0 := by
  rw [litN_iff] at h
  unfold iab at h
  unfold spec_l01In
  split at h <;> (refine ⟨?_, by omega⟩; simp; omega)
theorem mkS2 (n : Nat) {x y : Int} (hx : litN 391 x = true) (hy : litN 391 y = true) (h : iab y < iab x) : spec_MakeClause (n + 6) [x, y] = some ([y, x], true) := by
  unfold spec_MakeClause
  obtain ⟨fx, fx'⟩ := lit_fit hx (Int.le_refl _)
  obtain ⟨fy, fy'⟩ := lit_fit hy (Int.le_refl _)
  have v1 := spec_abs fx fx'
  have v2 := spec_abs fy fy'
  obtain ⟨i1, m1⟩ := in400 hx
  obtain ⟨i2, m2⟩ := in400 hy
  have hn : ¬ iab x < iab y := by omega
  have t1 := iab_ne h
  have w2 := w64_neg hy (Int.le_refl _)
  have w1 := w64_neg hx (Int.le_refl _)
  rw [Int.zero_sub] at w1 w2
  simp [iterN, get?, cut?, vcut, app?, room, len, v1, v2, i1, i2, m1, m2, hn, t1, w1, w2, j0, j1, j2]
theorem mkS3 (n : Nat) {x y z : Int} (hx : litN 391 x = true) (hy : litN 391 y = true) (hz : litN 391 z = true) (h : iab y < iab z) (h2 : iab z < iab x) : spec_MakeClause (n + 6) [x, y, z] = some ([y, z, x], true) := by
  unfold spec_MakeClause
  obtain ⟨fx, fx'⟩ := lit_fit hx (Int.le_refl _)
  obtain ⟨fy, fy'⟩ := lit_fit hy (Int.le_refl _)
  obtain ⟨fz, fz'⟩ := lit_fit hz (Int.le_refl _)
  have v1 := spec_abs fx fx'
  have v2 := spec_abs fy fy'
  have v3 := spec_abs fz fz'
  obtain ⟨i1, m1⟩ := in400 hx
  obtain ⟨i2, m2⟩ := in400 hy
  obtain ⟨i3, m3⟩ := in400 hz
  have hn : ¬ iab x < iab y := by omega
  have hn2 : ¬ iab x < iab z := by omega
  have t1 := iab_ne (show iab y < iab x by omega)
  have t2 := iab_ne h2
  have t3 := iab_ne h
  have w2 := w64_neg hy (Int.le_refl _)
  have w1 := w64_neg hx (Int.le_refl _)
  have w3 := w64_neg hz (Int.le_refl _)
  rw [Int.zero_sub] at w1 w2 w3
  simp [iterN, get?, cut?, vcut, app?, room, len, v1, v2, v3, i1, i2, i3, m1, m2, m3, h, hn, hn2, t1, t2, t3, w1, w2, w3, j0, j1, j2, j3]
end Go.Proofs.Ytknlknnihinmjaa
