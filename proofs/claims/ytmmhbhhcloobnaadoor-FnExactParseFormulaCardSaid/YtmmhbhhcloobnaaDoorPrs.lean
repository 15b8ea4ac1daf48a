/- strings.Split and strconv.Atoi: by the kit's contracts. -/
import Derived.Test.YtmmhbhhcloobnaaDoorGLE
import Derived.Test.YtmmhbhhcloobnaaDoorShelf
import Derived.Test.YtmmhbhhcloobnaaDoorDefs
import Derived.KernelRfl
set_option linter.unusedVariables false
namespace Go.Proofs.YtmmhbhhcloobnaaDoor
open Go.GL Go.RowKit
theorem strings_Split_ok (p0 p1 : Str) {r : List Str} (h : strings_Split p0 p1 = some r) {w : World} {G99 : Nat → Prop} (tb : TX Tryd.prog w G99) :
    Calls Tryd.prog 47 [Str.val p0, Str.val p1].toArray w fun e w' => ∃ v, e = .returned v ∧ ∃ a1 c1, v = .slice a1 (List.length r) c1 ∧ ∃ S', Stp w Non w' S' ∧ Sep [SL (α := Str) 9 (.slice a1 (List.length r) c1) r] w' S' := by
  unfold strings_Split at h
  split at h
  · rename_i hl
    obtain rfl := Option.some.inj h
    obtain ⟨m, hm⟩ := tb.max
    have hs : (⟨p1.bytes.toArray⟩ : ByteArray).size = p1.bytes.length := by simp [ByteArray.size]
    have hs2 : (⟨p0.bytes.toArray⟩ : ByteArray).size = p0.bytes.length := by simp [ByteArray.size]
    exact calls_split hl.1 hl.2 (Tryd.strings_Split ⟨p0.bytes.toArray⟩ ⟨p1.bytes.toArray⟩ m w (by omega) (hm.cell (by kernel_rfl)) (by omega))
  · cases h
theorem strconv_Atoi_ok (p0 : Str) {r : Int × Bool} (h : strconv_Atoi p0 = some r) {w : World} {G99 : Nat → Prop} (tb : TX Tryd.prog w G99) :
    Calls Tryd.prog 74 [Str.val p0].toArray w fun e w' => ∃ v, e = .returned v ∧ ∃ u, v = .tuple #[.int .i64 r.1, u] ∧ IsErr u r.2 ∧ Chg Non w w' := by
  unfold strconv_Atoi at h
  split at h
  · rename_i hl
    have hs : (⟨p0.bytes.toArray⟩ : ByteArray).size = p0.bytes.length := by simp [ByteArray.size]
    obtain rfl := Option.some.inj h
    rcases he : Lib.atoiAll p0.bytes with v | _ | _
    · refine (Tryd.strconv_Atoi_ok ⟨p0.bytes.toArray⟩ (by omega) v he w).mono ?_
      rintro e w' ⟨rfl, hw⟩
      refine ⟨_, rfl, _, rfl, .inl ⟨rfl, rfl⟩, ?_⟩
      rcases hw with rfl | ⟨t, rfl⟩
      · exact Chg.refl _ _
      · exact Chg.of_belowSize (Joins.below_bytesWorld _ w _ t (Nat.le_refl _))
    · obtain ⟨tp, p, hv⟩ := tb.syn
      refine (Tryd.strconv_Atoi_bad_var ⟨p0.bytes.toArray⟩ (by omega) (fun v h => by rw [he] at h; cases h) (fun h => by rw [he] at h; cases h) tp p w hv.var).mono ?_
      rintro e w' ⟨N, rfl, _, _, hb⟩
      exact ⟨_, rfl, _, rfl, .inr ⟨rfl, _, _, rfl⟩, Chg.of_belowSize hb⟩
    · obtain ⟨tp, p, hv⟩ := tb.rng
      refine (Tryd.strconv_Atoi_range_var ⟨p0.bytes.toArray⟩ (by omega) he tp p w hv.var).mono ?_
      rintro e w' ⟨N, rfl, _, _, hb⟩
      exact ⟨_, rfl, _, rfl, .inr ⟨rfl, _, _, rfl⟩, Chg.of_belowSize hb⟩
  · cases h
end Go.Proofs.YtmmhbhhcloobnaaDoor
