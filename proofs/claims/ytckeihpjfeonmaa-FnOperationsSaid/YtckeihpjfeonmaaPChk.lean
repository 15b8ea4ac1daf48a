/- The operations bit by bit and with words: for all small widths. No program in sight. -/
import Derived.Test.YtckeihpjfeonmaaPBits3
namespace Go.Proofs.Ytckeihpjfeonmaa
open Go.GL
def wvB : List Bool → Int
  | [] => 0
  | x :: l => b2i x + 2 * wvB l
theorem wv_map (E : List Bool) (l : List Int) : wv E l = wvB (l.map (litV E)) := by
  induction l with
  | nil => rfl
  | cons x l ih => simp only [wv, List.map_cons, wvB, ih]
def lists : Nat → List (List Bool)
  | 0 => [[]]
  | n + 1 => (lists n).flatMap fun l => [false :: l, true :: l]
theorem mem_lists : ∀ (n : Nat) (l : List Bool), l.length = n → l ∈ lists n
  | 0, l, h => by
    obtain rfl := List.eq_nil_of_length_eq_zero h
    exact List.mem_singleton.2 rfl
  | n + 1, [], h => by cases h
  | n + 1, x :: l, h => by
    have := mem_lists n l (by simpa using h)
    unfold lists
    rw [List.mem_flatMap]
    exact ⟨l, this, by cases x <;> simp⟩
def chk (op : Int) (w : Nat) : Bool := (lists w).all fun a => (lists w).all fun b => decide (spec_ApplyBinary op (w : Int) (wvB a) (wvB b) = some (wvB (opB op a b))) && decide (spec_ResultWidth op (w : Int) = some ((opB op a b).length : Int))
theorem chk_all : ([3, 4, 5, 6, 7, 8, 9, 10, 11, 12, 13, 14, 15, 16] : List Int).all (fun op => [1, 2, 3, 4].all (chk op)) = true := by decide +kernel
theorem apply_ok {op : Int} (ho : 3 ≤ op ∧ op ≤ 16) {w : Nat} (hw : 1 ≤ w) (h4 : w ≤ 4) {a b : List Bool} (ha : a.length = w) (hb : b.length = w) : spec_ApplyBinary op (w : Int) (wvB a) (wvB b) = some (wvB (opB op a b)) ∧ spec_ResultWidth op (w : Int) = some ((opB op a b).length : Int) := by
  have h := chk_all
  rw [List.all_eq_true] at h
  have h1 := h op (by simp only [List.mem_cons, List.not_mem_nil, or_false]; omega)
  rw [List.all_eq_true] at h1
  have h2 := h1 w (by simp only [List.mem_cons, List.not_mem_nil, or_false]; omega)
  unfold chk at h2
  rw [List.all_eq_true] at h2
  have h3 := h2 a (mem_lists w a ha)
  rw [List.all_eq_true] at h3
  have h4 := h3 b (mem_lists w b hb)
  rw [Bool.and_eq_true, decide_eq_true_eq, decide_eq_true_eq] at h4
  exact h4
end Go.Proofs.Ytckeihpjfeonmaa
