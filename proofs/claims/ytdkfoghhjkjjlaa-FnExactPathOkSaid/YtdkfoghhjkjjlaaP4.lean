/- The plain laws of this claim: nodes of terms, as the specification has them. No program in sight. -/
import Derived.Test.YtdkfoghhjkjjlaaP3
namespace Go.Proofs.Ytdkfoghhjkjjlaa
open Go.GL
set_option maxRecDepth 100000
theorem node_big {n : Nat} {p0 : D.Term} (ih : ∀ x ∈ p0.Kids, spec_l02Node n x = some (nodeB x)) (hk : p0.Kids.length ≤ 1048576) (hs : p0.Name.bytes.length ≤ 1048576) (hn : 1048580 ≤ n) (hw : 1 ≤ p0.W ∧ p0.W ≤ 16) :
      ((iterN (fun (s1 : Int) =>
        if (decide (s1 < (len p0.Kids))) then
          (get? p0.Kids s1).bind fun x2 =>
          (spec_l02Node n x2).bind fun x3 =>
          if (!x3) then
            some (.inr (.inr false))
          else
            some (.inl ((w64 (s1 + 1))))
        else
          some (.inr (.inl ()))
      ) n (0)).bind fun (rl1 : (Unit) ⊕ Bool) =>
      match rl1 with
      | .inl s1r =>
        (iterN (fun (s2 : Int × (List Int)) =>
          if ((decide (s2.1 < (len p0.Kids))) && (decide (s2.1 < 3))) then
            (get? p0.Kids s2.1).bind fun x4 =>
            (set? s2.2 s2.1 x4.W).bind fun x5 =>
            some (.inl ((w64 (s2.1 + 1)), x5))
          else
            some (.inr (s2.2))
        ) n (0, ([0, 0, 0] : List Int))).bind fun (rl2 : (List Int)) =>
        if (p0.Op == 0) then
          (if ((len p0.Kids) == 0) then (spec_WordOk p0.W p0.N) else some default).bind fun x6 =>
          some (((len p0.Kids) == 0) && x6)
        else
          if (p0.Op == 22) then
            (if ((len p0.Kids) == 0) then (spec_IsName n p0.Name) else some default).bind fun x7 =>
            some (((len p0.Kids) == 0) && x7)
          else
            (spec_l01In p0.Op 1 2).bind fun x8 =>
            if x8 then
              (if ((len p0.Kids) == 1) then (get? rl2 0) else some default).bind fun x9 =>
              some (((len p0.Kids) == 1) && (x9 == p0.W))
            else
              (spec_l01In p0.Op 3 13).bind fun x10 =>
              if x10 then
                (if ((len p0.Kids) == 2) then (get? rl2 0) else some default).bind fun x11 =>
                (if (((len p0.Kids) == 2) && (x11 == p0.W)) then (get? rl2 1) else some default).bind fun x12 =>
                some ((((len p0.Kids) == 2) && (x11 == p0.W)) && (x12 == p0.W))
              else
                (spec_l01In p0.Op 14 16).bind fun x13 =>
                if x13 then
                  (if ((len p0.Kids) == 2) then (get? rl2 0) else some default).bind fun x14 =>
                  (if ((len p0.Kids) == 2) then (get? rl2 1) else some default).bind fun x15 =>
                  some ((((len p0.Kids) == 2) && (x14 == x15)) && (p0.W == 1))
                else
                  if (p0.Op == 17) then
                    (if ((len p0.Kids) == 3) then (get? rl2 0) else some default).bind fun x16 =>
                    (if (((len p0.Kids) == 3) && (x16 == 1)) then (get? rl2 1) else some default).bind fun x17 =>
                    (if ((((len p0.Kids) == 3) && (x16 == 1)) && (x17 == p0.W)) then (get? rl2 2) else some default).bind fun x18 =>
                    some (((((len p0.Kids) == 3) && (x16 == 1)) && (x17 == p0.W)) && (x18 == p0.W))
                  else
                    if (p0.Op == 18) then
                      (if ((len p0.Kids) == 2) then (get? rl2 0) else some default).bind fun x19 =>
                      (if ((len p0.Kids) == 2) then (get? rl2 1) else some default).bind fun x20 =>
                      some (((len p0.Kids) == 2) && ((w64 (x19 + x20)) == p0.W))
                    else
                      if (p0.Op == 19) then
                        (if ((len p0.Kids) == 1) then (spec_l01In p0.N 0 16) else some default).bind fun x21 =>
                        (if (((len p0.Kids) == 1) && x21) then (get? rl2 0) else some default).bind fun x22 =>
                        some ((((len p0.Kids) == 1) && x21) && (decide ((w64 (p0.N + p0.W)) ≤ x22)))
                      else
                        (spec_l01In p0.Op 20 21).bind fun x23 =>
                        (if (x23 && ((len p0.Kids) == 1)) then (get? rl2 0) else some default).bind fun x24 =>
                        some ((x23 && ((len p0.Kids) == 1)) && (decide (x24 ≤ p0.W)))
      | .inr v => some v) = some (nodesB p0.Kids && shB p0.Op p0.W p0.N p0.Name (p0.Kids.map (·.W))) := by
  have hl := all_loop (l := p0.Kids) (f := fun x => spec_l02Node n x) (b := nodeB) ih (by omega) p0.Kids.length 0 (by omega) n (by omega)
  rw [show ((0 : Nat) : Int) = 0 from rfl] at hl
  rw [hl, List.drop_zero, nodesB_all]
  by_cases ha : p0.Kids.all nodeB = true
  · rw [ha]
    have hkw : ∀ x ∈ p0.Kids, 1 ≤ x.W ∧ x.W ≤ 16 := fun x hx => nodeB_W (List.all_eq_true.1 ha x hx)
    simp only [if_true, Option.bind_some, Bool.true_and, l01In_eq, spec_word, spec_name hs (show p0.Name.bytes.length < n by omega)]
    rw [ws_loop (by omega)]
    simp only [Option.bind_some]
    generalize hks : p0.Kids = ks
    rw [hks] at hkw
    obtain ⟨op, w, m, nm, _⟩ := p0
    simp only at hw ⊢
    have g0 : ∀ x y z : Int, get? [x, y, z] 0 = some x := fun _ _ _ => rfl
    have g1 : ∀ x y z : Int, get? [x, y, z] 1 = some y := fun _ _ _ => rfl
    have g2 : ∀ x y z : Int, get? [x, y, z] 2 = some z := fun _ _ _ => rfl
    have q0 : ∀ x y z : D.Term, ∀ l : List D.Term, ((l.length : Int) + 1 + 1 + 1 + 1 == 0) = false := fun x y z l => by simp; omega
    have hA : ks = [] ∨ (∃ a : D.Term, ks = [a] ∧ 1 ≤ a.W ∧ a.W ≤ 16) ∨ (∃ a b : D.Term, ks = [a, b] ∧ (1 ≤ a.W ∧ a.W ≤ 16) ∧ 1 ≤ b.W ∧ b.W ≤ 16) ∨ (∃ a b c : D.Term, ks = [a, b, c]) ∨ ∃ (a b c d : D.Term) (l : List D.Term), ks = a :: b :: c :: d :: l := by
      rcases ks with _ | ⟨a, _ | ⟨b, _ | ⟨c, _ | ⟨d, l⟩⟩⟩⟩
      · exact .inl rfl
      · exact .inr (.inl ⟨a, rfl, hkw a (by simp)⟩)
      · exact .inr (.inr (.inl ⟨a, b, rfl, hkw a (by simp), hkw b (by simp)⟩))
      · exact .inr (.inr (.inr (.inl ⟨a, b, c, rfl⟩)))
      · exact .inr (.inr (.inr (.inr ⟨a, b, c, d, l, rfl⟩)))
    rcases hA with rfl | ⟨a, rfl, ha⟩ | ⟨a, b, rfl, ha, hb⟩ | ⟨a, b, c, rfl⟩ | ⟨a, b, c, d, l, rfl⟩
    · simp only [pad3, len_nat, List.length_nil, List.map_nil, g0, g1, g2, Option.bind_some, ite_def]
      unfold shB
      by_cases o0 : op = 0
      · simp [o0]
      by_cases o1 : op = 22
      · simp [o1]
      simp [o0, o1]
    · have e19 : ∀ h : 0 ≤ m ∧ m ≤ 16, w64 (m + w) = m + w := fun h => w64_id (by omega) (by omega)
      simp only [pad3, len_nat, List.length_nil, List.length_cons, List.map_nil, List.map_cons, g0, g1, g2, Option.bind_some, ite_def]
      unfold shB
      by_cases o0 : op = 0
      · simp [o0]
      by_cases o1 : op = 22
      · simp [o1]
      by_cases o2 : 1 ≤ op ∧ op ≤ 2
      · simp [o0, o1, o2]
      by_cases o3 : 3 ≤ op ∧ op ≤ 13
      · simp [o0, o1, o2, o3]
      by_cases o4 : 14 ≤ op ∧ op ≤ 16
      · simp [o0, o1, o2, o3, o4]
      by_cases o5 : op = 17
      · simp [o5]
      by_cases o6 : op = 18
      · simp [o6]
      by_cases o7 : op = 19
      · by_cases hm : 0 ≤ m ∧ m ≤ 16
        · simp [o7, hm, e19 hm]
        · simp [o7, hm]
      by_cases o8 : 20 ≤ op ∧ op ≤ 21
      · simp [o0, o1, o2, o3, o4, o5, o6, o7, o8]
      simp [o0, o1, o2, o3, o4, o5, o6, o7, o8]
    · have e18 : w64 (a.W + b.W) = a.W + b.W := w64_id (by omega) (by omega)
      simp only [pad3, len_nat, List.length_nil, List.length_cons, List.map_nil, List.map_cons, g0, g1, g2, Option.bind_some, ite_def, e18]
      unfold shB
      by_cases o0 : op = 0
      · simp [o0]
      by_cases o1 : op = 22
      · simp [o1]
      by_cases o2 : 1 ≤ op ∧ op ≤ 2
      · simp [o0, o1, o2]
      by_cases o3 : 3 ≤ op ∧ op ≤ 13
      · by_cases c : a.W = w
        · simp [o0, o1, o2, o3, c]
        · have c' : (a.W == w) = false := by simpa using c
          simp [o0, o1, o2, o3, c, c']
      by_cases o4 : 14 ≤ op ∧ op ≤ 16
      · simp [o0, o1, o2, o3, o4]
      by_cases o5 : op = 17
      · simp [o5]
      by_cases o6 : op = 18
      · simp [o6, e18]
      by_cases o7 : op = 19
      · simp [o7]
      simp [o0, o1, o2, o3, o4, o5, o6, o7]
    · simp only [pad3, len_nat, List.length_nil, List.length_cons, List.map_nil, List.map_cons, g0, g1, g2, Option.bind_some, ite_def]
      unfold shB
      by_cases o0 : op = 0
      · simp [o0]
      by_cases o1 : op = 22
      · simp [o1]
      by_cases o2 : 1 ≤ op ∧ op ≤ 2
      · simp [o0, o1, o2]
      by_cases o3 : 3 ≤ op ∧ op ≤ 13
      · simp [o0, o1, o2, o3]
      by_cases o4 : 14 ≤ op ∧ op ≤ 16
      · simp [o0, o1, o2, o3, o4]
      by_cases o5 : op = 17
      · by_cases c1 : a.W = 1
        · by_cases c2 : b.W = w
          · simp [o5, c1, c2]
          · have c2' : (b.W == w) = false := by simpa using c2
            simp [o5, c1, c2, c2']
        · have c1' : (a.W == 1) = false := by simpa using c1
          simp [o5, c1, c1']
      by_cases o6 : op = 18
      · simp [o6]
      by_cases o7 : op = 19
      · simp [o7]
      simp [o0, o1, o2, o3, o4, o5, o6, o7]
    · have e0 : (len (a :: b :: c :: d :: l) == 0) = false := by rw [len_nat]; simp; omega
      have e1 : (len (a :: b :: c :: d :: l) == 1) = false := by rw [len_nat]; simp; omega
      have e2 : (len (a :: b :: c :: d :: l) == 2) = false := by rw [len_nat]; simp; omega
      have e3 : (len (a :: b :: c :: d :: l) == 3) = false := by rw [len_nat]; simp; omega
      simp only [pad3, List.map_cons, g0, g1, g2, Option.bind_some, ite_def, e0, e1, e2, e3, Bool.false_and, Bool.and_false, if_false, Bool.false_eq_true]
      unfold shB
      simp
  · rw [Bool.not_eq_true] at ha
    rw [ha]
    simp

theorem spec_node : ∀ (n : Nat) (t : D.Term), msz t ≤ 1048576 → 1048580 + cnt t ≤ n → spec_l02Node n t = some (nodeB t) := by
  intro n
  induction n with
  | zero => intro t _ _; omega
  | succ n ih =>
    intro t hs hn
    have hz := msz_eq t
    have hc := cnt_eq t
    have ih' : ∀ x ∈ t.Kids, spec_l02Node n x = some (nodeB x) := fun x hx => by
      have := mszs_mem hx
      have := cnts_mem hx
      exact ih x (by omega) (by omega)
    have e0 : ∀ c : Bool, nodeB t = (decide (1 ≤ t.W ∧ t.W ≤ 16) && (Str.eqb t.Name ⟨[]⟩ || t.Op == 22) && (t.N == 0 || t.Op == 0 || t.Op == 19) && (nodesB t.Kids && shB t.Op t.W t.N t.Name (t.Kids.map (·.W)))) := fun _ => by
      rw [nodeB_eq]; unfold locB
      cases nodesB t.Kids <;> simp
    have e0 := e0 true
    unfold spec_l02Node
    rw [l01In_eq]
    simp only [Option.bind_some]
    by_cases hw : 1 ≤ t.W ∧ t.W ≤ 16
    · have hb := node_big ih' (by omega) (by omega) (by omega) hw
      rw [decide_eq_true hw] at e0
      rw [if_neg (by rw [decide_eq_true hw]; decide)]
      have good : ((Str.eqb t.Name ⟨[]⟩ || t.Op == 22) && (t.N == 0 || t.Op == 0 || t.Op == 19)) = true → some (nodesB t.Kids && shB t.Op t.W t.N t.Name (t.Kids.map (·.W))) = some (nodeB t) := fun h => by
        rw [e0, Bool.true_and, h, Bool.true_and]
      have bad : ((Str.eqb t.Name ⟨[]⟩ || t.Op == 22) && (t.N == 0 || t.Op == 0 || t.Op == 19)) = false → some false = some (nodeB t) := fun h => by
        rw [e0, Bool.true_and, h, Bool.false_and]
      by_cases c1 : Str.eqb t.Name ⟨[]⟩ = true
      · rw [if_neg (by rw [c1]; decide)]
        by_cases c3 : t.N = 0
        · rw [if_neg (by simp [c3]), if_neg (by decide)]
          exact hb.trans (good (by simp [c1, c3]))
        · rw [if_pos (by simp [c3])]
          by_cases c4 : t.Op = 0
          · rw [if_neg (by simp [c4]), if_neg (by decide)]
            exact hb.trans (good (by simp [c1, c4]))
          · rw [if_pos (by simp [c4])]
            by_cases c5 : t.Op = 19
            · rw [if_neg (by simp [c5])]
              exact hb.trans (good (by simp [c1, c5]))
            · rw [if_pos (by simp [c5])]
              exact bad (by simp [c3, c4, c5])
      · rw [if_pos (by simpa using c1)]
        by_cases c2 : t.Op = 22
        · rw [if_neg (by simp [c2])]
          by_cases c3 : t.N = 0
          · rw [if_neg (by simp [c3]), if_neg (by decide)]
            exact hb.trans (good (by simp [c2, c3]))
          · rw [if_pos (by simp [c3])]
            rw [if_pos (by simp [c2]), if_pos (by simp [c2])]
            exact bad (by simp [c3, c2])
        · rw [if_pos (by simp [c2]), if_pos trivial]
          exact bad (by simp [c1, c2])
    · rw [if_pos (by rw [decide_eq_false hw]; decide), if_pos trivial, e0, decide_eq_false hw]
      simp
end Go.Proofs.Ytdkfoghhjkjjlaa
