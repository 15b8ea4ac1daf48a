/- The plain laws of this claim: counts, names and nodes of terms, as the specification has them. No program in sight. -/
import Derived.Test.YtdkfoghhjkjjlaaP2
namespace Go.Proofs.Ytdkfoghhjkjjlaa
open Go.GL
set_option maxRecDepth 100000
mutual
def cnt : D.Term → Nat
  | ⟨_, _, _, _, k⟩ => 1 + cnts k
def cnts : List D.Term → Nat
  | [] => 0
  | x :: l => cnt x + cnts l
end
theorem cnt_eq (t : D.Term) : cnt t = 1 + cnts t.Kids := by cases t; rw [cnt]
theorem cnts_cons (x : D.Term) (l : List D.Term) : cnts (x :: l) = cnt x + cnts l := by rw [cnts]
theorem cnts_nil : cnts [] = 0 := by rw [cnts]
theorem cnts_mem {x : D.Term} : ∀ {l : List D.Term}, x ∈ l → cnt x ≤ cnts l
  | y :: l, h => by
    rw [cnts_cons]
    rcases List.mem_cons.1 h with rfl | h
    · omega
    · have := cnts_mem h; omega
/-- what is left of m after c, or -1 -/
def lf (m : Int) (c : Nat) : Int := if m - c < 0 then -1 else m - c
theorem few : ∀ (n : Nat) (t : D.Term) (m : Int), msz t ≤ 1048576 → 0 ≤ m → m ≤ 240 → 1048580 + m ≤ n → spec_l02Few n t m = some (decide (lf m (cnt t) ≥ 0), lf m (cnt t)) := by
  intro n
  induction n with
  | zero => intro t m _ _ _ _; omega
  | succ n ih =>
    intro t m hs h0 h1 hn
    have hz := msz_eq t
    unfold spec_l02Few
    rw [w64_id (by omega) (by omega)]
    obtain ⟨r, g1, g2⟩ := iter_all (l := t.Kids) (n := n) (σ := Int) (ρ := Int) (B := fun (s1 : Int × Int) =>
        if ((decide (s1.1 < (len t.Kids))) && (decide (s1.2 ≥ 0))) then
          (get? t.Kids s1.1).bind fun x1 =>
          (spec_l02Few n x1 s1.2).bind fun x2 =>
          some (.inl ((w64 (s1.1 + 1)), x2.2))
        else
          some (.inr (s1.2))) (fun k a => ((k : Int), a)) (fun ys a => -1 ≤ a ∧ a ≤ m - 1 ∧ lf a (cnts ys) = lf (m - 1) (cnts t.Kids) ∧ ∀ x ∈ ys, x ∈ t.Kids) (fun r => r = lf (m - 1) (cnts t.Kids))
        (fun k x xs a hk' hx hlen ⟨i0, i1, i2, i3⟩ => by
          have := mszs_mem (i3 x (by simp))
          rw [cnts_cons] at i2
          simp only
          by_cases ha : 0 ≤ a
          · refine .inl ⟨lf a (cnt x), ?_, ?_, ?_, ?_, fun y hy => i3 y (by simp [hy])⟩
            · rw [if_pos (by rw [len_nat]; simp; omega), get?_nat, hx]
              simp only [Option.bind_some]
              rw [ih x a (by omega) ha (by omega) (by omega), w64_id (by omega) (by omega)]; rfl
            · unfold lf; split <;> omega
            · unfold lf; split <;> omega
            · rw [← i2]; unfold lf; split <;> split <;> split <;> omega
          · refine .inr ⟨a, by rw [if_neg (by simp; omega)], ?_⟩
            rw [← i2]; unfold lf; split <;> omega)
        (fun a ⟨i0, i1, i2, _⟩ => by
          rw [cnts_nil] at i2
          simp only
          rw [if_neg (by rw [len_nat]; simp)]
          refine ⟨_, rfl, ?_⟩
          rw [← i2]; unfold lf; split <;> omega) (a := m - 1) ⟨by omega, by omega, rfl, fun x hx => hx⟩ (by omega)
    rw [show ((0 : Nat) : Int) = 0 from rfl] at g1
    rw [g1, g2]
    have e : lf (m - 1) (cnts t.Kids) = lf m (cnt t) := by rw [cnt_eq]; unfold lf; split <;> split <;> omega
    simp only [Option.bind_some, e]

/-- the letters of a name, from place k on -/
def okF (k : Nat) : List UInt8 → Bool
  | [] => true
  | b :: l => (decide (97 ≤ b.toNat ∧ b.toNat ≤ 122) || (decide (k ≠ 0) && decide (48 ≤ b.toNat ∧ b.toNat ≤ 57))) && okF (k + 1) l
theorem okF_cons (k : Nat) (b : UInt8) (l : List UInt8) : okF k (b :: l) = ((decide (97 ≤ b.toNat ∧ b.toNat ≤ 122) || (decide (k ≠ 0) && decide (48 ≤ b.toNat ∧ b.toNat ≤ 57))) && okF (k + 1) l) := rfl
def nameB (s : Str) : Bool := okF 0 s.bytes && decide (1 ≤ s.bytes.length ∧ s.bytes.length ≤ 8)
theorem sidx_nat {s : Str} {k : Nat} {b : UInt8} (h : s.bytes[k]? = some b) : sidx? s (k : Int) = some (b.toNat : Int) := by
  unfold sidx?; rw [if_pos (by omega)]; simp [h]
theorem l01In_eq (a b c : Int) : spec_l01In a b c = some (decide (b ≤ a ∧ a ≤ c)) := by simp [spec_l01In]
theorem spec_name {n : Nat} {s : Str} (hl : s.bytes.length ≤ 1048576) (hn : s.bytes.length < n) : spec_IsName n s = some (nameB s) := by
  unfold spec_IsName
  obtain ⟨r, g1, g2⟩ := iter_all (l := s.bytes) (n := n) (σ := Unit) (ρ := Unit ⊕ Bool) (B := fun (s1 : Int) =>
    if (decide (s1 < (len s.bytes))) then
      (sidx? s s1).bind fun x1 =>
      (spec_l01In (w64 x1) 97 122).bind fun x2 =>
      if (!x2) then
        if (s1 == 0) then
          if true then
            some (.inr (.inr false))
          else
            some (.inl ((w64 (s1 + 1))))
        else
          (sidx? s s1).bind fun x3 =>
          (spec_l01In (w64 x3) 48 57).bind fun x4 =>
          if (!x4) then
            some (.inr (.inr false))
          else
            some (.inl ((w64 (s1 + 1))))
      else
        if false then
          some (.inr (.inr false))
        else
          some (.inl ((w64 (s1 + 1))))
    else
      some (.inr (.inl ()))) (fun k _ => (k : Int)) (fun ys _ => okF (s.bytes.length - ys.length) ys = okF 0 s.bytes) (fun r => r = if okF 0 s.bytes then (.inl () : Unit ⊕ Bool) else .inr false)
    (fun k x xs a hk' hx hlen hi => by
      have e1 : s.bytes.length - (x :: xs).length = k := by omega
      have e2 : s.bytes.length - xs.length = k + 1 := by simp at hlen; omega
      rw [e1] at hi
      rw [e2]
      have hb := x.toNat_lt
      rw [← hi]
      simp only [sidx_nat hx, Option.bind_some, l01In_eq]
      rw [if_pos (by rw [len_nat]; simp; omega), w64_id (by omega) (by omega), w64_id (by omega) (by omega)]
      rw [okF_cons]
      by_cases c1 : 97 ≤ x.toNat ∧ x.toNat ≤ 122
      · refine .inl ⟨(), ?_, ?_⟩
        · have : ((97 : Int) ≤ x.toNat ∧ (x.toNat : Int) ≤ 122) := by omega
          simp [this]
        · simp [c1]
      · have c1' : ¬ ((97 : Int) ≤ x.toNat ∧ (x.toNat : Int) ≤ 122) := by omega
        by_cases c2 : k = 0
        · subst c2
          exact .inr ⟨.inr false, by simp [c1'], by simp [c1]⟩
        · by_cases c3 : 48 ≤ x.toNat ∧ x.toNat ≤ 57
          · have : ((48 : Int) ≤ x.toNat ∧ (x.toNat : Int) ≤ 57) := by omega
            exact .inl ⟨(), by simp [c1', c2, this], by simp [c1, c2, c3]⟩
          · have : ¬ ((48 : Int) ≤ x.toNat ∧ (x.toNat : Int) ≤ 57) := by omega
            exact .inr ⟨.inr false, by simp [c1', c2, this], by simp [c1, c2, c3]⟩)
    (fun a hi => by
      rw [if_neg (by rw [len_nat]; simp)]
      refine ⟨_, rfl, ?_⟩
      rw [← hi]; simp [okF]) (a := ()) (by simp) hn
  rw [show ((0 : Nat) : Int) = 0 from rfl] at g1
  rw [g1, g2]
  unfold nameB
  cases okF 0 s.bytes
  · simp
  · simp only [l01In_eq, len_nat, if_true, Option.bind_some, Bool.true_and, Option.some.injEq, decide_eq_decide]; omega

/-- the form of a node, over the widths of its kids -/
def shB (op w m : Int) (name : Str) (ws : List Int) : Bool :=
  if op = 0 then ws.isEmpty && wordB w m
  else if op = 22 then ws.isEmpty && nameB name
  else if 1 ≤ op ∧ op ≤ 2 then (match ws with | [a] => a == w | _ => false)
  else if 3 ≤ op ∧ op ≤ 13 then (match ws with | [a, b] => a == w && b == w | _ => false)
  else if 14 ≤ op ∧ op ≤ 16 then (match ws with | [a, b] => a == b && w == 1 | _ => false)
  else if op = 17 then (match ws with | [a, b, c] => a == 1 && b == w && c == w | _ => false)
  else if op = 18 then (match ws with | [a, b] => a + b == w | _ => false)
  else if op = 19 then (match ws with | [a] => decide (0 ≤ m ∧ m ≤ 16) && decide (m + w ≤ a) | _ => false)
  else if 20 ≤ op ∧ op ≤ 21 then (match ws with | [a] => decide (a ≤ w) | _ => false)
  else false
/-- what both say of one node, its kids' nodes left out -/
def locB (t : D.Term) : Bool :=
  decide (1 ≤ t.W ∧ t.W ≤ 16) && (Str.eqb t.Name ⟨[]⟩ || t.Op == 22) && (t.N == 0 || t.Op == 0 || t.Op == 19) && shB t.Op t.W t.N t.Name (t.Kids.map (·.W))
mutual
def nodeB : D.Term → Bool
  | ⟨o, w, m, s, k⟩ => locB ⟨o, w, m, s, k⟩ && nodesB k
def nodesB : List D.Term → Bool
  | [] => true
  | x :: l => nodeB x && nodesB l
end
theorem nodeB_eq (t : D.Term) : nodeB t = (locB t && nodesB t.Kids) := by cases t; rw [nodeB]
theorem nodesB_all : ∀ l : List D.Term, nodesB l = l.all nodeB
  | [] => by rw [nodesB]; rfl
  | x :: l => by rw [nodesB, nodesB_all l]; rfl
theorem nodeB_W {t : D.Term} (h : nodeB t = true) : 1 ≤ t.W ∧ t.W ≤ 16 := by
  rw [nodeB_eq] at h
  unfold locB at h
  simp only [Bool.and_eq_true, decide_eq_true_eq] at h
  exact h.1.1.1.1
/-- the widths of the first three kids -/
def pad3 : List D.Term → List Int
  | [] => [0, 0, 0]
  | [a] => [a.W, 0, 0]
  | [a, b] => [a.W, b.W, 0]
  | a :: b :: c :: _ => [a.W, b.W, c.W]
theorem ws_loop {l : List D.Term} {n : Nat} (hn : 4 ≤ n) : iterN (fun (s2 : Int × (List Int)) =>
      if ((decide (s2.1 < (len l))) && (decide (s2.1 < 3))) then
        (get? l s2.1).bind fun x4 =>
        (set? s2.2 s2.1 x4.W).bind fun x5 =>
        some (.inl ((w64 (s2.1 + 1)), x5))
      else
        some (.inr (s2.2))
    ) n (0, ([0, 0, 0] : List Int)) = some (pad3 l) := by
  obtain ⟨n, rfl⟩ : ∃ j, n = j + 4 := ⟨n - 4, by omega⟩
  rcases l with _ | ⟨a, _ | ⟨b, _ | ⟨c, l⟩⟩⟩
  · simp [iterN, len, pad3]
  · simp [iterN, len, pad3, get?, set?, w64_id]
  · simp [iterN, len, pad3, get?, set?, w64_id]
  · have h1 : (0 : Int) < (l.length : Int) + 1 + 1 + 1 := by omega
    have h2 : (1 : Int) < (l.length : Int) + 1 + 1 + 1 := by omega
    have h3 : (2 : Int) < (l.length : Int) + 1 + 1 + 1 := by omega
    simp [iterN, len, pad3, get?, set?, w64_id, h1, h2, h3]
end Go.Proofs.Ytdkfoghhjkjjlaa
