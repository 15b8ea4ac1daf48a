/- What operations with lines mean, bit by bit. No program in sight. -/
import Derived.Test.YtckeihpjfeonmaaPSum
import Derived.Test.YtckeihpjfeonmaaPOps3
namespace Go.Proofs.Ytckeihpjfeonmaa
open Go.GL
structure One (s : BS) (n : Nat) (r : Int × BS) (F : List Bool → Bool) : Prop where
  cnt : r.2.1.Gates.length ≤ s.1.Gates.length + n
  full : r.2.2 = s.2
  sem : Sem r.2.1 r.1 F
def SemL (s : D.Circuit) (l : List Int) (F : List Bool → List Bool) : Prop := ∀ c', CircP c' → Grow s c' → ∀ v : List Bool, (v.length : Int) = c'.Inputs → l.map (litV (ev c' v)) = F (ev c' v)
structure Lst (s : BS) (n : Nat) (t : LS) (F : List Bool → List Bool) : Prop where
  cnt : t.2.1.Gates.length ≤ s.1.Gates.length + n
  full : t.2.2 = s.2
  sem : SemL t.2.1 t.1 F
theorem SemL.mono {s s' : D.Circuit} {l : List Int} {F : List Bool → List Bool} (h : SemL s l F) (hg : Grow s s') : SemL s' l F := fun c' hc hg' v hv => h c' hc (hg.trans hg') v hv
section
variable {s : BS} (hs : CircP s.1) {a b c : Int} (ha : litN (lines s.1) a = true) (hb : litN (lines s.1) b = true)
include ha hb
theorem and_one (hl : s.1.Gates.length + 1 ≤ 360) : One s 1 (andP s a b) (fun e => litV e a && litV e b) :=
  ⟨(and_cnt s a b).1, (and_cnt s a b).2 (by omega), and_sem (by omega) ha hb⟩
include hs
theorem or_one (hl : s.1.Gates.length + 1 ≤ 360) : One s 1 (orP s a b) (fun e => litV e a || litV e b) :=
  ⟨(or_cnt s a b).1, (or_cnt s a b).2 (by omega), or_sem (by omega) hs ha hb⟩
theorem xor_one (hl : s.1.Gates.length + 3 ≤ 360) : One s 3 (xorP s a b) (fun e => xor (litV e a) (litV e b)) :=
  ⟨(xor_cnt s a b).1, (xor_cnt s a b).2 (by omega), xor_sem (by omega) hs ha hb⟩
theorem if_one (hc : litN (lines s.1) c = true) (hl : s.1.Gates.length + 3 ≤ 360) : One s 3 (ifP s c a b) (fun e => cond (litV e c) (litV e a) (litV e b)) :=
  ⟨(if_cnt s c a b).1, (if_cnt s c a b).2 (by omega), if_sem (by omega) hs hc ha hb⟩
end
section
variable {α : Type}
theorem seq_lst {f : BS → α → Int × BS} {s : BS} {l : List α} {n : Nat} {g : α → List Bool → Bool} (hs : CircP s.1) (hf : FOk f s l)
    (h : ∀ s' x, CircP s'.1 → Grow s.1 s'.1 → x ∈ l → s'.1.Gates.length + n ≤ 360 → One s' n (f s' x) (g x)) (hn : s.1.Gates.length + n * l.length ≤ 360) :
    Lst s (n * l.length) (seqP f s l) (fun e => l.map fun x => g x e) := by
  have key : ∀ k, k ≤ l.length → GoodL s k (seqP f s (l.take k)) ∧ Lst s (n * k) (seqP f s (l.take k)) (fun e => (l.take k).map fun x => g x e) := by
    intro k
    induction k with
    | zero => intro _; exact ⟨seq_goodK hs hf 0 (by omega), ⟨by simp [seqP], rfl, fun c' _ _ v _ => by simp [seqP]⟩⟩
    | succ k ih =>
      intro hk
      obtain ⟨gk, q⟩ := ih (by omega)
      have gk1 := seq_goodK hs hf (k + 1) hk
      refine ⟨gk1, ?_⟩
      have hx : l[k]? = some l[k] := List.getElem?_eq_getElem (by omega)
      have hm : n * (k + 1) ≤ n * l.length := Nat.mul_le_mul_left n hk
      rw [Nat.mul_succ] at hm ⊢
      have q1 := q.cnt
      have o := h (seqP f s (l.take k)).2 l[k] gk.circ gk.grow (List.getElem_mem (by omega)) (by omega)
      have og := hf (seqP f s (l.take k)).2 l[k] gk.circ gk.grow (List.getElem_mem (by omega))
      have o1 := o.cnt
      rw [seq_succ hx]
      refine ⟨by simp only; omega, by simp only; rw [o.full, q.full], fun c' hc hg v hv => ?_⟩
      simp only at hg ⊢
      rw [List.map_append, q.sem c' hc (og.grow.trans hg) v hv, List.take_succ_eq_append_getElem (by omega), List.map_append]
      simp only [List.map_cons, List.map_nil]
      rw [o.sem c' hc hg v hv]
  have := (key l.length (Nat.le_refl _)).2
  rw [List.take_length] at this
  exact this
theorem acc_one {f : BS → Int → α → Int × BS} {s : BS} {c : Int} {l : List α} {n : Nat} {g : α → List Bool → Bool → Bool} (hs : CircP s.1) (hc : litN (lines s.1) c = true) (hf : AOk f s l)
    (h : ∀ s' c x, CircP s'.1 → Grow s.1 s'.1 → litN (lines s'.1) c = true → x ∈ l → s'.1.Gates.length + n ≤ 360 → One s' n (f s' c x) (fun e => g x e (litV e c))) (hn : s.1.Gates.length + n * l.length ≤ 360) :
    One s (n * l.length) (accP f s c l) (fun e => l.foldl (fun b x => g x e b) (litV e c)) := by
  have key : ∀ k, k ≤ l.length → One s (n * k) (accP f s c (l.take k)) (fun e => (l.take k).foldl (fun b x => g x e b) (litV e c)) := by
    intro k
    induction k with
    | zero => intro _; exact ⟨by simp [accP], rfl, fun c' _ _ v _ => by simp [accP]⟩
    | succ k ih =>
      intro hk
      have q := ih (by omega)
      have gk := acc_goodK hs hc hf k (by omega)
      have hx : l[k]? = some l[k] := List.getElem?_eq_getElem (by omega)
      have hm : n * (k + 1) ≤ n * l.length := Nat.mul_le_mul_left n hk
      rw [Nat.mul_succ] at hm ⊢
      have q1 := q.cnt
      have o := h (accP f s c (l.take k)).2 (accP f s c (l.take k)).1 l[k] gk.circ gk.grow gk.lit (List.getElem_mem (by omega)) (by omega)
      have og := hf (accP f s c (l.take k)).2 (accP f s c (l.take k)).1 l[k] gk.circ gk.grow gk.lit (List.getElem_mem (by omega))
      have o1 := o.cnt
      rw [acc_succ hx]
      refine ⟨by omega, by rw [o.full, q.full], fun c' hc hg v hv => ?_⟩
      rw [o.sem c' hc hg v hv]
      simp only
      rw [q.sem c' hc (og.grow.trans hg) v hv, List.take_succ_eq_append_getElem (by omega), List.foldl_append]
      rfl
  have := key l.length (Nat.le_refl _)
  rw [List.take_length] at this
  exact this
end
/-! sums, bit by bit -/
def addB1 (t : List Bool × Bool) (p : Bool × Bool) : List Bool × Bool := (t.1 ++ [xor (xor p.1 p.2) t.2], (p.1 && p.2) || ((xor p.1 p.2) && t.2))
def addB (a b : List Bool) (c : Bool) : List Bool × Bool := (a.zip b).foldl addB1 ([], c)
def SemA (s : D.Circuit) (l : List Int) (x : Int) (F : List Bool → List Bool × Bool) : Prop := ∀ c', CircP c' → Grow s c' → ∀ v : List Bool, (v.length : Int) = c'.Inputs → (l.map (litV (ev c' v)), litV (ev c' v) x) = F (ev c' v)
theorem b2i_inj : ∀ o w x y c : Bool, b2i o + 2 * b2i w = b2i x + b2i y + b2i c → o = xor (xor x y) c ∧ w = ((x && y) || ((xor x y) && c)) := by decide
structure Add (s : BS) (n : Nat) (t : AS) (F : List Bool → List Bool × Bool) : Prop where
  cnt : t.2.2.1.Gates.length ≤ s.1.Gates.length + n
  full : t.2.2.2 = s.2
  sem : SemA t.2.2.1 t.1 t.2.1 F
theorem add_bits {s : BS} (hs : CircP s.1) {a b : List Int} {c : Int} (hab : a.length = b.length) (ha : ∀ x ∈ a, litN (lines s.1) x = true) (hb : ∀ x ∈ b, litN (lines s.1) x = true) (hc : litN (lines s.1) c = true) (hn : s.1.Gates.length + 9 * a.length ≤ 360) :
    Add s (9 * a.length) (addP s a b c) (fun E => addB (a.map (litV E)) (b.map (litV E)) (litV E c)) := by
  have hz : (a.zip b).length = a.length := by rw [List.length_zip, ← hab, Nat.min_self]
  have key : ∀ k, k ≤ (a.zip b).length → GoodA s k (((a.zip b).take k).foldl addStep ([], c, s)) ∧ Add s (9 * k) (((a.zip b).take k).foldl addStep ([], c, s)) (fun E => ((a.zip b).take k).foldl (fun t p => addB1 t (litV E p.1, litV E p.2)) ([], litV E c)) := by
    intro k
    induction k with
    | zero => intro _; exact ⟨addK_good hs ha hb hc 0 (by omega), ⟨by simp, rfl, fun c' _ _ v _ => rfl⟩⟩
    | succ k ih =>
      intro hk
      obtain ⟨g, q⟩ := ih (by omega)
      refine ⟨addK_good hs ha hb hc (k + 1) hk, ?_⟩
      have hp : (a.zip b)[k]? = some (a.zip b)[k] := List.getElem?_eq_getElem (by omega)
      obtain ⟨hpa, hpb⟩ := zip_mem hp
      have h1 := ha _ (List.mem_of_getElem? hpa)
      have h2 := hb _ (List.mem_of_getElem? hpb)
      have q1 := q.cnt
      obtain ⟨n2, f2, o, ho, hgr, hm⟩ := step_sem g (by omega) h1 h2
      rw [List.take_succ_eq_append_getElem (by omega), List.foldl_append]
      simp only [List.foldl_cons, List.foldl_nil]
      refine ⟨by omega, by rw [f2, q.full], fun c' hc' hg' v hv => ?_⟩
      have q2 := q.sem c' hc' (hgr.trans hg') v hv
      have q3 := hm c' hc' hg' v hv
      simp only at q2 q3 ⊢
      obtain ⟨e1, e2⟩ := b2i_inj _ _ _ _ _ q3
      rw [ho, List.map_append, e2]
      simp only [List.map_cons, List.map_nil]
      rw [e1, List.foldl_append]
      simp only [List.foldl_cons, List.foldl_nil]
      rw [← q2]
      rfl
  have h := (key (a.zip b).length (Nat.le_refl _)).2
  rw [List.take_length, hz] at h
  refine ⟨h.cnt, h.full, fun c' hc' hg' v hv => ?_⟩
  have h2 := h.sem c' hc' hg' v hv
  have h3 : (List.map (litV (ev c' v)) (addP s a b c).1, litV (ev c' v) (addP s a b c).2.1) = _ := h2
  rw [h3]
  unfold addB
  rw [List.zip_map, List.foldl_map]
  rfl
theorem negs_bits {E : List Bool} {n : Int} {l : List Int} (h : ∀ x ∈ l, litN n x = true) : (negs l).map (litV E) = (l.map (litV E)).map (fun b => !b) := by
  unfold negs
  rw [List.map_map, List.map_map]
  refine List.map_congr_left fun x hx => ?_
  simp only [Function.comp]
  exact litV_neg (lit_pos (h x hx))
theorem getD_bits {E : List Bool} {l : List Int} {k : Nat} (hk : k < l.length) : litV E (l.getD k 0) = (l.map (litV E)).getD k false := by
  rw [List.getD_eq_getElem?_getD, List.getD_eq_getElem?_getD, List.getElem?_map, List.getElem?_eq_getElem hk]
  rfl
end Go.Proofs.Ytckeihpjfeonmaa
