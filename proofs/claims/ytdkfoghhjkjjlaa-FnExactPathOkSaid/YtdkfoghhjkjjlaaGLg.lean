/- Own library, part g: slices that the call itself made: they grow and are written. -/
import Derived.Test.YtdkfoghhjkjjlaaGLf
import Derived.Maps.AppendAt
import Derived.Laws.MakeOwn
namespace Go.GL
open Go.RowKit

theorem flatten_get {s : Nat} : ∀ {css : List (List Value)} {i j : Nat} {cs : List Value} {u : Value}, (∀ c ∈ css, c.length = s) → css[i]? = some cs → cs[j]? = some u → css.flatten[i * s + j]? = some u
  | [], _, _, _, _, _, h, _ => by simp at h
  | c :: css, 0, j, cs, u, hs, h, hu => by
    simp at h; subst h
    have hj : j < c.length := (List.getElem?_eq_some_iff.1 hu).1
    simp only [List.flatten_cons, Nat.zero_mul, Nat.zero_add]
    rw [List.getElem?_append_left hj]; exact hu
  | c :: css, i + 1, j, cs, u, hs, h, hu => by
    have hc : c.length = s := hs c List.mem_cons_self
    have := flatten_get (s := s) (css := css) (i := i) (j := j) (fun c hc => hs c (List.mem_cons_of_mem _ hc)) (by simpa using h) hu
    simp only [List.flatten_cons]
    rw [List.getElem?_append_right (by rw [hc, Nat.add_mul]; omega), hc, show (i + 1) * s + j - s = i * s + j by rw [Nat.add_mul]; omega]
    exact this

section
variable {α : Type} [Rep α]

def Css (w : World) (F : Nat → Prop) (css : List (List Value)) (l : List α) : Prop :=
  css.length = l.length ∧ ∀ (i : Nat) (cs : List Value) (x : α), css[i]? = some cs → l[i]? = some x → Rep.ok w F cs x

theorem Css.lens {w : World} {F : Nat → Prop} {css : List (List Value)} {l : List α} (h : Css w F css l) : ∀ c ∈ css, c.length = Rep.sz α := by
  intro c hc
  obtain ⟨i, hi⟩ := List.getElem?_of_mem hc
  have hlt : i < l.length := by rw [← h.1]; exact (List.getElem?_eq_some_iff.1 hi).1
  exact Rep.len (h.2 i c l[i] hi (by simp))
theorem Css.flat_len {w : World} {F : Nat → Prop} {css : List (List Value)} {l : List α} (h : Css w F css l) : css.flatten.length = l.length * Rep.sz α := by
  have := h.lens
  rw [← h.1]
  have key : ∀ (css : List (List Value)), (∀ c ∈ css, c.length = Rep.sz α) → css.flatten.length = css.length * Rep.sz α := by
    intro css
    induction css with
    | nil => simp
    | cons c css ih =>
      intro hh
      simp only [List.flatten_cons, List.length_append, List.length_cons]
      rw [hh c List.mem_cons_self, ih fun c hc => hh c (List.mem_cons_of_mem _ hc), Nat.add_mul]; omega
  exact key css this
theorem Css.one {w : World} {F : Nat → Prop} {css : List (List Value)} {l : List α} (h : Css w F css l) : ∀ u ∈ css.flatten, u.oneCell' = true := by
  intro u hu
  obtain ⟨c, hc, huc⟩ := List.mem_flatten.1 hu
  obtain ⟨i, hi⟩ := List.getElem?_of_mem hc
  have hlt : i < l.length := by rw [← h.1]; exact (List.getElem?_eq_some_iff.1 hi).1
  exact Rep.one (h.2 i c l[i] hi (by simp)) u huc
theorem Css.keep {w w' : World} {F F' : Nat → Prop} {css : List (List Value)} {l : List α} (h : Css w F css l) (hk : ∀ k, k < w.heap.size → F k → w'.heap[k]? = w.heap[k]? ∧ F' k) : Css w' F' css l :=
  ⟨h.1, fun i cs x h1 h2 => Rep.keep (h.2 i cs x h1 h2) hk⟩
theorem Css.append {w : World} {F : Nat → Prop} {css css' : List (List Value)} {l l' : List α} (h : Css w F css l) (h' : Css w F css' l') : Css w F (css ++ css') (l ++ l') := by
  refine ⟨by simp [h.1, h'.1], fun i cs x h1 h2 => ?_⟩
  by_cases hi : i < css.length
  · rw [List.getElem?_append_left hi] at h1
    rw [List.getElem?_append_left (by rw [← h.1]; exact hi)] at h2
    exact h.2 i cs x h1 h2
  · rw [List.getElem?_append_right (by omega)] at h1
    rw [List.getElem?_append_right (by rw [← h.1]; omega), ← h.1] at h2
    exact h'.2 _ cs x h1 h2
theorem elems_css {w : World} {F : Nat → Prop} {ad : Addr} : ∀ {l : List α} {n : Nat}, elems w F ad n l → ∃ css, Css w F css l ∧ ∀ j u, css.flatten[j]? = some u → w.cell? (ad.add (n * Rep.sz α + j)) = some u
  | [], n, _ => ⟨[], ⟨rfl, fun i cs x h => by simp at h⟩, fun j u h => by simp at h⟩
  | x :: l, n, ⟨⟨cs, h1, h2⟩, h3⟩ => by
    obtain ⟨css, h4, h5⟩ := elems_css h3
    refine ⟨cs :: css, ⟨by simp [h4.1], fun i c y hc hy => ?_⟩, fun j u hu => ?_⟩
    · cases i with
      | zero => simp at hc hy; subst hc; subst hy; exact h1
      | succ i => exact h4.2 i c y (by simpa using hc) (by simpa using hy)
    · simp only [List.flatten_cons] at hu
      have hl := Rep.len h1
      by_cases hj : j < cs.length
      · rw [List.getElem?_append_left hj] at hu
        rw [← add_add]; exact h2 j u hu
      · rw [List.getElem?_append_right (by omega)] at hu
        have := h5 _ u hu
        rwa [show (n + 1) * Rep.sz α + (j - cs.length) = n * Rep.sz α + j by rw [Nat.add_mul, hl]; omega] at this
theorem css_elems {w : World} {F : Nat → Prop} {ad : Addr} {css : List (List Value)} {l : List α} (h : Css w F css l) (hc : ∀ j u, css.flatten[j]? = some u → w.cell? (ad.add j) = some u) : elems w F ad 0 l := by
  refine elems_of fun i x hx => ?_
  have hi : i < css.length := by rw [h.1]; exact (List.getElem?_eq_some_iff.1 hx).1
  have hcs : css[i]? = some css[i] := List.getElem?_eq_getElem hi
  refine ⟨css[i], h.2 i _ x hcs hx, fun j u hu => ?_⟩
  rw [Nat.zero_add, add_add]
  exact hc _ u (flatten_get h.lens hcs hu)

/-- a slice of the call's own: go is its block (none: nil), of which G holds; its elements lie in blocks of FF, none of them its own. -/
def OwnS (w : World) (E : TypeId) (go : Option Nat) (G FF : Nat → Prop) (v : Value) (l : List α) : Prop :=
  ∃ (F : Nat → Prop) (css : List (List Value)), Css w F css l ∧ w.ownsRow 0 E (Rep.sz α) v l.length css.flatten ∧ v.ownBlock = go ∧ (∀ g, go = some g → G g ∧ ¬ F g) ∧ (∀ k, F k → FF k ∧ k < w.heap.size)

variable {w w' : World} {E : TypeId} {go : Option Nat} {G G' FF FF' : Nat → Prop} {v : Value} {l : List α}

theorem OwnS.slice (h : OwnS w E go G FF v l) : ∃ a c, v = .slice a l.length c := by
  obtain ⟨F, css, h1, h2, h3, h4, h5⟩ := h
  rcases h2.2 with ⟨rfl, hn⟩ | ⟨g, cap, cur, rfl, _⟩
  · exact ⟨none, 0, by rw [hn]⟩
  · exact ⟨_, _, rfl⟩
theorem OwnS.nil : OwnS w E none G FF (.slice none 0 0) ([] : List α) :=
  ⟨fun _ => False, [], ⟨rfl, fun i cs x h => by simp at h⟩, World.ownsRow_nil w 0 E _, rfl, fun _ h => (by cases h), fun _ h => h.elim⟩
theorem OwnS.inG (h : OwnS w E go G FF v l) {g : Nat} (hg : go = some g) : G g := by
  obtain ⟨F, css, h1, h2, h3, h4, h5⟩ := h
  exact (h4 g hg).1
theorem OwnS.lt (h : OwnS w E go G FF v l) {g : Nat} (hg : go = some g) : g < w.heap.size := by
  obtain ⟨F, css, h1, h2, h3, h4, h5⟩ := h
  exact (h2.lt g (by rw [h3, hg])).2
theorem OwnS.regard (h : OwnS w E go G FF v l) (hG : ∀ k, k < w.heap.size → G k → G' k) : OwnS w E go G' FF v l := by
  have hlt := fun g hg => h.lt (g := g) hg
  obtain ⟨F, css, h1, h2, h3, h4, h5⟩ := h
  exact ⟨F, css, h1, h2, h3, fun g hg => ⟨hG g (hlt g hg) (h4 g hg).1, (h4 g hg).2⟩, h5⟩
theorem OwnS.chg {S : Nat → Prop} (h : OwnS w E go G FF v l) (hc : Chg S w w') (h1 : ∀ k, go = some k → G k → ¬ S k) (h2 : ∀ k, FF k → ¬ S k) : OwnS w' E go G FF v l := by
  obtain ⟨F, css, g1, g2, g3, g4, g5⟩ := h
  refine ⟨F, css, g1.keep fun k hk hf => ⟨hc.block k hk (h2 k (g5 k hf).1), hf⟩, ?_, g3, g4, fun k hk => ⟨(g5 k hk).1, Nat.lt_of_lt_of_le (g5 k hk).2 hc.size⟩⟩
  refine ⟨g2.1, ?_⟩
  rcases g2.2 with hn | ⟨g, cap, cur, rfl, hb, hg, rest⟩
  · exact .inl hn
  · refine .inr ⟨g, cap, cur, rfl, hb, ?_, rest⟩
    have hgo : go = some g := by rw [← g3]; rfl
    rw [hc.block g (Array.getElem?_eq_some_iff.1 hg).1 (h1 g hgo (g4 g hgo).1)]
    exact hg
theorem OwnS.ext (h : OwnS w E go G FF v l) (hc : Chg Non w w') : OwnS w' E go G FF v l := h.chg hc (fun _ _ _ => id) fun _ _ => id

/-- it reads as a list -/
theorem OwnS.rv (h : OwnS w E go G FF v l) : RV w (fun k => (go = some k ∧ G k) ∨ FF k) v l := by
  obtain ⟨F, css, h1, h2, h3, h4, h5⟩ := h
  rcases h2.2 with ⟨rfl, hn⟩ | ⟨g, cap, cur, rfl, hb, hg, hnc, hcm, hcs, htake⟩
  · have : l = [] := List.eq_nil_of_length_eq_zero hn
    subst this
    exact RV.nil
  · have hgo : go = some g := by rw [← h3]; rfl
    refine RV.mk_slice hnc hcm fun _ => ⟨⟨g, 0, none⟩, rfl, .inl ⟨hgo, (h4 g hgo).1⟩, ?_⟩
    exact css_elems (h1.keep fun k _ hf => ⟨rfl, .inr (h5 k hf).1⟩) (h2.cells (g := g) rfl)

/-- the element type of a slice type -/
def ElT (P : Program) (E : TypeId) (α : Type) [Rep α] : Prop :=
  (P.info? E).map (fun i => (i.zero.map (·.cells.size), i.size, decide (i.bytes ≤ 32768))) = some (some (Rep.sz α), Rep.sz α, true)
theorem ElT.out {P : Program} (h : ElT P E α) : ∃ i z, P.info? E = some i ∧ i.zero = some z ∧ i.size = Rep.sz α ∧ z.cells.size = Rep.sz α ∧ i.bytes ≤ 32768 := by
  unfold ElT at h
  cases hi : P.info? E with
  | none => rw [hi] at h; cases h
  | some i =>
    rw [hi] at h
    simp only [Option.map_some, Option.some.injEq, Prod.mk.injEq, decide_eq_true_eq] at h
    obtain ⟨h1, h2, h3⟩ := h
    cases hz : i.zero with
    | none => rw [hz] at h1; cases h1
    | some z => rw [hz] at h1; exact ⟨i, z, rfl, hz, h2, by simpa using h1, h3⟩

theorem OwnS.append_run {P : Program} {t ty : TypeId} (h : OwnS w E go G FF v l) (ht : P.underlying t = some (.slice E)) (hE : ElT P E α) {Fr Fu : Nat → Prop} {u : Value} {m : List α} (hu : RV w Fr u m)
    (hsub : ∀ (cs : List Value) (x : α), Rep.ok w Fr cs x → Rep.ok w Fu cs x) (hFu : ∀ k, k < w.heap.size → Fu k → FF k ∧ go ≠ some k) (hG : ∀ k, w.heap.size ≤ k → G k) (hroom : l.length + m.length ≤ room) :
    ∃ v' w' go', (Builtin.append_ #[t, t] ty #[v, u]).run P w = .ok v' w' ∧ OwnS w' E go' G FF v' (l ++ m) ∧ Chg (fun k => go = some k) w w' ∧ (go' = go ∨ ∃ g, go' = some g ∧ w.heap.size ≤ g) := by
  obtain ⟨i, z, hi, hz, hsz, hzs, hby⟩ := hE.out
  obtain ⟨F, css, h1, h2, h3, h4, h5⟩ := h
  obtain ⟨a, cap, rfl, hcap, hmax, hcells⟩ := hu.slice
  unfold room at hroom
  -- the elements that come
  have hsrc : ∃ cssm, Css w (fun k => Fu k ∧ k < w.heap.size) cssm m ∧ ∀ ad, a = some ad → ∀ j x, cssm.flatten[j]? = some x → w.cell? (ad.add j) = some x := by
    by_cases hm : m = []
    · subst hm
      exact ⟨[], ⟨rfl, fun i cs x h => by simp at h⟩, fun ad _ j x h => by simp at h⟩
    · obtain ⟨ad, rfl, _, he⟩ := hcells hm
      obtain ⟨cssm, g1, g2⟩ := elems_css he
      have g1 : Css w Fu cssm m := ⟨g1.1, fun i cs x h1 h2 => hsub cs x (g1.2 i cs x h1 h2)⟩
      refine ⟨cssm, g1.keep fun k hk hf => ⟨rfl, hf, hk⟩, fun ad' e j x hx => ?_⟩
      simp only [Option.some.injEq] at e; subst e
      simpa using g2 j x hx
  obtain ⟨cssm, g1, g2⟩ := hsrc
  have hFall : ∀ k, (F k ∨ (Fu k ∧ k < w.heap.size)) → FF k ∧ k < w.heap.size := by
    rintro k (hk | ⟨hk, hk2⟩)
    · exact h5 k hk
    · exact ⟨(hFu k hk2 hk).1, hk2⟩
  have hnotgo : ∀ g, go = some g → ¬ (F g ∨ (Fu g ∧ g < w.heap.size)) := by
    rintro g hg (hk | ⟨hk, hk2⟩)
    · exact (h4 g hg).2 hk
    · exact (hFu g hk2 hk).2 hg
  have finish : ∀ (v' : Value) (w' : World), w'.ownsRow 0 E (Rep.sz α) v' (l.length + m.length) (css.flatten ++ cssm.flatten) → w.grownBy w' v.ownBlock → (v'.ownBlock = v.ownBlock ∨ v'.ownBlock = some w.heap.size) →
      OwnS w' E v'.ownBlock G FF v' (l ++ m) ∧ Chg (fun k => go = some k) w w' ∧ (v'.ownBlock = go ∨ ∃ g, v'.ownBlock = some g ∧ w.heap.size ≤ g) := by
    intro v' w' k1 k2 k3
    have hch : Chg (fun k => go = some k) w w' := ⟨k2.os, k2.tape, k2.output, k2.size, fun k hk hn => k2.block k hk (by rw [h3]; exact fun e => hn e.symm)⟩
    refine ⟨⟨fun k => F k ∨ (Fu k ∧ k < w.heap.size), css ++ cssm, ?_, by simpa [List.flatten_append] using k1, rfl, ?_, fun k hk => ⟨(hFall k hk).1, Nat.lt_of_lt_of_le (hFall k hk).2 k2.size⟩⟩, hch, ?_⟩
    · refine Css.append (h1.keep fun k hk hf => ⟨hch.block k hk fun e => hnotgo k e (.inl hf), .inl hf⟩) (g1.keep fun k hk hf => ⟨hch.block k hk fun e => hnotgo k e (.inr hf), .inr hf⟩)
    · intro g hg
      rcases k3 with k3 | k3
      · have : go = some g := by rw [← h3, ← k3]; exact hg
        exact ⟨(h4 g this).1, hnotgo g this⟩
      · rw [hg] at k3
        simp only [Option.some.injEq] at k3; subst k3
        exact ⟨hG _ (Nat.le_refl _), fun hk => Nat.lt_irrefl _ (hFall _ hk).2⟩
    · rcases k3 with k3 | k3
      · exact .inl (k3.trans h3)
      · exact .inr ⟨_, k3, Nat.le_refl _⟩
  cases a with
  | none =>
    have hm : m = [] := by
      by_cases hm : m = []
      · exact hm
      · obtain ⟨ad, h, _⟩ := hcells hm; cases h
    subst hm
    have hc0 : cssm = [] := List.eq_nil_of_length_eq_zero g1.1
    subst hc0
    have hrun : (Builtin.append_ #[t, t] ty #[v, .slice none ([] : List α).length cap]).run P w = .ok v w := by
      rcases h2.2 with ⟨rfl, _⟩ | ⟨g, cap', cur, rfl, _, _, hnc, _⟩
      · simp [Builtin.append_, run_underlying ht, sizeOf, typeInfo, hi, Builtin.lenOf, Builtin.firstCells]
      · simp [Builtin.append_, run_underlying ht, sizeOf, typeInfo, hi, Builtin.lenOf, Builtin.firstCells, hnc, storeCells]
    obtain ⟨k1, k2, k3⟩ := finish v w (by simpa using h2) ⟨rfl, rfl, rfl, Nat.le_refl _, fun _ _ _ => rfl⟩ (.inl rfl)
    exact ⟨v, w, _, hrun, k1, k2, k3⟩
  | some ad =>
    obtain ⟨v', w', hrun, k1, k2, _, k3⟩ := run_append_own_at (P := P) w 0 t ty E i z (Rep.sz α) i.bytes ht hi hz hsz rfl hzs Rep.pos v l.length css.flatten h2 ad m.length cap cssm.flatten g1.flat_len (g2 ad rfl) g1.one
      (by simp only [maxLen]; omega) (by
        have : (l.length + m.length) * i.bytes ≤ 4294967296 * 32768 := Nat.mul_le_mul hroom hby
        omega) (Nat.zero_le _)
    obtain ⟨q1, q2, q3⟩ := finish v' w' k1 k2 k3
    exact ⟨v', w', _, hrun, q1, q2, q3⟩

/-- make([]T, n) -/
theorem make_run {P : Program} {t : TypeId} (ht : P.underlying t = some (.slice E)) (hE : ElT P E α) {zc : α} (hz : ∀ i, P.info? E = some i → ∀ z, i.zero = some z → Rep.ok w (fun _ => False) z.cells.toList zc)
    {n : Int} (hn : 0 ≤ n ∧ n.toNat ≤ room) (hG : G w.heap.size) :
    ∃ v' w' go', (Instr.makeSlice t (.int .i64 n) (.int .i64 n)).run P w = .ok v' w' ∧ OwnS w' E go' G FF v' (List.replicate n.toNat zc) ∧ Chg Non w w' ∧ ∃ g, go' = some g ∧ w.heap.size ≤ g := by
  obtain ⟨i, z, hi, hzz, hsz, hzs, hby⟩ := hE.out
  obtain ⟨hn0, hroom⟩ := hn
  unfold room at hroom
  have hrun := run_make (P := P) w t E i z ht hi hzz .i64 .i64 n n hn0 (Int.le_refl _) (by
    have h1 : (i.bytes : Int) * n ≤ 32768 * 4294967296 := Int.mul_le_mul (by omega) (by omega) hn0 (by omega)
    omega) (by omega)
  refine ⟨_, _, some w.heap.size, hrun, ?_, Chg.alloc _ _, _, rfl, Nat.le_refl _⟩
  have hok := hz i hi z hzz
  have hzl : z.cells.toList.length = Rep.sz α := by simpa using hzs
  have hmc : ∀ m, (madeCells z.cells (m * i.size)).toList = (List.replicate m z.cells.toList).flatten := by
    intro m
    rw [hsz]
    have hlens : ∀ c ∈ List.replicate m z.cells.toList, c.length = Rep.sz α := fun c hc => by rw [(List.mem_replicate.1 hc).2]; exact hzl
    have hfl : (List.replicate m z.cells.toList).flatten.length = m * Rep.sz α := by
      rw [List.length_flatten, List.map_replicate, List.sum_replicate_nat, hzl]
    apply List.ext_getElem?
    intro k
    by_cases hk : k < m * Rep.sz α
    · have hp := Rep.pos (α := α)
      have h1 : k / Rep.sz α < m := (Nat.div_lt_iff_lt_mul hp).2 hk
      have h2 : k % Rep.sz α < Rep.sz α := Nat.mod_lt _ hp
      have h3 : z.cells.toList[k % Rep.sz α]? = some (z.cells.toList[k % Rep.sz α]'(by omega)) := List.getElem?_eq_getElem (by omega)
      have h4 := flatten_get (s := Rep.sz α) (css := List.replicate m z.cells.toList) (i := k / Rep.sz α) (j := k % Rep.sz α) hlens (by simp [h1]) h3
      rw [Nat.div_add_mod' k (Rep.sz α)] at h4
      rw [h4]
      simp only [madeCells, Array.toList_map, List.getElem?_map, Array.toList_range]
      rw [List.getElem?_range hk]
      simp only [hzs, Option.map_some, Array.getElem_toList]
      rw [getElem!_pos z.cells (k % Rep.sz α) (by rw [hzs]; exact h2)]
    · rw [List.getElem?_eq_none (by simp [size_madeCells]; omega), List.getElem?_eq_none (by omega)]
  refine ⟨fun _ => False, List.replicate n.toNat z.cells.toList, ⟨by simp, ?_⟩, ⟨?_, .inr ⟨w.heap.size, n.toNat, madeCells z.cells (n.toNat * i.size), ?_, Nat.zero_le _, heap_alloc_new w _, ?_, ?_, ?_, ?_⟩⟩, rfl, ?_, fun _ h => h.elim⟩
  · intro j cs x h1 h2
    rw [List.getElem?_replicate] at h1 h2
    split at h1
    · rename_i hj
      rw [if_pos hj] at h2
      simp only [Option.some.injEq] at h1 h2
      subst h1; subst h2
      exact Rep.keep hok fun _ _ h => h.elim
    · cases h1
  · rw [← hmc, Array.length_toList, size_madeCells, hsz]; simp
  · simp
  · simp
  · simp only [maxLen]; omega
  · rw [size_madeCells, hsz]
  · rw [hmc, List.length_replicate]
    exact List.take_of_length_le (by
      rw [List.length_flatten, List.map_replicate, List.sum_replicate_nat, hzl]; exact Nat.le_refl _)
  · intro g hg
    simp only [Option.some.injEq] at hg; subst hg
    exact ⟨hG, id⟩
end
end Go.GL
