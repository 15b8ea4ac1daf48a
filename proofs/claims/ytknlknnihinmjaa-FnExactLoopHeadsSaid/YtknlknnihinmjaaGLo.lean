/- Own library, part o: a slice of the call's own, sorted by the library. -/
import Derived.Test.YtknlknnihinmjaaGLn
import Derived.Sort.OwnSortedInts
import Derived.Shelf.Slices.In.SortNone
import Derived.Shelf.Sort.Plain
namespace Go.GL
open Go.RowKit Go.Shelf Go.Sort Go.Proofs

abbrev sortI (l : List Int) : List Int := l.mergeSort fun x y => decide (x ≤ y)

theorem OwnS.sorted {w : World} {E : TypeId} {go : Option Nat} {G : Nat → Prop} {a : Option Addr} {n c : Nat} {l : List Int} (h : OwnS w E go G Non (.slice a n c) l) (hl : n ≠ 0) :
    n = l.length ∧ ∃ g, a = some ⟨g, 0, none⟩ ∧ g < w.heap.size ∧ Holds (Value.int .i64) w g 0 l.toArray ∧
      ∀ k os, OwnS (grow (putRow (Value.int .i64) (Sort.ahead w k) g 0 (sortI l).toArray) os) E go G Non (.slice a n c) (sortI l) ∧ Chg (fun k => go = some k) w (grow (putRow (Value.int .i64) (Sort.ahead w k) g 0 (sortI l).toArray) os) := by
  obtain ⟨F, css, h1, h2, h3, h4, h5⟩ := h
  rcases h2.2 with ⟨hn, hz⟩ | ⟨g, cap, cur, hv, hb, hg, hnc, hcm, hcs, htake⟩
  · simp only [Value.slice.injEq] at hn
    exact absurd hn.2.1 hl
  simp only [Value.slice.injEq] at hv
  obtain ⟨rfl, rfl, rfl⟩ := hv
  have hcss := css_ints h1
  subst hcss
  have hsz : Rep.sz Int = 1 := rfl
  have hgo : go = some g := by rw [← h3]; rfl
  rw [hsz] at hcs htake
  rw [flat_ints, Nat.mul_one] at htake
  have hlen : (sortI l).length = l.length := List.length_mergeSort l
  have hgs : g < w.heap.size := (Array.getElem?_eq_some_iff.1 hg).1
  refine ⟨rfl, g, rfl, hgs, holds_of_blockI hg htake, fun k os => ?_⟩
  have hgr := grownBy_sortedI (w := w) (g := g) (n := k) (os := os) (sortI l).toArray
  have hchg : Chg (fun k => go = some k) w (grow (putRow (Value.int .i64) (Sort.ahead w k) g 0 (sortI l).toArray) os) :=
    ⟨hgr.os, hgr.tape, hgr.output, hgr.size, fun k hk hn => hgr.block k hk fun e => hn (by rw [hgo]; exact e.symm)⟩
  refine ⟨⟨Non, (sortI l).map Flat.enc, css_flat _, ⟨?_, .inr ⟨g, c, _, by rw [hlen], hb, heap_sortedI _ hg, by rw [hlen]; exact hnc, hcm, ?_, ?_⟩⟩, h3, fun g' hg' => ⟨(h4 g' hg').1, id⟩, fun _ h => h.elim⟩, hchg⟩
  · rw [flat_ints, List.length_map, hsz, Nat.mul_one]
  · rw [hsz]; simpa [putCells] using hcs
  · rw [hsz, Nat.mul_one, flat_ints]
    exact take_putCellsI cur (sortI l) (by rw [hlen, hcs]; omega)

theorem calls_sort {P : Program} {ρ : Ren} (Ly : Lays.n189 P ρ) {k : Nat} (hk : ρ.f 189 = k) {E : TypeId} {l : List Int} (hl : l.length < 4611686018427387904) {w : World} {S0 F0 : Nat → Prop} {a : Option Addr} {n c : Nat}
    (hs : Sep [SL E (.slice a n c) l] w S0) (hb : ∀ k, S0 k → k < w.heap.size) (hd : ∀ k, S0 k → F0 k → False) :
    Calls P k [.slice a n c].toArray w fun e w' => ∃ v, e = .returned v ∧ v = .tuple #[] ∧ ∃ S', Stp w S0 w' S' ∧ Sep [SL E (.slice a n c) (sortI l)] w' S' := by
  subst hk
  have hM : Mem w S0 (fun k => F0 k ∧ k < w.heap.size) w S0 (fun k => F0 k ∧ k < w.heap.size) := Mem.start hb (fun _ h => h.2) (fun k h1 h2 => hd k h1 h2.1)
  obtain ⟨hn, _⟩ := hs.relen 0 rfl
  obtain ⟨A, hok, hup⟩ := hs.upd 0 rfl hM
  by_cases h0 : n = 0
  · have hnil : l = [] := List.eq_nil_of_length_eq_zero (by omega)
    subst h0 hnil
    refine (Any.slices_Sort_int_none Ly a c w).mono ?_
    rintro e w' ⟨rfl, rfl⟩
    exact ⟨_, rfl, rfl, S0, hM.out, by simpa [sortI] using hs⟩
  · rcases hok with ⟨go, ho⟩ | ⟨rfl, q, hq⟩
    · obtain ⟨rfl, g, rfl, hg, hH, hnext⟩ := ho.sorted h0
      refine (Any.slices_Sort_int Ly g 0 c l w hH hg hl).mono ?_
      rintro e w' ⟨rfl, m, os, rfl⟩
      obtain ⟨h1, h2⟩ := hnext m os
      obtain ⟨S', hp, hs'⟩ := hup (P' := SL E (.slice (some ⟨g, 0, none⟩) l.length c) (sortI l)) (h2.mono fun k hk => ho.inG hk) (.inl ⟨go, h1.regard fun k _ hk => .inl hk⟩)
      exact ⟨_, rfl, rfl, S', hp, hs'⟩
    · simp only [Value.slice.injEq] at hq
      exact absurd hq.2.1 h0
end Go.GL
