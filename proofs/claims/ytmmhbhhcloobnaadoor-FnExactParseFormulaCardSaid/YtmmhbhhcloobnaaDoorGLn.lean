/- Own library, part n: the rest of an own slice; the address of an element. -/
import Derived.Test.YtmmhbhhcloobnaaDoorGLl
import Derived.ArgAppend
namespace Go.GL
open Go.RowKit
/-! ### the rest of an own slice: what is ahead of it is no longer looked at -/
theorem Sep.swapT {w : World} {S : Nat → Prop} {L : List HP} {Q Q' : HP} (i : Nat) (h : Sep L w S) (hi : L[i]? = some Q) (f : ∀ A, Q.ok w A → Q'.ok w A) : Sep (L.set i Q') w S := by
  obtain ⟨g, h1, h2⟩ := h
  refine ⟨g, fun j R hj => ?_, h2⟩
  rw [List.getElem?_set] at hj
  by_cases e : i = j
  · subst e
    have hlt : i < L.length := (List.getElem?_eq_some_iff.1 hi).1
    simp only [if_true, hlt, Option.some.injEq] at hj
    subst hj
    exact ⟨f _ (h1 i Q hi).1, (h1 i Q hi).2⟩
  · rw [if_neg e] at hj
    exact h1 j R hj
/-- the rest of an own slice of integers -/
def TL (E : TypeId) (v : Value) (l : List Int) : HP where
  ok w A := (∃ g c lo a' c' base, OwnS w E (some g) A Non (.slice (some ⟨g, 0, none⟩) base.length c) base ∧ VW 1 (some ⟨g, 0, none⟩) c lo a' c' ∧ lo.toNat + l.length = base.length ∧ l = base.drop lo.toNat ∧ v = .slice a' l.length c') ∨ (l = [] ∧ ∃ a, v = .slice a 0 0)
  mono := fun h hA => by
    rcases h with ⟨g, c, lo, a', c', base, h, r⟩ | h
    · exact .inl ⟨g, c, lo, a', c', base, h.regard hA, r⟩
    · exact .inr h
  keep := fun h hc hT => by
    rcases h with ⟨g, c, lo, a', c', base, h, r⟩ | h
    · exact .inl ⟨g, c, lo, a', c', base, h.chg hc (fun k _ hk => hT k hk) (fun _ h => h.elim), r⟩
    · exact .inr h
theorem VW.zero {b : Option Addr} {c : Nat} : VW 1 b c 0 b c := by
  refine ⟨Int.le_refl _, ?_, by simp⟩
  cases b with
  | none => simp
  | some ad => simp [Addr.add]
theorem tl_of {E : TypeId} {v : Value} {l : List Int} {w : World} {A : Nat → Prop} (h : (SL E v l).ok w A) : (TL E v l).ok w A := by
  rcases h with ⟨go, h⟩ | h
  · have h' := h
    obtain ⟨F, css, h1, h2, h3, h4, h5⟩ := h'
    rcases h2.2 with ⟨hn, hz⟩ | ⟨g, cap, cur, hv, rest⟩
    · exact .inr ⟨List.eq_nil_of_length_eq_zero hz, _, hn⟩
    · subst hv
      have hgo : go = some g := by rw [← h3]; rfl
      subst hgo
      exact .inl ⟨g, cap, 0, _, cap, l, h, VW.zero, by simp, by simp, rfl⟩
  · exact .inr h
theorem Sep.toT {w : World} {S : Nat → Prop} {L : List HP} {E : TypeId} {v : Value} {l : List Int} (i : Nat) (h : Sep L w S) (hi : L[i]? = some (SL E v l)) : Sep (L.set i (TL E v l)) w S := h.swapT i hi fun _ => tl_of
theorem tl_rv {E : TypeId} {v : Value} {l : List Int} {w : World} {A : Nat → Prop} (h : (TL E v l).ok w A) : RV w A v l := by
  rcases h with ⟨g, c, lo, a', c', base, h1, h2, h3, h4, rfl⟩ | ⟨rfl, a, rfl⟩
  · have hr := h1.rv.sub (F' := A) fun k _ hk => hk.elim (fun hk => hk.2) fun hk => hk.elim
    have := view_rv (n := l.length) hr h2 (by omega)
    have e : vcut base lo l.length = l := by
      unfold vcut
      rw [← h4]
      exact List.take_length
    rw [e] at this
    exact this
  · exact RV.mk_slice (l := ([] : List Int)) (Nat.le_refl _) (Nat.zero_le _) fun h => absurd rfl h
theorem Sep.rvT {w : World} {S : Nat → Prop} {L : List HP} {E : TypeId} {v : Value} {l : List Int} (i : Nat) (h : Sep L w S) (hi : L[i]? = some (TL E v l)) : RV w S v l := by
  obtain ⟨A, h1, h2⟩ := h.get i hi
  exact (tl_rv h1).sub fun k _ hk => h2 k hk
theorem tl_cut {E : TypeId} {w : World} {A : Nat → Prop} {b a' : Option Addr} {n c c' : Nat} {l r : List Int} {m : Int} (h : (TL E (.slice b n c) l).ok w A) (hv : VW 1 b c m a' c') (hm : m.toNat + r.length = l.length) (hr : r = l.drop m.toNat) : (TL E (.slice a' r.length c') r).ok w A := by
  obtain ⟨h0, hadd, hcap⟩ := hv
  by_cases e : c = m.toNat
  · -- nothing is left, and no room
    have hrn : r.length = 0 := by
      rcases h with ⟨g, c0, lo, a0, c1, base, h1, h2, h3, h4, h5⟩ | ⟨rfl, a, h5⟩
      · simp only [Value.slice.injEq] at h5
        obtain ⟨rfl, rfl, rfl⟩ := h5
        have hb := h1.rv.slice
        obtain ⟨_, cc, hq, hle, _⟩ := hb
        simp only [Value.slice.injEq] at hq
        obtain ⟨_, _, rfl⟩ := hq
        have := h2.cap
        omega
      · rw [List.length_nil] at hm; omega
    have : r = [] := List.eq_nil_of_length_eq_zero hrn
    subst this
    exact .inr ⟨rfl, a', by simp [hcap, e]⟩
  · rcases h with ⟨g, c0, lo, a0, c1, base, h1, h2, h3, h4, h5⟩ | ⟨rfl, a, h5⟩
    · simp only [Value.slice.injEq] at h5
      obtain ⟨rfl, rfl, rfl⟩ := h5
      obtain ⟨k0, kadd, kcap⟩ := h2
      have hlo : (lo + m).toNat = lo.toNat + m.toNat := by omega
      refine .inl ⟨g, c0, lo + m, a', c', base, h1, ⟨by omega, ?_, by omega⟩, by omega, by rw [hr, h4, List.drop_drop, hlo], rfl⟩
      rw [if_neg e] at hadd
      rw [hadd, kadd]
      by_cases e2 : c0 = lo.toNat
      · -- no room at all: then m = 0
        have : c = 0 := by omega
        obtain ⟨_, cc, hq, hle, _⟩ := h1.rv.slice
        simp only [Value.slice.injEq] at hq
        obtain ⟨_, _, rfl⟩ := hq
        have hm0 : m.toNat = 0 := by
          have : l.length = 0 := by omega
          omega
        exact absurd (by omega) e
      · rw [if_neg e2]
        obtain ⟨_, cc, hq, hle, _⟩ := h1.rv.slice
        simp only [Value.slice.injEq] at hq
        obtain ⟨_, _, rfl⟩ := hq
        rw [if_neg (by omega)]
        rw [Option.map_some, Option.map_some, add_add, hlo, Nat.add_mul]
        rfl
    · simp only [Value.slice.injEq] at h5
      obtain ⟨_, _, rfl⟩ := h5
      simp at hm
      exact absurd (by omega) e

theorem flat_ints (l : List Int) : (l.map Flat.enc).flatten = l.map (Value.int .i64) := by
  induction l with
  | nil => rfl
  | cons x l ih => rw [List.map_cons, List.flatten_cons, ih]; rfl

theorem css_ints {w : World} {F : Nat → Prop} {css : List (List Value)} {l : List Int} (h1 : Css w F css l) : css = l.map Flat.enc := by
  apply List.ext_getElem?
  intro i
  rw [List.getElem?_map]
  by_cases hi : i < l.length
  · have hi' : i < css.length := by rw [h1.1]; exact hi
    rw [List.getElem?_eq_getElem hi, List.getElem?_eq_getElem hi']
    exact congrArg some (Flat.iff.1 (h1.2 i css[i] l[i] (List.getElem?_eq_getElem hi') (List.getElem?_eq_getElem hi)))
  · rw [List.getElem?_eq_none (by rw [h1.1]; omega), List.getElem?_eq_none (by omega)]; rfl
theorem len_cast {α : Type} (l : List α) : len l = (l.length : Int) := rfl
theorem cell_of {w : World} {g : Nat} {cur : Array Value} {E : TypeId} (hg : w.heap[g]? = some (.cells cur E (0, 0))) (j : Nat) : w.cell? ⟨g, j, none⟩ = cur[j]? := by simp [World.cell?, hg]
/-- append to the rest of an own slice -/
theorem tl_append {P : Program} {t ty E : TypeId} {w : World} {A : Nat → Prop} {v u : Value} {l m : List Int} (h : (TL E v l).ok w A) (ht : P.underlying t = some (.slice E)) (hE : ElT P E Int) {Fr : Nat → Prop} (hu : RV w Fr u m) (hroom : l.length + m.length ≤ room) :
    ∃ a' c' w' T, (Builtin.append_ #[t, t] ty #[v, u]).run P w = .ok (.slice a' (l ++ m).length c') w' ∧ (TL E (.slice a' (l ++ m).length c') (l ++ m)).ok w' (fun k => A k ∨ w.heap.size ≤ k) ∧ Chg T w w' ∧ ∀ k, T k → A k := by
  rcases h with ⟨g, c, lo, a', c', base, ho, hv, h3, h4, rfl⟩ | ⟨rfl, b, rfl⟩
  · obtain ⟨F, css, h1, h2, hob, hgo, h5⟩ := ho
    have hcss := css_ints h1
    subst hcss
    have hsI : Rep.sz Int = 1 := rfl
    rcases h2.2 with ⟨hn0, _⟩ | ⟨g0, cap, cur, hv0, hb, hg, hnc, hcm, hcs, htake⟩
    · cases hn0
    simp only [Value.slice.injEq, Option.some.injEq, Addr.mk.injEq] at hv0
    obtain ⟨⟨rfl, _⟩, _, rfl⟩ := hv0
    rw [hsI, Nat.mul_one] at hcs
    rw [hsI, Nat.mul_one, flat_ints] at htake
    obtain ⟨i, z, hi, hz, hsz, hzs, hby⟩ := hE.out
    obtain ⟨ua, ucap, rfl, hcap, hmax, hcells⟩ := hu.slice
    obtain ⟨v0, vadd, vcap⟩ := hv
    unfold room at hroom
    obtain ⟨off, ha', hoff⟩ : ∃ off, a' = some ⟨g, off, none⟩ ∧ (c ≠ lo.toNat → off = lo.toNat) := by
      by_cases e : c = lo.toNat
      · exact ⟨0, by rw [vadd, if_pos e], fun h => absurd e h⟩
      · refine ⟨lo.toNat, ?_, fun _ => rfl⟩
        rw [vadd, if_neg e]
        have : (⟨g, 0, none⟩ : Addr).add (lo.toNat * 1) = ⟨g, lo.toNat * 1, none⟩ := by unfold Addr.add; split <;> simp_all
        rw [Option.map_some, this, Nat.mul_one]
    subst ha'
    by_cases hm : m = []
    · subst hm
      refine ⟨some ⟨g, off, none⟩, c', w, Non, ?_, ?_, Chg.refl _ _, fun k hk => hk.elim⟩
      · have hle : l.length ≤ c' := by omega
        cases ua with
        | none => simp [Builtin.append_, run_underlying ht, sizeOf, typeInfo, hi, Builtin.lenOf, Builtin.firstCells, storeCells, hle]
        | some ad => simp [Builtin.append_, run_underlying ht, sizeOf, typeInfo, hi, Builtin.lenOf, Builtin.firstCells, storeCells, loadCells, loadCellsFrom, hle]
      · rw [List.append_nil]
        refine .inl ⟨g, c, lo, _, c', base, ?_, ⟨v0, vadd, vcap⟩, h3, h4, rfl⟩
        exact OwnS.regard (G := A) ⟨F, _, h1, h2, hob, hgo, h5⟩ fun k _ hk => .inl hk
    · obtain ⟨ad, rfl, _, he⟩ := hcells hm
      obtain ⟨cssm, g1, g2⟩ := elems_css he
      have hcm2 := css_ints g1
      subst hcm2
      rw [flat_ints] at g2
      have hpos : 0 < m.length := List.length_pos_iff.2 hm
      have hl1 : (m.map (Value.int .i64)).length = m.length * i.size := by rw [hsz, hsI]; simp
      have hone : ∀ u ∈ m.map (Value.int .i64), u.oneCell' = true := fun u hu => by
        obtain ⟨x, _, rfl⟩ := List.mem_map.1 hu
        rfl
      have hnews : ∀ j u, (m.map (Value.int .i64))[j]? = some u → w.cell? (ad.add j) = some u := fun j u hu => by simpa using g2 j u hu
      by_cases hr : l.length + m.length ≤ c'
      · have hne : c ≠ lo.toNat := by omega
        obtain rfl := hoff hne
        have hfc := run_firstCells_some (P := P) w i.size m.length ad m.length ucap (m.map (Value.int .i64)) hl1 hnews
        have hst := run_storeCells_at (P := P) g (lo.toNat + l.length) E (m.map (Value.int .i64)) 0 cur w hg (by simp; omega) hone
        simp only [Nat.add_zero] at hst
        have hoffs : lo.toNat + l.length * i.size = lo.toNat + l.length := by rw [hsz, hsI, Nat.mul_one]
        refine ⟨some ⟨g, lo.toNat, none⟩, c', w.setRow g (List.take (lo.toNat + l.length) cur.toList ++ m.map (Value.int .i64) ++ List.drop (lo.toNat + l.length + (m.map (Value.int .i64)).length) cur.toList).toArray, fun k => k = g, ?_, ?_, ⟨rfl, rfl, rfl, by simp, fun k _ hn => setRow_other w g k _ fun e => hn (by rw [e])⟩, fun k hk => hk ▸ (hgo g rfl).1⟩
        · rw [List.length_append]
          simp [Builtin.append_, run_underlying ht, sizeOf, typeInfo, hi, Builtin.lenOf, hr, hfc, Addr.add_lit, hoffs, hst]
        · have hbm : (base ++ m).length = base.length + m.length := List.length_append
          refine .inl ⟨g, c, lo, _, c', base ++ m, ⟨Non, (base ++ m).map Flat.enc, css_flat _, ⟨?_, .inr ⟨g, c, _, rfl, hb, setRow_heap w g cur _ E _ hg, by omega, hcm, ?_, ?_⟩⟩, rfl, fun g' hg' => ⟨.inl ?_, id⟩, fun _ h => h.elim⟩, ⟨v0, vadd, vcap⟩, by rw [hbm, List.length_append]; omega, ?_, rfl⟩
          · rw [flat_ints, hsI, Nat.mul_one, List.length_map]
          · rw [hsI]; simp; omega
          · rw [hsI, Nat.mul_one, flat_ints, List.map_append, hbm, h3, ← htake]
            have hlt : (cur.toList.take base.length).length = base.length := by simp; omega
            simp only [List.append_assoc]
            rw [List.take_append, hlt]
            simp [List.take_take]
          · obtain rfl := Option.some.inj hg'
            exact (hgo _ rfl).1
          · rw [h4, List.drop_append_of_le_length (by omega)]
      · obtain ⟨v', w', hrun, hrow, hgr⟩ := run_append_arg_grows (P := P) w t ty E i z (Rep.sz Int) i.bytes ht hi hz hsz rfl hzs Rep.pos ⟨g, off, none⟩ l.length c' (l.map (Value.int .i64)) (by rw [hsI]; simp) (fun j u hu => by
            have hj : j < l.length := by simpa using (List.getElem?_eq_some_iff.1 hu).1
            have hne : c ≠ lo.toNat := by
              have := hnc
              omega
            obtain rfl := hoff hne
            have hadd : (⟨g, lo.toNat, none⟩ : Addr).add j = ⟨g, lo.toNat + j, none⟩ := by unfold Addr.add; split <;> simp_all
            rw [hadd, cell_of hg]
            have := congrArg (fun x => x[lo.toNat + j]?) htake
            simp only [List.getElem?_take_of_lt (show lo.toNat + j < base.length by omega), Array.getElem?_toList] at this
            rw [this, ← hu, h4, List.getElem?_map, List.getElem?_map, List.getElem?_drop]) ad m.length ucap (m.map (Value.int .i64)) (by rw [hsI]; simp) hnews (by omega) (by simp only [maxLen]; omega) (by
            have : (l.length + m.length) * i.bytes ≤ 4294967296 * 32768 := Nat.mul_le_mul hroom hby
            omega)
        have hrow' := hrow
        rcases hrow.2 with ⟨_, h0⟩ | ⟨g', cap', cur', rfl, hb', rest⟩
        · omega
        · have hlm : l.length + m.length = (l ++ m).length := List.length_append.symm
          rw [hlm] at hrun hrow'
          refine ⟨_, cap', w', Non, hrun, tl_of (.inl ⟨some g', Non, (l ++ m).map Flat.enc, css_flat _, ⟨?_, .inr ⟨g', cap', cur', rfl, Nat.zero_le _, ?_⟩⟩, rfl, fun g'' hg'' => ⟨.inr ?_, id⟩, fun _ h => h.elim⟩), ⟨hgr.os, hgr.tape, hgr.output, hgr.size, fun k hk _ => hgr.block k hk (by simp)⟩, fun k hk => hk.elim⟩
          · rw [flat_ints, hsI, Nat.mul_one, List.length_map]
          · rw [flat_ints, List.map_append, ← hlm]; exact rest
          · obtain rfl := Option.some.inj hg''
            exact hb'
  · obtain ⟨v', w', hrun, hok, hc⟩ := append_empty_run (P := P) (ty := ty) (v := b) ht hE hu (by simpa using hroom)
    have hsl : ∃ a' c', v' = .slice a' (List.length m) c' := by
      rcases hok with ⟨go, ho⟩ | ⟨rfl, a', rfl⟩
      · exact ho.slice
      · exact ⟨a', 0, rfl⟩
    obtain ⟨a', c', rfl⟩ := hsl
    exact ⟨a', c', w', Non, by simpa using hrun, by simpa using (TL E _ m).mono (tl_of hok) fun k _ hk => .inr hk, hc, fun k hk => hk.elim⟩
section
variable {P : Program} {ops : Array Oper} {Q : Exit → Act → World → Prop} {a : Act} {w w0 : World} {S S0 F F0 : Nat → Prop} {N : Nat} {σ : List (Nat × Value)} {k d : Nat} {t t' ty E : TypeId} {x y : Operand} {pos : String} {af : Array Edge}
  {L : List HP}
/-- l[m:] of the rest of an own slice -/
theorem q_tail {lo : Option Operand} {b : Option Addr} {n0 c : Nat} {l r : List Int} {m : Int} (i : Nat) (hs : Sep L w S) (hL : L[i]? = some (TL E (.slice b n0 c) l)) (he : Ty P E Int) (ht : P.underlying t = some (.slice E)) (ho : ops[k]? = some ⟨some d, .slice t x lo none none, ty, pos, af, none⟩) (hd : Nat.blt d N = true) (hF : FrS N σ a)
    (hx : opd σ x = some (.slice b n0 c)) (hlo : match lo with | none => m = 0 | some y => ∃ k, opd σ y = some (.int k m)) (hr : cut? l m (len l) = some r)
    (h : ∀ a' c' fr, Sep (L.set i (TL E (.slice a' (List.length r) c') r)) w S → FrS N ((d, .slice a' (List.length r) c') :: σ) fr → wpFrom P ops Q (k + 1) fr w) : wpFrom P ops Q k a w := by
  refine s_view (hi := none) (m := m) he ht ho hd hF hx (hs.rvT i hL) (by cases lo <;> exact hlo) rfl hr fun a' c' fr hv hlen hF' => ?_
  have hr2 := hr
  unfold cut? at hr2
  split at hr2
  · rename_i hb
    simp only [len_cast, Option.some.injEq, Int.toNat_natCast, List.take_length] at hr2
    refine h a' c' fr (hs.swapT i hL fun A hA => tl_cut hA hv ?_ hr2.symm) hF'
    rw [← hr2, List.length_drop]
    obtain ⟨_, h1, _⟩ := hb
    rw [len_cast] at h1
    have := hv.nn
    omega
  · cases hr2
/-- append to the rest of an own slice -/
theorem q_appendT {y' : Operand} {Fr : Nat → Prop} {v u : Value} {l m : List Int} (i : Nat) (hs : Sep L w S) (hM : Mem w0 S0 F0 w S F) (hL : L[i]? = some (TL E v l)) (ht : P.underlying t = some (.slice E)) (hE : ElT P E Int)
    (hop : ops[k]? = some ⟨some d, .call ⟨.builtin .append, #[x, y'], #[t, t']⟩, ty, pos, af, none⟩) (htt : t' = t) (hd : Nat.blt d N = true) (hF : FrS N σ a) (hx : opd σ x = some v) (hy : opd σ y' = some u) (hu : RV w Fr u m)
    {r : List Int} (hr : app? l m = some r)
    (h : ∀ a' c' w' S' fr, Sep (L.set i (TL E (.slice a' (List.length r) c') r)) w' S' → Stp w S w' S' → FrS N ((d, .slice a' (List.length r) c') :: σ) fr → wpFrom P ops Q (k + 1) fr w') : wpFrom P ops Q k a w := by
  obtain ⟨A, hok, hup⟩ := hs.upd i hL hM
  subst htt
  unfold app? at hr
  split at hr
  · rename_i hroom
    simp only [Option.some.injEq] at hr; subst hr
    obtain ⟨a', c', w', T, hrun, hok', hc, hT⟩ := tl_append (ty := ty) hok ht hE hu hroom
    refine from_val hF hop rfl rfl (Nat.blt_eq.mp hd) (R := fun z w1 => z = .slice a' (List.length (l ++ m)) c' ∧ w1 = w') (does_value ?_ ⟨rfl, rfl⟩) fun z w1 fr hz hF' => ?_
    · simp [execOp, resolve, invoke, builtin, opd_eval hF hx, opd_eval hF hy, hrun]
    · obtain ⟨rfl, rfl⟩ := hz
      obtain ⟨S', hp, hs'⟩ := hup (hc.mono hT) hok'
      exact h a' c' _ S' fr hs' hp hF'
  · cases hr
/-- the address of an element -/
theorem s_idx {α : Type} [Flat α] {v : Value} {l : List α} {kd : IntKind} {n : Int} {z : α} (he : Ty P E α) (ht : P.underlying t = some (.slice E)) (ho : ops[k]? = some ⟨some d, .indexAddr t x y, ty, pos, af, none⟩) (hd : Nat.blt d N = true) (hF : FrS N σ a)
    (hx : opd σ x = some v) (hl : RV w F v l) (hy : opd σ y = some (.int kd n)) (hn : 0 ≤ n) (hz : l[n.toNat]? = some z)
    (h : ∀ ad fr, Cells w ad (Flat.enc z) → FrS N ((d, .pointer (some ad)) :: σ) fr → wpFrom P ops Q (k + 1) fr w) : wpFrom P ops Q k a w := by
  refine from_val hF ho rfl rfl (Nat.blt_eq.mp hd) (does_index rfl ht he (opd_eval hF hx) hl (opd_eval hF hy) hn hz) fun p w1 fr1 hpw hF1 => ?_
  obtain ⟨⟨ad, cs, rfl, hFb, hok, hc⟩, rfl⟩ := hpw
  have hcs := Flat.iff.1 hok
  subst hcs
  exact h ad fr1 hc hF1
/-- what lies there -/
theorem s_ldE {α : Type} [Flat α] {u : Value} {z : α} {ad : Addr} (he : Ty P E α) (ho : ops[k]? = some ⟨some d, .load t y, ty, pos, af, none⟩) (hte : t = E) (hd : Nat.blt d N = true) (hF : FrS N σ a)
    (hy : opd σ y = some (.pointer (some ad))) (hc : Cells w ad (Flat.enc z)) (hu : Rep.val α (Flat.enc z) = u) (h : ∀ fr, FrS N ((d, u) :: σ) fr → wpFrom P ops Q (k + 1) fr w) : wpFrom P ops Q k a w := by
  subst hte
  refine from_val hF ho rfl rfl (Nat.blt_eq.mp hd) (R := fun z w3 => z = u ∧ w = w3) (does_value (v := u) (w' := w) ?_ ⟨rfl, rfl⟩) fun z w3 fr3 hz3 hF3 => ?_
  · have hl1 : (Flat.enc z).length = Rep.sz α := Rep.len (Flat.iff (w := w) (F := Non).2 rfl)
    have := run_loadVar he hl1 hc
    rw [hu] at this
    simp [execOp, Instr.loadAt, opd_eval hF hy, Instr.sureAddr, this]
  · obtain ⟨rfl, rfl⟩ := hz3
    exact h fr3 hF3
/-- a field of an element -/
theorem s_fldE {α : Type} [Flat α] {s' : TypeId} {fl : Nat} {z : α} {ad : Addr} {u : Value} {off : Nat} (ho : ops[k]? = some ⟨some d, .fieldAddr s' y fl, ty, pos, af, none⟩) (hd : Nat.blt d N = true) (hF : FrS N σ a)
    (hy : opd σ y = some (.pointer (some ad))) (hc : Cells w ad (Flat.enc z)) (hoff : fieldOff P s' fl = some off) (hu : (Flat.enc z)[off]? = some u)
    (h : ∀ ad' fr, Cells w ad' [u] → FrS N ((d, .pointer (some ad')) :: σ) fr → wpFrom P ops Q (k + 1) fr w) : wpFrom P ops Q k a w := by
  refine from_val hF ho rfl rfl (Nat.blt_eq.mp hd) (R := fun p w2 => p = .pointer (some (ad.add off)) ∧ w = w2) (does_value (pe_run (P := P) (ρ := opd σ) (fun y z hy => opd_eval hF hy) (by simp [pe, hoff, hy]) w) ⟨rfl, rfl⟩) fun p2 w2 fr2 hp2 hF2 => ?_
  obtain ⟨rfl, rfl⟩ := hp2
  refine h _ fr2 (fun j q hq => ?_) hF2
  cases j with
  | zero =>
    simp only [List.getElem?_cons_zero, Option.some.injEq] at hq; subst hq
    rw [add_add, Nat.add_zero]; exact hc off u hu
  | succ j => simp at hq
/-- what lies in one cell -/
theorem s_ldC {β : Type} [Rep β] {u : Value} {ad : Addr} (he : Ty P t β) (ho : ops[k]? = some ⟨some d, .load t y, ty, pos, af, none⟩) (ha : Rep.agg β = false) (hd : Nat.blt d N = true) (hF : FrS N σ a)
    (hy : opd σ y = some (.pointer (some ad))) (hc : Cells w ad [u]) (h : ∀ fr, FrS N ((d, u) :: σ) fr → wpFrom P ops Q (k + 1) fr w) : wpFrom P ops Q k a w := by
  refine from_val hF ho rfl rfl (Nat.blt_eq.mp hd) (R := fun z w3 => z = u ∧ w = w3) (does_value (v := u) (w' := w) ?_ ⟨rfl, rfl⟩) fun z w3 fr3 hz3 hF3 => ?_
  · have hl1 : ([u] : List Value).length = Rep.sz β := by rw [Rep.sgl ha]; rfl
    have := run_loadVar he hl1 hc
    have hv : Rep.val β [u] = u := by unfold Rep.val; rw [ha]; rfl
    rw [hv] at this
    simp [execOp, Instr.loadAt, opd_eval hF hy, Instr.sureAddr, this]
  · obtain ⟨rfl, rfl⟩ := hz3
    exact h fr3 hF3
theorem Cells.ext {w' : World} {ad : Addr} {cs : List Value} (h : Cells w ad cs) (hc : Chg Non w w') : Cells w' ad cs := fun j u hu => by
  have h1 := h j u hu
  have hb : (ad.add j).block < w.heap.size := by
    by_cases hlt : (ad.add j).block < w.heap.size
    · exact hlt
    · have : w.cell? (ad.add j) = none := by
        unfold World.cell?
        rw [Array.getElem?_eq_none (by omega)]
      rw [this] at h1; cases h1
  rw [← h1]
  unfold World.cell?
  rw [hc.block _ hb id]
/-! ### operations under a guard, one by one -/
theorem yielded_of {t j : Nat} {b : Bool} {o : Oper} (hF : FrS N σ a) (ho : ops[j]? = some o) (hd : o.dst = some t) (ht : Nat.blt t N = true) (hv : opd σ (.tmp t) = some (.bool b)) : yielded ops a.tmps j = some b := by
  have h1 := opd_eval hF hv
  have h2 := hF.size
  have ht' : t < a.tmps.size := by rw [h2]; exact Nat.blt_eq.mp ht
  have h3 : a.tmps[t]? = some (.bool b) := by
    rw [Array.getElem?_eq_getElem ht']
    rw [← h1]
    simp [Act.eval, ht']
  unfold yielded
  rw [ho, Option.bind_some, hd, Option.bind_some, h3]
theorem wpList_ops {ops ops' : Array Oper} (hy : ∀ j : Nat, (ops[j]?).bind (·.dst) = (ops'[j]?).bind (·.dst)) : ∀ (l : List Oper), wpList P ops Q l = wpList P ops' Q l := by
  intro l
  induction l with
  | nil => rfl
  | cons o l ih =>
    funext a w
    have : yielded ops a.tmps = yielded ops' a.tmps := by
      funext j; unfold yielded; rw [hy j]
    unfold wpList
    rw [ih, this]
theorem from_take {g t : Nat} {want : Bool} {o og : Oper} (hF : FrS N σ a) (ho : ops[k]? = some o) (hg : o.guard = some (g, want)) (hog : ops[g]? = some og) (ht : og.dst = some t) (htN : Nat.blt t N = true) (hv : opd σ (.tmp t) = some (.bool want))
    (h : wpFrom P (ops.toList.set k { o with guard := none }).toArray Q k a w) : wpFrom P ops Q k a w := by
  have hk : k < ops.toList.length := by simpa using (Array.getElem?_eq_some_iff.1 ho).1
  have e : ops.toList[k] = o := by
    have := (Array.getElem?_eq_some_iff.1 ho).2
    simpa using this
  have hw : Region.wanted o (yielded ops a.tmps) = true := by
    simp [Region.wanted, hg, yielded_of hF hog ht htN hv]
  unfold wpFrom at h ⊢
  have hy : ∀ j : Nat, (ops[j]?).bind (·.dst) = ((ops.toList.set k { o with guard := none }).toArray[j]?).bind (·.dst) := fun j => by
    have h1 : (ops.toList.set k { o with guard := none }).toArray[j]? = (ops.toList.set k { o with guard := none })[j]? := by simp
    rw [h1, List.getElem?_set]
    split
    · rename_i e2; subst e2
      rw [ho]; rfl
    · rw [Array.getElem?_toList]
  have hdrop : (ops.toList.set k { o with guard := none }).toArray.toList.drop k = { o with guard := none } :: ops.toList.drop (k + 1) := by
    rw [List.drop_eq_getElem_cons (by simpa using hk)]
    simp [List.drop_set_of_lt]
  rw [hdrop] at h
  rw [List.drop_eq_getElem_cons hk, e]
  unfold wpList at h ⊢
  rw [if_pos hw]
  rw [if_pos (by simp [Region.wanted]), ← wpList_ops hy] at h
  exact h
theorem from_takeL {l : List Oper} {g t : Nat} {want : Bool} {o og : Oper} (hF : FrS N σ a) (ho : l[k]? = some o) (hg : o.guard = some (g, want)) (hog : l[g]? = some og) (ht : og.dst = some t) (htN : Nat.blt t N = true) (hv : opd σ (.tmp t) = some (.bool want))
    (h : wpFrom P (l.set k { o with guard := none }).toArray Q k a w) : wpFrom P l.toArray Q k a w :=
  from_take hF (by simpa using ho) hg (by simpa using hog) ht htN hv h
theorem from_skip {g t d : Nat} {want b : Bool} {o og : Oper} (hF : FrS N σ a) (ho : ops[k]? = some o) (hg : o.guard = some (g, want)) (hog : ops[g]? = some og) (ht : og.dst = some t) (htN : Nat.blt t N = true) (hv : opd σ (.tmp t) = some (.bool b)) (hb : (b == want) = false)
    (hd : o.dst = some d) (hdN : Nat.blt d N = true) (h : ∀ fr, FrS N ((d, undef) :: σ) fr → wpFrom P ops Q (k + 1) fr w) : wpFrom P ops Q k a w := by
  have hk : k < ops.toList.length := by simpa using (Array.getElem?_eq_some_iff.1 ho).1
  have e : ops.toList[k] = o := by
    have := (Array.getElem?_eq_some_iff.1 ho).2
    simpa using this
  have hw : Region.wanted o (yielded ops a.tmps) = false := by
    simpa [Region.wanted, hg, yielded_of hF hog ht htN hv] using hb
  unfold wpFrom at h ⊢
  rw [List.drop_eq_getElem_cons hk, e]
  unfold wpList
  rw [if_neg (by simp [hw])]
  have := h _ (hF.put (Nat.blt_eq.mp hdN) undef)
  rw [hd]
  exact this
theorem from_skipU {g t d : Nat} {want : Bool} {o og : Oper} (hF : FrS N σ a) (ho : ops[k]? = some o) (hg : o.guard = some (g, want)) (hog : ops[g]? = some og) (ht : og.dst = some t) (htN : Nat.blt t N = true) (hv : opd σ (.tmp t) = some undef)
    (hd : o.dst = some d) (hdN : Nat.blt d N = true) (h : ∀ fr, FrS N ((d, undef) :: σ) fr → wpFrom P ops Q (k + 1) fr w) : wpFrom P ops Q k a w := by
  have hk : k < ops.toList.length := by simpa using (Array.getElem?_eq_some_iff.1 ho).1
  have e : ops.toList[k] = o := by
    have := (Array.getElem?_eq_some_iff.1 ho).2
    simpa using this
  have hy : yielded ops a.tmps g = none := by
    have h1 := opd_eval hF hv
    have ht' : t < a.tmps.size := by rw [hF.size]; exact Nat.blt_eq.mp htN
    have h3 : a.tmps[t]? = some undef := by
      rw [Array.getElem?_eq_getElem ht', ← h1]
      simp [Act.eval, ht']
    unfold yielded
    rw [hog, Option.bind_some, ht, Option.bind_some, h3]
    rfl
  have hw : Region.wanted o (yielded ops a.tmps) = false := by simp [Region.wanted, hg, hy]
  unfold wpFrom at h ⊢
  rw [List.drop_eq_getElem_cons hk, e]
  unfold wpList
  rw [if_neg (by simp [hw])]
  have := h _ (hF.put (Nat.blt_eq.mp hdN) undef)
  rw [hd]
  exact this
theorem ite_split {β : Type} {b : Bool} {x y r : β} (h : (if b = true then x else y) = r) : (b = true ∧ x = r) ∨ (b = false ∧ y = r) := by
  cases b
  · exact .inr ⟨rfl, h⟩
  · exact .inl ⟨rfl, h⟩
theorem from_pick {b : Bool} {c : Operand} {v : Value} (ho : ops[k]? = some ⟨some d, .pick c x y, ty, pos, af, none⟩) (hd : Nat.blt d N = true) (hF : FrS N σ a) (hc : opd σ c = some (.bool b)) (hv : opd σ (if b then x else y) = some v)
    (h : ∀ fr, FrS N ((d, v) :: σ) fr → wpFrom P ops Q (k + 1) fr w) : wpFrom P ops Q k a w := by
  refine from_val hF ho rfl rfl (Nat.blt_eq.mp hd) (R := fun z w' => z = v ∧ w' = w) (does_value (v := v) (w' := w) ?_ ⟨rfl, rfl⟩) fun z w' fr hz hF' => ?_
  · have h1 := opd_eval hF hc
    have h2 := opd_eval hF hv
    cases b <;> simp_all [execOp, asBool]
  · obtain ⟨rfl, rfl⟩ := hz; exact h fr hF'
end
end Go.GL
