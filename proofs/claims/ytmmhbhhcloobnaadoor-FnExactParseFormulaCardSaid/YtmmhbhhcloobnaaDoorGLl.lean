/- Own library, part l: parts of an own slice that are still parts of it; copy and clear. -/
import Derived.Test.YtmmhbhhcloobnaaDoorGLk
namespace Go.GL
open Go.RowKit
section
variable {w : World} {F : Nat → Prop} {α : Type} [Rep α] {b a' : Option Addr} {n0 c c' : Nat} {lo : Int} {l : List α} {n : Nat}
theorem view_rv (h : RV w F (.slice b n0 c) l) (hv : VW (Rep.sz α) b c lo a' c') (hn : lo.toNat + n ≤ l.length) : RV w F (.slice a' n c') (vcut l lo n) := by
  obtain ⟨b', cap, he, hc1, hc2, hc3⟩ := h.slice
  simp only [Value.slice.injEq] at he
  obtain ⟨rfl, rfl, rfl⟩ := he
  obtain ⟨h0, rfl, rfl⟩ := hv
  have hlen : (vcut l lo n).length = n := by unfold vcut; rw [List.length_take, List.length_drop]; omega
  have e : vcut l lo n = (l.take (lo.toNat + n)).drop lo.toNat := by
    unfold vcut; rw [List.drop_take]; congr 1; omega
  have key : RV w F (.slice (if c = lo.toNat then b else b.map (·.add (lo.toNat * Rep.sz α))) (vcut l lo n).length (c - lo.toNat)) (vcut l lo n) := by
    refine RV.mk_slice (by omega) (by omega) fun hne => ?_
    have hpos : 0 < n := by
      rcases Nat.eq_zero_or_pos n with h | h
      · subst h; exact absurd (by simp [vcut]) hne
      · exact h
    have hlne : l ≠ [] := by rintro rfl; simp at hn; omega
    obtain ⟨ad, rfl, hF, hel⟩ := hc3 hlne
    rw [if_neg (by omega)]
    refine ⟨ad.add (lo.toNat * Rep.sz α), rfl, by rw [add_block]; exact hF, ?_⟩
    rw [e]
    exact cut_elems hel _ _
  rw [hlen] at key
  exact key
end
theorem cut_vcut {α : Type} {l r : List α} {m n : Int} (h : cut? l m n = some r) : r = vcut l m r.length := by
  unfold cut? at h
  split at h
  · simp only [Option.some.injEq] at h
    subst h
    unfold vcut
    rw [List.length_drop, List.length_take, List.drop_take]
    congr 1
    omega
  · cases h
theorem flat_cut {css : List (List Value)} {s : Nat} (h : ∀ c ∈ css, c.length = s) (p : Nat) (hp : p ≤ css.length) : (css.take p).flatten = css.flatten.take (p * s) ∧ (css.drop p).flatten = css.flatten.drop (p * s) ∧ (css.take p).flatten.length = p * s := by
  have key : ∀ (css : List (List Value)), (∀ c ∈ css, c.length = s) → css.flatten.length = css.length * s := by
    intro css
    induction css with
    | nil => simp
    | cons c css ih =>
      intro hh
      simp only [List.flatten_cons, List.length_append, List.length_cons]
      rw [hh c List.mem_cons_self, ih fun c hc => hh c (List.mem_cons_of_mem _ hc), Nat.add_mul]; omega
  have hl : (css.take p).flatten.length = p * s := by
    rw [key _ fun c hc => h c (List.mem_of_mem_take hc), List.length_take, Nat.min_eq_left hp]
  have e : css.flatten = (css.take p).flatten ++ (css.drop p).flatten := by rw [← List.flatten_append, List.take_append_drop]
  exact ⟨by rw [e, ← hl, List.take_left], by rw [e, ← hl, List.drop_left], hl⟩
theorem take_put {cur cs : List Value} {a n : Nat} (h1 : a + cs.length ≤ n) (h2 : n ≤ cur.length) : (cur.take a ++ cs ++ cur.drop (a + cs.length)).take n = (cur.take n).take a ++ cs ++ (cur.take n).drop (a + cs.length) := by
  apply List.ext_getElem?
  intro i
  simp only [List.getElem?_take, List.getElem?_append, List.length_append, List.length_take, List.getElem?_drop]
  grind
section
variable {P : Program} {α : Type} [Flat α] {w : World} {E : TypeId} {go : Option Nat} {G : Nat → Prop} {v : Value} {l : List α}
/-- some elements are written, from p on -/
theorem OwnS.put_run (h : OwnS w E go G Non v l) {p : Nat} {m : List α} (hm : m ≠ []) (hp : p + m.length ≤ l.length) :
    ∃ g w', go = some g ∧ (∃ c, v = .slice (some ⟨g, 0, none⟩) l.length c) ∧ (storeCells ((⟨g, 0, none⟩ : Addr).add (p * Rep.sz α)) (m.map Flat.enc).flatten).run P w = .ok () w' ∧ OwnS w' E go G Non v (l.take p ++ m ++ l.drop (p + m.length)) ∧ Chg (fun k => go = some k) w w' := by
  obtain ⟨F, css, h1, h2, h3, h4, h5⟩ := h
  have hpos : 0 < m.length := by
    cases m with
    | nil => exact absurd rfl hm
    | cons => simp
  rcases h2.2 with ⟨rfl, hz⟩ | ⟨g, cap, cur, rfl, hb, hg, hnc, hcm, hcs, htake⟩
  · omega
  have hgo : go = some g := by rw [← h3]; rfl
  have hcss : css = l.map Flat.enc := by
    apply List.ext_getElem?
    intro i
    rw [List.getElem?_map]
    by_cases hi : i < l.length
    · have hi' : i < css.length := by rw [h1.1]; exact hi
      rw [List.getElem?_eq_getElem hi, List.getElem?_eq_getElem hi']
      exact congrArg some (Flat.iff.1 (h1.2 i css[i] l[i] (List.getElem?_eq_getElem hi') (List.getElem?_eq_getElem hi)))
    · rw [List.getElem?_eq_none (by rw [h1.1]; omega), List.getElem?_eq_none (by omega)]; rfl
  subst hcss
  have hlen : ∀ (x : List α), ∀ c ∈ x.map Flat.enc, c.length = Rep.sz α := fun x c hc => by
    obtain ⟨y, _, rfl⟩ := List.mem_map.1 hc
    exact Rep.len (Flat.iff (w := w) (F := Non).2 rfl)
  have hone : ∀ z ∈ (m.map Flat.enc).flatten, z.oneCell' = true := fun z hz => by
    obtain ⟨c, hc, hzc⟩ := List.mem_flatten.1 hz
    obtain ⟨y, _, rfl⟩ := List.mem_map.1 hc
    exact Rep.one (Flat.iff (w := w) (F := Non).2 rfl) z hzc
  have hml : (m.map Flat.enc).flatten.length = m.length * Rep.sz α := by
    have := (flat_cut (hlen m) m.length (by simp)).2.2
    rw [List.take_of_length_le (by simp)] at this
    exact this
  have hcap : l.length * Rep.sz α ≤ cap * Rep.sz α := Nat.mul_le_mul_right _ hnc
  have hoff : p * Rep.sz α + m.length * Rep.sz α ≤ l.length * Rep.sz α := by
    rw [← Nat.add_mul]; exact Nat.mul_le_mul_right _ hp
  have hrun := run_storeCells_at (P := P) g (p * Rep.sz α) E (m.map Flat.enc).flatten 0 cur w hg (by rw [hml, hcs]; omega) hone
  simp only [Nat.add_zero] at hrun
  have haddr : (⟨g, 0, none⟩ : Addr).add (p * Rep.sz α) = ⟨g, p * Rep.sz α, none⟩ := by unfold Addr.add; split <;> simp_all
  refine ⟨g, w.setRow g (cur.toList.take (p * Rep.sz α) ++ (m.map Flat.enc).flatten ++ cur.toList.drop (p * Rep.sz α + (m.map Flat.enc).flatten.length)).toArray, hgo, ⟨cap, rfl⟩, by rw [haddr]; exact hrun, ?_, ⟨rfl, rfl, rfl, by simp, fun k _ hn => setRow_other w g k _ fun e => hn (by rw [hgo, e])⟩⟩
  have hll : (l.take p ++ m ++ l.drop (p + m.length)).length = l.length := by simp; omega
  refine ⟨Non, (l.take p ++ m ++ l.drop (p + m.length)).map Flat.enc, css_flat _, ⟨?_, .inr ⟨g, cap, _, by rw [hll], hb, setRow_heap w g cur _ E _ hg, by rw [hll]; exact hnc, hcm, ?_, ?_⟩⟩, h3, fun g' hg' => ⟨(h4 g' hg').1, id⟩, fun _ h => h.elim⟩
  · have := (flat_cut (hlen (l.take p ++ m ++ l.drop (p + m.length))) (l.take p ++ m ++ l.drop (p + m.length)).length (by simp)).2.2
    rw [List.take_of_length_le (by simp)] at this
    exact this
  · simp only [List.size_toArray, List.length_append, List.length_take, List.length_drop, Array.length_toList]
    rw [hcs, hml]; omega
  · rw [hll]
    have hcl : cur.toList.length = cap * Rep.sz α := by simpa using hcs
    simp only
    rw [take_put (by rw [hml]; exact hoff) (by rw [hcl]; exact hcap), htake, List.map_append, List.map_append, List.flatten_append, List.flatten_append, List.map_take, List.map_drop, (flat_cut (hlen l) p (by simp; omega)).1, (flat_cut (hlen l) (p + m.length) (by simp; omega)).2.1, hml, ← Nat.add_mul]
end
section
variable {P : Program} {ops : Array Oper} {Q : Exit → Act → World → Prop} {a : Act} {w w0 : World} {S S0 F F0 : Nat → Prop} {N : Nat} {σ : List (Nat × Value)} {k d : Nat} {t ty : TypeId} {x y : Operand} {pos : String} {af : Array Edge}
  {L : List HP} {E : TypeId} {α : Type} [Flat α] {l m : List α} {b a' : Option Addr} {n0 c c' n : Nat} {lo : Int} {u : Value}
/-- copy into a part of an own slice -/
theorem q_copyV {t' : TypeId} {Fr : Nat → Prop} (i : Nat) (hs : Sep L w S) (hM : Mem w0 S0 F0 w S F) (hL : L[i]? = some (SL E (.slice b n0 c) l)) (ht : P.underlying t = some (.slice E)) (hE : Ty P E α)
    (hop : ops[k]? = some ⟨some d, .call ⟨.builtin .copy, #[x, y], #[t, t']⟩, ty, pos, af, none⟩) (hd : Nat.blt d N = true) (hF : FrS N σ a) (hx : opd σ x = some (.slice a' n c')) (hy : opd σ y = some u) (hu : RV w Fr u m)
    (hv : VW (Rep.sz α) b c lo a' c') (hn : lo.toNat + n ≤ l.length)
    (h : ∀ w' S' fr q, Sep (L.set i (SL E (.slice b n0 c) (vcopy l lo n m))) w' S' → Stp w S w' S' → FrS N ((d, q) :: σ) fr → wpFrom P ops Q (k + 1) fr w') : wpFrom P ops Q k a w := by
  obtain ⟨A, hok, hup⟩ := hs.upd i hL hM
  obtain ⟨ad, cap, rfl, hcap, hmax, hcells⟩ := hu.slice
  by_cases hm : m.take n = []
  · -- nothing is written
    have e : vcopy l lo n m = l := by
      unfold vcopy; rw [hm]; simp
    have hz : Nat.min m.length n = 0 := by
      have := congrArg List.length hm
      simp at this
      show min m.length n = 0
      rcases this with h | h <;> simp [h]
    obtain ⟨S', hp, hs'⟩ := hup (w' := w) (P' := SL E (.slice b n0 c) (vcopy l lo n m)) (Chg.refl _ _) (by rw [e]; exact HP.mono _ hok fun k _ hk => .inl hk)
    refine from_val hF hop rfl rfl (Nat.blt_eq.mp hd) (R := fun _ w' => w' = w) (does_value (v := goInt 0) (w' := w) ?_ rfl) fun v w1 fr hw hF' => by subst hw; exact h _ S' fr v hs' hp hF'
    have e1 : (min m.length n) = 0 := hz
    cases ad with
    | none => cases a' <;> simp [execOp, resolve, invoke, builtin, Builtin.copy_, opd_eval hF hx, opd_eval hF hy, run_underlying ht, Builtin.lenOf, Builtin.firstCells, hE.sizeOf, e1, storeCells]
    | some ad => cases a' <;> simp [execOp, resolve, invoke, builtin, Builtin.copy_, opd_eval hF hx, opd_eval hF hy, run_underlying ht, Builtin.lenOf, Builtin.firstCells, hE.sizeOf, e1, storeCells, loadCells, loadCellsFrom]
  · have hpos : 0 < (m.take n).length := by
      cases hh : m.take n with
      | nil => exact absurd hh hm
      | cons => simp
    have hml : (m.take n).length = min m.length n := by rw [List.length_take]; omega
    rcases hok with ⟨go, ho⟩ | ⟨rfl, q, hq⟩
    · obtain ⟨g, w', hgo, ⟨c2, hv2⟩, hrun, ho', hc⟩ := ho.put_run (P := P) (p := lo.toNat) (m := m.take n) hm (by rw [List.length_take]; omega)
      simp only [Value.slice.injEq] at hv2
      obtain ⟨rfl, rfl, rfl⟩ := hv2
      have hca : c ≠ lo.toNat := by
        obtain ⟨_, cap', he', hl', _⟩ := ho.rv.slice
        simp only [Value.slice.injEq] at he'
        obtain ⟨_, _, rfl⟩ := he'
        rw [List.length_take] at hpos
        omega
      have ha' : a' = some ((⟨g, 0, none⟩ : Addr).add (lo.toNat * Rep.sz α)) := by rw [hv.addr, if_neg hca]; rfl
      have hmne : m ≠ [] := by rintro rfl; simp at hm
      obtain ⟨ad, rfl, _, hel⟩ := hcells hmne
      obtain ⟨css, g1, g2⟩ := elems_css hel
      have hcss : css = m.map Flat.enc := by
        apply List.ext_getElem?
        intro i
        rw [List.getElem?_map]
        by_cases hi : i < m.length
        · have hi' : i < css.length := by rw [g1.1]; exact hi
          rw [List.getElem?_eq_getElem hi, List.getElem?_eq_getElem hi']
          exact congrArg some (Flat.iff.1 (g1.2 i css[i] m[i] (List.getElem?_eq_getElem hi') (List.getElem?_eq_getElem hi)))
        · rw [List.getElem?_eq_none (by rw [g1.1]; omega), List.getElem?_eq_none (by omega)]; rfl
      subst hcss
      have hlen : ∀ c ∈ m.map Flat.enc, c.length = Rep.sz α := fun c hc => by
        obtain ⟨y, _, rfl⟩ := List.mem_map.1 hc
        exact Rep.len (Flat.iff (w := w) (F := Non).2 rfl)
      have hfc := flat_cut hlen (min m.length n) (by simp; omega)
      have hmt : m.take n = m.take (min m.length n) := by
        rw [List.take_eq_take_iff]; omega
      have hcl : ((m.take n).map Flat.enc).flatten = (m.map Flat.enc).flatten.take (min m.length n * Rep.sz α) := by rw [hmt, List.map_take, hfc.1]
      have hll : (((m.take n).map Flat.enc).flatten).length = min m.length n * Rep.sz α := by rw [hmt, List.map_take, hfc.2.2]
      have hload : (loadCells ad (min m.length n * Rep.sz α)).run P w = .ok (((m.take n).map Flat.enc).flatten).toArray w := by
        rw [← hll]
        refine run_loadCells_list w ad _ fun j v hj => ?_
        rw [hcl, List.getElem?_take] at hj
        split at hj
        · simpa using g2 j v hj
        · cases hj
      obtain ⟨S', hp, hs'⟩ := hup (w' := w') (P' := SL E (.slice (some ⟨g, 0, none⟩) l.length c) (vcopy l lo n m)) (hc.mono fun k hk => ho.inG hk) (.inl ⟨go, ho'.regard fun k _ hk => .inl hk⟩)
      refine from_val hF hop rfl rfl (Nat.blt_eq.mp hd) (R := fun _ w1 => w1 = w') (does_value (v := goInt ((Nat.min m.length n : Nat) : Int)) (w' := w') ?_ rfl) fun v w1 fr hw hF' => by subst hw; exact h _ S' fr v hs' hp hF'
      subst ha'
      have e1 : Nat.min m.length n = min m.length n := rfl
      rw [List.map_take] at hrun hload
      simp [execOp, resolve, invoke, builtin, Builtin.copy_, opd_eval hF hx, opd_eval hF hy, run_underlying ht, Builtin.lenOf, Builtin.firstCells, hE.sizeOf, hload, hrun]
    · simp only [Value.slice.injEq] at hq
      exfalso
      rw [List.length_take] at hpos
      simp at hn; omega
end
end Go.GL

/-! ### clear -/
namespace Go.GL
open Go.RowKit
section
variable {P : Program} {ops : Array Oper} {Q : Exit → Act → World → Prop} {a : Act} {w w0 : World} {S S0 F F0 : Nat → Prop} {N : Nat} {σ : List (Nat × Value)} {k : Nat} {t ty : TypeId} {x : Operand} {pos : String} {af : Array Edge}
  {L : List HP} {E : TypeId} {α : Type} [Flat α] {l : List α} {b a' : Option Addr} {n0 c c' n : Nat} {lo : Int}
theorem zeroCells_list (cs : Array Value) : ∀ n, (Builtin.zeroCells cs n).toList = (List.replicate n cs.toList).flatten := by
  intro n
  refine List.ext_getElem? fun i => ?_
  have hlen : ((List.replicate n cs.toList).flatten).length = n * cs.size := by simp
  unfold Builtin.zeroCells
  rw [Array.toList_map, Array.toList_range, List.getElem?_map]
  by_cases hi : i < n * cs.size
  · rw [List.getElem?_range hi]
    simp only [Option.map_some]
    have hpos : 0 < cs.size := Nat.pos_of_ne_zero (by rintro h; rw [h] at hi; omega)
    have key : ∀ n i, i < n * cs.size → (List.replicate n cs.toList).flatten[i]? = some cs[i % cs.size]! := by
      intro n
      induction n with
      | zero => intro i hi; omega
      | succ n ih =>
        intro i hi
        rw [List.replicate_succ, List.flatten_cons]
        by_cases h1 : i < cs.size
        · rw [List.getElem?_append_left (by simpa using h1), Nat.mod_eq_of_lt h1]
          simp [h1]
        · rw [List.getElem?_append_right (by simpa using h1)]
          rw [Nat.succ_mul] at hi
          have := ih (i - cs.size) (by omega)
          rw [Array.length_toList, this, ← Nat.mod_eq_sub_mod (by omega)]
    rw [key n i hi]
  · rw [List.getElem?_eq_none (by simp; omega), List.getElem?_eq_none (by omega)]
    rfl
/-- clear of a part of an own slice -/
theorem q_clearV {z : α} {zv : Value} (i : Nat) (hs : Sep L w S) (hM : Mem w0 S0 F0 w S F) (hL : L[i]? = some (SL E (.slice b n0 c) l)) (ht : P.underlying t = some (.slice E))
    (hz : ∀ w, (zeroValue E).run P w = .ok zv w) (hzc : zv.cells.toList = Flat.enc z)
    (hop : ops[k]? = some ⟨none, .call ⟨.builtin .clear, #[x], #[t]⟩, ty, pos, af, none⟩) (hF : FrS N σ a) (hx : opd σ x = some (.slice a' n c'))
    (hv : VW (Rep.sz α) b c lo a' c') (hn : lo.toNat + n ≤ l.length)
    (h : ∀ w' S', Sep (L.set i (SL E (.slice b n0 c) (vclear z l lo n))) w' S' → Stp w S w' S' → FrS N σ a → wpFrom P ops Q (k + 1) a w') : wpFrom P ops Q k a w := by
  obtain ⟨A, hok, hup⟩ := hs.upd i hL hM
  cases n with
  | zero =>
    have e : vclear z l lo 0 = l := by unfold vclear; simp
    obtain ⟨S', hp, hs'⟩ := hup (w' := w) (P' := SL E (.slice b n0 c) (vclear z l lo 0)) (Chg.refl _ _) (by rw [e]; exact HP.mono _ hok fun k _ hk => .inl hk)
    refine from_eff hF hop rfl rfl (R := fun _ w' => w' = w) (does_value (v := .tuple #[]) (w' := w) ?_ rfl) fun w1 ⟨_, hw⟩ hF' => by subst hw; exact h _ S' hs' hp hF'
    cases a' <;> simp [execOp, resolve, invoke, builtin, Builtin.clear_, opd_eval hF hx, run_underlying ht]
  | succ n =>
    rcases hok with ⟨go, ho⟩ | ⟨rfl, q, hq⟩
    · obtain ⟨g, w', hgo, ⟨c2, hv2⟩, hrun, ho', hc⟩ := ho.put_run (P := P) (p := lo.toNat) (m := List.replicate (n + 1) z) (by simp [List.replicate_succ]) (by simp; omega)
      simp only [Value.slice.injEq] at hv2
      obtain ⟨rfl, rfl, rfl⟩ := hv2
      have hca : c ≠ lo.toNat := by
        obtain ⟨_, cap', he', hl', _⟩ := ho.rv.slice
        simp only [Value.slice.injEq] at he'
        obtain ⟨_, _, rfl⟩ := he'
        omega
      have ha' : a' = some ((⟨g, 0, none⟩ : Addr).add (lo.toNat * Rep.sz α)) := by rw [hv.addr, if_neg hca]; rfl
      have e : vclear z l lo (n + 1) = l.take lo.toNat ++ List.replicate (n + 1) z ++ l.drop (lo.toNat + (List.replicate (n + 1) z).length) := by unfold vclear; simp
      obtain ⟨S', hp, hs'⟩ := hup (w' := w') (P' := SL E (.slice (some ⟨g, 0, none⟩) l.length c) (vclear z l lo (n + 1))) (hc.mono fun k hk => ho.inG hk) (.inl ⟨go, by rw [e]; exact ho'.regard fun k _ hk => .inl hk⟩)
      refine from_eff hF hop rfl rfl (R := fun _ w1 => w1 = w') (does_value (v := .tuple #[]) (w' := w') ?_ rfl) fun w1 ⟨_, hw⟩ hF' => by subst hw; exact h _ S' hs' hp hF'
      subst ha'
      have hzl : (Builtin.zeroCells zv.cells (n + 1)).toList = ((List.replicate (n + 1) z).map Flat.enc).flatten := by rw [zeroCells_list, hzc, List.map_replicate]
      rw [← hzl] at hrun
      simp [execOp, resolve, invoke, builtin, Builtin.clear_, opd_eval hF hx, run_underlying ht, hz, hrun]
    · simp only [Value.slice.injEq] at hq
      exfalso
      simp at hn
end
end Go.GL

/-! ### what a call gives back that is only read, beside what it owns -/
namespace Go.GL
open Go.RowKit
structure RvF (w w' : World) (S0 F0 S' F' : Nat → Prop) : Prop where
  dj : ∀ k, S' k → F' k → False
  bd : ∀ k, F' k → k < w'.heap.size
  sub : ∀ k, F' k → F0 k ∨ S0 k ∨ w.heap.size ≤ k
theorem Mem.rvF {w0 w : World} {S0 F0 S F : Nat → Prop} (h : Mem w0 S0 (fun k => F0 k ∧ k < w0.heap.size) w S F) : RvF w0 w S0 F0 S F :=
  ⟨h.dj, h.bdF, fun k hk => (h.fsub k hk).imp And.left id⟩
theorem Sep.call2 {w w0 : World} {S S0 F F0 : Nat → Prop} {L1 L2 : List HP} (h : Sep (L1 ++ L2) w S) (hM : Mem w0 S0 F0 w S F) : ∃ A R, Sep L1 w A ∧ Sep L2 w R ∧ (∀ k, A k → F k → False) ∧ (∀ k, A k → k < w.heap.size) ∧
    ∀ {w' : World} {A' F' : Nat → Prop} {L' : List HP}, Stp w A w' A' → Sep L' w' A' → RvF w w' A F A' F' → ∃ S' F2, Stp w S w' S' ∧ Sep (L' ++ L2) w' S' ∧ Mem w0 S0 F0 w' S' F2 ∧ (∀ k, F k → F2 k) ∧ ∀ k, F' k → F2 k := by
  obtain ⟨A, R, h1, h2, h3, h4, h5⟩ := h.split
  refine ⟨A, R, h1, h2, fun k ha hf => hM.dj k (h4 k ha) hf, fun k ha => hM.bd k (h4 k ha), fun {w' A' F' L'} hp hs hv => ?_⟩
  have hpS : Stp w S w' (fun k => A' k ∨ R k) := ⟨hp.chg.mono h4, fun k hk => hk.elim (fun hk => (hp.sub k hk).elim (fun hk => .inl (h4 k hk)) .inr) fun hk => .inl (h5 k hk),
    fun k hk => hk.elim (hp.bd k) fun hk => Nat.lt_of_lt_of_le (hM.bd k (h5 k hk)) hp.chg.size⟩
  have hM' := hM.stp hpS
  refine ⟨fun k => A' k ∨ R k, fun k => F k ∨ F' k, hpS, ?_, ⟨hM'.chg, hM'.sub, hM'.bd, fun k hk => hk.elim (hM'.bdF k) (hv.bd k), fun k hk hf => hf.elim (hM'.dj k hk) fun hf => ?_, hM'.dj0, fun k hk => .inl (hM'.fz k hk), fun k hk => hk.elim (hM'.fsub k) fun hk => ?_⟩, fun _ h => .inl h, fun _ h => .inr h⟩
  · refine Sep.join hs (h2.keep hp.chg fun k hr ha => h3 k ha hr) (fun k _ ha hr => ?_) (fun k _ h => .inl h) (fun k _ h => .inr h)
    rcases hp.sub k ha with ha | ha
    · exact h3 k ha hr
    · exact Nat.lt_irrefl _ (Nat.lt_of_lt_of_le (hM.bd k (h5 k hr)) ha)
  · rcases hk with hk | hk
    · exact hv.dj k hk hf
    · rcases hv.sub k hf with h | h | h
      · exact hM.dj k (h5 k hk) h
      · exact h3 k h hk
      · exact Nat.lt_irrefl _ (Nat.lt_of_lt_of_le (hM.bd k (h5 k hk)) h)
  · rcases hv.sub k hk with h | h | h
    · exact hM.fsub k h
    · exact .inr (hM.sub k (h4 k h))
    · exact .inr (.inr (Nat.le_trans hM.chg.size h))
end Go.GL
