/- Own library, part h: steps on slices of the call's own, literals, parts of slices. -/
import Derived.Test.YtdkfoghhjkjjlaaGLg
namespace Go.GL
open Go.RowKit

section
variable {α : Type} [Rep α] {w w' : World} {E : TypeId} {go : Option Nat} {G G' FF FF' : Nat → Prop} {v : Value} {l : List α}

theorem set_flatten {s : Nat} {css : List (List Value)} {cs : List Value} (hs : ∀ c ∈ css, c.length = s) (hc : cs.length = s) {n : Nat} (hn : n < css.length) (k : Nat) :
    (css.set n cs).flatten[k]? = if n * s ≤ k ∧ k < n * s + s then cs[k - n * s]? else css.flatten[k]? := by
  induction css generalizing n k with
  | nil => simp at hn
  | cons c css ih =>
    have h0 : c.length = s := hs c List.mem_cons_self
    cases n with
    | zero =>
      simp only [List.set_cons_zero, List.flatten_cons, Nat.zero_mul, Nat.zero_le, true_and, Nat.zero_add, Nat.sub_zero]
      by_cases hk : k < s
      · rw [if_pos hk, List.getElem?_append_left (by omega)]
      · rw [if_neg hk, List.getElem?_append_right (by omega), List.getElem?_append_right (by omega), hc, h0]
    | succ n =>
      simp only [List.set_cons_succ, List.flatten_cons]
      have e : (n + 1) * s = n * s + s := Nat.succ_mul n s
      by_cases hk : k < s
      · rw [List.getElem?_append_left (by omega), List.getElem?_append_left (by omega), if_neg (by omega)]
      · rw [List.getElem?_append_right (by omega), List.getElem?_append_right (by omega), h0, ih (fun c hc => hs c (List.mem_cons_of_mem _ hc)) (by simpa using hn)]
        by_cases hc2 : n * s ≤ k - s ∧ k - s < n * s + s
        · rw [if_pos hc2, if_pos (by omega)]; congr 1; omega
        · rw [if_neg hc2, if_neg (by omega)]

/-- xs[n] = u -/
theorem OwnS.set_run {P : Program} (h : OwnS w E go G FF v l) (hE : Ty P E α) {Fr Fu : Nat → Prop} {u : Value} {x : α} (hu : RV w Fr u x) (hsub : ∀ (cs : List Value) (x : α), Rep.ok w Fr cs x → Rep.ok w Fu cs x)
    (hFu : ∀ k, k < w.heap.size → Fu k → FF k ∧ go ≠ some k) {n : Nat} (hn : n < l.length) :
    ∃ g w', go = some g ∧ (∃ c, v = .slice (some ⟨g, 0, none⟩) l.length c) ∧ (storeVar E ((⟨g, 0, none⟩ : Addr).add (n * Rep.sz α)) u).run P w = .ok () w' ∧ OwnS w' E go G FF v (l.set n x) ∧ Chg (fun k => go = some k) w w' := by
  obtain ⟨F, css, h1, h2, h3, h4, h5⟩ := h
  obtain ⟨cs, hok, rfl⟩ := hu
  have hok := hsub cs x hok
  rcases h2.2 with ⟨rfl, hz⟩ | ⟨g, cap, cur, rfl, hb, hg, hnc, hcm, hcs, htake⟩
  · omega
  have hgo : go = some g := by rw [← h3]; rfl
  have hcl := Rep.len hok
  have hvc : (Rep.val α cs).cells = cs.toArray := by
    unfold Rep.val
    cases hh : Rep.agg α with
    | true => simp [Value.cells]
    | false =>
      rw [Rep.sgl hh] at hcl
      match cs, hcl with
      | [c], _ =>
        have h1 := Rep.one hok c (by simp)
        simp only [Bool.false_eq_true, if_false, List.headD_cons]
        cases c <;> simp_all [Value.cells, Value.oneCell']
  have hoff : n * Rep.sz α + Rep.sz α ≤ l.length * Rep.sz α := by
    rw [← Nat.succ_mul]; exact Nat.mul_le_mul_right _ hn
  have hcap : l.length * Rep.sz α ≤ cap * Rep.sz α := Nat.mul_le_mul_right _ hnc
  have hrun := run_storeCells_at (P := P) g (n * Rep.sz α) E cs 0 cur w hg (by rw [hcl, hcs]; omega) (Rep.one hok)
  simp only [Nat.add_zero] at hrun
  have haddr : (⟨g, 0, none⟩ : Addr).add (n * Rep.sz α) = ⟨g, n * Rep.sz α, none⟩ := by unfold Addr.add; split <;> simp_all
  refine ⟨g, w.setRow g (cur.toList.take (n * Rep.sz α) ++ cs ++ cur.toList.drop (n * Rep.sz α + cs.length)).toArray, hgo, ⟨cap, rfl⟩, ?_, ?_, ?_⟩
  · rw [haddr]
    unfold storeVar
    simp only [Sem.run_bind, hE.sizeOf, Result.andThen_ok, hvc, List.size_toArray, hcl]
    rw [hcl] at hrun
    simpa using hrun
  · have hch : ∀ k, k < w.heap.size → g ≠ k → (w.setRow g (cur.toList.take (n * Rep.sz α) ++ cs ++ cur.toList.drop (n * Rep.sz α + cs.length)).toArray).heap[k]? = w.heap[k]? := fun k _ hne => setRow_other w g k _ (Ne.symm hne)
    have hlens := h1.lens
    have hnl : n < css.length := by rw [h1.1]; exact hn
    refine ⟨fun k => F k ∨ (Fu k ∧ k < w.heap.size), css.set n cs, ⟨by simp [h1.1], fun i c y hc hy => ?_⟩, ⟨?_, .inr ⟨g, cap, _, ?_, hb, setRow_heap w g cur _ E _ hg, ?_, hcm, ?_, ?_⟩⟩, h3, ?_, ?_⟩
    · rw [List.getElem?_set] at hc hy
      split at hc
      · rename_i hin
        subst hin
        rw [if_pos rfl] at hy
        simp only [hn, if_true, Option.some.injEq] at hc hy
        subst hc; subst hy
        exact Rep.keep hok fun k hk hf => ⟨hch k hk fun e => (hFu k hk hf).2 (by rw [hgo, e]), .inr ⟨hf, hk⟩⟩
      · rename_i hin
        rw [if_neg hin] at hy
        exact Rep.keep (h1.2 i c y hc hy) fun k hk hf => ⟨hch k hk fun e => (h4 g hgo).2 (e ▸ hf), .inl hf⟩
    · have : ∀ c ∈ css.set n cs, c.length = Rep.sz α := fun c hc => by
        rcases List.mem_or_eq_of_mem_set hc with hc | rfl
        · exact hlens c hc
        · exact hcl
      have key : ∀ (css : List (List Value)), (∀ c ∈ css, c.length = Rep.sz α) → css.flatten.length = css.length * Rep.sz α := by
        intro css
        induction css with
        | nil => simp
        | cons c css ih =>
          intro hh
          simp only [List.flatten_cons, List.length_append, List.length_cons]
          rw [hh c List.mem_cons_self, ih fun c hc => hh c (List.mem_cons_of_mem _ hc), Nat.add_mul]; omega
      rw [key _ this]; simp [h1.1]
    · simp
    · simpa using hnc
    · simp only [List.size_toArray, List.length_append, List.length_take, List.length_drop, Array.length_toList]
      rw [hcs, hcl]; omega
    · rw [List.length_set]
      apply List.ext_getElem?
      intro k
      rw [set_flatten hlens hcl hnl, ← htake]
      by_cases hk : k < l.length * Rep.sz α
      · rw [List.getElem?_take, if_pos hk]
        by_cases h6 : n * Rep.sz α ≤ k ∧ k < n * Rep.sz α + Rep.sz α
        · rw [if_pos h6, List.getElem?_append_left (by simp only [List.length_append, List.length_take, Array.length_toList, hcl]; omega), List.getElem?_append_right (by simp only [List.length_take, Array.length_toList]; omega)]
          congr 1
          simp only [List.length_take, Array.length_toList]; omega
        · rw [if_neg h6, List.getElem?_take, if_pos hk]
          by_cases h7 : k < n * Rep.sz α
          · rw [List.getElem?_append_left (by simp only [List.length_append, List.length_take, Array.length_toList, hcl]; omega), List.getElem?_append_left (by simp only [List.length_take, Array.length_toList]; omega), List.getElem?_take, if_pos h7]
          · rw [List.getElem?_append_right (by simp only [List.length_append, List.length_take, Array.length_toList, hcl]; omega), List.getElem?_drop]
            congr 1
            simp only [List.length_append, List.length_take, Array.length_toList, hcl]; omega
      · rw [List.getElem?_take, if_neg hk, if_neg (by omega), List.getElem?_take, if_neg hk]
    · intro g' hg'
      rw [hgo] at hg'
      simp only [Option.some.injEq] at hg'; subst hg'
      refine ⟨(h4 g hgo).1, ?_⟩
      rintro (hf | ⟨hf, hlt⟩)
      · exact (h4 g hgo).2 hf
      · exact (hFu g hlt hf).2 hgo
    · rintro k (hf | ⟨hf, hlt⟩)
      · exact ⟨(h5 k hf).1, by simpa using (h5 k hf).2⟩
      · exact ⟨(hFu k hlt hf).1, by simpa using hlt⟩
  · refine ⟨rfl, rfl, rfl, by simp, fun k _ hn => setRow_other w g k _ fun e => hn (by rw [hgo, e])⟩

theorem flat_sub {β : Type} [Flat β] {w : World} {F F' : Nat → Prop} (cs : List Value) (x : β) (h : Rep.ok w F cs x) : Rep.ok w F' cs x := Flat.iff.2 (Flat.iff.1 h)
theorem css_flat {β : Type} [Flat β] {w : World} {F : Nat → Prop} (l : List β) : Css w F (l.map Flat.enc) l := ⟨by simp, fun i cs x h1 h2 => by
  rw [List.getElem?_map, h2] at h1
  simp only [Option.map_some, Option.some.injEq] at h1
  exact Flat.iff.2 h1.symm⟩

/-- a row of the call's own out of cells that are written out -/
theorem own_new {cells : List Value} {css : List (List Value)} {F : Nat → Prop} (hcss : Css w F css l) (hfl : css.flatten = cells) (hmax : l.length ≤ maxLen) (hG : G w.heap.size) (hF : ∀ k, k < w.heap.size → F k → FF k) :
    OwnS (w.alloc (.cells cells.toArray E)) E (some w.heap.size) G FF (.slice (some ⟨w.heap.size, 0, none⟩) l.length l.length) l := by
  subst hfl
  refine ⟨fun k => F k ∧ k < w.heap.size, css, hcss.keep fun k hk hf => ⟨Below.heap_alloc w _ k hk, hf, hk⟩, ⟨hcss.flat_len, .inr ⟨w.heap.size, l.length, _, rfl, Nat.zero_le _, heap_alloc_new w _, Nat.le_refl _, hmax, by simpa using hcss.flat_len, ?_⟩⟩, rfl, ?_, ?_⟩
  · rw [List.take_of_length_le (by simpa using Nat.le_of_eq hcss.flat_len)]
  · intro g hg
    simp only [Option.some.injEq] at hg; subst hg
    exact ⟨hG, fun hf => Nat.lt_irrefl _ hf.2⟩
  · exact fun k hk => ⟨hF k hk.2 hk.1, by simpa using Nat.lt_succ_of_lt hk.2⟩
end

section
variable {P : Program} {ops : Array Oper} {Q : Exit → Act → World → Prop} {a : Act} {w : World} {N : Nat} {σ : List (Nat × Value)} {k d : Nat} {t ty : TypeId} {x y : Operand} {pos : String} {af : Array Edge}
  {α : Type} [Rep α] {E : TypeId} {go : Option Nat} {G FF : Nat → Prop} {v u : Value} {l m : List α}

theorem s_append {y' : Operand} {t' : TypeId} {Fr : Nat → Prop} (Fu : Nat → Prop) (ho : OwnS w E go G FF v l) (ht : P.underlying t = some (.slice E)) (hE : ElT P E α)
    (hop : ops[k]? = some ⟨some d, .call ⟨.builtin .append, #[x, y'], #[t, t']⟩, ty, pos, af, none⟩) (htt : t' = t) (hd : Nat.blt d N = true) (hF : FrS N σ a) (hx : opd σ x = some v) (hy : opd σ y' = some u) (hu : RV w Fr u m)
    (hsub : ∀ (cs : List Value) (x : α), Rep.ok w Fr cs x → Rep.ok w Fu cs x) (hFu : ∀ k, k < w.heap.size → Fu k → FF k ∧ go ≠ some k) (hG : ∀ k, w.heap.size ≤ k → G k) {r : List α} (hr : app? l m = some r)
    (h : ∀ go' a' c' w' fr, OwnS w' E go' G FF (.slice a' (List.length r) c') r → Chg (fun k => go = some k) w w' → (go' = go ∨ ∃ g, go' = some g ∧ w.heap.size ≤ g) → FrS N ((d, .slice a' (List.length r) c') :: σ) fr → wpFrom P ops Q (k + 1) fr w') : wpFrom P ops Q k a w := by
  subst htt
  unfold app? at hr
  split at hr
  · rename_i hroom
    simp only [Option.some.injEq] at hr; subst hr
    obtain ⟨v', w', go', hrun, h1, h2, h3⟩ := ho.append_run (P := P) (ty := ty) ht hE hu hsub hFu hG hroom
    obtain ⟨a', c', rfl⟩ := h1.slice
    refine from_val hF hop rfl rfl (Nat.blt_eq.mp hd) (R := fun z w1 => z = .slice a' (List.length (l ++ m)) c' ∧ w1 = w') (does_value (v := .slice a' (List.length (l ++ m)) c') (w' := w') ?_ ⟨rfl, rfl⟩) fun z w1 fr hz hF' => ?_
    · simp [execOp, resolve, invoke, builtin, opd_eval hF hx, opd_eval hF hy, hrun]
    · obtain ⟨rfl, rfl⟩ := hz
      exact h go' a' c' _ fr h1 h2 h3 hF'
  · cases hr

theorem s_make {y' : Operand} {n : Int} {zc : α} (ht : P.underlying t = some (.slice E)) (hE : ElT P E α) (hz : ∀ i, P.info? E = some i → ∀ z, i.zero = some z → Rep.ok w (fun _ => False) z.cells.toList zc)
    (hop : ops[k]? = some ⟨some d, .makeSlice t x y', ty, pos, af, none⟩) (hd : Nat.blt d N = true) (hF : FrS N σ a) (hx : opd σ x = some (.int .i64 n)) (hy : opd σ y' = some (.int .i64 n)) {r : List α} (hr : mk? n zc = some r) (hG : ∀ k, w.heap.size ≤ k → G k)
    (h : ∀ g a' c' w' fr, w.heap.size ≤ g → OwnS w' E (some g) G FF (.slice a' (List.length r) c') r → Chg Non w w' → FrS N ((d, .slice a' (List.length r) c') :: σ) fr → wpFrom P ops Q (k + 1) fr w') : wpFrom P ops Q k a w := by
  unfold mk? at hr
  split at hr
  · rename_i hn
    simp only [Option.some.injEq] at hr; subst hr
    obtain ⟨v', w', go', hrun, h1, h2, g, rfl, hg⟩ := make_run (P := P) (w := w) (E := E) (FF := FF) ht hE hz hn (hG _ (Nat.le_refl _))
    obtain ⟨a', c', rfl⟩ := h1.slice
    refine from_val hF hop rfl rfl (Nat.blt_eq.mp hd) (R := fun z w1 => z = .slice a' (List.length (List.replicate n.toNat zc)) c' ∧ w1 = w') (does_value (v := .slice a' (List.length (List.replicate n.toNat zc)) c') (w' := w') ?_ ⟨rfl, rfl⟩) fun z w1 fr hz hF' => ?_
    · simp [execOp, opd_eval hF hx, opd_eval hF hy, hrun]
    · obtain ⟨rfl, rfl⟩ := hz
      exact h g a' c' _ fr hg h1 h2 hF'
  · cases hr

/-- a literal of a slice -/
theorem s_lit {n : Nat} {parts : Array (Nat × Operand)} (cells : List Value) (css : List (List Value)) {F : Nat → Prop} (l : List α) (hop : ops[k]? = some ⟨some d, .buildSlice t n parts, ty, pos, af, none⟩) (hd : Nat.blt d N = true) (hF : FrS N σ a)
    (vals : List Value) (hv : parts.toList.map (fun p => opd σ p.2) = vals.map some)
    (hrun : ∀ w, (Instr.buildSlice t n ((parts.toList.map (·.1)).zip vals).toArray).run P w = .ok (.slice (some ⟨w.heap.size, 0, none⟩) n n) (w.alloc (.cells cells.toArray E)))
    (hcss : Css w F css l) (hfl : css.flatten = cells) (hln : l.length = n) (hmax : Nat.ble l.length room = true) (hG : ∀ k, w.heap.size ≤ k → G k) (hFF : ∀ k, k < w.heap.size → F k → FF k)
    (h : ∀ g a' c' w' fr, w.heap.size ≤ g → OwnS w' E (some g) G FF (.slice a' (List.length l) c') l → Chg Non w w' → FrS N ((d, .slice a' (List.length l) c') :: σ) fr → wpFrom P ops Q (k + 1) fr w') : wpFrom P ops Q k a w := by
  have hmax' : l.length ≤ maxLen := by
    have := Nat.le_of_ble_eq_true hmax
    unfold room at this
    simp only [maxLen]; omega
  have hown := own_new (w := w) (E := E) (G := G) (FF := FF) hcss hfl hmax' (hG _ (Nat.le_refl _)) hFF
  refine from_val hF hop rfl rfl (Nat.blt_eq.mp hd) (R := fun z w1 => z = .slice (some ⟨w.heap.size, 0, none⟩) l.length l.length ∧ w1 = w.alloc (.cells cells.toArray E)) (does_value ?_ ⟨rfl, rfl⟩) fun z w1 fr hz hF' => ?_
  · have e : (parts.map fun p => (p.1, a.eval p.2)) = ((parts.toList.map (·.1)).zip vals).toArray := by
      have key : ∀ (ps : List (Nat × Operand)) (vs : List Value), ps.map (fun p => opd σ p.2) = vs.map some → ps.map (fun p => (p.1, a.eval p.2)) = (ps.map (·.1)).zip vs := by
        intro ps
        induction ps with
        | nil => intro vs h; cases vs with
          | nil => rfl
          | cons => simp at h
        | cons p ps ih => intro vs h; cases vs with
          | nil => simp at h
          | cons v vs =>
            simp only [List.map_cons, List.cons.injEq] at h
            rw [List.map_cons, List.map_cons, List.zip_cons_cons, ih vs h.2, opd_eval hF h.1]
      have := key parts.toList vals hv
      rw [← this]; cases parts; simp
    have hr := hrun w
    rw [← e] at hr
    simp only [execOp]
    rw [hln]
    simpa using congrArg (fun r => r.andThen fun v w => Result.ok (Next.value v) w) hr
  · obtain ⟨rfl, rfl⟩ := hz
    exact h _ _ _ _ fr (Nat.le_refl _) hown (Chg.alloc _ _) hF'

/-- xs[i] = u -/
theorem s_setElem {t' ty' : TypeId} {i z : Operand} {pos' : String} {af' : Array Edge} {kd : IntKind} {n : Int} {q : α} {Fr : Nat → Prop} (Fu : Nat → Prop) (ho : OwnS w E go G FF v l) (ht : P.underlying t = some (.slice E)) (hE : Ty P E α)
    (hop : ops[k]? = some ⟨some d, .indexAddr t x i, ty, pos, af, none⟩) (hop' : ops[k + 1]? = some ⟨none, .store t' (.tmp d) z, ty', pos', af', none⟩) (hte : t' = E) (hd : Nat.blt d N = true) (hF : FrS N σ a)
    (hx : opd σ x = some v) (hi : opd σ i = some (.int kd n)) (hz : z ≠ .tmp d) (hzu : opd σ z = some u) (hu : RV w Fr u q) (hsub : ∀ (cs : List Value) (x : α), Rep.ok w Fr cs x → Rep.ok w Fu cs x) (hFu : ∀ k, k < w.heap.size → Fu k → FF k ∧ go ≠ some k)
    {r : List α} (hr : set? l n q = some r)
    (h : ∀ a' c' w' fr, OwnS w' E go G FF (.slice a' (List.length r) c') r → v = .slice a' (List.length r) c' → Chg (fun k => go = some k) w w' → (∃ p, FrS N ((d, p) :: σ) fr) → wpFrom P ops Q (k + 2) fr w') : wpFrom P ops Q k a w := by
  subst hte
  unfold set? at hr
  split at hr
  · rename_i hn
    simp only [Option.some.injEq] at hr; subst hr
    obtain ⟨g, w', hgo, ⟨c, rfl⟩, hrun, h1, h2⟩ := ho.set_run (P := P) hE hu hsub hFu hn.2
    refine from_val hF hop rfl rfl (Nat.blt_eq.mp hd) (R := fun p w1 => p = .pointer (some ((⟨g, 0, none⟩ : Addr).add (n.toNat * Rep.sz α))) ∧ w1 = w) (does_value ?_ ⟨rfl, rfl⟩) fun p w1 fr hp hF1 => ?_
    · have hb : 0 ≤ n ∧ n < (l.length : Int) := ⟨hn.1, by omega⟩
      simp [execOp, Instr.indexAt, opd_eval hF hx, opd_eval hF hi, asIntOf, run_underlying ht, hb, hE.sizeOf]
    · obtain ⟨rfl, rfl⟩ := hp
      have hz' : fr.eval z = u := by
        cases z with
        | tmp s =>
          have hne : (s == d) = false := by
            cases hh : s == d with
            | false => rfl
            | true => exact absurd (by rw [beq_iff_eq.1 hh]) hz
          refine hF1.get s u ?_
          rw [List.lookup_cons, hne]; exact hzu
        | const c => simpa [opd, Act.eval] using hzu
        | global c => simpa [opd, Act.eval] using hzu
        | func c => simpa [opd, Act.eval] using hzu
      refine from_eff hF1 hop' rfl rfl (R := fun _ w2 => w2 = w') (does_skip ?_ rfl) fun w2 hw2 hF2 => ?_
      · have hd1 := hF1.get d (.pointer (some ((⟨g, 0, none⟩ : Addr).add (n.toNat * Rep.sz α)))) (by simp)
        simp [execOp, Instr.storeAt, hd1, hz', Instr.sureAddr, hrun]
      · obtain ⟨_, rfl⟩ := hw2
        exact h _ c _ fr (by simpa using h1) (by simp) h2 ⟨_, hF2⟩
  · cases hr
end

theorem zero_flat {α : Type} [Flat α] {w : World} {F : Nat → Prop} {P : Program} {E : TypeId} (x : α) (h : (P.info? E).map (fun i => i.zero.map fun z => z.cells.toList) = some (some (Flat.enc x))) : ∀ i, P.info? E = some i → ∀ z, i.zero = some z → Rep.ok w F z.cells.toList x := by
  intro i hi z hz
  rw [hi] at h
  simp only [Option.map_some, hz, Option.some.injEq] at h
  exact Flat.iff.2 h
end Go.GL
