/- Own library, part r: steps on what a call owns; regions whose order is forced. -/
import Derived.Test.YtdkfoghhjkjjlaaGLq
namespace Go.GL
open Go.RowKit

/-! ### regions that draw, but whose edges force the order of the text -/
/-- the edges point back; behind m they force the order of the text -/
def sufB (ops : Array Oper) (m : Nat) : Bool :=
  decide (m ≤ ops.size) && (List.range ops.size).all fun j => (ops.getD j default).after.toList.all (fun e => !Region.binds .any e || decide (e.on < j)) && (decide (j < m) || (List.range j).all fun i => ((masksN ops ops.size).getD j 0).testBit i)

section
variable {P : Program} {ops : Array Oper} {Q : Exit → Act → World → Prop}

theorem chain_run {m0 : Nat} (hch : sufB ops m0 = true) : ∀ fuel j (L : Array Bool) (a : Act) (w : World), m0 ≤ j + 1 → L.size = ops.size → (∀ i, L.getD i false = true ↔ i < j) → j ≤ ops.size → ops.size - j ≤ fuel →
    wpList P ops Q (ops.toList.drop j) a w → wpAny P .any ops Q fuel L a w := by
  unfold sufB at hch
  simp only [List.all_eq_true, List.mem_range, Bool.and_eq_true, Bool.or_eq_true, decide_eq_true_eq] at hch
  obtain ⟨_, hch⟩ := hch
  have hearly : ∀ j o, ops[j]? = some o → ∀ e ∈ o.after.toList, Region.binds .any e = true → e.on < j := fun j o ho e he hb => by
    have hj : j < ops.size := (Array.getElem?_eq_some_iff.1 ho).1
    have h1 := (hch j hj).1 e (by rw [Array.getD_eq_getD_getElem?, ho]; exact he)
    simpa [hb] using h1
  have hready : ∀ (L : Array Bool) (i j : Nat), m0 ≤ j + 1 → L.size = ops.size → (∀ i, L.getD i false = true ↔ i < j) → i ∈ Region.ready .any ops L → i = j ∧ i < ops.size := by
    intro L i j hmj hs hL hi
    unfold Region.ready at hi
    rw [List.mem_filter, List.mem_range] at hi
    obtain ⟨h1, h2⟩ := hi
    simp only [Bool.and_eq_true, Bool.not_eq_true'] at h2
    obtain ⟨h2, h3⟩ := h2
    have hs' : i < L.size := by omega
    have hnl : ¬ i < j := fun h => by
      have := (hL i).2 h
      simp [Array.getD_eq_getD_getElem?, hs'] at this
      simp [hs'] at h2
      rw [this] at h2; cases h2
    refine ⟨?_, h1⟩
    rcases Nat.lt_or_ge j i with h | h
    · exfalso
      have hm := ((hch i h1).2.resolve_left (by omega)) j h
      rw [masksN_getD ops ops.size i h1] at hm
      have ho : ops[i]? = some (ops.getD i default) := by simp [Array.getD_eq_getD_getElem?, h1]
      have := mask_before L (fun j' o' hj' ho' e he hb => (hL e.on).2 (Nat.lt_trans (hearly j' o' ho' e he hb) ((hL j').1 hj'))) j i h1 hm (fun e he hb => by
        rw [ho] at h3
        simp only [Option.map_some, Option.getD_some, Array.all_eq_true_iff_forall_mem] at h3
        have := h3 e (by simpa using he)
        simpa [hb] using this)
      have := (hL j).1 this
      omega
    · omega
  intro fuel
  induction fuel with
  | zero =>
    intro j L a w hmj hs hL hj hf hw
    obtain rfl : j = ops.size := by omega
    rw [List.drop_of_length_le (by simp)] at hw
    refine ⟨?_, hw⟩
    cases hr : Region.ready .any ops L with
    | nil => rfl
    | cons i r => exact absurd (hready L i _ hmj hs hL (by rw [hr]; exact List.mem_cons_self)) (by omega)
  | succ fuel ih =>
    intro j L a w hmj hs hL hj hf hw
    refine ⟨fun hr => ?_, fun i hi => ?_⟩
    · rcases Nat.lt_or_ge j ops.size with h | h
      · exfalso
        have hmem : j ∈ Region.ready .any ops L := by
          unfold Region.ready
          rw [List.mem_filter]
          refine ⟨List.mem_range.2 h, ?_⟩
          have ho : ops[j]? = some ops[j] := by simp [h]
          have h2 : ((ops[j]).after.all fun e => !Region.binds .any e || L.getD e.on false) = true := by
            rw [Array.all_eq_true_iff_forall_mem]
            intro e he
            cases hb : Region.binds .any e with
            | false => rfl
            | true => simp [(hL e.on).2 (hearly j _ ho e (by simpa using he) hb)]
          rw [ho]
          simp only [Option.map_some, Option.getD_some, h2, Bool.and_true, Bool.not_eq_true']
          have hs' : j < L.size := by omega
          cases hl : L.getD j false with
          | true => exact absurd ((hL j).1 hl) (by omega)
          | false => simpa [Array.getD_eq_getD_getElem?, hs'] using hl
        rw [hr] at hmem; cases hmem
      · rw [List.drop_of_length_le (by simp; omega)] at hw
        exact hw
    · obtain ⟨rfl, hlt⟩ := hready L i j hmj hs hL hi
      have ho : ops[i]? = some ops[i] := by simp [hlt]
      rw [List.drop_eq_getElem_cons (by simpa using hlt)] at hw
      have ho' : ops.toList[i]'(by simpa using hlt) = ops[i] := by simp
      rw [ho'] at hw
      unfold wpOp
      rw [ho]
      have step : ∀ a w, wpList P ops Q (ops.toList.drop (i + 1)) a w → wpAny P .any ops Q fuel (L.setIfInBounds i true) a w := fun a w h => by
        refine ih (i + 1) _ a w (by omega) (by simpa using hs) (fun m => ?_) (by omega) (by omega) h
        by_cases e : m = i
        · subst e
          have : m < L.size := by omega
          simp [Array.getD_eq_getD_getElem?, this]
        · have h1 : (L.setIfInBounds i true).getD m false = L.getD m false := by
            simp [Array.getD_eq_getD_getElem?, Ne.symm e]
          rw [h1, hL m]; omega
      unfold wpList at hw
      simp only
      split at hw
      · rename_i hwant
        rw [if_pos hwant]
        rcases hw with hw | hw
        · exact .inl (Oper.wp_mono step hw)
        · exact .inr hw
      · rename_i hwant
        rw [if_neg hwant]
        exact step _ _ hw

end

/-! ### regions that draw: a value that is only moved is moved first -/
/-- a region that draws, at its start -/
def RA (P : Program) (ops : Array Oper) (Q : Exit → Act → World → Prop) (a : Act) (w : World) : Prop :=
  wpAny P .any ops Q ops.size (Array.replicate ops.size false) a { w with drawn := w.drawn + 1 }
theorem wp_ra {P : Program} {ops : Array Oper} {Q : Exit → Act → World → Prop} {a : Act} {w : World} {id : Nat} (hmix : P.follows .mixedOrders = true) (h : RA P ops Q a w) : (Code.region id ops true).wp P Q a w := wp_region_any hmix h

section
variable {P : Program} {ops : Array Oper} {Q : Exit → Act → World → Prop} {f : Nat}
end

/-! ### steps -/
section
variable {P : Program} {ops : Array Oper} {Q : Exit → Act → World → Prop} {a : Act} {w w0 : World} {S S0 F F0 : Nat → Prop} {N : Nat} {σ : List (Nat × Value)} {k d : Nat} {t ty : TypeId} {x y : Operand} {pos : String} {af : Array Edge}
  {L : List HP}

theorem q_box {v : Value} (hs : Sep L w S) (hM : Mem w0 S0 F0 w S F) (cs : List Value) (ho : ops[k]? = some ⟨some d, .box t x, ty, pos, af, none⟩) (hd : Nat.blt d N = true) (hF : FrS N σ a) (hx : opd σ x = some v) (hcs : v.cells.toList = cs)
    (h : ∀ b w' S' fr, Sep (BX b t cs :: L) w' S' → Stp w S w' S' → FrS N ((d, .pointer (some ⟨b, 0, none⟩)) :: σ) fr → wpFrom P ops Q (k + 1) fr w') : wpFrom P ops Q k a w :=
  s_box cs ho hd hF hx hcs fun b w' fr hlo hb hc hF' => by
    obtain ⟨S', hp, hs'⟩ := hs.new hM hc (P := BX b t cs) ⟨hb, hlo⟩
    exact h b w' S' fr hs' hp hF'
theorem q_alloc {z : Value} (hs : Sep L w S) (hM : Mem w0 S0 F0 w S F) (cs : List Value) (ho : ops[k]? = some ⟨some d, .alloc t, ty, pos, af, none⟩) (hd : Nat.blt d N = true) (hF : FrS N σ a) (hz : (P.info? t).map (·.zero) = some (some z)) (hcs : z.cells.toList = cs)
    (h : ∀ b w' S' fr, Sep (BX b t cs :: L) w' S' → Stp w S w' S' → FrS N ((d, .pointer (some ⟨b, 0, none⟩)) :: σ) fr → wpFrom P ops Q (k + 1) fr w') : wpFrom P ops Q k a w :=
  s_alloc cs ho hd hF hz hcs fun b w' fr hlo hb hc hF' => by
    obtain ⟨S', hp, hs'⟩ := hs.new hM hc (P := BX b t cs) ⟨hb, hlo⟩
    exact h b w' S' fr hs' hp hF'

theorem q_storeBox {b n : Nat} {bt : TypeId} {cs : List Value} {u : Value} (i : Nat) (hs : Sep L w S) (hM : Mem w0 S0 F0 w S F) (hi : L[i]? = some (BX b bt cs)) (cs' : List Value) (ho : ops[k]? = some ⟨none, .store t x y, ty, pos, af, none⟩) (hF : FrS N σ a)
    (hx : opd σ x = some (.pointer (some ⟨b, n, none⟩))) (hy : opd σ y = some u) (ht : (P.info? t).map (·.size) = some 1) (hn : Nat.blt n cs.length = true) (h1 : u.oneCell' = true) (hcs : cs.set n u = cs')
    (h : ∀ w' S', Sep (L.set i (BX b bt cs')) w' S' → Stp w S w' S' → FrS N σ a → wpFrom P ops Q (k + 1) a w') : wpFrom P ops Q k a w := by
  obtain ⟨A, hok, hup⟩ := hs.upd i hi hM
  refine s_storeBox cs' ho hF hx hy ht hok.1 hn h1 hcs fun w' hb hc hF' => ?_
  obtain ⟨S', hp, hs'⟩ := hup (P' := BX b bt cs') (hc.mono fun k hk => by subst hk; exact hok.2) ⟨hb, .inl hok.2⟩
  exact h w' S' hs' hp hF'
theorem q_storeBoxS {b : Nat} {bt : TypeId} {cs : List Value} {u : Value} (i : Nat) (hs : Sep L w S) (hM : Mem w0 S0 F0 w S F) (hi : L[i]? = some (BX b bt cs)) (cs' : List Value) (ho : ops[k]? = some ⟨none, .store t x y, ty, pos, af, none⟩) (hF : FrS N σ a)
    (hx : opd σ x = some (.pointer (some ⟨b, 0, none⟩))) (hy : opd σ y = some u) (ht : (P.info? t).map (·.size) = some cs'.length) (hl : cs'.length = cs.length) (huc : u.cells.toList = cs') (h1 : (cs'.all fun z => z.oneCell') = true)
    (h : ∀ w' S', Sep (L.set i (BX b bt cs')) w' S' → Stp w S w' S' → FrS N σ a → wpFrom P ops Q (k + 1) a w') : wpFrom P ops Q k a w := by
  obtain ⟨A, hok, hup⟩ := hs.upd i hi hM
  refine s_storeBoxS cs' ho hF hx hy ht hok.1 hl huc h1 fun w' hb hc hF' => ?_
  obtain ⟨S', hp, hs'⟩ := hup (P' := BX b bt cs') (hc.mono fun k hk => by subst hk; exact hok.2) ⟨hb, .inl hok.2⟩
  exact h w' S' hs' hp hF'

variable {α : Type} [Rep α] {E : TypeId} {v u : Value} {l m : List α}

theorem q_make {y' : Operand} {n : Int} {zc : α} (hs : Sep L w S) (hM : Mem w0 S0 F0 w S F) (ht : P.underlying t = some (.slice E)) (hE : ElT P E α) (hz : ∀ i, P.info? E = some i → ∀ z, i.zero = some z → Rep.ok w (fun _ => False) z.cells.toList zc)
    (hop : ops[k]? = some ⟨some d, .makeSlice t x y', ty, pos, af, none⟩) (hd : Nat.blt d N = true) (hF : FrS N σ a) (hx : opd σ x = some (.int .i64 n)) (hy : opd σ y' = some (.int .i64 n)) {r : List α} (hr : mk? n zc = some r)
    (h : ∀ a' c' w' S' fr, Sep (SL E (.slice a' (List.length r) c') r :: L) w' S' → Stp w S w' S' → FrS N ((d, .slice a' (List.length r) c') :: σ) fr → wpFrom P ops Q (k + 1) fr w') : wpFrom P ops Q k a w :=
  s_make (G := fun k => w.heap.size ≤ k) (FF := Non) ht hE hz hop hd hF hx hy hr (fun _ h => h) fun g a' c' w' fr _ ho hc hF' => by
    obtain ⟨S', hp, hs'⟩ := hs.new hM hc (P := SL E (.slice a' (List.length r) c') r) (.inl ⟨_, ho⟩)
    exact h a' c' w' S' fr hs' hp hF'

theorem q_lit {n : Nat} {parts : Array (Nat × Operand)} (hs : Sep L w S) (hM : Mem w0 S0 F0 w S F) (cells : List Value) (css : List (List Value)) (l : List α) (hop : ops[k]? = some ⟨some d, .buildSlice t n parts, ty, pos, af, none⟩) (hd : Nat.blt d N = true) (hF : FrS N σ a)
    (vals : List Value) (hv : parts.toList.map (fun p => opd σ p.2) = vals.map some)
    (hrun : ∀ w, (Instr.buildSlice t n ((parts.toList.map (·.1)).zip vals).toArray).run P w = .ok (.slice (some ⟨w.heap.size, 0, none⟩) n n) (w.alloc (.cells cells.toArray E)))
    (hcss : Css w Non css l) (hfl : css.flatten = cells) (hln : l.length = n) (hmax : Nat.ble l.length room = true)
    (h : ∀ a' c' w' S' fr, Sep (SL E (.slice a' (List.length l) c') l :: L) w' S' → Stp w S w' S' → FrS N ((d, .slice a' (List.length l) c') :: σ) fr → wpFrom P ops Q (k + 1) fr w') : wpFrom P ops Q k a w :=
  s_lit (E := E) (G := fun k => w.heap.size ≤ k) (FF := Non) (F := Non) cells css l hop hd hF vals hv hrun hcss hfl hln hmax (fun _ h => h) (fun _ _ h => h) fun g a' c' w' fr _ ho hc hF' => by
    obtain ⟨S', hp, hs'⟩ := hs.new hM hc (P := SL E (.slice a' (List.length l) c') l) (.inl ⟨_, ho⟩)
    exact h a' c' w' S' fr hs' hp hF'
end

section
variable {P : Program} {ops : Array Oper} {Q : Exit → Act → World → Prop} {a : Act} {w w0 : World} {S S0 F F0 : Nat → Prop} {N : Nat} {σ : List (Nat × Value)} {k d : Nat} {t ty : TypeId} {x y : Operand} {pos : String} {af : Array Edge}
  {L : List HP} {α : Type} [Flat α] {E : TypeId} {v u : Value} {l m : List α}

/-- xs[i] = u, in place -/
theorem q_set {t' ty' : TypeId} {idx z : Operand} {pos' : String} {af' : Array Edge} {kd : IntKind} {n : Int} {q : α} (i : Nat) (hs : Sep L w S) (hM : Mem w0 S0 F0 w S F) (hL : L[i]? = some (SL E v l)) (ht : P.underlying t = some (.slice E)) (hE : Ty P E α)
    (hop : ops[k]? = some ⟨some d, .indexAddr t x idx, ty, pos, af, none⟩) (hop' : ops[k + 1]? = some ⟨none, .store t' (.tmp d) z, ty', pos', af', none⟩) (hte : t' = E) (hd : Nat.blt d N = true) (hF : FrS N σ a)
    (hx : opd σ x = some v) (hi : opd σ idx = some (.int kd n)) (hz : z ≠ .tmp d) (hzu : opd σ z = some u) (hu : Rep.val α (Flat.enc q) = u) {r : List α} (hr : set? l n q = some r)
    (h : ∀ w' S' fr p, Sep (L.set i (SL E v r)) w' S' → Stp w S w' S' → FrS N ((d, p) :: σ) fr → wpFrom P ops Q (k + 2) fr w') : wpFrom P ops Q k a w := by
  obtain ⟨A, hok, hup⟩ := hs.upd i hL hM
  rcases hok with ⟨go, ho⟩ | ⟨rfl, _, _⟩
  · refine s_setElem (fun _ => False) ho ht hE hop hop' hte hd hF hx hi hz hzu (Fr := Non) (q := q) ⟨_, Flat.iff.2 rfl, hu.symm⟩ flat_sub (fun _ _ h => h.elim) hr fun a' c' w' fr ho' he hc ⟨p, hF'⟩ => ?_
    obtain ⟨S', hp, hs'⟩ := hup (P' := SL E v r) (hc.mono fun k hk => ho.inG hk) (.inl ⟨go, by rw [he]; exact ho'.regard fun k _ hk => .inl hk⟩)
    exact h w' S' fr p hs' hp hF'
  · unfold set? at hr
    simp at hr

/-- append to a slice without room -/
theorem append_empty_run {t ty : TypeId} {v : Option Addr} (ht : P.underlying t = some (.slice E)) (hE : ElT P E α) {Fr : Nat → Prop} {u : Value} {m : List α} (hu : RV w Fr u m) (hroom : m.length ≤ room) :
    ∃ v' w', (Builtin.append_ #[t, t] ty #[.slice v 0 0, u]).run P w = .ok v' w' ∧ (SL E v' m).ok w' (fun k => w.heap.size ≤ k) ∧ Chg Non w w' := by
  obtain ⟨i, z, hi, hz, hsz, hzs, hby⟩ := hE.out
  have hnil : OwnS w E none (fun k => w.heap.size ≤ k) Non (.slice none 0 0) ([] : List α) := OwnS.nil
  obtain ⟨v', w', go', hrun, h1, h2, h3⟩ := hnil.append_run (P := P) (ty := ty) ht hE hu (Fu := Non) flat_sub (fun _ _ h => h.elim) (fun _ h => h) (by simpa using hroom)
  have hc : Chg Non w w' := h2.mono fun k hk => by cases hk
  cases v with
  | none => exact ⟨v', w', hrun, .inl ⟨go', by simpa using h1⟩, hc⟩
  | some b =>
    obtain ⟨ad, cap, rfl, hcap, hmax, hcells⟩ := hu.slice
    by_cases hm : m = []
    · subst hm
      refine ⟨.slice (some b) 0 0, w, ?_, .inr ⟨rfl, _, rfl⟩, Chg.refl _ _⟩
      cases ad with
      | none => simp [Builtin.append_, run_underlying ht, sizeOf, typeInfo, hi, Builtin.lenOf, Builtin.firstCells, storeCells]
      | some ad => simp [Builtin.append_, run_underlying ht, sizeOf, typeInfo, hi, Builtin.lenOf, Builtin.firstCells, storeCells, loadCells, loadCellsFrom]
    · obtain ⟨ad, rfl, _, he⟩ := hcells hm
      obtain ⟨css, g1, g2⟩ := elems_css he
      have hpos : 0 < m.length := by
        cases m with
        | nil => exact absurd rfl hm
        | cons => simp
      unfold room at hroom
      have hb1 : m.length * i.bytes ≤ 4294967296 * 32768 := Nat.mul_le_mul hroom hby
      have hl : css.flatten.length = m.length * i.size := by rw [hsz]; exact g1.flat_len
      have hn : ∀ j x, css.flatten[j]? = some x → w.cell? (ad.add j) = some x := fun j x hx => by simpa using g2 j x hx
      have e1 := run_append_nil (P := P) w t ty E i z ht hi hz ad m.length cap css.flatten hl hn hpos (by omega) (by omega)
      have e2 := run_append_grow (P := P) w t ty E i z ht hi hz b 0 0 [] (by simp) (by simp) ad m.length cap css.flatten hl hn (by omega) (by omega) (by
        rw [Nat.zero_add, nextslicecap_zero hpos]; omega)
      rw [e1] at hrun
      simp at e2
      exact ⟨v', w', e2.trans hrun, .inl ⟨go', by simpa using h1⟩, hc⟩

theorem q_append {y' : Operand} {t' : TypeId} {Fr : Nat → Prop} (i : Nat) (hs : Sep L w S) (hM : Mem w0 S0 F0 w S F) (hL : L[i]? = some (SL E v l)) (ht : P.underlying t = some (.slice E)) (hE : ElT P E α)
    (hop : ops[k]? = some ⟨some d, .call ⟨.builtin .append, #[x, y'], #[t, t']⟩, ty, pos, af, none⟩) (htt : t' = t) (hd : Nat.blt d N = true) (hF : FrS N σ a) (hx : opd σ x = some v) (hy : opd σ y' = some u) (hu : RV w Fr u m)
    {r : List α} (hr : app? l m = some r)
    (h : ∀ a' c' w' S' fr, Sep (L.set i (SL E (.slice a' (List.length r) c') r)) w' S' → Stp w S w' S' → FrS N ((d, .slice a' (List.length r) c') :: σ) fr → wpFrom P ops Q (k + 1) fr w') : wpFrom P ops Q k a w := by
  obtain ⟨A, hok, hup⟩ := hs.upd i hL hM
  rcases hok with ⟨go, ho⟩ | ⟨rfl, b, rfl⟩
  · have ho2 : OwnS w E go (fun k => A k ∨ w.heap.size ≤ k) Non v l := ho.regard fun k _ hk => .inl hk
    refine s_append (fun _ => False) ho2 ht hE hop htt hd hF hx hy hu flat_sub (fun _ _ h => h.elim) (fun k hk => .inr hk) hr fun go' a' c' w' fr ho' hc _ hF' => ?_
    obtain ⟨S', hp, hs'⟩ := hup (P' := SL E (.slice a' (List.length r) c') r) (hc.mono fun k hk => ho.inG hk) (.inl ⟨go', ho'⟩)
    exact h a' c' w' S' fr hs' hp hF'
  · subst htt
    unfold app? at hr
    split at hr
    · rename_i hroom
      simp only [List.nil_append, Option.some.injEq] at hr; subst hr
      obtain ⟨v', w', hrun, hok', hc⟩ := append_empty_run (P := P) (ty := ty) (v := b) ht hE hu (by simpa using hroom)
      have hsl : ∃ a' c', v' = .slice a' (List.length m) c' := by
        rcases hok' with ⟨go, ho⟩ | ⟨rfl, a', rfl⟩
        · exact ho.slice
        · exact ⟨a', 0, rfl⟩
      obtain ⟨a', c', rfl⟩ := hsl
      refine from_val hF hop rfl rfl (Nat.blt_eq.mp hd) (R := fun z w1 => z = .slice a' (List.length m) c' ∧ w1 = w') (does_value ?_ ⟨rfl, rfl⟩) fun z w1 fr hz hF' => ?_
      · simp [execOp, resolve, invoke, builtin, opd_eval hF hx, opd_eval hF hy, hrun]
      · obtain ⟨rfl, rfl⟩ := hz
        obtain ⟨S', hp, hs'⟩ := hup (P' := SL E (.slice a' (List.length m) c') m) hc.of (HP.mono _ hok' fun k _ hk => .inr hk)
        exact h a' c' _ S' fr hs' hp hF'
    · cases hr

end
end Go.GL
