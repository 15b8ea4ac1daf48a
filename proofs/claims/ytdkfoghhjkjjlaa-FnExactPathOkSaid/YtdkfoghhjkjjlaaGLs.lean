/- Own library, part s: regions that draw, whose last operations come in the order of the text. -/
import Derived.Test.YtdkfoghhjkjjlaaGLr
namespace Go.GL
open Go.RowKit

/-! things made in whatever order: a ghost tells which operation made a block -/
section
variable {P : Program} {ms : List Nat} {ops : Array Oper} {T : (Nat → Nat) → Nat → Value → World → Prop} {S : Nat → Prop} {a0 : Act} {w0 : World} {Q : Exit → Act → World → Prop}

def JO (ms : List Nat) (ops : Array Oper) (T : (Nat → Nat) → Nat → Value → World → Prop) (S : Nat → Prop) (a0 : Act) (w0 : World) (L : Array Bool) (a : Act) (w : World) : Prop :=
  ∃ ow, J true ms ops [] (T ow) (fun _ _ => True) S a0 w0 L a w
theorem JO.size {L : Array Bool} {a : Act} {w : World} (h : JO ms ops T S a0 w0 L a w) : L.size = ops.size := h.elim fun _ h => h.size
def PhO (ow : Nat → Nat) (j : Nat) : Nat → World → Prop := fun _ w => ∀ k, w.heap.size ≤ k → ow k = j

theorem JO.step_wp {N : Nat} (hst : stat true ms ops [] N = true) (hN : a0.tmps.size = N) (hT : ∀ ow i v w w', T ow i v w → Chg S w w' → T ow i v w') (hO : ∀ ow ow' i v w, (∀ k, k < w.heap.size → ow k = ow' k) → T ow i v w → T ow' i v w) {L : Array Bool} {a : Act} {w : World}
    (hJ : JO ms ops T S a0 w0 L a w) {j : Nat} (hj : j < ops.size) (hl : L.getD j false = false) (hb : ∀ i, bef true ms j i = true → L.getD i false = true)
    (ht : ∀ ow, Tri P true ms ops [] (T ow) (PhO ow j) S a0 w0 Q j) : ∃ o, ops[j]? = some o ∧ if Region.wanted o (yielded ops a.tmps) then o.wp P a w (JO ms ops T S a0 w0 (L.setIfInBounds j true)) Q else JO ms ops T S a0 w0 (L.setIfInBounds j true) (a.put o.dst undef) w := by
  obtain ⟨ow, hJ⟩ := hJ
  let ow' : Nat → Nat := fun k => if k < w.heap.size then ow k else j
  have hs : ∀ k, k < w.heap.size → ow k = ow' k := fun k hk => by simp [ow', hk]
  have hJ' : J true ms ops [] (T ow') (PhO ow' j) S a0 w0 L a w := ⟨hJ.size, hJ.closed, hJ.defers, hJ.tsize, hJ.chg, fun k hk => by simp [ow', Nat.not_lt.2 hk], fun t => by
    have := hJ.cur t
    cases hl : lastL ops L t ops.size with
    | none => rw [hl] at this; exact this
    | some i => rw [hl] at this; exact hO _ _ _ _ _ hs this⟩
  obtain ⟨o, ho, h⟩ := hJ'.step_wp hst hN (hT ow') hj hl hb (ht ow')
  have hconv : ∀ a w, J true ms ops [] (T ow') (PhO ow' j) S a0 w0 (L.setIfInBounds j true) a w → JO ms ops T S a0 w0 (L.setIfInBounds j true) a w := fun a w h => ⟨ow', h.size, h.closed, h.defers, h.tsize, h.chg, trivial, h.cur⟩
  refine ⟨o, ho, ?_⟩
  split
  · rename_i hw
    rw [if_pos hw] at h
    exact Oper.wp_mono hconv h
  · rename_i hw
    rw [if_neg hw] at h
    exact hconv _ _ h
theorem JO.step {N : Nat} (hst : stat true ms ops [] N = true) (hN : a0.tmps.size = N) (hT : ∀ ow i v w w', T ow i v w → Chg S w w' → T ow i v w') (hO : ∀ ow ow' i v w, (∀ k, k < w.heap.size → ow k = ow' k) → T ow i v w → T ow' i v w) {L : Array Bool} {a : Act} {w : World}
    (hJ : JO ms ops T S a0 w0 L a w) {j : Nat} (hj : j < ops.size) (hl : L.getD j false = false) (hb : ∀ i, bef true ms j i = true → L.getD i false = true)
    (ht : ∀ ow, Tri P true ms ops [] (T ow) (PhO ow j) S a0 w0 Q j) : wpOp P ops Q j (JO ms ops T S a0 w0 (L.setIfInBounds j true)) a w := by
  obtain ⟨o, ho, h⟩ := hJ.step_wp hst hN hT hO hj hl hb ht
  unfold wpOp
  simp only [ho]
  split
  · rename_i hw
    rw [if_pos hw] at h
    exact .inl h
  · rename_i hw
    rw [if_neg hw] at h
    exact h
end

section
variable {P : Program} {ms : List Nat} {ops : Array Oper} {T : (Nat → Nat) → Nat → Value → World → Prop} {S : Nat → Prop} {a0 : Act} {w0 : World} {Q : Exit → Act → World → Prop} {m : Nat}

theorem count_lt {L : Array Bool} {n m : Nat} (hs : L.size = n) (hm : m ≤ n) (hL : ∀ i, L.getD i false = true ↔ i < m) : L.toList.countP (fun b => !b) = n - m := by
  have e : L.toList = List.replicate m true ++ List.replicate (n - m) false := by
    apply List.ext_getElem?
    intro i
    rw [List.getElem?_append, List.length_replicate, List.getElem?_replicate, List.getElem?_replicate]
    have h1 := hL i
    by_cases hi : i < n
    · have hi' : i < L.size := by omega
      simp only [Array.getD_eq_getD_getElem?, Array.getElem?_eq_getElem hi', Option.getD_some] at h1
      rw [Array.getElem?_toList, Array.getElem?_eq_getElem hi']
      by_cases him : i < m
      · rw [if_pos him, if_pos him, h1.2 him]
      · rw [if_neg him, if_pos (by omega)]
        cases hb : L[i] with
        | false => rfl
        | true => exact absurd (h1.1 hb) him
    · rw [Array.getElem?_toList, Array.getElem?_eq_none (by omega), if_neg (by omega), if_neg (by omega)]
  rw [e, List.countP_append, List.countP_replicate, List.countP_replicate]
  simp

/-! one operation of the first ones may still be missing when operation m comes: it only moves a value -/
structure Floats (ops : Array Oper) (m f : Nat) (d dm : Tmp) (x : Operand) (xs : Array Operand) (ts : Array TypeId) : Prop where
  suf : sufB ops (m + 1) = true
  lt : f < m
  lt' : m < ops.size
  mask : ∀ i, i < m → i ≠ f → ((masksN ops ops.size).getD m 0).testBit i = true
  opf : ∃ ty pos af, ops[f]? = some ⟨some d, .move x, ty, pos, af, none⟩
  opm : ∃ ty pos af, ops[m]? = some ⟨some dm, .call ⟨.builtin .append, xs, ts⟩, ty, pos, af, none⟩
  notin : ∀ y ∈ xs.toList, y ≠ .tmp d
  ne : dm ≠ d
  nex : x ≠ .tmp dm
def EndM (ops : Array Oper) (T : Nat → Value → World → Prop) (a0 : Act) (m : Nat) (a : Act) (w : World) : Prop :=
  a.defers = a0.defers ∧ a.tmps.size = a0.tmps.size ∧ ∀ t, Know ops T a0 m t (a.eval (.tmp t)) w

theorem any_run_m {N : Nat} (hst : stat true ms ops [] N = true) (hsuf : sufB ops m = true) (hN : a0.tmps.size = N) (hT : ∀ ow i v w w', T ow i v w → Chg S w w' → T ow i v w') (hO : ∀ ow ow' i v w, (∀ k, k < w.heap.size → ow k = ow' k) → T ow i v w → T ow' i v w)
    (ht : ∀ ow j, j < m → Tri P true ms ops [] (T ow) (PhO ow j) S a0 w0 Q j) (post : ∀ ow a w, EndM ops (T ow) a0 m a w → Chg S w0 w → wpList P ops Q (ops.toList.drop m) a w) :
    ∀ fuel (L : Array Bool) (a : Act) (w : World), Closed ops L → (∀ i, L.getD i false = true → i < m) → (L.toList.countP (fun b => !b) ≤ fuel) → JO ms ops T S a0 w0 L a w → wpAny P .any ops Q fuel L a w := by
  have hst0 := hst
  have hsuf0 := hsuf
  unfold sufB at hsuf
  simp only [List.all_eq_true, List.mem_range, Bool.and_eq_true, Bool.or_eq_true, decide_eq_true_eq] at hsuf
  obtain ⟨hmn, hsuf⟩ := hsuf
  unfold stat at hst
  simp only [Bool.and_eq_true, List.all_eq_true, decide_eq_true_eq, Bool.not_true, Bool.false_or, beq_iff_eq, List.mem_range] at hst
  obtain ⟨⟨⟨⟨⟨hms, hearly⟩, _⟩, heffs⟩, _⟩, _⟩ := hst
  have hearly' : ∀ j o, ops[j]? = some o → ∀ e ∈ o.after.toList, Region.binds .any e = true → e.on < j := fun j o ho e he hb => by
    have hj : j < ops.size := (Array.getElem?_eq_some_iff.1 ho).1
    have h1 := hearly j hj e (by rw [Array.getD_eq_getD_getElem?, ho]; exact he)
    simpa [hb] using h1
  have hready : ∀ (L : Array Bool) (i : Nat), L.size = ops.size → i ∈ Region.ready .any ops L → i < ops.size ∧ L.getD i false = false ∧
      ∀ o, ops[i]? = some o → ∀ e ∈ o.after.toList, Region.binds .any e = true → L.getD e.on false = true := by
    intro L i hs hi
    unfold Region.ready at hi
    rw [List.mem_filter, List.mem_range] at hi
    obtain ⟨h1, h2⟩ := hi
    simp only [Bool.and_eq_true, Bool.not_eq_true'] at h2
    obtain ⟨h2, h3⟩ := h2
    refine ⟨h1, ?_, fun o ho e he hb => ?_⟩
    · have hs' : i < L.size := by omega
      simpa [Array.getD_eq_getD_getElem?, hs'] using h2
    · rw [ho] at h3
      simp only [Option.map_some, Option.getD_some, Array.all_eq_true_iff_forall_mem] at h3
      have := h3 e (by simpa using he)
      simpa [hb] using this
  have hswitch : ∀ fuel (L : Array Bool) (a : Act) (w : World), (∀ i, L.getD i false = true → i < m) → (∀ i, i < m → L.getD i false = true) → (L.toList.countP (fun b => !b) ≤ fuel) → JO ms ops T S a0 w0 L a w → wpAny P .any ops Q fuel L a w := by
    intro fuel L a w h1 h2 h3 hJ
    have hL : ∀ i, L.getD i false = true ↔ i < m := fun i => ⟨h1 i, h2 i⟩
    have hc := count_lt hJ.size hmn hL
    refine chain_run hsuf0 fuel m L a w (Nat.le_succ _) hJ.size hL hmn (by omega) (by
      obtain ⟨ow, hJ⟩ := hJ
      refine post ow a w ⟨hJ.defers, hJ.tsize, fun t => ?_⟩ hJ.chg
      have := hJ.cur t
      rw [lastL_eq L t m ops.size hmn fun i _ _ => hL i] at this
      exact this)
  intro fuel
  induction fuel with
  | zero =>
    intro L a w _ hsub hcount hJ
    refine hswitch 0 L a w hsub (fun i hi => ?_) hcount hJ
    have h3 : L.toList.countP (fun b => !b) = 0 := by omega
    rw [List.countP_eq_zero] at h3
    have hs' : i < L.size := by rw [hJ.size]; omega
    have hm : L[i] ∈ L.toList := by simp
    have h4 := h3 _ hm
    simpa [Array.getD_eq_getD_getElem?, hs'] using h4
  | succ fuel ih =>
    intro L a w hcl hsub hcount hJ
    by_cases hall : ∀ i, i < m → L.getD i false = true
    · exact hswitch _ L a w hsub hall hcount hJ
    · obtain ⟨x, hx⟩ := Classical.not_forall.1 hall
      have hxm : x < m := by
        by_cases h : x < m
        · exact h
        · exact absurd (fun h' => absurd h' h) hx
      have hxl : L.getD x false = false := by
        cases h : L.getD x false with
        | false => rfl
        | true => exact absurd (fun _ => h) hx
      have hlow : ∀ i ∈ Region.ready .any ops L, i < m := by
        intro i hi
        obtain ⟨h1, h2, h3⟩ := hready L i hJ.size hi
        rcases Nat.lt_or_ge i m with h | h
        · exact h
        · exfalso
          have hm := ((hsuf i h1).2.resolve_left (by omega)) x (by omega)
          rw [masksN_getD ops ops.size i h1] at hm
          have ho : ops[i]? = some (ops.getD i default) := by simp [Array.getD_eq_getD_getElem?, h1]
          have := mask_before L hcl x i h1 hm (h3 _ ho)
          rw [hxl] at this; cases this
      refine ⟨fun hr => ?_, fun i hi => ?_⟩
      · -- nothing ready, though something is missing: the least one is ready
        exfalso
        have hleast : ∀ n, (∀ i, i < n → i < m → L.getD i false = true) ∨ ∃ i, i < m ∧ L.getD i false = false ∧ ∀ j, j < i → L.getD j false = true := by
          intro n
          induction n with
          | zero => exact .inl fun i hi => absurd hi (Nat.not_lt_zero _)
          | succ n ihn =>
            rcases ihn with h | h
            · by_cases hn : n < m
              · cases hl : L.getD n false with
                | true =>
                  refine .inl fun i hi him => ?_
                  rcases Nat.lt_or_ge i n with h' | h'
                  · exact h i h' him
                  · obtain rfl : i = n := by omega
                    exact hl
                | false => exact .inr ⟨n, hn, hl, fun j hj => h j hj (by omega)⟩
              · exact .inl fun i hi him => h i (by omega) him
            · exact .inr h
        rcases hleast m with h | ⟨i, him, hil, hij⟩
        · exact absurd (h x hxm hxm) (by simp [hxl])
        · have hi : i < ops.size := by omega
          have hmem : i ∈ Region.ready .any ops L := by
            unfold Region.ready
            rw [List.mem_filter]
            refine ⟨List.mem_range.2 hi, ?_⟩
            have ho : ops[i]? = some ops[i] := by simp [hi]
            have h2 : ((ops[i]).after.all fun e => !Region.binds .any e || L.getD e.on false) = true := by
              rw [Array.all_eq_true_iff_forall_mem]
              intro e he
              cases hb : Region.binds .any e with
              | false => rfl
              | true => simp [hij _ (hearly' i _ ho e (by simpa using he) hb)]
            rw [ho]
            simp only [Option.map_some, Option.getD_some, h2, Bool.and_true, Bool.not_eq_true']
            have hs' : i < L.size := by rw [hJ.size]; exact hi
            simpa [Array.getD_eq_getD_getElem?, hs'] using hil
          rw [hr] at hmem; cases hmem
      · obtain ⟨h1, h2, h3⟩ := hready L i hJ.size hi
        have him := hlow i hi
        have hiL : i < L.size := by rw [hJ.size]; exact h1
        have ho : ops[i]? = some (ops.getD i default) := by simp [Array.getD_eq_getD_getElem?, h1]
        have hbef : ∀ h, bef true ms i h = true → L.getD h false = true := fun h hb => by
          unfold bef at hb
          simp only [if_true] at hb
          rw [hms, masksN_getD ops ops.size i h1] at hb
          exact mask_before L hcl h i h1 hb (h3 _ ho)
        refine wpOp_mono (fun a' w' hJ' => ih _ a' w' ?_ ?_ ?_ hJ') (hJ.step hst0 hN hT hO h1 h2 hbef fun ow => ht ow i him)
        · intro j o hj hoj e he hb
          have hmono : ∀ x, L.getD x false = true → (L.setIfInBounds i true).getD x false = true := fun x hx => by
            by_cases e : x = i
            · subst e; rw [h2] at hx; cases hx
            · simpa [Array.getD_eq_getD_getElem?, Ne.symm e] using hx
          by_cases ej : j = i
          · subst ej
            exact hmono _ (h3 o hoj e he hb)
          · refine hmono _ (hcl j o ?_ hoj e he hb)
            simpa [Array.getD_eq_getD_getElem?, Ne.symm ej] using hj
        · intro j hj
          by_cases ej : j = i
          · omega
          · exact hsub j (by simpa [Array.getD_eq_getD_getElem?, Ne.symm ej] using hj)
        · have hlt : (L.setIfInBounds i true).toList.countP (fun b => !b) + 1 = L.toList.countP (fun b => !b) := by
            rw [Array.toList_setIfInBounds]
            have hl : i < L.toList.length := by simpa using hiL
            have h5 : L.toList[i] = false := by
              simp [Array.getD_eq_getD_getElem?, hiL] at h2
              simpa using h2
            rw [List.countP_set hl, h5]
            have hpos : 0 < L.toList.countP (fun b => !b) := by
              rw [List.countP_pos_iff]
              exact ⟨L.toList[i], List.getElem_mem hl, by rw [h5]; rfl⟩
            simp only [Bool.not_false, if_true, Bool.not_true, Bool.false_eq_true, if_false]
            omega
          omega

end

section
variable {P : Program} {ms : List Nat} {ops : Array Oper} {a0 : Act} {w0 : World} {Q : Exit → Act → World → Prop} {pds : List Pd} {σ : List (Nat × Value)} {N m : Nat}

def outVm (ops : Array Oper) (σ : List (Nat × Value)) (pds : List Pd) (m t : Nat) : Option Value :=
  match lastW ops t m with
  | some i => if (guardOf ops i).isNone then valAt pds i else none
  | none => σ.lookup t
def npIdxM (m : Nat) (isP : List Bool) : List Nat := (List.range m).filter fun j => !(isP.getD j false)
def pIdxM (m : Nat) (isP : List Bool) : List Nat := (List.range m).filter fun j => isP.getD j false

/-- what is known, once the ghost is known -/
def Pd.inst (ow : Nat → Nat) : Pd → Pd
  | .own p => .is (p ow)
  | p => p
def instL (ow : Nat → Nat) (pds : List Pd) : List Pd := pds.map (Pd.inst ow)
theorem getD_inst (ow : Nat → Nat) (pds : List Pd) (j : Nat) : (instL ow pds).getD j .any = (pds.getD j .any).inst ow := by
  unfold instL
  rw [List.getD_eq_getElem?_getD, List.getD_eq_getElem?_getD, List.getElem?_map]
  cases pds[j]? <;> rfl
theorem val_inst (ow : Nat → Nat) (p : Pd) : (p.inst ow).val? = p.val? := by cases p <;> rfl
theorem boolIs_inst (ow : Nat → Nat) (p : Pd) (b : Bool) : (p.inst ow).boolIs b = p.boolIs b := by cases p <;> rfl
theorem isBool_inst (ow : Nat → Nat) (p : Pd) : (p.inst ow).isBool = p.isBool := by cases p <;> rfl
theorem valAt_inst (ow : Nat → Nat) (pds : List Pd) (j : Nat) : valAt (instL ow pds) j = valAt pds j := by
  unfold valAt; rw [getD_inst, val_inst]
theorem envP_inst (ow : Nat → Nat) (pds : List Pd) (j : Nat) : envP ops σ (instL ow pds) j = envP ops σ pds j := by
  funext x
  cases x with
  | tmp t => rw [envP_tmp, envP_tmp]; simp only [valAt_inst]
  | _ => rfl
theorem envG_inst (ow : Nat → Nat) (pds : List Pd) (j : Nat) (g : Option Nat) (b : Bool) : envG ops σ (instL ow pds) j g b = envG ops σ pds j g b := by
  funext x
  cases x with
  | tmp t => rw [envG_tmp, envG_tmp]; simp only [valAt_inst]
  | _ => rfl
theorem pureV_inst (ow : Nat → Nat) (pds : List Pd) (j : Nat) : pureV P ops σ (instL ow pds) j = pureV P ops σ pds j := by
  unfold pureV
  simp only [envP_inst, envG_inst]
theorem statG_inst (ow : Nat → Nat) (pds : List Pd) (eff : List Nat) : statG ops (instL ow pds) eff = statG ops pds eff := by
  unfold statG
  simp only [getD_inst, isBool_inst]
  simp [instL]
theorem gc_inst (ow : Nat → Nat) (pds : List Pd) : ∀ n j, gc ops (instL ow pds) n j = gc ops pds n j
  | 0, _ => rfl
  | n + 1, j => by
    unfold gc
    simp only [getD_inst, boolIs_inst, gc_inst ow pds n]
def Pd.MonoO (p : Pd) : Prop := (∀ ow, (p.inst ow).Mono Non) ∧ ∀ ow ow' v (w : World), (∀ k, k < w.heap.size → ow k = ow' k) → (p.inst ow).sat v w → (p.inst ow').sat v w
theorem Pd.monoO_eq {v : Value} : (Pd.eq v).MonoO := ⟨fun _ => Pd.mono_eq, fun _ _ _ _ _ h => h⟩
def NPO (P : Program) (ms : List Nat) (ops : Array Oper) (pds : List Pd) (a0 : Act) (w0 : World) (Q : Exit → Act → World → Prop) (ow : Nat → Nat) (j : Nat) : Prop := NP P true ms ops [] pds (PhO ow j) Non a0 w0 Q j
theorem np_to {j : Nat} (ow : Nat → Nat) (h : NPB P true ms ops pds a0 w0 Q j) : NPO P ms ops pds a0 w0 Q ow j := by
  intro o ho a w k h1 h2 hP hc hg hk K hK
  exact h o ho a w k h1 h2 trivial hc hg hk K fun v w' hs hc' _ => hK v w' hs hc' fun x hx => hP x (Nat.le_trans hc'.size hx)

theorem ra_bm (m : Nat) (ms : List Nat) (isP : List Bool) (pds : List Pd) (σ' : List (Nat × Value)) (hF : FrS N σ a0) (hst : (stat true ms ops [] N && statG ops pds [] && sufB ops m) = true)
    (hp : (pIdxM m isP).map (pureV P ops σ pds) = (pIdxM m isP).map fun j => (pds.getD j .any).val?)
    (hps : ((pIdxM m isP).all fun j => (pds.getD j .any).val?.isSome) = true)
    (hrest : ((List.range ops.size).all fun j => decide (j < m) || match pds.getD j .any with | .any => true | _ => false) = true)
    (hmono : AllL (fun j => (pds.getD j .any).MonoO) (npIdxM m isP))
    (hnp : ∀ ow, Good ops (instL ow pds) [] → AllL (NPO P ms ops (instL ow pds) a0 w0 Q ow) (npIdxM m isP))
    (hout : σ'.map (fun p => outVm ops σ pds m p.1) = σ'.map fun p => some p.2)
    (post : ∀ ow a w, FrS N σ' a → EndM ops (TT ops (instL ow pds)) a0 m a w → Chg Non w0 w → wpFrom P ops Q m a w) : RA P ops Q a0 w0 := by
  rw [Bool.and_eq_true, Bool.and_eq_true] at hst
  obtain ⟨⟨hst, hsg⟩, hsuf⟩ := hst
  have hGo : ∀ ow, Good ops (instL ow pds) [] := fun ow => good_of (by rw [statG_inst]; exact hsg)
  have hmn : m ≤ ops.size := by
    unfold sufB at hsuf
    rw [Bool.and_eq_true] at hsuf
    simpa using hsuf.1
  have hlen : pds.length = ops.size := by
    unfold statG at hsg
    rw [Bool.and_eq_true] at hsg
    simpa using hsg.1
  have hmonoAll : ∀ j, (pds.getD j .any).MonoO := by
    intro j
    by_cases hj : j < m
    · cases hb : isP.getD j false with
      | false => exact hmono.mem (List.mem_filter.2 ⟨List.mem_range.2 hj, by simp only [hb]; rfl⟩)
      | true =>
        rw [List.all_eq_true] at hps
        have := hps j (List.mem_filter.2 ⟨List.mem_range.2 hj, hb⟩)
        obtain ⟨v, hv⟩ := Option.isSome_iff_exists.1 this
        cases hpj : pds.getD j .any with
        | eq u => exact Pd.monoO_eq
        | is p => rw [hpj] at hv; cases hv
        | own p => rw [hpj] at hv; cases hv
        | any => exact ⟨fun _ => Pd.mono_any, fun _ _ _ _ _ h => h⟩
    · have : pds.getD j .any = .any := by
        by_cases hjs : j < ops.size
        · rw [List.all_eq_true] at hrest
          have := hrest j (List.mem_range.2 hjs)
          simp only [hj, decide_false, Bool.false_or] at this
          split at this
          · assumption
          · cases this
        · rw [List.getD_eq_getElem?_getD, List.getElem?_eq_none (by omega)]; rfl
      rw [this]; exact ⟨fun _ => Pd.mono_any, fun _ _ _ _ _ h => h⟩
  have hdst : ∀ d, (∃ i, wr ops d i = true) → d < N := by
    intro d ⟨i, hi⟩
    have hst' := hst
    unfold stat at hst'
    simp only [Bool.and_eq_true, List.all_eq_true, List.mem_range] at hst'
    have hil := wr_lt hi
    have := hst'.2 i hil
    have ho : ops[i]? = some ops[i] := by simp [hil]
    rw [Array.getD_eq_getD_getElem?, ho] at this
    unfold wr at hi
    rw [ho] at hi
    simp only [Option.bind_some, beq_iff_eq] at hi
    simpa [hi] using this
  unfold RA
  refine any_run_m (T := fun ow => TT ops (instL ow pds)) (S := Non) hst hsuf hF.size (fun ow i v w w' ht hc => ⟨fun hg => by rw [getD_inst]; exact (hmonoAll i).1 ow v w w' (by have := ht.1 hg; rw [getD_inst] at this; exact this) hc, ht.2⟩) (fun ow ow' i v w hag ht => ⟨fun hg => by
    rw [gc_inst] at hg
    have := ht.1 (by rw [gc_inst]; exact hg)
    rw [getD_inst] at this ⊢
    exact (hmonoAll i).2 ow ow' v w hag this, fun hg => ht.2 (by rw [gc_inst] at hg ⊢; exact hg)⟩) (fun ow j hj => ?_) (fun ow a w hE hc => ?_) ops.size _ a0 _ (fun j o hj => ?_) (fun i hi => ?_) ?_ ⟨fun _ => 0, J.start (w0 := w0) (fun _ _ => trivial) _⟩
  · refine tri_of_np (hGo ow) hF.size hdst ?_
    cases hb : isP.getD j false with
    | false => exact (hnp ow (hGo ow)).mem (List.mem_filter.2 ⟨List.mem_range.2 hj, by simp only [hb]; rfl⟩)
    | true =>
      have hm : j ∈ pIdxM m isP := List.mem_filter.2 ⟨List.mem_range.2 hj, hb⟩
      rw [List.all_eq_true] at hps
      have h1 := hps j hm
      exact np_pure (hGo ow) hF (by simp) (by rw [pureV_inst, getD_inst, val_inst]; exact List.map_inj_left.1 hp j hm) (by rw [getD_inst, val_inst]; exact h1)
  · have h := post ow a w ⟨hE.1.trans hF.defers, hE.2.1.trans hF.size, fun t v hv => ?_⟩ hE hc
    · simpa [wpFrom] using h
    · have hm := lookup_mem hv
      have h := List.map_inj_left.1 hout _ hm
      have h1 := hE.2.2 t
      unfold Know at h1
      unfold outVm at h
      cases hl : lastW ops t m with
      | none => simp only [hl] at h h1; rw [h1]; exact hF.get t v h
      | some i =>
        simp only [hl] at h h1
        split at h
        · rename_i hg
          have hi := lastW_lt hl
          have hgi : gc ops (instL ow pds) ops.size i := by
            obtain ⟨k, hk⟩ : ∃ k, ops.size = k + 1 := ⟨ops.size - 1, by omega⟩
            rw [hk]; unfold gc
            rw [Option.isNone_iff_eq_none] at hg
            rw [hg]; trivial
          have h2 := h1.1 hgi
          rw [getD_inst] at h2
          unfold valAt Pd.val? at h
          split at h
          · rename_i u hu
            simp only [Option.some.injEq] at h; subst h
            rw [hu] at h2; exact h2
          · cases h
        · cases h
  · simp [Array.getD_eq_getD_getElem?, Array.getElem?_replicate] at hj
    split at hj <;> simp at hj
  · simp [Array.getD_eq_getD_getElem?, Array.getElem?_replicate] at hi
    split at hi <;> simp at hi
  · refine Nat.le_trans List.countP_le_length ?_
    simp
end
end Go.GL

/-! a region in the text's order: the first operations by predicates, the others one by one -/
namespace Go.GL
open Go.RowKit
section
variable {P : Program} {ms : List Nat} {ops : Array Oper} {T : Nat → Value → World → Prop} {S : Nat → Prop} {a0 : Act} {w0 : World} {Q : Exit → Act → World → Prop} {m : Nat}
end
section
variable {P : Program} {ops : Array Oper} {a0 : Act} {w0 : World} {Q : Exit → Act → World → Prop} {pds : List Pd} {σ : List (Nat × Value)} {N m : Nat}
end
end Go.GL
