/- Own library, part w: a field of an element of an own slice; own maps. -/
import Derived.Test.YtmmhbhhcloobnaaGreatDoorGLs
namespace Go.GL
open Go.RowKit

theorem row_one {cur cs : List Value} {s p off : Nat} {u : Value} (hcs : cs.length = s) (hoff : off < s) (hfit : p + s ≤ cur.length) (heq : ∀ j, j < s → cur[p + j]? = cs[j]?) :
    cur.take (p + off) ++ [u] ++ cur.drop (p + off + 1) = cur.take p ++ cs.set off u ++ cur.drop (p + (cs.set off u).length) := by
  apply List.ext_getElem?
  intro i
  simp only [List.getElem?_append, List.length_append, List.length_take, List.length_cons, List.length_nil, List.length_set, List.getElem?_take, List.getElem?_drop, List.getElem?_set, hcs]
  have h1 : min (p + off) cur.length = p + off := by omega
  have h2 : min p cur.length = p := by omega
  simp only [h1, h2]
  by_cases ha : i < p
  · simp [ha, show i < p + off + 1 by omega, show i < p + off by omega, show i < p + s by omega]
  · by_cases hb : i < p + s
    · have := heq (i - p) (by omega)
      rw [show p + (i - p) = i by omega] at this
      by_cases hc : i < p + off
      · simp [ha, hb, hc, show i < p + off + 1 by omega, show ¬ (off = i - p) by omega, this]
      · by_cases hd : i = p + off
        · subst hd
          have e9 : p + off - p = off := by omega
          have e8 : ¬ (p + off < p) := by omega
          simp [hoff, e9, e8]
        · simp [ha, hb, show ¬ (i < p + off + 1) by omega, show ¬ (off = i - p) by omega]
          rw [show p + off + 1 + (i - (p + off + 1)) = i by omega]; exact this
    · simp [hb, show ¬ (i < p + off + 1) by omega]
      congr 1; omega

section
variable {P : Program} {α : Type} [Flat α] {w : World} {E T : TypeId} {go : Option Nat} {G : Nat → Prop} {v : Value} {l : List α}

theorem OwnS.setCell_run (h : OwnS w E go G Non v l) (hE : Ty P E α) {n off : Nat} {x x' : α} (hx : l[n]? = some x) (hoff : off < Rep.sz α) {u : Value} (h1 : u.oneCell' = true) (hx' : Flat.enc x' = (Flat.enc x).set off u) (hT : (P.info? T).map (·.size) = some 1) :
    ∃ g w', go = some g ∧ (∃ c, v = .slice (some ⟨g, 0, none⟩) l.length c) ∧ (storeVar T ((⟨g, 0, none⟩ : Addr).add (n * Rep.sz α + off)) u).run P w = .ok () w' ∧ OwnS w' E go G Non v (l.set n x') ∧ Chg (fun k => go = some k) w w' := by
  have hn : n < l.length := (List.getElem?_eq_some_iff.1 hx).1
  obtain ⟨g, w1, hgo, ⟨c, hv⟩, hrun, ho, hc⟩ := h.set_run (P := P) hE (Fr := Non) (u := Rep.val α (Flat.enc x')) (x := x') ⟨_, Flat.iff.2 rfl, rfl⟩ (Fu := Non) flat_sub (fun _ _ h => h.elim) hn
  refine ⟨g, w1, hgo, ⟨c, hv⟩, ?_, ho, hc⟩
  obtain ⟨F, css, g1, g2, g3, g4, g5⟩ := h
  rcases g2.2 with ⟨hv2, hz⟩ | ⟨g', cap, cur, hv2, hb, hg, hnc, hcm, hcs, htake⟩
  · omega
  rw [hv] at hv2
  simp only [Value.slice.injEq, Option.some.injEq, Addr.mk.injEq, and_true, true_and] at hv2
  obtain ⟨rfl, rfl⟩ := hv2
  have hlenx : (Flat.enc x).length = Rep.sz α := Rep.len (Flat.iff (w := w) (F := Non).2 rfl)
  have hlenx' : (Flat.enc x').length = Rep.sz α := Rep.len (Flat.iff (w := w) (F := Non).2 rfl)
  have hone' : ∀ z ∈ Flat.enc x', z.oneCell' = true := Rep.one (Flat.iff (w := w) (F := Non).2 rfl)
  have hvc : (Rep.val α (Flat.enc x')).cells = (Flat.enc x').toArray := by
    unfold Rep.val
    cases hh : Rep.agg α with
    | true => simp [Value.cells]
    | false =>
      have hcl := hlenx'
      rw [Rep.sgl hh] at hcl
      match hq : Flat.enc x', hcl with
      | [c], _ =>
        have h1 := hone' c (by rw [hq]; simp)
        simp only [Bool.false_eq_true, if_false, List.headD_cons]
        cases c <;> simp_all [Value.cells, Value.oneCell']
  have hoffn : n * Rep.sz α + Rep.sz α ≤ l.length * Rep.sz α := by
    rw [← Nat.succ_mul]; exact Nat.mul_le_mul_right _ hn
  have hcap : l.length * Rep.sz α ≤ c * Rep.sz α := Nat.mul_le_mul_right _ hnc
  have e1 := run_storeCells_at (P := P) g (n * Rep.sz α) E (Flat.enc x') 0 cur w hg (by rw [hlenx', hcs]; omega) hone'
  have e2 := run_storeCells_at (P := P) g (n * Rep.sz α + off) E [u] 0 cur w hg (by simp; rw [hcs]; omega) (by simpa using h1)
  simp only [Nat.add_zero] at e1 e2
  have haddr : ∀ p, (⟨g, 0, none⟩ : Addr).add p = ⟨g, p, none⟩ := fun p => by unfold Addr.add; split <;> simp_all
  have r1 : (storeVar E ((⟨g, 0, none⟩ : Addr).add (n * Rep.sz α)) (Rep.val α (Flat.enc x'))).run P w = .ok () (w.setRow g (cur.toList.take (n * Rep.sz α) ++ Flat.enc x' ++ cur.toList.drop (n * Rep.sz α + (Flat.enc x').length)).toArray) := by
    rw [haddr]
    unfold storeVar
    simp only [Sem.run_bind, hE.sizeOf, Result.andThen_ok, hvc, List.size_toArray, hlenx']
    rw [hlenx'] at e1
    simpa using e1
  rw [hrun] at r1
  simp only [Result.ok.injEq, true_and] at r1
  have hcu : u.cells = #[u] := by cases u <;> simp_all [Value.cells, Value.oneCell']
  have r2 : (storeVar T ((⟨g, 0, none⟩ : Addr).add (n * Rep.sz α + off)) u).run P w = .ok () (w.setRow g (cur.toList.take (n * Rep.sz α + off) ++ [u] ++ cur.toList.drop (n * Rep.sz α + off + 1)).toArray) := by
    cases hinf : P.info? T with
    | none => rw [hinf] at hT; cases hT
    | some inf =>
      rw [hinf] at hT
      simp only [Option.map_some, Option.some.injEq] at hT
      rw [haddr]
      unfold storeVar
      simp only [Sem.run_bind, sizeOf, typeInfo, hcu]
      simpa [hinf, hT] using e2
  rw [r2, r1]
  congr 3
  rw [hx']
  refine row_one (s := Rep.sz α) hlenx hoff (by simp only [Array.length_toList]; rw [hcs]; omega) fun j hj => ?_
  have hxn : css[n]? = some (Flat.enc x) := by
    have hlt : n < css.length := by rw [g1.1]; exact hn
    rw [List.getElem?_eq_getElem hlt]
    exact congrArg some (Flat.iff.1 (g1.2 n css[n] x (List.getElem?_eq_getElem hlt) hx))
  have hj' : j < (Flat.enc x).length := by omega
  have := flatten_get (s := Rep.sz α) g1.lens hxn (List.getElem?_eq_getElem hj')
  rw [← htake, List.getElem?_take] at this
  split at this
  · rw [this, List.getElem?_eq_getElem hj']
  · cases this

variable {ops : Array Oper} {Q : Exit → Act → World → Prop} {a : Act} {w0 : World} {S S0 F F0 : Nat → Prop} {N : Nat} {σ : List (Nat × Value)} {k d d2 : Nat} {t ty : TypeId} {x y : Operand} {pos : String} {af : Array Edge} {L : List HP}

/-- xs[i].f = u, in place -/
theorem q_setField {t' s' ty' ty2 : TypeId} {fl : Nat} {idx z : Operand} {pos' pos2 : String} {af' af2 : Array Edge} {kd : IntKind} {n : Int} {q q' : α} {off : Nat} {u : Value} (i : Nat) (hs : Sep L w S) (hM : Mem w0 S0 F0 w S F) (hL : L[i]? = some (SL E v l)) (ht : P.underlying t = some (.slice E)) (hE : Ty P E α)
    (hop : ops[k]? = some ⟨some d, .indexAddr t x idx, ty, pos, af, none⟩) (hop2 : ops[k + 1]? = some ⟨some d2, .fieldAddr s' (.tmp d) fl, ty2, pos2, af2, none⟩) (hop' : ops[k + 2]? = some ⟨none, .store t' (.tmp d2) z, ty', pos', af', none⟩) (hd : Nat.blt d N = true) (hd2 : Nat.blt d2 N = true) (hF : FrS N σ a)
    (hx : opd σ x = some v) (hi : opd σ idx = some (.int kd n)) (hz : (match z with | .tmp s => s != d && s != d2 | _ => true) = true) (hzu : opd σ z = some u) (hoff : fieldOff P s' fl = some off) (hlt : Nat.blt off (Rep.sz α) = true) (hT : (P.info? t').map (·.size) = some 1) (h1 : u.oneCell' = true)
    (hq : get? l n = some q) (hu : Flat.enc q' = (Flat.enc q).set off u) {r : List α} (hr : set? l n q' = some r)
    (h : ∀ w' S' fr p p2, Sep (L.set i (SL E v r)) w' S' → Stp w S w' S' → FrS N ((d2, p2) :: (d, p) :: σ) fr → wpFrom P ops Q (k + 3) fr w') : wpFrom P ops Q k a w := by
  obtain ⟨A, hok, hup⟩ := hs.upd i hL hM
  rcases hok with ⟨go, ho⟩ | ⟨rfl, _, _⟩
  · unfold set? at hr
    split at hr
    · rename_i hn
      simp only [Option.some.injEq] at hr; subst hr
      obtain ⟨g, w', hgo, ⟨c, rfl⟩, hrun, ho', hc⟩ := ho.setCell_run (P := P) (T := t') hE (get?_at hq) (Nat.blt_eq.mp hlt) h1 hu hT
      have hb : 0 ≤ n ∧ n < (l.length : Int) := ⟨hn.1, by omega⟩
      refine from_val hF hop rfl rfl (Nat.blt_eq.mp hd) (R := fun p w1 => p = .pointer (some ((⟨g, 0, none⟩ : Addr).add (n.toNat * Rep.sz α))) ∧ w = w1) (does_value ?_ ⟨rfl, rfl⟩) fun p w1 fr hp hF1 => ?_
      · simp [execOp, Instr.indexAt, opd_eval hF hx, opd_eval hF hi, asIntOf, run_underlying ht, hb, hE.sizeOf]
      · obtain ⟨rfl, rfl⟩ := hp
        have hp1 := hF1.get d (.pointer (some ((⟨g, 0, none⟩ : Addr).add (n.toNat * Rep.sz α)))) (by simp)
        refine from_val hF1 hop2 rfl rfl (Nat.blt_eq.mp hd2) (R := fun p w1 => p = .pointer (some (((⟨g, 0, none⟩ : Addr).add (n.toNat * Rep.sz α)).add off)) ∧ w = w1) (does_value (pe_run (P := P) (ρ := fun y => match y with | .tmp s => if s = d then some (.pointer (some ((⟨g, 0, none⟩ : Addr).add (n.toNat * Rep.sz α)))) else none | _ => none) (fun y z hy => by
          split at hy
          · split at hy
            · rename_i hyd; subst hyd; rw [← Option.some.inj hy]; exact hp1
            · cases hy
          · cases hy) (by simp [pe, hoff]) w) ⟨rfl, rfl⟩) fun p2 w1 fr2 hp2 hF2 => ?_
        obtain ⟨rfl, rfl⟩ := hp2
        have hz' : fr2.eval z = u := by
          cases z with
          | tmp s =>
            simp only [Bool.and_eq_true, bne_iff_ne, ne_eq] at hz
            refine hF2.get s u ?_
            have e1 : (s == d2) = false := by simpa using hz.2
            have e2 : (s == d) = false := by simpa using hz.1
            rw [List.lookup_cons, e1, List.lookup_cons, e2]; exact hzu
          | const c => simpa [opd, Act.eval] using hzu
          | global c => simpa [opd, Act.eval] using hzu
          | func c => simpa [opd, Act.eval] using hzu
        refine from_eff hF2 hop' rfl rfl (R := fun _ w2 => w2 = w') (does_skip ?_ rfl) fun w2 hw2 hF3 => ?_
        · have hd1 := hF2.get d2 (.pointer (some (((⟨g, 0, none⟩ : Addr).add (n.toNat * Rep.sz α)).add off))) (by simp)
          rw [add_add] at hd1
          simp [execOp, Instr.storeAt, hd1, hz', Instr.sureAddr, hrun]
        · obtain ⟨_, rfl⟩ := hw2
          obtain ⟨S', hp, hs'⟩ := hup (w' := w2) (P' := SL E _ (l.set n.toNat q')) (hc.mono fun k hk => ho.inG hk) (.inl ⟨go, ho'.regard fun k _ hk => .inl hk⟩)
          exact h w2 S' fr2 _ _ hs' hp hF3
    · cases hr
  · unfold set? at hr
    simp at hr
end

/-! ### own maps -/
section
open Go.Maps
variable {P : Program} {k e t : TypeId} {κ β : Type} [Flat κ] [Flat β] [DecidableEq κ] (T : MapT P k e κ β)
variable {ops : Array Oper} {Q : Exit → Act → World → Prop} {a : Act} {w w0 : World} {S S0 F F0 : Nat → Prop} {N : Nat} {σ : List (Nat × Value)} {j d : Nat} {ty : TypeId} {x y z : Operand} {pos : String} {af : Array Edge} {L : List HP} {b : Nat} {m : List (κ × β)}

end
end Go.GL
