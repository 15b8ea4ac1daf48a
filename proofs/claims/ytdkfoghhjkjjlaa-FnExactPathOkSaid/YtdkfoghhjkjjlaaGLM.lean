/- Own library, part M: more steps with one hypothesis: regions that draw, merges, guards, orders. -/
import Derived.Test.YtdkfoghhjkjjlaaGLW
set_option linter.unusedVariables false
namespace Go.GL
open Go.RowKit

section
variable {P : Program} {B : Bs} {N : Nat} {σ : List (Nat × Value)} {Γ : List HP} {Φ : List RF} {a a' : Act} {w w' : World} {Q : Exit → Act → World → Prop} {K : Act → World → Prop}

abbrev Cx.wd (_ : Cx B N σ Γ Φ a w) : World := w
theorem Cx.swap {H H' : HP} (i : Nat) (c : Cx B N σ Γ Φ a w) (f : ∀ A, H.ok w A → H'.ok w A) (hi : Γ[i]? = some H := by rfl) : Cx B N σ (Γ.set i H') Φ a w := by
  obtain ⟨h, S, F, h1, h2, h3⟩ := c
  exact ⟨h, S, F, h1, h2.swapT i hi f, h3⟩
theorem Cx.nilf {α : Type} [Rep α] (c : Cx B N σ Γ Φ a w) : Cx B N σ Γ (Φ ++ [RO (.slice none 0 0) ([] : List α)]) a w := c.add Ava.nil
theorem Cx.sl {α : Type} [Rep α] {v : Value} {l : List α} (i : Nat) (c : Cx B N σ Γ Φ a w) (hi : Φ[i]? = some (RO v l) := by rfl) : ∃ b cp, v = .slice b l.length cp := by
  obtain ⟨F, h⟩ := c.use (Ava.f i hi)
  obtain ⟨b, cp, h, _⟩ := RV.slice h
  exact ⟨b, cp, h⟩
theorem Cx.flat {L : List HP} (i : Nat) (c : Cx B N σ Γ Φ a w) (hi : Γ[i]? = some (HP.sep L) := by rfl) : Cx B N σ (rest [i] Γ ++ L) Φ a w := c.gam fun S h => by
  have := h.part [i] (Γ1 := [HP.sep L]) (by simp [hi]) (by simp)
  exact pick_append (Sep.flat this)
/-! control -/
theorem If {x y : Code} {o : Operand} {b : Bool} (c : Cx B N σ Γ Φ a w) (ht : b = true → x.wp P Q a w) (hf : b = false → y.wp P Q a w) (hb : opd σ o = some (.bool b) := by kernel_rfl) : (Code.cond o x y).wp P Q a w := wp_if c.fr hb ht hf
theorem As {id : Nat} {l : List Oper} (hmix : P.follows .mixedOrders = true) (c : Cx B N σ Γ Φ a w) (h : ∀ w', Cx B N σ Γ Φ a w' → wpAny P .any l.toArray Q l.toArray.size (Array.replicate l.toArray.size false) a w') : (Code.region id l.toArray true).wp P Q a w :=
  any_start hmix fun w' hc => h w' (c.ext hc)
/-- guards, one by one -/
theorem Gt {l : List Oper} {k g t : Nat} {want : Bool} {o og : Oper} (c : Cx B N σ Γ Φ a w) (h : wpFrom P (l.set k { o with guard := none }).toArray Q k a w) (ho : l[k]? = some o := by rfl) (hg : o.guard = some (g, want) := by rfl) (hog : l[g]? = some og := by rfl) (ht : og.dst = some t := by rfl)
    (htN : Nat.blt t N = true := by rfl) (hv : opd σ (.tmp t) = some (.bool want) := by kernel_rfl) : wpFrom P l.toArray Q k a w := from_takeL c.fr ho hg hog ht htN hv h
theorem Gs {ops : Array Oper} {k g t d : Nat} {want : Bool} {o og : Oper} (c : Cx B N σ Γ Φ a w) (h : ∀ fr, Cx B N ((d, undef) :: σ) Γ Φ fr w → wpFrom P ops Q (k + 1) fr w) (ho : ops[k]? = some o := by rfl) (hg : o.guard = some (g, want) := by rfl) (hog : ops[g]? = some og := by rfl)
    (ht : og.dst = some t := by rfl) (hd : o.dst = some d := by rfl) (htN : Nat.blt t N = true := by rfl) (hdN : Nat.blt d N = true := by rfl) (hv : opd σ (.tmp t) = some (.bool (!want)) := by kernel_rfl) : wpFrom P ops Q k a w :=
  from_skip c.fr ho hg hog ht htN hv (by cases want <;> rfl) hd hdN fun fr hF => h fr (c.to hF)
theorem Gu {ops : Array Oper} {k g t d : Nat} {want : Bool} {o og : Oper} (c : Cx B N σ Γ Φ a w) (h : ∀ fr, Cx B N ((d, undef) :: σ) Γ Φ fr w → wpFrom P ops Q (k + 1) fr w) (ho : ops[k]? = some o := by rfl) (hg : o.guard = some (g, want) := by rfl) (hog : ops[g]? = some og := by rfl)
    (ht : og.dst = some t := by rfl) (hd : o.dst = some d := by rfl) (htN : Nat.blt t N = true := by rfl) (hdN : Nat.blt d N = true := by rfl) (hv : opd σ (.tmp t) = some undef := by kernel_rfl) : wpFrom P ops Q k a w :=
  from_skipU c.fr ho hg hog ht htN hv hd hdN fun fr hF => h fr (c.to hF)

/-! branches that only compute -/
def pureC (P : Program) (N : Nat) (σ : List (Nat × Value)) : Code → Option (List (Nat × Value))
  | .skip => some σ
  | .region _ ops false => seqV P N ops.toList σ
  | _ => none
def dstC : Code → List Nat
  | .region _ ops _ => ops.toList.filterMap (·.dst)
  | _ => []
theorem seqV_other {t : Nat} : ∀ {l : List Oper} {σ σ' : List (Nat × Value)}, seqV P N l σ = some σ' → t ∉ l.filterMap (·.dst) → σ'.lookup t = σ.lookup t
  | [], σ, σ', h, _ => by simp only [seqV, Option.some.injEq] at h; subst h; rfl
  | o :: l, σ, σ', h, ht => by
    unfold seqV at h
    split at h
    · rename_i d v hg hd hv
      split at h
      · rw [List.filterMap_cons, hd] at ht
        have h1 := seqV_other h fun hm => ht (List.mem_cons_of_mem _ hm)
        have hne : (t == d) = false := by
          have : t ≠ d := fun e => ht (by subst e; exact List.mem_cons_self)
          simpa using this
        rw [h1, List.lookup_cons, hne]
      · cases h
    · cases h
theorem lookup_append_mem {t : Nat} {v : Value} : ∀ {τ σ : List (Nat × Value)}, (τ ++ σ).lookup t = some v → (t, v) ∈ τ ∨ σ.lookup t = some v
  | [], _, h => .inr h
  | (k, u) :: τ, σ, h => by
    rw [List.cons_append, List.lookup_cons] at h
    by_cases e : t = k
    · subst e; simp at h; subst h; exact .inl List.mem_cons_self
    · have : (t == k) = false := by simpa using e
      rw [this] at h
      exact (lookup_append_mem h).imp (List.mem_cons_of_mem _) id
theorem pureC_wp {x : Code} {τ : List (Nat × Value)} {D : List Nat} (hF : FrS N σ a) (h : (pureC P N σ x).map (fun s => τ.map fun p => s.lookup p.1) = some (τ.map fun p => some p.2)) (hD : ((dstC x).all (memN D)) = true) :
    x.wp P (fun e a' w' => e = .normal ∧ w' = w ∧ FrS N (τ ++ σ.filter fun p => !memN D p.1) a') a w := by
  have fin : ∀ (s : List (Nat × Value)) (a' : Act), FrS N s a' → (∀ p ∈ τ, s.lookup p.1 = some p.2) → (∀ t, memN D t = false → s.lookup t = σ.lookup t) → FrS N (τ ++ σ.filter fun p => !memN D p.1) a' := fun s a' hs h1 h2 =>
    ⟨hs.defers, hs.size, fun t v hv => by
      rcases lookup_append_mem hv with hv | hv
      · exact hs.get t v (h1 _ hv)
      · obtain ⟨g1, g2⟩ := lookup_filter (f := fun k => !memN D k) hv
        exact hs.get t v (by rw [h2 t (by simpa using g1)]; exact g2)⟩
  cases x with
  | skip =>
    simp only [pureC, Option.map_some, Option.some.injEq] at h
    exact wp_skip ⟨rfl, rfl, fin σ a hF (fun p hp => List.map_inj_left.1 h p hp) fun _ _ => rfl⟩
  | region id ops draw =>
    cases draw with
    | true => simp [pureC] at h
    | false =>
      simp only [pureC] at h
      cases hq : seqV P N ops.toList σ with
      | none => rw [hq] at h; cases h
      | some s =>
        rw [hq] at h
        simp only [Option.map_some, Option.some.injEq] at h
        refine wp_text ?_
        unfold wpFrom
        rw [List.drop_zero, ← List.append_nil ops.toList]
        refine list_pure hF hq fun a' hF' => wpList_nil ⟨rfl, rfl, fin s a' hF' (fun p hp => List.map_inj_left.1 h p hp) fun t ht => seqV_other hq fun hm => ?_⟩
        rw [List.all_eq_true] at hD
        have := hD t (by simpa [dstC] using hm)
        rw [ht] at this; cases this
  | _ => simp [pureC] at h
theorem Mp {x y : Code} {o : Operand} (b : Bool) (τ1 τ2 τ : List (Nat × Value)) (D : List Nat) (c : Cx B N σ Γ Φ a w) (h : ∀ fr, Cx B N (τ ++ σ.filter fun p => !memN D p.1) Γ Φ fr w → K fr w) (hb : opd σ o = some (.bool b) := by kernel_rfl)
    (h1 : (pureC P N σ x).map (fun s => τ1.map fun p => s.lookup p.1) = some (τ1.map fun p => some p.2) := by kernel_rfl) (h2 : (pureC P N σ y).map (fun s => τ2.map fun p => s.lookup p.1) = some (τ2.map fun p => some p.2) := by kernel_rfl)
    (hx : ((dstC x).all (memN D)) = true := by kernel_rfl) (hy : ((dstC y).all (memN D)) = true := by kernel_rfl) (e1 : b = true → τ1 = τ := by intro hb; first | rfl | (simp only [hb]; done) | (simp only [hb]; rfl) | (simp [hb]; done))
    (e2 : b = false → τ2 = τ := by intro hb; first | rfl | (simp only [hb]; done) | (simp only [hb]; rfl) | (simp [hb]; done)) : (Code.cond o x y).wp P (Exit.then K Q) a w :=
  wp_merge (τ ++ σ.filter fun p => !memN D p.1) c.fr hb (fun hb => by rw [← e1 hb]; exact pureC_wp c.fr h1 hx) (fun hb => by rw [← e2 hb]; exact pureC_wp c.fr h2 hy) fun a' hF => then_normal (h a' (c.to hF))

/-! regions -/
theorem Ry {id : Nat} {ops : Array Oper} {draw : Bool} (hs : List (Nat × Nat)) (hmix : P.follows .mixedOrders = true) (c : Cx B N σ Γ Φ a w)
    (h : ∀ fr w', Cx B N (outS ops σ (pdsM P (bxsOf Γ Φ) hs ops σ [] ops.size) ops.size) Γ Φ fr w' → K fr w')
    (hst : (stat draw (cond draw (masksN ops ops.size) []) ops [] N && statG ops (pdsM P (bxsOf Γ Φ) hs ops σ [] ops.size) []) = true := by kernel_rfl)
    (h1 : (freeI [] ops.size).map (fun j => (pureB P (bxsOf Γ Φ) hs ops σ (pdsM P (bxsOf Γ Φ) hs ops σ [] ops.size) j).map (·.1)) = (freeI [] ops.size).map fun j => ((pdsM P (bxsOf Γ Φ) hs ops σ [] ops.size).getD j .any).val? := by kernel_rfl)
    (h2 : ((freeI [] ops.size).all fun j => ((pdsM P (bxsOf Γ Φ) hs ops σ [] ops.size).getD j .any).val?.isSome) = true := by kernel_rfl)
    (h3 : (freeI [] ops.size).map (fun j => (pureB P (bxsOf Γ Φ) hs ops σ (pdsM P (bxsOf Γ Φ) hs ops σ [] ops.size) j).map fun r => r.2.map (·.1)) = (freeI [] ops.size).map fun j => (pureB P (bxsOf Γ Φ) hs ops σ (pdsM P (bxsOf Γ Φ) hs ops σ [] ops.size) j).map fun r => r.2.map (·.2) := by kernel_rfl) :
    (Code.region id ops draw).wp P (Exit.then K Q) a w := Rz [] hs hmix c trivial (fun _ => trivial) h hst h1 h2 h3

def Pd.el {α : Type} [Rep α] (x : α) : Pd := .is fun v w => ElemP w (fun _ => True) v x
theorem elM {α : Type} [Rep α] {x : α} : (Pd.el x).Mono Non := mono_elem
theorem atN {bx : Bxs} {hs : List (Nat × Nat)} {ops : Array Oper} {np : List (Nat × Pd)} {m : Nat} {p : Pd} (j : Nat) (hp : np.lookup j = some p := by rfl) (hj : Nat.blt j m = true := by rfl) : (pdsM P bx hs ops σ np m).getD j .any = p := pdsM_get (Nat.blt_eq.mp hj) hp
def ndN : List Nat → Bool
  | [] => true
  | x :: l => !(memN l x) && ndN l
theorem ndN_nodup : ∀ {l : List Nat}, ndN l = true → l.Nodup
  | [], _ => List.nodup_nil
  | x :: l, h => by
    unfold ndN at h
    rw [Bool.and_eq_true, Bool.not_eq_true', memN_eq] at h
    exact List.nodup_cons.2 ⟨fun hm => by rw [List.contains_iff_mem.2 hm] at h; exact absurd h.1 (by decide), ndN_nodup h.2⟩
theorem Cx.gm (Γ' : List HP) (c : Cx B N σ Γ Φ a w) (h : Γ = Γ' := by kernel_rfl) : Cx B N σ Γ' Φ a w := h ▸ c
theorem Cx.newt {σ0 : List (Nat × Value)} {a0 : Act} {w0 : World} {ow : Nat → Nat} (c0 : Cx B N σ0 Γ Φ a0 w0) (hc : Chg Non w0 w) (c : Cx B N σ Γ Φ a w) (l : List (Nat × Nat × Value × HP))
    (h : AllP (fun p => a.eval (.tmp p.2.1) = p.2.2.1 ∧ p.2.2.2.ok w (fun k => w0.heap.size ≤ k ∧ k < w.heap.size ∧ ow k = p.1)) l) (hnd : ndN (l.map (·.1)) = true := by rfl) : Cx B N (l.map (fun p => (p.2.1, p.2.2.1)) ++ σ) (Γ ++ l.map (·.2.2.2)) Φ a w := by
  have hn := ndN_nodup hnd
  clear hnd
  obtain ⟨_, S, F, hM, hs, hf⟩ := c0
  have hN := sepO (w0 := w0) (ow := ow) (l.map fun p => (p.1, p.2.2.2)) (by rw [List.map_map]; exact hn) (by
    induction l with
    | nil => trivial
    | cons p l ih => exact ⟨h.1.2, ih h.2 (by simp only [List.map_cons, List.nodup_cons] at hn; exact hn.2)⟩) rfl
  obtain ⟨S', hp, hs'⟩ := hs.got hM (stp_new hc) hN
  refine ⟨⟨c.fr.defers, c.fr.size, fun t v hv => ?_⟩, S', F, hM.stp hp, ?_, hf.chg hp.chg fun k hk hS => hM.dj k hS hk⟩
  · rcases lookup_append_mem hv with hv | hv
    · obtain ⟨p, hp, he⟩ := List.mem_map.1 hv
      simp only [Prod.mk.injEq] at he
      obtain ⟨rfl, rfl⟩ := he
      exact (h.mem hp).1
    · exact c.fr.get t v hv
  · have := pick_append hs'
    simpa [List.map_map, Function.comp_def] using this
end

/-! what the operations of a region give -/
section
variable {P : Program} {B : Bs} {N : Nat} {σ : List (Nat × Value)} {Γ : List HP} {Φ Φ1 : List RF} {a : Act} {w : World} {Q : Exit → Act → World → Prop}
  {draw : Bool} {ms : List Nat} {ops : Array Oper} {pds : List Pd} {j d : Nat} {dst : Option Tmp} {g : Option (Nat × Bool)} {t ty yt : TypeId} {x y : Operand} {pos : String} {af : Array Edge} {ow : Nat → Nat}

theorem gcT {g' : Nat} {b : Bool} (hg : gc ops pds ops.size j) (hgd : guardOf ops j = some (g', true) := by rfl) (hn : ∃ n, ops.size = n + 1 := by exact ⟨_, rfl⟩) (hp : (pds.getD g' .any).val? = some (.bool b) := by kernel_rfl) : b = true := by
  obtain ⟨n, hn⟩ := hn
  rw [hn] at hg; unfold gc at hg
  rw [hgd] at hg
  have h := hg.2
  cases hq : pds.getD g' .any with
  | eq v =>
    rw [hq] at hp h
    simp only [Pd.val?, Option.some.injEq] at hp
    subst hp
    simpa [Pd.boolIs] using h
  | _ => rw [hq] at hp; cases hp
theorem gcF {g' : Nat} {b : Bool} (hg : gc ops pds ops.size j) (hgd : guardOf ops j = some (g', false) := by rfl) (hn : ∃ n, ops.size = n + 1 := by exact ⟨_, rfl⟩) (hp : (pds.getD g' .any).val? = some (.bool b) := by kernel_rfl) : b = false := by
  obtain ⟨n, hn⟩ := hn
  rw [hn] at hg; unfold gc at hg
  rw [hgd] at hg
  have h := hg.2
  cases hq : pds.getD g' .any with
  | eq v =>
    rw [hq] at hp h
    simp only [Pd.val?, Option.some.injEq] at hp
    subst hp
    simpa [Pd.boolIs] using h
  | _ => rw [hq] at hp; cases hp
theorem Nix {s : Str} {n r : Int} (c : Cx B N σ Γ Φ a w) (hz : gc ops pds ops.size j → sidx? s n = some r) (hG : Good ops pds []) (hpd : pds.getD j .any = .eq (.int .u8 r)) (ho : ops[j]? = some ⟨dst, .index t x y, ty, pos, af, g⟩ := by rfl) (ht : P.underlying t = some .string := by kernel_rfl)
    (hx : envP ops σ pds j x = some s.val := by kernel_rfl) (hy : numOf (envP ops σ pds j y) = some n := by kernel_rfl) : NPB P draw ms ops pds a w Q j := by
  obtain ⟨kd, hy⟩ := numOf_eq hy
  exact np_index_str hG c.fr ht ho hx hy hz hpd
theorem Nshl {m n r : Int} (c : Cx B N σ Γ Φ a w) (hz : gc ops pds ops.size j → shl? m n = some r) (hG : Good ops pds []) (hpd : pds.getD j .any = .eq (.int .i64 r)) (ho : ops[j]? = some ⟨dst, .binOp .shl t x y yt, ty, pos, af, g⟩ := by rfl)
    (hx : envP ops σ pds j x = some (.int .i64 m) := by kernel_rfl) (hy : numOf (envP ops σ pds j y) = some n := by kernel_rfl) : NPB P draw ms ops pds a w Q j := by
  obtain ⟨kd, hy⟩ := numOf_eq hy
  exact np_shl hG c.fr ho hx hy hz hpd
theorem Nid {α : Type} [Rep α] {e : TypeId} {v : Value} {l : List α} {n : Int} {q : α} (c : Cx B N σ Γ Φ a w) (hl : Ava Γ Φ w (RO v l)) (hz : gc ops pds ops.size j → get? l n = some q) (hG : Good ops pds []) (hpd : pds.getD j .any = .is fun v w => ElemP w (fun _ => True) v q)
    (ho : ops[j]? = some ⟨dst, .indexAddr t x y, ty, pos, af, g⟩ := by rfl) (ht : P.underlying t = some (.slice e) := by rfl) (he : Ty P e α := by constructor <;> kernel_rfl) (hx : envP ops σ pds j x = some v := by kernel_rfl) (hy : numOf (envP ops σ pds j y) = some n := by kernel_rfl) : NPB P draw ms ops pds a w Q j := by
  obtain ⟨F, hl⟩ := c.use hl
  obtain ⟨kd, hy⟩ := numOf_eq hy
  exact np_index hG c.fr he ht ho hx (RV.any hl) hy hpd fun hg => ⟨get?_nn (hz hg), get?_at (hz hg)⟩
theorem Nld {α : Type} [Flat α] {s : Nat} {q : α} {u : Value} (c : Cx B N σ Γ Φ a w) (i : Nat) (hpi : pds.getD i .any = .is fun v w => ElemP w (fun _ => True) v q) (hG : Good ops pds []) (hpd : pds.getD j .any = .eq u) (ho : ops[j]? = some ⟨dst, .load t (.tmp s), ty, pos, af, g⟩ := by rfl)
    (hj : Nat.blt j ops.size = true := by rfl) (hl : lastW ops s j = some i := by rfl) (hok : okG ops ops.size j i = true := by rfl) (hu : Rep.val α (Flat.enc q) = u := by rfl) (ht : Ty P t α := by constructor <;> kernel_rfl) : NPB P draw ms ops pds a w Q j :=
  np_loadF hG c.fr ht ho hj hl hok hpi hpd hu
theorem Ncl {args : List Value} {f : FuncId} {xs : Array Operand} {ts : Array TypeId} {vs : List Value} {u : Value} (c : Cx B N σ Γ Φ a w) (hcon : gc ops pds ops.size j → Con P f args [] Φ1 fun (_ : Unit) => (vs, [], [])) (ro : AvaL Γ Φ w Φ1)
    (hf : ∀ (args : Array Value) (w : World), (callFunc f args).run P w = .ok (.enter f args) w) (hG : Good ops pds []) (hpd : pds.getD j .any = .eq u) (hv : Go.GL.tup vs = u := by rfl) (ho : ops[j]? = some ⟨dst, .call ⟨.value (.func f), xs, ts⟩, ty, pos, af, g⟩ := by rfl)
    (hargs : xs.toList.map (envP ops σ pds j) = args.map some := by kernel_rfl) : NPB P draw ms ops pds a w Q j :=
  np_call args hG c.fr hf ho hargs fun w' hC hg => by
    obtain ⟨_, S, F, hM, hs, hF⟩ := c.ext hC
    have hro : AllF Φ1 w (fun k => k < w.heap.size) := by
      obtain ⟨_, S0, F0, hM0, hs0, hF0⟩ := c
      exact (AvaL.all ro hs0 hF0).sub fun k hk _ => hk
    refine (hcon hg w' Non (fun k => k < w.heap.size) (Sep.nil _ _) (hro.chg hC fun _ _ h => h.elim) (fun _ h => h.elim) (fun k hk => Nat.lt_of_lt_of_le hk hC.size) (fun _ h => h.elim)).mono ?_
    rintro e w'' ⟨i, S', F', rfl, hM', _, _⟩
    exact ⟨_, rfl, hM'.chg, by rw [hpd]; exact hv⟩
theorem Ncn {κ : Type} {R : κ → Res} {V : κ → Value} {H : κ → HP} {args : List Value} {f : FuncId} {xs : Array Operand} {ts : Array TypeId} (c : Cx B N σ Γ Φ a w) (hcon : gc ops pds ops.size j → Con P f args [] Φ1 R) (ro : AvaL Γ Φ w Φ1)
    (hf : ∀ (args : Array Value) (w : World), (callFunc f args).run P w = .ok (.enter f args) w) (hG : Good ops pds []) (hpd : pds.getD j .any = .is fun v w' => ∃ i, v = V i ∧ (H i).ok w' (fun k => w.heap.size ≤ k ∧ k < w'.heap.size ∧ ow k = j)) (hV : ∀ i, Go.GL.tup (R i).1 = V i := by exact fun _ => rfl) (hH : ∀ i, HP.sep (R i).2.1 = H i := by exact fun _ => rfl)
    (ho : ops[j]? = some ⟨dst, .call ⟨.value (.func f), xs, ts⟩, ty, pos, af, g⟩ := by rfl) (hj : Nat.blt j ops.size = true := by rfl) (hargs : xs.toList.map (argSpec ops σ pds j) = (args.map Sum.inl).map some := by kernel_rfl) : NPO P ms ops pds a w Q ow j :=
  np_callN (args.map .inl) hG c.fr hf ho hj hargs hpd fun w' vs hC hg hsp => by
    have hvs : vs = args := by
      have key : ∀ (l vs : List Value), SpecP pds w' (l.map .inl) vs → vs = l := by
        intro l
        induction l with
        | nil => intro vs h; exact h
        | cons u l ih =>
          intro vs h
          obtain ⟨rest, rfl, h⟩ := h
          rw [ih rest h]
      exact key args vs hsp
    subst hvs
    have hro : AllF Φ1 w (fun k => k < w.heap.size) := by
      obtain ⟨_, S0, F0, hM0, hs0, hF0⟩ := c
      exact (AvaL.all ro hs0 hF0).sub fun k hk _ => hk
    refine (hcon hg w' Non (fun k => k < w.heap.size) (Sep.nil _ _) (hro.chg hC fun _ _ h => h.elim) (fun _ h => h.elim) (fun k hk => Nat.lt_of_lt_of_le hk hC.size) (fun _ h => h.elim)).mono ?_
    rintro e w'' ⟨i, S', F', rfl, hM', hs', _⟩
    exact ⟨_, rfl, hM'.chg, i, hV i, by rw [← hH]; exact hs'.mono fun k _ hk => (hM'.sub k hk).elim (fun h => h.elim) id⟩
end
end Go.GL
