/- Own library, part f: the lemmas by which a printed walk steps. -/
import Derived.Test.YtdkfoghhjkjjlaaGLe
namespace Go.GL
open Go.RowKit

section
variable {P : Program} {Q : Exit → Act → World → Prop} {a : Act} {w : World} {K : Act → World → Prop} {i j : Nat}
theorem then_normal (h : K a w) : Exit.then K Q .normal a w := h
theorem blk_exit_eq (h : Q .normal a w) : Exit.inBlock i Q (.exit i) a w := by simp only [Exit.inBlock, if_true]; exact h
theorem wp_cut {c : Code} {M : Act → World → Prop} (h1 : c.wp P (Exit.then M Q) a w) (h2 : ∀ a w, M a w → K a w) : c.wp P (Exit.then K Q) a w :=
  wp_mono h1 fun e a w he => by cases e <;> first | exact h2 a w he | exact he
theorem wp_cut' {c : Code} {M : Act → World → Prop} (h1 : c.wp P (Exit.then M Q) a w) (h2 : ∀ a w, M a w → Q .normal a w) : c.wp P Q a w :=
  wp_mono h1 fun e a w he => by cases e <;> first | exact h2 a w he | exact he
end

/-- a type whose values lie in their cells alone -/
class Flat (α : Type) extends Rep α where
  enc : α → List Value
  iff : ∀ {w F cs x}, Rep.ok w F cs x ↔ cs = enc x
instance : Flat Int where
  enc := fun n => [.int .i64 n]
  iff := Iff.rfl
instance : Flat Byt where
  enc := fun x => [.int .u8 x.n]
  iff := Iff.rfl
instance : Flat Bool where
  enc := fun n => [.bool n]
  iff := Iff.rfl
instance : Flat Str where
  enc := fun n => [n.val]
  iff := Iff.rfl
theorem RV.flat {α : Type} [Flat α] {w : World} {F : Nat → Prop} {v : Value} {x : α} (h : RV w F v x) : v = Rep.val α (Flat.enc x) := by
  obtain ⟨cs, h1, rfl⟩ := h
  rw [Flat.iff.1 h1]
theorem RV.mk_flat {α : Type} [Flat α] {w : World} {F : Nat → Prop} (x : α) : RV w F (Rep.val α (Flat.enc x)) x := ⟨_, Flat.iff.2 rfl, rfl⟩

section
variable {P : Program} {ops : Array Oper} {Q : Exit → Act → World → Prop} {a : Act} {w : World} {N : Nat} {σ : List (Nat × Value)} {k d : Nat} {t ty : TypeId} {x y : Operand} {pos : String} {af : Array Edge}

theorem s_storeBox {b i : Nat} {bt : TypeId} {cs : List Value} {u : Value} (cs' : List Value) (ho : ops[k]? = some ⟨none, .store t x y, ty, pos, af, none⟩) (hF : FrS N σ a) (hx : opd σ x = some (.pointer (some ⟨b, i, none⟩)))
    (hy : opd σ y = some u) (ht : (P.info? t).map (·.size) = some 1) (hb : Box w b bt cs) (hi : Nat.blt i cs.length = true) (h1 : u.oneCell' = true) (hcs : cs.set i u = cs')
    (h : ∀ w', Box w' b bt cs' → Chg (fun k => k = b) w w' → FrS N σ a → wpFrom P ops Q (k + 1) a w') : wpFrom P ops Q k a w :=
  from_eff hF ho rfl rfl (does_storeBox rfl ht (opd_eval hF hx) hb (Nat.blt_eq.mp hi) (opd_eval hF hy) h1) fun w' ⟨_, hb', hc⟩ hF' => h w' (hcs ▸ hb') hc hF'
theorem s_storeBoxS {b : Nat} {bt : TypeId} {cs : List Value} {u : Value} (cs' : List Value) (ho : ops[k]? = some ⟨none, .store t x y, ty, pos, af, none⟩) (hF : FrS N σ a) (hx : opd σ x = some (.pointer (some ⟨b, 0, none⟩)))
    (hy : opd σ y = some u) (ht : (P.info? t).map (·.size) = some cs'.length) (hb : Box w b bt cs) (hl : cs'.length = cs.length) (huc : u.cells.toList = cs') (h1 : (cs'.all fun z => z.oneCell') = true)
    (h : ∀ w', Box w' b bt cs' → Chg (fun k => k = b) w w' → FrS N σ a → wpFrom P ops Q (k + 1) a w') : wpFrom P ops Q k a w :=
  from_eff hF ho rfl rfl (does_storeBoxS rfl ht (opd_eval hF hx) hb hl (opd_eval hF hy) huc (by simpa using h1)) fun w' ⟨_, hb', hc⟩ hF' => h w' hb' hc hF'
theorem s_box {v : Value} (cs : List Value) (ho : ops[k]? = some ⟨some d, .box t x, ty, pos, af, none⟩) (hd : Nat.blt d N = true) (hF : FrS N σ a) (hx : opd σ x = some v) (hcs : v.cells.toList = cs)
    (h : ∀ b w' fr, w.heap.size ≤ b → Box w' b t cs → Chg Non w w' → FrS N ((d, .pointer (some ⟨b, 0, none⟩)) :: σ) fr → wpFrom P ops Q (k + 1) fr w') : wpFrom P ops Q k a w :=
  from_val hF ho rfl rfl (Nat.blt_eq.mp hd) (does_box rfl (opd_eval hF hx)) fun _ w' fr ⟨b, hv, hb, hB, hc⟩ hF' => by subst hv; exact h b w' fr (by omega) (hcs ▸ hB) hc hF'
theorem s_alloc {z : Value} (cs : List Value) (ho : ops[k]? = some ⟨some d, .alloc t, ty, pos, af, none⟩) (hd : Nat.blt d N = true) (hF : FrS N σ a) (hz : (P.info? t).map (·.zero) = some (some z)) (hcs : z.cells.toList = cs)
    (h : ∀ b w' fr, w.heap.size ≤ b → Box w' b t cs → Chg Non w w' → FrS N ((d, .pointer (some ⟨b, 0, none⟩)) :: σ) fr → wpFrom P ops Q (k + 1) fr w') : wpFrom P ops Q k a w :=
  from_val hF ho rfl rfl (Nat.blt_eq.mp hd) (does_alloc rfl hz) fun _ w' fr ⟨b, hv, hb, hB, hc⟩ hF' => by subst hv; exact h b w' fr (by omega) (hcs ▸ hB) hc hF'

theorem map_eval {xs : List Operand} {args : List Value} (hF : FrS N σ a) (h : xs.map (opd σ) = args.map some) : xs.map a.eval = args := by
  induction xs generalizing args with
  | nil => cases args with
    | nil => rfl
    | cons => simp at h
  | cons x xs ih => cases args with
    | nil => simp at h
    | cons v vs =>
      simp only [List.map_cons, List.cons.injEq] at h
      rw [List.map_cons, opd_eval hF h.1, ih h.2]

theorem map_eval_arr {xs : Array Operand} {args : List Value} (hF : FrS N σ a) (h : xs.toList.map (opd σ) = args.map some) : xs.map a.eval = args.toArray := by
  have := map_eval hF h
  rw [← this]
  cases xs; simp

theorem s_call {f : FuncId} {xs : Array Operand} {ts : Array TypeId} (args : List Value) {R : Value → World → Prop} (hf : ∀ (args : Array Value) (w : World), (callFunc f args).run P w = .ok (.enter f args) w)
    (ho : ops[k]? = some ⟨some d, .call ⟨.value (.func f), xs, ts⟩, ty, pos, af, none⟩) (hd : Nat.blt d N = true) (hF : FrS N σ a) (hargs : xs.toList.map (opd σ) = args.map some)
    (hc : Calls P f args.toArray w fun e w' => ∃ v, e = .returned v ∧ R v w') (h : ∀ v w' fr, R v w' → FrS N ((d, v) :: σ) fr → wpFrom P ops Q (k + 1) fr w') : wpFrom P ops Q k a w :=
  from_val hF ho rfl rfl (Nat.blt_eq.mp hd) (does_call rfl hf (map_eval_arr hF hargs) hc) fun v w' fr hr hF' => h v w' fr hr hF'

/-- 'xs[i]' of a list: address and load -/
theorem s_elem {α : Type} [Rep α] {e d' t' ty' : TypeId} {pos' : String} {af' : Array Edge} {F : Nat → Prop} {v : Value} {l : List α} {kd : IntKind} {n : Int} {z : α} (he : Ty P e α) (ht : P.underlying t = some (.slice e))
    (ho : ops[k]? = some ⟨some d, .indexAddr t x y, ty, pos, af, none⟩) (ho' : ops[k + 1]? = some ⟨some d', .load t' (.tmp d), ty', pos', af', none⟩) (hte : t' = e) (hd : Nat.blt d N = true) (hd' : Nat.blt d' N = true) (hF : FrS N σ a)
    (hx : opd σ x = some v) (hl : RV w F v l) (hy : opd σ y = some (.int kd n)) (hn : 0 ≤ n) (hz : l[n.toNat]? = some z)
    (h : ∀ p u fr, RV w F u z → FrS N ((d', u) :: (d, p) :: σ) fr → wpFrom P ops Q (k + 2) fr w) : wpFrom P ops Q k a w := by
  subst hte
  refine from_val hF ho rfl rfl (Nat.blt_eq.mp hd) (does_index rfl ht he (opd_eval hF hx) hl (opd_eval hF hy) hn hz) fun p w1 fr1 hpw hF1 => ?_
  obtain ⟨hp, rfl⟩ := hpw
  refine from_val hF1 ho' rfl rfl (Nat.blt_eq.mp hd') (does_load rfl he (hF1.get d p (by simp)) hp) fun u w2 fr2 huw hF2 => ?_
  obtain ⟨hu, rfl⟩ := huw
  exact h p u fr2 hu hF2
/-- the same where the value lies in its cells alone -/
theorem s_elemF {α : Type} [Flat α] {e d' t' ty' : TypeId} {pos' : String} {af' : Array Edge} {F : Nat → Prop} {v : Value} {l : List α} {kd : IntKind} {n : Int} {z : α} (u : Value) (he : Ty P e α) (ht : P.underlying t = some (.slice e))
    (ho : ops[k]? = some ⟨some d, .indexAddr t x y, ty, pos, af, none⟩) (ho' : ops[k + 1]? = some ⟨some d', .load t' (.tmp d), ty', pos', af', none⟩) (hte : t' = e) (hd : Nat.blt d N = true) (hd' : Nat.blt d' N = true) (hF : FrS N σ a)
    (hx : opd σ x = some v) (hl : RV w F v l) (hy : opd σ y = some (.int kd n)) (hn : 0 ≤ n) (hz : l[n.toNat]? = some z) (hu : Rep.val α (Flat.enc z) = u)
    (h : ∀ p fr, FrS N ((d', u) :: (d, p) :: σ) fr → wpFrom P ops Q (k + 2) fr w) : wpFrom P ops Q k a w :=
  s_elem he ht ho ho' hte hd hd' hF hx hl hy hn hz fun p v fr hv hF' => h p fr (by rw [← hu, ← hv.flat]; exact hF')
end

/-! ### regions that only read or make memory, in whatever order -/
section
variable {P : Program} {draw : Bool} {ms : List Nat} {ops : Array Oper} {a0 : Act} {w0 : World} {Q : Exit → Act → World → Prop} {pds : List Pd} {σ : List (Nat × Value)} {N : Nat}

def NPB (P : Program) (draw : Bool) (ms : List Nat) (ops : Array Oper) (pds : List Pd) (a0 : Act) (w0 : World) (Q : Exit → Act → World → Prop) (j : Nat) : Prop :=
  NP P draw ms ops [] pds (fun _ _ => True) Non a0 w0 Q j

theorem region_b {id : Nat} (ms : List Nat) (isP : List Bool) (pds : List Pd) (σ' : List (Nat × Value)) (hmix : P.follows .mixedOrders = true) (hF : FrS N σ a0) (hst : (stat draw ms ops [] N && statG ops pds []) = true)
    (hp : (pIdx ops isP).map (pureV P ops σ pds) = (pIdx ops isP).map fun j => (pds.getD j .any).val?)
    (hps : ((pIdx ops isP).all fun j => (pds.getD j .any).val?.isSome && !([] : List Nat).contains j) = true)
    (hmono : AllL (fun j => (pds.getD j .any).Mono Non) (npIdx ops isP))
    (hnp : Good ops pds [] → AllL (NPB P draw ms ops pds a0 w0 Q) (npIdx ops isP))
    (hout : σ'.map (fun p => outV ops σ pds p.1) = σ'.map fun p => some p.2)
    (post : ∀ a w, FrS N σ' a → EndOf ops (TT ops pds) a0 a w → Chg Non w0 w → Q .normal a w) : (Code.region id ops draw).wp P Q a0 w0 :=
  region_pd isP σ' hmix hst hF hp hps hmono (fun _ _ => trivial) (hnp (good_of (by rw [Bool.and_eq_true] at hst; exact hst.2))) hout fun a w h1 h2 h3 _ => post a w h1 h2 h3

theorem np_b {j : Nat} (o : Oper) (ho : ops[j]? = some o) (hG : Good ops pds []) (hF : FrS N σ a0)
    (h : ∀ a w, Chg Non w0 w → gc ops pds ops.size j → (∀ x v, x ∈ o.op.operands → envP ops σ pds j x = some v → a.eval x = v) →
      (∀ t, Operand.tmp t ∈ o.op.operands → Know ops (TT ops pds) a0 j t (a.eval (.tmp t)) w) → Does P o a w fun v w' => (pds.getD j .any).sat v w' ∧ Chg Non w w') : NPB P draw ms ops pds a0 w0 Q j := by
  intro o' ho' a w k _ _ _ hc hg hk K hK
  rw [ho] at ho'
  simp only [Option.some.injEq] at ho'; subst ho'
  exact h a w hc hg (fun x v hx hv => envP_eval hG hF ho hg hk hx hv) (fun t ht => hk t (looks_operand ht)) K Q fun v w' hv => hK v w' hv.1 hv.2 trivial

/-- what is known of the value of an operand that an operation of the region gave -/
theorem know_is {j i : Nat} {t : Tmp} {a : Act} {w : World} (hG : Good ops pds []) (hj : Nat.blt j ops.size = true) (hl : lastW ops t j = some i) (hok : okG ops ops.size j i = true) (hg : gc ops pds ops.size j)
    (hk : Know ops (TT ops pds) a0 j t (a.eval (.tmp t)) w) : (pds.getD i .any).sat (a.eval (.tmp t)) w := by
  unfold Know at hk
  rw [hl] at hk
  have hi := lastW_lt hl
  have hj' := Nat.blt_eq.mp hj
  exact hk.1 (okG_gc hG.lt ops.size j i hok ops.size hj' (by omega) hg)

variable {j d : Nat} {dst : Option Tmp} {g : Option (Nat × Bool)} {t ty : TypeId} {x y : Operand} {pos : String} {af : Array Edge}

theorem np_index {α : Type} [Rep α] {e : TypeId} {F : Nat → Prop} {v : Value} {l : List α} {kd : IntKind} {n : Int} {z : α} (hG : Good ops pds []) (hF : FrS N σ a0) (he : Ty P e α) (ht : P.underlying t = some (.slice e))
    (ho : ops[j]? = some ⟨dst, .indexAddr t x y, ty, pos, af, g⟩) (hx : envP ops σ pds j x = some v) (hl : RV w0 F v l) (hy : envP ops σ pds j y = some (.int kd n)) (hpd : pds.getD j .any = .is fun v w => ElemP w F v z)
    (hn : gc ops pds ops.size j → 0 ≤ n ∧ l[n.toNat]? = some z) : NPB P draw ms ops pds a0 w0 Q j :=
  np_b _ ho hG hF fun _ w hC hg hv _ => (does_index rfl ht he (hv x _ (by simp [Op.operands]) hx) (hl.ext hC) (hv y _ (by simp [Op.operands]) hy) (hn hg).1 (hn hg).2).mono fun v w' ⟨h1, h2⟩ => by
    subst h2; rw [hpd]; exact ⟨h1, Chg.refl _ _⟩
theorem mono_elem {α : Type} [Rep α] {F : Nat → Prop} {z : α} : (Pd.is fun v w => ElemP w F v z).Mono Non := fun _ _ _ h c => ElemP.chg h c fun _ _ => id
theorem mono_rv {α : Type} [Rep α] {F : Nat → Prop} {z : α} : (Pd.is fun v w => RV w F v z).Mono Non := fun _ _ _ h c => RV.ext h c
theorem np_loadF {α : Type} [Flat α] {F : Nat → Prop} {z : α} {i s : Nat} {u : Value} (hG : Good ops pds []) (hF : FrS N σ a0) (ht : Ty P t α) (ho : ops[j]? = some ⟨dst, .load t (.tmp s), ty, pos, af, g⟩) (hj : Nat.blt j ops.size = true)
    (hl : lastW ops s j = some i) (hok : okG ops ops.size j i = true) (hpi : pds.getD i .any = .is fun v w => ElemP w F v z) (hpd : pds.getD j .any = .eq u) (hu : Rep.val α (Flat.enc z) = u) : NPB P draw ms ops pds a0 w0 Q j :=
  np_b _ ho hG hF fun a w _ hg _ hk => (does_load (F := F) (y := z) rfl ht rfl (by
    have := know_is hG hj hl hok hg (hk s (by simp [Op.operands])); rw [hpi] at this; exact this)).mono fun v w' ⟨h1, h2⟩ => by
    subst h2; rw [hpd]; exact ⟨by rw [← hu]; exact h1.flat, Chg.refl _ _⟩

theorem map_envP {xs : List Operand} {args : List Value} {o : Oper} {a : Act} (hs : ∀ x ∈ xs, x ∈ o.op.operands) (hv : ∀ x v, x ∈ o.op.operands → envP ops σ pds j x = some v → a.eval x = v) (h : xs.map (envP ops σ pds j) = args.map some) : xs.map a.eval = args := by
  induction xs generalizing args with
  | nil => cases args with
    | nil => rfl
    | cons => simp at h
  | cons x xs ih => cases args with
    | nil => simp at h
    | cons v vs =>
      simp only [List.map_cons, List.cons.injEq] at h
      rw [List.map_cons, hv x v (hs x List.mem_cons_self) h.1, ih (fun y hy => hs y (List.mem_cons_of_mem _ hy)) h.2]

/-- a call whose arguments are known -/
theorem np_call {f : FuncId} {xs : Array Operand} {ts : Array TypeId} (args : List Value) (hG : Good ops pds []) (hF : FrS N σ a0) (hf : ∀ (args : Array Value) (w : World), (callFunc f args).run P w = .ok (.enter f args) w)
    (ho : ops[j]? = some ⟨dst, .call ⟨.value (.func f), xs, ts⟩, ty, pos, af, g⟩) (hargs : xs.toList.map (envP ops σ pds j) = args.map some)
    (hc : ∀ w, Chg Non w0 w → gc ops pds ops.size j → Calls P f args.toArray w fun e w' => ∃ v, e = .returned v ∧ Chg Non w w' ∧ (pds.getD j .any).sat v w') : NPB P draw ms ops pds a0 w0 Q j :=
  np_b _ ho hG hF fun a w hC hg hv _ => by
    have h1 := map_envP (o := ⟨dst, .call ⟨.value (.func f), xs, ts⟩, ty, pos, af, g⟩) (xs := xs.toList) (fun x hx => by simp [Op.operands, Call.operands]; exact .inr (by simpa using hx)) hv hargs
    exact does_call rfl hf (by rw [← h1]; cases xs; simp) ((hc w hC hg).mono fun e w' ⟨v, he, h2, h3⟩ => ⟨v, he, h3, h2⟩)
end
end Go.GL
