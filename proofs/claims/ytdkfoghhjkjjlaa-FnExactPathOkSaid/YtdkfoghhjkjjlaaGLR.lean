/- Own library, part R: elements one step at a time; maps that may be nil; own slices whose elements hold what is only read. -/
import Derived.Test.YtdkfoghhjkjjlaaGLT
set_option linter.unusedVariables false
namespace Go.GL
open Go.RowKit

section
variable {P : Program} {B : Bs} {N : Nat} {σ : List (Nat × Value)} {Γ : List HP} {Φ : List RF} {a : Act} {w : World} {Q : Exit → Act → World → Prop}
  {ops : Array Oper} {k d d2 d3 : Nat} {t t' s' ty ty' ty2 yt : TypeId} {pos pos' pos2 : String} {af af' af2 : Array Edge} {x y y' z : Operand} {kd kk : IntKind}

theorem Cx.fad {Rf : RF} (c : Cx B N σ Γ Φ a w) (h : ∀ F, AllF Φ w F → Rf.ok w F) : Cx B N σ Γ (Φ ++ [Rf]) a w := by
  obtain ⟨hF, S, F, h1, h2, h3⟩ := c
  exact ⟨hF, S, F, h1, h2, h3.add (h F h3)⟩
theorem Ava.ro {Rf : RF} {F : Nat → Prop} (h : Ava [] Φ w Rf) (hf : AllF Φ w F) : Rf.ok w F := Rf.sub (h Non F (Sep.nil w Non) hf) fun _ _ h => h.elim id fun h => h.elim

end

/-! in regions that draw -/
def Pd.fl (u : Value) : Pd := .is fun v w => ∃ ad, v = .pointer (some ad) ∧ Cells w ad [u]
theorem flM {u : Value} : (Pd.fl u).Mono Non := fun v w w' ⟨ad, h1, h2⟩ hc => ⟨ad, h1, h2.keep fun _ => hc.block _ (h2.lt (by simp)) id⟩
def Pd.rd {α : Type} [Rep α] (x : α) : Pd := .is fun v w => RV w (fun _ => True) v x
theorem rdM {α : Type} [Rep α] {x : α} : (Pd.rd x).Mono Non := mono_rv
inductive ArgS where
  | v (u : Value)
  | r (i : Nat) (R : Value → RF)
def ArgsOk (w : World) : List ArgS → List Value → Prop
  | [], vs => vs = []
  | .v u :: r, vs => ∃ rest, vs = u :: rest ∧ ArgsOk w r rest
  | .r _ R :: r, vs => ∃ v rest, vs = v :: rest ∧ (R v).ok w (fun _ => True) ∧ ArgsOk w r rest
def ArgS.sum : ArgS → Value ⊕ Nat
  | .v u => .inl u
  | .r i _ => .inr i
def ArgS.in (pds : List Pd) : ArgS → Prop
  | .v _ => True
  | .r i R => pds.getD i .any = .is fun v w => (R v).ok w (fun _ => True)
section
variable {P : Program} {B : Bs} {N : Nat} {σ : List (Nat × Value)} {Γ : List HP} {Φ Φ1 Ψ : List RF} {a : Act} {w : World} {Q : Exit → Act → World → Prop}
  {draw : Bool} {ms : List Nat} {ops : Array Oper} {pds : List Pd} {j d : Nat} {dst : Option Tmp} {g : Option (Nat × Bool)} {t ty yt : TypeId} {x y : Operand} {pos : String} {af : Array Edge} {ow : Nat → Nat}
theorem Nfa {α : Type} [Rep α] {q : α} {u : Value} {s fl off : Nat} (c : Cx B N σ Γ Φ a w) (i : Nat) (hpi : pds.getD i .any = .is fun v w => ElemP w (fun _ => True) v q) (hu : ∀ {w : World} {F : Nat → Prop} {cs : List Value}, Rep.ok w F cs q → cs[off]? = some u) (hG : Good ops pds [])
    (hpd : pds.getD j .any = .is fun v w => ∃ ad, v = .pointer (some ad) ∧ Cells w ad [u]) (ho : ops[j]? = some ⟨dst, .fieldAddr t (.tmp s) fl, ty, pos, af, g⟩ := by rfl) (hj : Nat.blt j ops.size = true := by rfl) (hl : lastW ops s j = some i := by rfl) (hok : okG ops ops.size j i = true := by rfl)
    (hoff : fieldOff P t fl = some off := by kernel_rfl) : NPB P draw ms ops pds a w Q j :=
  np_b _ ho hG c.fr fun a' w' _ hg _ hk => by
    have h := know_is hG hj hl hok hg (hk s (by simp [Op.operands]))
    rw [hpi] at h
    obtain ⟨ad, cs, hv, _, h1, h2⟩ := h
    refine does_value (v := .pointer (some (ad.add off))) (w' := w') (pe_run (P := P) (ρ := fun y => match y with | .tmp s' => if s' = s then some (.pointer (some ad)) else none | _ => none) (ρ' := a'.eval) (fun y z hy => by
      split at hy
      · split at hy
        · rename_i hys; subst hys; rw [← Option.some.inj hy]; exact hv
        · cases hy
      · cases hy) (by simp [pe, hoff]) w') ?_
    rw [hpd]
    refine ⟨⟨_, rfl, fun i' q' hq => ?_⟩, Chg.refl _ _⟩
    cases i' with
    | zero =>
      simp only [List.getElem?_cons_zero, Option.some.injEq] at hq; subst hq
      rw [add_add, Nat.add_zero]; exact h2 off u (hu h1)
    | succ j => simp at hq
theorem Nlf {u : Value} {s : Nat} (c : Cx B N σ Γ Φ a w) (i : Nat) (hpi : pds.getD i .any = .is fun v w => ∃ ad, v = .pointer (some ad) ∧ Cells w ad [u]) (hG : Good ops pds []) (hpd : pds.getD j .any = .eq u) (ho : ops[j]? = some ⟨dst, .load t (.tmp s), ty, pos, af, g⟩ := by rfl) (hj : Nat.blt j ops.size = true := by rfl)
    (hl : lastW ops s j = some i := by rfl) (hok : okG ops ops.size j i = true := by rfl) (ht : Ty P t Int := by constructor <;> kernel_rfl) : NPB P draw ms ops pds a w Q j :=
  np_b _ ho hG c.fr fun a' w' _ hg _ hk => by
    have h := know_is hG hj hl hok hg (hk s (by simp [Op.operands]))
    rw [hpi] at h
    obtain ⟨ad, hv, h2⟩ := h
    refine does_value (v := u) (w' := w') ?_ (by rw [hpd]; exact ⟨rfl, Chg.refl _ _⟩)
    have := run_loadVar ht (cs := [u]) rfl h2
    have hv' : Rep.val Int [u] = u := rfl
    rw [hv'] at this
    simp [execOp, Instr.loadAt, hv, Instr.sureAddr, this]
theorem Nrd {α : Type} [Rep α] {q : α} {s : Nat} (c : Cx B N σ Γ Φ a w) (i : Nat) (hpi : pds.getD i .any = .is fun v w => ElemP w (fun _ => True) v q) (hG : Good ops pds []) (hpd : pds.getD j .any = .is fun v w => RV w (fun _ => True) v q) (ho : ops[j]? = some ⟨dst, .load t (.tmp s), ty, pos, af, g⟩ := by rfl)
    (hj : Nat.blt j ops.size = true := by rfl) (hl : lastW ops s j = some i := by rfl) (hok : okG ops ops.size j i = true := by rfl) (ht : Ty P t α := by constructor <;> kernel_rfl) : NPB P draw ms ops pds a w Q j :=
  np_b _ ho hG c.fr fun a' w' _ hg _ hk => (does_load (F := fun _ => True) (y := q) rfl ht rfl (by
    have := know_is hG hj hl hok hg (hk s (by simp [Op.operands])); rw [hpi] at this; exact this)).mono fun v w' ⟨h1, h2⟩ => by
    subst h2; rw [hpd]; exact ⟨h1, Chg.refl _ _⟩
theorem args_in {w : World} : ∀ {spec : List ArgS} {vs : List Value}, AllP (ArgS.in pds) spec → SpecP pds w (spec.map ArgS.sum) vs → ArgsOk w spec vs
  | [], vs, _, h => h
  | .v u :: r, vs, hp, h => by
    obtain ⟨rest, h1, h2⟩ := h
    exact ⟨rest, h1, args_in hp.2 h2⟩
  | .r i R :: r, vs, hp, h => by
    obtain ⟨v, rest, h1, h2, h3⟩ := h
    have hi : pds.getD i .any = _ := hp.1
    rw [hi] at h2
    exact ⟨v, rest, h1, h2, args_in hp.2 h3⟩
/-- a call some of whose arguments other operations of the region gave -/
theorem Ncd {f : FuncId} {xs : Array Operand} {ts : Array TypeId} {rs : List Value} {u : Value} (spec : List ArgS) (c : Cx B N σ Γ Φ a w) (hi : AllP (ArgS.in pds) spec) (ro : AvaL Γ Φ w Ψ)
    (hcon : gc ops pds ops.size j → ∀ w' vs, ArgsOk w' spec vs → AllF Ψ w' (fun _ => True) → ∃ Φ1, AllF Φ1 w' (fun _ => True) ∧ Con P f vs [] Φ1 fun (_ : Unit) => (rs, [], []))
    (hf : ∀ (args : Array Value) (w : World), (callFunc f args).run P w = .ok (.enter f args) w) (hG : Good ops pds []) (hpd : pds.getD j .any = .eq u) (hv : Go.GL.tup rs = u := by rfl) (ho : ops[j]? = some ⟨dst, .call ⟨.value (.func f), xs, ts⟩, ty, pos, af, g⟩ := by rfl)
    (hj : Nat.blt j ops.size = true := by rfl) (hargs : xs.toList.map (argSpec ops σ pds j) = (spec.map ArgS.sum).map some := by kernel_rfl) : NPB P draw ms ops pds a w Q j :=
  np_callI (spec.map ArgS.sum) hG c.fr hf ho hj hargs fun w' vs hC hg hsp => by
    have hro : AllF Ψ w' (fun _ => True) := by
      obtain ⟨_, S0, F0, hM0, hs0, hF0⟩ := c
      exact ((AvaL.all ro hs0 hF0).chg hC fun _ _ h => h.elim).sub fun _ _ _ => trivial
    obtain ⟨Φ1, h1, h2⟩ := hcon hg w' vs (args_in hi hsp) hro
    refine (h2 w' Non (fun k => k < w'.heap.size) (Sep.nil _ _) (h1.sub fun k hk _ => hk) (fun _ h => h.elim) (fun k hk => hk) (fun _ h => h.elim)).mono ?_
    rintro e w'' ⟨i, S', F', rfl, hM', _, _⟩
    exact ⟨_, rfl, hM'.chg, by rw [hpd]; exact hv⟩
end
/-- how a value is opened -/
class Opn (α : Type) [Rep α] where
  κ : Type
  val : α → κ → Value
  facts : α → κ → List RF
  opn : ∀ {w : World} {F : Nat → Prop} {v : Value} {x : α}, RV w F v x → ∃ k, v = val x k ∧ AllF (facts x k) w F
instance {α : Type} [Rep α] : Opn (List α) where
  κ := Option Addr × Nat
  val l k := .slice k.1 l.length k.2
  facts l k := [RO (.slice k.1 l.length k.2) l]
  opn := fun h => by
    obtain ⟨b, cp, rfl, _⟩ := RV.slice h
    exact ⟨(b, cp), rfl, AllF.of [_] ⟨h, trivial⟩⟩
instance : Opn D.Term where
  κ := Option Addr × Nat
  val x k := .agg #[.int .i64 x.Op, .int .i64 x.W, .int .i64 x.N, x.Name.val, .slice k.1 x.Kids.length k.2]
  facts x k := [RO (.slice k.1 x.Kids.length k.2) x.Kids]
  opn := fun h => by
    obtain ⟨v4, rfl, h2⟩ := RV.Term h
    obtain ⟨b, cp, rfl, _⟩ := RV.slice h2
    exact ⟨(b, cp), rfl, AllF.of [_] ⟨h2, trivial⟩⟩

/-! maps from strings to integers -/
def mapSI (P : Program) (k e : TypeId) (hk : P.underlying k = some .string) (he : P.underlying e = some (.int .i64)) (hzero : (P.info? e).map (·.zero) = some (some (.int .i64 0))) : MapT P k e Str Int where
  fit := fitS
  lit x := .string x.bytes
  dv y := .lit (.int .i64 y)
  zero := 0
  efit := fitZ
  zfit := rfl
  keyed := Maps.string_keyed hk
  key x h := by
    have h : x.bytes.length ≤ 9223372036854775807 := of_decide_eq_true h
    have h2 : (Rep.val Str (Flat.enc x)) = .string ⟨x.bytes.toArray⟩ := rfl
    unfold keyOf
    rw [hk, h2]
    simp only [mapKey, hk]
    have h3 : (ByteArray.mk x.bytes.toArray).size ≤ maxLen := by show x.bytes.toArray.size ≤ _; simpa [maxLen] using h
    simp [h3]
  inj x y _ _ h := by
    simp only [Lit.string.injEq] at h
    cases x; cases y; simpa using h
  elem y h := plainElem_int he (by simpa [fitZ] using h)
  back v y ps h := by
    obtain ⟨c, rfl, hc, _⟩ := plainElem_int_inv he h
    simp only [Prod.mk.injEq, DataW.lit.injEq, Lit.int.injEq] at hc
    rw [hc.1.2]
    rfl
  hz w := by
    show (zeroValue e).run P w = .ok (.int .i64 0) w
    cases hi : P.info? e with
    | none => rw [hi] at hzero; cases hzero
    | some i =>
      rw [hi] at hzero
      simp only [Option.map_some, Option.some.injEq] at hzero
      simp [zeroValue, typeInfo, hi, hzero]

/-! maps that may be nil -/
section
variable {P : Program} {K V : TypeId} {κ β : Type} [Flat κ] [Flat β]
def OM (T : MapT P K V κ β) (v : Value) (m : Option (List (κ × β))) : HP where
  ok w A := match m with
    | none => v = .map none
    | some l => ∃ b, v = .map (some b) ∧ OwnM T w b l ∧ A b
  mono := fun {w A A'} h hA => by
    cases m with
    | none => exact h
    | some l => obtain ⟨b, h1, h2, h3⟩ := h; exact ⟨b, h1, h2, hA b (OwnM.lt T h2) h3⟩
  keep := fun {w w' A T'} h hc hT => by
    cases m with
    | none => exact h
    | some l => obtain ⟨b, h1, h2, h3⟩ := h; exact ⟨b, h1, h2.chg T hc (hT b h3), h3⟩
def MO (T : MapT P K V κ β) (v : Value) (m : Option (List (κ × β))) : RF where
  ok w F := (OM T v m).ok w F
  sub := fun h hs => (OM T v m).mono h hs
  chg := fun h hc ht => (OM T v m).keep h hc ht
variable {B : Bs} {N : Nat} {σ : List (Nat × Value)} {Γ : List HP} {Φ : List RF} {a : Act} {w : World} {Q : Exit → Act → World → Prop} {T : MapT P K V κ β}
  {ops : Array Oper} {k d b : Nat} {t ty yt : TypeId} {pos : String} {af : Array Edge} {x y z : Operand} {v : Value} {m : Option (List (κ × β))} {l : List (κ × β)}
theorem Cx.om [DecidableEq κ] (i : Nat) (c : Cx B N σ Γ Φ a w) (hi : Γ[i]? = some (MP T b l) := by rfl) : Cx B N σ (Γ.set i (OM T (.map (some b)) (some l))) Φ a w := c.swap (H := MP T b l) (H' := OM T (.map (some b)) (some l)) i (fun A h => (⟨b, rfl, h.1, h.2⟩ : (OM T (.map (some b)) (some l)).ok w A)) hi
theorem Cx.nilm (T : MapT P K V κ β) (c : Cx B N σ Γ Φ a w) : Cx B N σ (Γ ++ [OM T (.map none) none]) Φ a w := c.gam fun S h => pick_append (Γ2 := [OM T (.map none) none]) (Sep.emp _ h rfl)
theorem Cx.som [DecidableEq κ] (i : Nat) (c : Cx B N σ Γ Φ a w) (hm : m.isNone = false) (hi : Γ[i]? = some (OM T v m) := by rfl) : ∃ b, v = .map (some b) ∧ Cx B N σ (Γ.set i (MP T b (m.getD []))) Φ a w := by
  cases m with
  | none => cases hm
  | some l =>
    have : ∃ b, v = .map (some b) := by
      obtain ⟨_, S, F, _, hs, _⟩ := c
      obtain ⟨A, h, _⟩ := hs.get i hi
      obtain ⟨b, h, _⟩ := h
      exact ⟨b, h⟩
    obtain ⟨b, rfl⟩ := this
    exact ⟨b, rfl, c.swap (H := OM T (.map (some b)) (some l)) (H' := MP T b l) i (fun A h => by obtain ⟨b', h1, h2, h3⟩ := h; cases h1; exact ⟨h2, h3⟩) hi⟩
theorem Cx.sml [DecidableEq κ] (i : Nat) (c : Cx B N σ Γ Φ a w) (hi : Γ[i]? = some (OM T v (some l)) := by rfl) : ∃ b, v = .map (some b) ∧ Cx B N σ (Γ.set i (MP T b l)) Φ a w := c.som i rfl hi
theorem Cx.nom (i : Nat) (c : Cx B N σ Γ Φ a w) (hm : m.isNone = true) (hi : Γ[i]? = some (OM T v m) := by rfl) : v = .map none := by
  cases m with
  | some l => cases hm
  | none =>
    obtain ⟨_, S, F, _, hs, _⟩ := c
    obtain ⟨A, h, _⟩ := hs.get i hi
    exact h
theorem Ava.mp [DecidableEq κ] (i : Nat) (h : Γ[i]? = some (MP T b l) := by rfl) : Ava Γ Φ w (MO T (.map (some b)) (some l)) := fun S F hs _ => by
  obtain ⟨A, h1, h2⟩ := hs.get i h
  exact ⟨b, rfl, h1.1, .inr (h2 b h1.2)⟩
theorem Ava.om (i : Nat) (h : Γ[i]? = some (OM T v m) := by rfl) : Ava Γ Φ w (MO T v m) := fun S F hs _ => by
  obtain ⟨A, h1, h2⟩ := hs.get i h
  exact (OM T v m).mono h1 fun k _ hk => .inr (h2 k hk)
theorem nilmap_eq {t : TypeId} (ht : P.underlying t = some (.map K V)) (o : Option Nat) (w : World) : (binOp .eql t (.map o) (.map none)).run P w = .ok (.bool o.isNone) w := by
  unfold binOp Op.equal Op.maxDepth Op.equalIn
  cases o <;> simp [run_underlying ht]
theorem Enm (i : Nat) (c : Cx B N σ Γ Φ a w) (h : ∀ fr, Cx B N ((d, .bool m.isNone) :: σ) Γ Φ fr w → wpFrom P ops Q (k + 1) fr w) (hi : Γ[i]? = some (OM T v m) := by rfl) (ho : ops[k]? = some ⟨some d, .binOp .eql t x y yt, ty, pos, af, none⟩ := by rfl) (hd : Nat.blt d N = true := by rfl)
    (ht : P.underlying t = some (.map K V) := by kernel_rfl) (hx : opd σ x = some v := by kernel_rfl) (hy : opd σ y = some (.map none) := by kernel_rfl) : wpFrom P ops Q k a w := by
  obtain ⟨S, F, hM, hs, hf⟩ := c.me
  obtain ⟨A, hA, _⟩ := hs.get i hi
  have : ∃ o : Option Nat, v = .map o ∧ o.isNone = m.isNone := by
    cases m with
    | none => exact ⟨none, hA, rfl⟩
    | some l => obtain ⟨b, h1, _⟩ := hA; exact ⟨some b, h1, rfl⟩
  obtain ⟨o, rfl, ho'⟩ := this
  exact s_bin ho hd c.fr hx hy (by simp [eqGuard]) (nilmap_eq ht o w) fun fr hF => h fr (c.to (by rw [ho'] at hF; exact hF))
theorem Nmg2 [DecidableEq κ] {ops : Array Oper} {pds : List Pd} {draw : Bool} {ms : List Nat} {j : Nat} {dst : Option Tmp} {g : Option (Nat × Bool)} {l : List (κ × β)} {b : Nat} {q : κ} {r : β × Bool} {u : Value} {fit : κ → Bool} {zz : β} {ty t : TypeId} {pos : String} {af : Array Edge} {x y : Operand} (i : Nat) (c : Cx B N σ Γ Φ a w) (hr : gc ops pds ops.size j → mget2? fit zz l q = some r) (hG : Good ops pds []) (hpd : pds.getD j .any = .eq u)
    (hi : Γ[i]? = some (MP T b l) := by rfl) (hfit : T.fit = fit := by rfl) (hzz : T.zero = zz := by rfl) (hu : .tuple #[Rep.val β (Flat.enc r.1), .bool r.2] = u := by rfl)
    (ho : ops[j]? = some ⟨dst, .lookup t x y true, ty, pos, af, g⟩ := by rfl) (ht : P.underlying t = some (.map K V) := by kernel_rfl) (hx : envP ops σ pds j x = some (.map (some b)) := by kernel_rfl) (hy : envP ops σ pds j y = some (Rep.val κ (Flat.enc q)) := by kernel_rfl) : NPB P draw ms ops pds a w Q j := by
  obtain ⟨S, F, hM, hs, hf⟩ := c.me
  subst hfit; subst hzz
  exact np_mapGet2 T i hs hi ht hG c.fr ho hx hy rfl (fun hg => mget2?_fit (hr hg)) (fun hg => mget2?_val (hr hg)) hu hpd
end
end Go.GL
