/- Own library, part X: frame, memory and facts in one hypothesis; contracts. -/
import Derived.Test.YtdkfoghhjkjjlaaGLV
set_option linter.unusedVariables false
namespace Go.GL
open Go.RowKit

/-- something that is only read, in blocks of a set -/
structure RF where
  ok : World → (Nat → Prop) → Prop
  sub : ∀ {w : World} {F F' : Nat → Prop}, ok w F → (∀ k, k < w.heap.size → F k → F' k) → ok w F'
  chg : ∀ {w w' : World} {F T : Nat → Prop}, ok w F → Chg T w w' → (∀ k, F k → ¬ T k) → ok w' F
  box : Option (Nat × List Value) := none
  isb : ∀ {w : World} {F : Nat → Prop} {p : Nat × List Value}, box = some p → ok w F → ∃ t, Box w p.1 t p.2 := by intro _ _ _ h; cases h
def RO {α : Type} [Rep α] (v : Value) (x : α) : RF where
  ok w F := RV w F v x
  sub h hs := RV.sub h hs
  chg h hc ht := RV.chg h hc ht
def FX (b : Nat) (t : TypeId) (cs : List Value) : RF where
  ok w F := Box w b t cs ∧ F b
  sub h hs := ⟨h.1, hs b h.1.lt h.2⟩
  chg h hc ht := ⟨h.1.chg hc (ht b h.2), h.2⟩
  box := some (b, cs)
  isb h hok := by cases h; exact ⟨t, hok.1⟩
/-- raw elements that are these values -/
def CS {ρ α : Type} [Flat ρ] [Rep α] (rs : List ρ) (xs : List α) : RF where
  ok w F := Css w F (rs.map Flat.enc) xs
  sub h hs := ⟨h.1, fun i cs x hi hx => Rep.keep (h.2 i cs x hi hx) fun k hk hf => ⟨rfl, hs k hk hf⟩⟩
  chg h hc ht := ⟨h.1, fun i cs x hi hx => Rep.keep (h.2 i cs x hi hx) fun k hk hf => ⟨hc.block k hk (ht k hf), hf⟩⟩
def AllF (Φ : List RF) (w : World) (F : Nat → Prop) : Prop := ∀ R ∈ Φ, R.ok w F

section
variable {w w' : World} {F F' T : Nat → Prop} {Φ Ψ : List RF} {R : RF}
theorem AllF.sub (h : AllF Φ w F) (hs : ∀ k, k < w.heap.size → F k → F' k) : AllF Φ w F' := fun R hR => R.sub (h R hR) hs
theorem AllF.chg (h : AllF Φ w F) (hc : Chg T w w') (ht : ∀ k, F k → ¬ T k) : AllF Φ w' F := fun R hR => R.chg (h R hR) hc ht
theorem AllF.nil : AllF [] w F := fun R hR => by cases hR
theorem AllF.add (h : AllF Φ w F) (hR : R.ok w F) : AllF (Φ ++ [R]) w F := fun R' h' => by
  rcases List.mem_append.1 h' with h' | h'
  · exact h R' h'
  · rw [List.mem_singleton] at h'; subst h'; exact hR
theorem AllF.join (h : AllF Φ w F) (h' : AllF Ψ w F) : AllF (Φ ++ Ψ) w F := fun R hR => (List.mem_append.1 hR).elim (h R) (h' R)
theorem AllF.get (h : AllF Φ w F) {i : Nat} (hi : Φ[i]? = some R) : R.ok w F := h R (List.mem_of_getElem? hi)
theorem AllF.pick (fs : List Nat) (h : AllF Φ w F) (hf : fs.map (fun i => Φ[i]?) = Ψ.map some) : AllF Ψ w F := fun R hR => by
  obtain ⟨j, hj, hR⟩ := List.mem_iff_getElem.1 hR
  have h1 : (fs.map fun i => Φ[i]?)[j]? = some (some R) := by rw [hf]; simp [hj, hR]
  rw [List.getElem?_map] at h1
  cases hi : fs[j]? with
  | none => rw [hi] at h1; cases h1
  | some i => rw [hi] at h1; exact h.get (by simpa using h1)
end

structure Bs where
  w : World
  S : Nat → Prop
  F : Nat → Prop

/-- the frame holds σ, the call owns Γ and may read Φ; it began at B -/
structure Cx (B : Bs) (N : Nat) (σ : List (Nat × Value)) (Γ : List HP) (Φ : List RF) (a : Act) (w : World) : Prop where
  fr : FrS N σ a
  me : ∃ S F, Mem B.w B.S B.F w S F ∧ Sep Γ w S ∧ AllF Φ w F

def bxsOf (Γ : List HP) (Φ : List RF) : Bxs := Γ.filterMap (·.box) ++ Φ.filterMap (·.box)
theorem Cx.bxs {B : Bs} {N : Nat} {σ : List (Nat × Value)} {Γ : List HP} {Φ : List RF} {a : Act} {w : World} (c : Cx B N σ Γ Φ a w) : (bxsOf Γ Φ).at w := fun p hp => by
  obtain ⟨_, S, F, _, hs, hf⟩ := c
  rcases List.mem_append.1 hp with hp | hp
  · rw [List.mem_filterMap] at hp
    obtain ⟨H, hH, hb⟩ := hp
    obtain ⟨i, hi⟩ := List.getElem?_of_mem hH
    obtain ⟨A, h1, _⟩ := hs.get i hi
    exact H.isb hb h1
  · rw [List.mem_filterMap] at hp
    obtain ⟨R, hR, hb⟩ := hp
    exact R.isb hb (hf R hR)

/-- what can be read -/
def Ava (Γ : List HP) (Φ : List RF) (w : World) (R : RF) : Prop := ∀ S F, Sep Γ w S → AllF Φ w F → R.ok w (fun k => F k ∨ S k)
def AvaL (Γ : List HP) (Φ : List RF) (w : World) : List RF → Prop
  | [] => True
  | R :: Ψ => Ava Γ Φ w R ∧ AvaL Γ Φ w Ψ

section
variable {Γ : List HP} {Φ Ψ : List RF} {w : World}
theorem Ava.f (i : Nat) {R : RF} (h : Φ[i]? = some R := by rfl) : Ava Γ Φ w R := fun _ _ _ hf => R.sub (hf.get h) fun _ _ h => .inl h
theorem Ava.g {α : Type} [Rep α] {E : TypeId} {v : Value} {l : List α} (i : Nat) (h : Γ[i]? = some (SL E v l) := by rfl) : Ava Γ Φ w (RO v l) := fun _ _ hs _ => RV.sub (hs.rv i h) fun _ _ h => .inr h
theorem Ava.b {b : Nat} {t : TypeId} {cs : List Value} (i : Nat) (h : Γ[i]? = some (BX b t cs) := by rfl) : Ava Γ Φ w (FX b t cs) := fun _ _ hs _ => by
  obtain ⟨A, h1, h2⟩ := hs.get i h
  exact ⟨h1.1, .inr (h2 b h1.2)⟩
theorem Ava.nil {α : Type} [Rep α] : Ava Γ Φ w (RO (.slice none 0 0) ([] : List α)) := fun _ _ _ _ => RV.nil
theorem Ava.fl {α : Type} [Flat α] (x : α) : Ava Γ Φ w (RO (Rep.val α (Flat.enc x)) x) := fun _ _ _ _ => RV.mk_flat x
theorem Ava.up {R : RF} (h : Ava [] Φ w R) : Ava Γ Φ w R := fun _ F _ hf => R.sub (h Non F (Sep.nil w Non) hf) fun _ _ h => .inl (h.elim id fun h => h.elim)
theorem AvaL.all {S F : Nat → Prop} : ∀ {Ψ : List RF}, AvaL Γ Φ w Ψ → Sep Γ w S → AllF Φ w F → AllF Ψ w (fun k => F k ∨ S k)
  | [], _, _, _ => AllF.nil
  | R :: Ψ, h, hs, hf => fun R' hR => by
    rcases List.mem_cons.1 hR with rfl | hR
    · exact h.1 S F hs hf
    · exact AvaL.all h.2 hs hf R' hR
end

def tup : List Value → Value
  | [v] => v
  | vs => .tuple vs.toArray

abbrev Res := List Value × List HP × List RF
/-- how a call of f ends, if it has these arguments, owns Γ and may read Φ -/
def Con (P : Program) (f : FuncId) (args : List Value) (Γ : List HP) (Φ : List RF) {ι : Type} (R : ι → Res) : Prop :=
  ∀ (w : World) (S F : Nat → Prop), Sep Γ w S → AllF Φ w F → (∀ k, S k → k < w.heap.size) → (∀ k, F k → k < w.heap.size) → (∀ k, S k → F k → False) →
    Calls P f args.toArray w fun e w' => ∃ i S' F', e = .returned (tup (R i).1) ∧ Mem w S F w' S' F' ∧ Sep (R i).2.1 w' S' ∧ AllF (R i).2.2 w' F'
def Rp (B : Bs) {ι : Type} (R : ι → Res) : Ending → World → Prop := fun e w' => ∃ i S' F', e = .returned (tup (R i).1) ∧ Mem B.w B.S B.F w' S' F' ∧ Sep (R i).2.1 w' S' ∧ AllF (R i).2.2 w' F'

section
variable {P : Program} {B : Bs} {N : Nat} {σ : List (Nat × Value)} {Γ : List HP} {Φ : List RF} {a a' : Act} {w w' : World} {Q : Exit → Act → World → Prop} {K : Act → World → Prop} {ι : Type} {R : ι → Res} {fn : Func}

theorem En {f : FuncId} {c : Code} {args : List Value} (hf : P.funcs[f]? = some fn) (hb : fn.body = some c) (hN : fn.ntmps = N)
    (h : ∀ B a w, Cx B N (args0 0 args) Γ Φ a w → c.wp P (bodyPost P fn (Rp B R)) a w) (hle : Nat.ble args.length N = true := by rfl) : Con P f args Γ Φ R :=
  fun w S F hs hf' hS hF hd => enter hf hb hN hle fun a hF' => h ⟨w, S, F⟩ a w ⟨hF', S, F, Mem.start hS hF hd, hs, hf'⟩

theorem Cx.to {σ' : List (Nat × Value)} (c : Cx B N σ Γ Φ a w) (h : FrS N σ' a') : Cx B N σ' Γ Φ a' w := ⟨h, c.me⟩
theorem Cx.ext (c : Cx B N σ Γ Φ a w) (hc : Chg Non w w') : Cx B N σ Γ Φ a w' := by
  obtain ⟨h, S, F, h1, h2, h3⟩ := c
  exact ⟨h, S, F, h1.ext hc, h2.ext hc, h3.chg hc fun _ _ h => h.elim⟩
theorem Cx.use {Rf : RF} (c : Cx B N σ Γ Φ a w) (h : Ava Γ Φ w Rf) : ∃ F, Rf.ok w F := by
  obtain ⟨_, S, F, _, h2, h3⟩ := c
  exact ⟨_, h S F h2 h3⟩
theorem Cx.usebx {b : Nat} {t : TypeId} {cs : List Value} (c : Cx B N σ Γ Φ a w) (h : Ava Γ Φ w (FX b t cs)) : Box w b t cs := by
  obtain ⟨F, h⟩ := c.use h
  exact h.1
/-- one more fact -/
theorem Cx.add {Rf : RF} (c : Cx B N σ Γ Φ a w) (h : Ava [] Φ w Rf) : Cx B N σ Γ (Φ ++ [Rf]) a w := by
  obtain ⟨hF, S, F, h1, h2, h3⟩ := c
  exact ⟨hF, S, F, h1, h2, h3.add (Rf.sub (h Non F (Sep.nil w Non) h3) fun _ _ h => h.elim id fun h => h.elim)⟩
/-- 0, 1, .. -/
def rg : Nat → List Nat
  | 0 => []
  | n + 1 => rg n ++ [n]
/-- some of it, in another order; another list of slots -/
theorem Cx.re {σ' : List (Nat × Value)} {Γ' : List HP} {Φ' : List RF} (c : Cx B N σ Γ Φ a w) (gs fs : List Nat) (hg : gs.map (fun i => Γ[i]?) = Γ'.map some := by rfl) (hf : fs.map (fun i => Φ[i]?) = Φ'.map some := by rfl)
    (hn : gs.Nodup := by decide) (hσ : σ'.map (fun p => σ.lookup p.1) = σ'.map fun p => some p.2 := by kernel_rfl) : Cx B N σ' Γ' Φ' a w := by
  obtain ⟨h, S, F, h1, h2, h3⟩ := c
  exact ⟨h.sub σ' hσ, S, F, h1, h2.pick gs hn hg, h3.pick fs hf⟩
theorem Cx.pick {Γ' : List HP} (c : Cx B N σ Γ Φ a w) (gs : List Nat) (hg : gs.map (fun i => Γ[i]?) = Γ'.map some := by rfl) (hn : gs.Nodup := by decide) : Cx B N σ Γ' Φ a w := by
  obtain ⟨h, S, F, h1, h2, h3⟩ := c
  exact ⟨h, S, F, h1, h2.pick gs hn hg, h3⟩
theorem Cx.gam {Γ' : List HP} (c : Cx B N σ Γ Φ a w) (f : ∀ S, Sep Γ w S → Sep Γ' w S) : Cx B N σ Γ' Φ a w := by
  obtain ⟨h, S, F, h1, h2, h3⟩ := c
  exact ⟨h, S, F, h1, f S h2, h3⟩
theorem pick_append {Γ2 : List HP} {S : Nat → Prop} (h : Sep (Γ2 ++ Γ) w S) : Sep (Γ ++ Γ2) w S := by
  obtain ⟨A, R, h1, h2, h3, h4, h5⟩ := h.split
  exact Sep.join h2 h1 (fun k _ h h' => h3 k h' h) (fun k _ h => h5 k h) fun k _ h => h4 k h
/-- what is no longer wanted -/
theorem Cx.relen {α : Type} [Rep α] {E : TypeId} {b : Option Addr} {n cp : Nat} {l : List α} (i : Nat) (c : Cx B N σ Γ Φ a w) (hi : Γ[i]? = some (SL E (.slice b n cp) l) := by rfl) : n = l.length ∧ Cx B N σ (Γ.set i (SL E (.slice b l.length cp) l)) Φ a w := by
  obtain ⟨h, S, F, h1, h2, h3⟩ := c
  obtain ⟨he, hs⟩ := h2.relen i hi
  exact ⟨he, h, S, F, h1, hs, h3⟩
/-- a slot's value, in other words -/
theorem Cx.eqs {v u : Value} (t : Nat) (c : Cx B N σ Γ Φ a w) (he : v = u) (hv : σ.lookup t = some v := by kernel_rfl) : Cx B N ((t, u) :: σ) Γ Φ a w := ⟨c.fr.cons (he ▸ c.fr.get t v hv), c.me⟩

/-! control -/
theorem Fp {ops : Array Oper} {k : Nat} (hs : List (Nat × Nat)) (m : Nat) (c : Cx B N σ Γ Φ a w) (h : ∀ fr, Cx B N ((seqB P N (bxsOf Γ Φ) hs k ((ops.toList.drop k).take m) σ).getD ([], [])).1 Γ Φ fr w → wpFrom P ops Q (k + m) fr w)
    (hk : (seqB P N (bxsOf Γ Φ) hs k ((ops.toList.drop k).take m) σ).map (fun r => r.2.map (·.1)) = some (((seqB P N (bxsOf Γ Φ) hs k ((ops.toList.drop k).take m) σ).map (fun r => r.2.map (·.2))).getD []) := by kernel_rfl) : wpFrom P ops Q k a w := by
  obtain ⟨σ', e, hσ, he⟩ := okB_out hk
  rw [hσ] at h
  unfold wpFrom at h ⊢
  have : ops.toList.drop k = (ops.toList.drop k).take m ++ ops.toList.drop (k + m) := by
    rw [← List.drop_drop, List.take_append_drop]
  rw [this]
  exact list_pureB c.bxs c.fr hσ he fun a' hF' => h a' (c.to hF')
/-- a region that touches no memory, but for known blocks; the last one, within a sequence -/
theorem P1 {id : Nat} {ops : Array Oper} (hs : List (Nat × Nat)) (c : Cx B N σ Γ Φ a w) (h : ∀ fr, Cx B N ((seqB P N (bxsOf Γ Φ) hs 0 ops.toList σ).getD ([], [])).1 Γ Φ fr w → K fr w)
    (hk : (seqB P N (bxsOf Γ Φ) hs 0 ops.toList σ).map (fun r => r.2.map (·.1)) = some (((seqB P N (bxsOf Γ Φ) hs 0 ops.toList σ).map (fun r => r.2.map (·.2))).getD []) := by kernel_rfl) : (Code.region id ops false).wp P (Exit.then K Q) a w := by
  obtain ⟨σ', e, hσ, he⟩ := okB_out hk
  rw [hσ] at h
  refine wp_text ?_
  unfold wpFrom
  rw [List.drop_zero, ← List.append_nil ops.toList]
  exact list_pureB c.bxs c.fr hσ he fun a' hF' => wpList_nil (h a' (c.to hF'))
/-- the same, and what follows -/
theorem P0 {id : Nat} {ops : Array Oper} {b : Code} (hs : List (Nat × Nat)) (c : Cx B N σ Γ Φ a w) (h : ∀ fr, Cx B N ((seqB P N (bxsOf Γ Φ) hs 0 ops.toList σ).getD ([], [])).1 Γ Φ fr w → b.wp P Q fr w)
    (hk : (seqB P N (bxsOf Γ Φ) hs 0 ops.toList σ).map (fun r => r.2.map (·.1)) = some (((seqB P N (bxsOf Γ Φ) hs 0 ops.toList σ).map (fun r => r.2.map (·.2))).getD []) := by kernel_rfl) : (Code.seq (.region id ops false) b).wp P Q a w := wp_seq (P1 hs c h hk)
/-- where nothing follows -/
theorem Tq {x : Code} (h : x.wp P (Exit.then (fun a w => Q .normal a w) Q) a w) : x.wp P Q a w := wp_cut' h fun _ _ h => h
theorem T0 {id : Nat} {l : List Oper} {b : Code} (h : wpFrom P l.toArray (Exit.then (fun a w => b.wp P Q a w) Q) 0 a w) : (Code.seq (.region id l.toArray false) b).wp P Q a w := wp_seq (wp_text' h)
theorem T1 {id : Nat} {l : List Oper} (h : wpFrom P l.toArray Q 0 a w) : (Code.region id l.toArray false).wp P Q a w := wp_text' h
theorem E0 {ops : Array Oper} {k : Nat} (h : K a w) (hk : ops.size = k := by rfl) : wpFrom P ops (Exit.then K Q) k a w := from_end hk (then_normal h)
theorem E1 {ops : Array Oper} {k : Nat} (h : Q .normal a w) (hk : ops.size = k := by rfl) : wpFrom P ops Q k a w := from_end hk h
theorem S0 {x : Code} {b : Code} (h : x.wp P (Exit.then (fun a w => b.wp P Q a w) Q) a w) : (Code.seq x b).wp P Q a w := wp_seq h
theorem K0 (h : K a w) : Code.skip.wp P (Exit.then K Q) a w := wp_skip (then_normal h)
theorem K1 (h : Q .normal a w) : Code.skip.wp P Q a w := wp_skip h
/-- a condition -/
theorem I0 {x y : Code} {o : Operand} {β : Type} {X Y : Option β} {r : Option β} {b : Bool} (c : Cx B N σ Γ Φ a w) (h : (if b = true then X else Y) = r) (ht : X = r → x.wp P Q a w) (hf : Y = r → y.wp P Q a w) (hb : opd σ o = some (.bool b) := by kernel_rfl) :
    (Code.cond o x y).wp P Q a w := wp_if c.fr hb (fun hb => ht (iteT hb h)) fun hb => hf (iteF hb h)
/-- a loop: J tells the state at the head, M behind it: slots, what becomes of what is owned, more facts -/
abbrev Lpt := List (Nat × Value) × (List HP → List HP) × List RF
abbrev CxL (B : Bs) (N : Nat) (Γ : List HP) (Φ : List RF) (J : Lpt) (a : Act) (w : World) : Prop := Cx B N J.1 (J.2.1 Γ) (Φ ++ J.2.2) a w
theorem Lp {id : Nat} {b : Code} {σt ρt ι' κ : Type} {F : σt → Option (σt ⊕ ρt)} {n : Nat} {s0 : σt} {r : ρt} (J : σt → ι' → Lpt) (M : κ → Lpt) (hit : iterN F n s0 = some r) (c : Cx B N σ Γ Φ a w) (i0 : ι') (h0 : CxL B N Γ Φ (J s0 i0) a w)
    (round : ∀ s q i a w, CxL B N Γ Φ (J s i) a w → F s = some q → (∀ r0, q = .inr r0 → r0 = r) →
      b.wp P (Exit.then (fun a' w' => ∃ s' i', q = .inl s' ∧ CxL B N Γ Φ (J s' i') a' w') (Exit.inBlock id (Exit.then (fun a' w' => ∃ k, CxL B N Γ Φ (M k) a' w') Q))) a w)
    (cont : ∀ k a w, CxL B N Γ Φ (M k) a w → K a w) : (Code.block id (.loop b)).wp P (Exit.then K Q) a w :=
  wp_cut (wp_block (wp_iter (Inv := fun s a w => ∃ i, CxL B N Γ Φ (J s i) a w) hit ⟨i0, h0⟩ fun s q a w hI hF hr => by
    obtain ⟨i, hi⟩ := hI
    have := round s q i a w hi hF hr
    refine wp_mono this fun e a w he => ?_
    cases e with
    | normal => obtain ⟨s', i', h1, h2⟩ := he; exact ⟨s', h1, i', h2⟩
    | _ => exact he)) fun a w hI => by
      obtain ⟨k, h⟩ := hI
      exact cont k a w h
/-- a loop out of which the function may return -/
theorem LpR {id : Nat} {b : Code} {σt ρ1 ρ2 ι' κ : Type} {F : σt → Option (σt ⊕ (ρ1 ⊕ ρ2))} {n : Nat} {s0 : σt} {r : ρ1 ⊕ ρ2} (J : σt → ι' → Lpt) (M : ρ1 → κ → Lpt) (hit : iterN F n s0 = some r) (c : Cx B N σ Γ Φ a w) (i0 : ι') (h0 : CxL B N Γ Φ (J s0 i0) a w)
    (round : ∀ s q i a w, CxL B N Γ Φ (J s i) a w → F s = some q → (∀ r0, q = .inr r0 → r0 = r) →
      b.wp P (Exit.then (fun a' w' => ∃ s' i', q = .inl s' ∧ CxL B N Γ Φ (J s' i') a' w') (Exit.inBlock id (Exit.then (fun a' w' => ∃ s k, r = .inl s ∧ CxL B N Γ Φ (M s k) a' w') Q))) a w)
    (cont : ∀ s k a w, r = .inl s → CxL B N Γ Φ (M s k) a w → K a w) : (Code.block id (.loop b)).wp P (Exit.then K Q) a w :=
  wp_cut (wp_block (wp_iter (Inv := fun s a w => ∃ i, CxL B N Γ Φ (J s i) a w) hit ⟨i0, h0⟩ fun s q a w hI hF hr => by
    obtain ⟨i, hi⟩ := hI
    have := round s q i a w hi hF hr
    refine wp_mono this fun e a w he => ?_
    cases e with
    | normal => obtain ⟨s', i', h1, h2⟩ := he; exact ⟨s', h1, i', h2⟩
    | _ => exact he)) fun a w hI => by
      obtain ⟨s, k, h1, h⟩ := hI
      exact cont s k a w h1 h
theorem Nx {σt ρt ι' : Type} {J : σt → ι' → Lpt} {s : σt} {q : σt ⊕ ρt} (h : some (Sum.inl s) = some q) (i : ι') (c : CxL B N Γ Φ (J s i) a w) : ∃ s' i', q = .inl s' ∧ CxL B N Γ Φ (J s' i') a w := ⟨s, i, (Option.some.inj h).symm, c⟩
theorem tn (h : K a w) : Exit.then K Q .normal a w := h
theorem tr (h : Q .ret a w) : Exit.then K Q .ret a w := h
theorem te {i : Nat} (h : Q (.exit i) a w) : Exit.then K Q (.exit i) a w := h
theorem br {i : Nat} (h : Q .ret a w) : Exit.inBlock i Q .ret a w := h
theorem bk {i : Nat} (h : Q .normal a w) : Exit.inBlock i Q .normal a w := h
theorem be {i : Nat} (h : Q .normal a w) : Exit.inBlock i Q (.exit i) a w := blk_exit_eq h
/-! regions that draw, or with guards -/
theorem AllP.of {α : Type} {q : α → Prop} {l : List α} (h : AllP q l) {x : α} (hx : x ∈ l) : q x := AllP.mem h hx
/-- all of it: nothing new is made -/
theorem Rz {id : Nat} {ops : Array Oper} {draw : Bool} (np : List (Nat × Pd)) (hs : List (Nat × Nat)) (hmix : P.follows .mixedOrders = true) (c : Cx B N σ Γ Φ a w) (hmono : AllP (fun p => p.2.Mono Non) np)
    (hnp : Good ops (pdsM P (bxsOf Γ Φ) hs ops σ np ops.size) [] → AllP (fun p => (pdsM P (bxsOf Γ Φ) hs ops σ np ops.size).getD p.1 .any = p.2 → NPB P draw (cond draw (masksN ops ops.size) []) ops (pdsM P (bxsOf Γ Φ) hs ops σ np ops.size) a w (Exit.then K Q) p.1) np)
    (h : ∀ fr w', Cx B N (outS ops σ (pdsM P (bxsOf Γ Φ) hs ops σ np ops.size) ops.size) Γ Φ fr w' → K fr w')
    (hst : (stat draw (cond draw (masksN ops ops.size) []) ops [] N && statG ops (pdsM P (bxsOf Γ Φ) hs ops σ np ops.size) []) = true := by kernel_rfl)
    (h1 : (freeI np ops.size).map (fun j => (pureB P (bxsOf Γ Φ) hs ops σ (pdsM P (bxsOf Γ Φ) hs ops σ np ops.size) j).map (·.1)) = (freeI np ops.size).map fun j => ((pdsM P (bxsOf Γ Φ) hs ops σ np ops.size).getD j .any).val? := by kernel_rfl)
    (h2 : ((freeI np ops.size).all fun j => ((pdsM P (bxsOf Γ Φ) hs ops σ np ops.size).getD j .any).val?.isSome) = true := by kernel_rfl)
    (h3 : (freeI np ops.size).map (fun j => (pureB P (bxsOf Γ Φ) hs ops σ (pdsM P (bxsOf Γ Φ) hs ops σ np ops.size) j).map fun r => r.2.map (·.1)) = (freeI np ops.size).map fun j => (pureB P (bxsOf Γ Φ) hs ops σ (pdsM P (bxsOf Γ Φ) hs ops σ np ops.size) j).map fun r => r.2.map (·.2) := by kernel_rfl) :
    (Code.region id ops draw).wp P (Exit.then K Q) a w := by
  have hck : ChkB P (bxsOf Γ Φ) hs ops σ np ops.size (pdsM P (bxsOf Γ Φ) hs ops σ np ops.size) := ⟨h1, h2, h3⟩
  have npsplit : ∀ j ∈ npIdx ops (isPB hs np ops.size), j < ops.size ∧ ((∃ p, np.lookup j = some p) ∨ (np.lookup j = none ∧ ∃ i, hs.lookup j = some i)) := fun j hj => by
    obtain ⟨g1, g2⟩ := List.mem_filter.1 hj
    have hlt := List.mem_range.1 g1
    rw [isPB_get hlt] at g2
    refine ⟨hlt, ?_⟩
    cases hn : np.lookup j with
    | some p => exact .inl ⟨p, rfl⟩
    | none =>
      cases hh : hs.lookup j with
      | some i => exact .inr ⟨rfl, i, rfl⟩
      | none => rw [hn, hh] at g2; cases g2
  have pfree : ∀ j ∈ pIdx ops (isPB hs np ops.size), j < ops.size ∧ np.lookup j = none ∧ hs.lookup j = none := fun j hj => by
    obtain ⟨g1, g2⟩ := List.mem_filter.1 hj
    have hlt := List.mem_range.1 g1
    rw [isPB_get hlt] at g2
    simpa [hlt] using g2
  refine region_b _ (isPB hs np ops.size) _ [] hmix c.fr hst (List.map_inj_left.2 fun j hj => ?_) (List.all_eq_true.2 fun j hj => ?_) ?_ (fun hG => ?_) rfl fun a' w' _ hE hc => h a' w' ((c.ext hc).to ⟨hE.1.trans c.fr.defers, hE.2.1.trans c.fr.size, fun t v hv => outV_eval c.fr hE ?_⟩)
  · obtain ⟨hlt, hn, hh⟩ := pfree j hj
    obtain ⟨v, e, g1, g2, _⟩ := hck.at hlt hn
    unfold pureB at g1
    rw [hh] at g1
    simp only at g1
    cases hp : pureV P ops σ (pdsM P (bxsOf Γ Φ) hs ops σ np ops.size) j with
    | none => rw [hp] at g1; cases g1
    | some u =>
      rw [hp] at g1
      simp only [Option.map_some, Option.some.injEq, Prod.mk.injEq] at g1
      rw [g2, g1.1]; rfl
  · obtain ⟨hlt, hn, hh⟩ := pfree j hj
    obtain ⟨v, e, g1, g2, _⟩ := hck.at hlt hn
    rw [g2]; rfl
  · exact allL_of fun j hj => by
      obtain ⟨hlt, ⟨p, hp⟩ | ⟨hn, i, hi⟩⟩ := npsplit j hj
      · rw [pdsM_get hlt hp]; exact hmono.of (lookup_of_mem hp)
      · obtain ⟨v, e, g1, g2, g3⟩ := hck.at hlt hn
        rw [g2]; exact Pd.mono_eq
  · exact allL_of fun j hj => by
      obtain ⟨hlt, ⟨p, hp⟩ | ⟨hn, i, hi⟩⟩ := npsplit j hj
      · exact (hnp hG).of (lookup_of_mem hp) (pdsM_get hlt hp)
      · obtain ⟨v, e, g1, g2, g3⟩ := hck.at hlt hn
        exact np_loadV c.bxs hG c.fr hi g1 g3 g2
  · exact outS_out hv

/-- something new that an operation made -/
def Pd.nw {κ : Type} (w0 : World) (tag : Nat) (V : κ → Value) (H : κ → HP) : Pd := .own fun ow v w => ∃ i, v = V i ∧ (H i).ok w (fun k => w0.heap.size ≤ k ∧ k < w.heap.size ∧ ow k = tag)
theorem nwM {κ : Type} {w0 : World} {tag : Nat} {V : κ → Value} {H : κ → HP} : (Pd.nw w0 tag V H).MonoO := mono_new
/-- what new things there are, once the region has come to operation m -/
theorem EndM.nw {κ : Type} {ops : Array Oper} {bx : Bxs} {hs : List (Nat × Nat)} {np : List (Nat × Pd)} {m tag : Nat} {ow : Nat → Nat} {w0 : World} {V : κ → Value} {H : κ → HP} (hE : EndM ops (TT ops (instL ow (pdsM P bx hs ops σ np m))) a m a' w') (j d : Nat)
    (hp : np.lookup j = some (Pd.nw w0 tag V H) := by rfl) (hl : lastW ops d m = some j := by rfl) (hg : guardOf ops j = none := by rfl) (hj : Nat.blt j m = true := by rfl) : ∃ i, a'.eval (.tmp d) = V i ∧ (H i).ok w' (fun k => w0.heap.size ≤ k ∧ k < w'.heap.size ∧ ow k = tag) := by
  have h := hE.is d j hl hg
  rw [getD_inst, pdsM_get (Nat.blt_eq.mp hj) hp] at h
  exact h
/-- the first m operations in whatever order, then the text's order -/
theorem Rm {ops : Array Oper} (m : Nat) (np : List (Nat × Pd)) (hs : List (Nat × Nat)) (c : Cx B N σ Γ Φ a w) (hmono : AllP (fun p => p.2.MonoO) np)
    (hnp : ∀ ow, Good ops (instL ow (pdsM P (bxsOf Γ Φ) hs ops σ np m)) [] → AllP (fun p => (instL ow (pdsM P (bxsOf Γ Φ) hs ops σ np m)).getD p.1 .any = p.2.inst ow → NPO P (masksN ops ops.size) ops (instL ow (pdsM P (bxsOf Γ Φ) hs ops σ np m)) a w Q ow p.1) np)
    (h : ∀ ow fr w', EndM ops (TT ops (instL ow (pdsM P (bxsOf Γ Φ) hs ops σ np m))) a m fr w' → Chg Non w w' → Cx B N (outS ops σ (pdsM P (bxsOf Γ Φ) hs ops σ np m) m) Γ Φ fr w' → wpFrom P ops Q m fr w')
    (hst : (stat true (masksN ops ops.size) ops [] N && statG ops (pdsM P (bxsOf Γ Φ) hs ops σ np m) [] && sufB ops m) = true := by kernel_rfl)
    (h1 : (freeI np m).map (fun j => (pureB P (bxsOf Γ Φ) hs ops σ (pdsM P (bxsOf Γ Φ) hs ops σ np m) j).map (·.1)) = (freeI np m).map fun j => ((pdsM P (bxsOf Γ Φ) hs ops σ np m).getD j .any).val? := by kernel_rfl)
    (h2 : ((freeI np m).all fun j => ((pdsM P (bxsOf Γ Φ) hs ops σ np m).getD j .any).val?.isSome) = true := by kernel_rfl)
    (h3 : (freeI np m).map (fun j => (pureB P (bxsOf Γ Φ) hs ops σ (pdsM P (bxsOf Γ Φ) hs ops σ np m) j).map fun r => r.2.map (·.1)) = (freeI np m).map fun j => (pureB P (bxsOf Γ Φ) hs ops σ (pdsM P (bxsOf Γ Φ) hs ops σ np m) j).map fun r => r.2.map (·.2) := by kernel_rfl) :
    RA P ops Q a w := by
  have hck : ChkB P (bxsOf Γ Φ) hs ops σ np m (pdsM P (bxsOf Γ Φ) hs ops σ np m) := ⟨h1, h2, h3⟩
  have npsplit : ∀ j ∈ npIdxM m (isPB hs np m), j < m ∧ ((∃ p, np.lookup j = some p) ∨ (np.lookup j = none ∧ ∃ i, hs.lookup j = some i)) := fun j hj => by
    obtain ⟨g1, g2⟩ := List.mem_filter.1 hj
    have hlt := List.mem_range.1 g1
    rw [isPB_get hlt] at g2
    refine ⟨hlt, ?_⟩
    cases hn : np.lookup j with
    | some p => exact .inl ⟨p, rfl⟩
    | none =>
      cases hh : hs.lookup j with
      | some i => exact .inr ⟨rfl, i, rfl⟩
      | none => rw [hn, hh] at g2; cases g2
  have pfree : ∀ j ∈ pIdxM m (isPB hs np m), j < m ∧ np.lookup j = none ∧ hs.lookup j = none := fun j hj => by
    obtain ⟨g1, g2⟩ := List.mem_filter.1 hj
    have hlt := List.mem_range.1 g1
    rw [isPB_get hlt] at g2
    simpa [hlt] using g2
  refine ra_bm m _ (isPB hs np m) _ [] c.fr hst (List.map_inj_left.2 fun j hj => ?_) (List.all_eq_true.2 fun j hj => ?_) (List.all_eq_true.2 fun j hj => ?_) ?_ (fun ow hG => ?_) rfl fun ow a' w' _ hE hc => h ow a' w' hE hc ((c.ext hc).to ⟨hE.1.trans c.fr.defers, hE.2.1.trans c.fr.size, fun t v hv => ?_⟩)
  · obtain ⟨hlt, hn, hh⟩ := pfree j hj
    obtain ⟨v, e, g1, g2, _⟩ := hck.at hlt hn
    unfold pureB at g1
    rw [hh] at g1
    simp only at g1
    cases hp : pureV P ops σ (pdsM P (bxsOf Γ Φ) hs ops σ np m) j with
    | none => rw [hp] at g1; cases g1
    | some u =>
      rw [hp] at g1
      simp only [Option.map_some, Option.some.injEq, Prod.mk.injEq] at g1
      rw [g2, g1.1]; rfl
  · obtain ⟨hlt, hn, hh⟩ := pfree j hj
    obtain ⟨v, e, g1, g2, _⟩ := hck.at hlt hn
    rw [g2]; rfl
  · by_cases hjm : j < m
    · simp [hjm]
    · rw [pdsM_rest (by omega)]; simp
  · exact allL_of fun j hj => by
      obtain ⟨hlt, ⟨p, hp⟩ | ⟨hn, i, hi⟩⟩ := npsplit j hj
      · rw [pdsM_get hlt hp]; exact hmono.of (lookup_of_mem hp)
      · obtain ⟨v, e, g1, g2, g3⟩ := hck.at hlt hn
        rw [g2]; exact Pd.monoO_eq
  · exact allL_of fun j hj => by
      obtain ⟨hlt, ⟨p, hp⟩ | ⟨hn, i, hi⟩⟩ := npsplit j hj
      · exact (hnp ow hG).of (lookup_of_mem hp) (by rw [getD_inst, pdsM_get hlt hp])
      · obtain ⟨v, e, g1, g2, g3⟩ := hck.at hlt hn
        refine np_to ow (np_loadV (hs := hs) c.bxs hG c.fr hi (v := v) (e := e) ?_ g3 (by rw [getD_inst, g2]; rfl))
        unfold pureB at g1 ⊢
        rw [hi] at g1 ⊢
        simp only at g1 ⊢
        rw [envP_inst]
        exact g1
  · have := outS_out hv
    exact outVm_eval c.fr hE (by
      unfold outVm at this ⊢
      split at this
      · rename_i i hl
        rw [valAt_inst]; exact this
      · exact this)

/-! the end -/
theorem Cx.out (c : Cx B N σ Γ Φ a w) (i : ι) (gs fs : List Nat) (hg : gs.map (fun j => Γ[j]?) = (R i).2.1.map some) (hf : fs.map (fun j => Φ[j]?) = (R i).2.2.map some) (hn : gs.Nodup) : Rp B R (.returned (tup (R i).1)) w := by
  obtain ⟨_, S, F, h1, h2, h3⟩ := c
  exact ⟨i, S, F, rfl, h1, h2.pick gs hn hg, h3.pick fs hf⟩
/-- results that lie in slots -/
theorem Rt {t : Tmp} {v : Value} (c : Cx B N σ Γ Φ a w) (i : ι) (gs fs : List Nat) (hr : fn.results = #[.tmp t] := by rfl) (hv : (R i).1 = [v] := by rfl) (hl : σ.lookup t = some v := by kernel_rfl) (hg : gs.map (fun j => Γ[j]?) = (R i).2.1.map some := by rfl) (hf : fs.map (fun j => Φ[j]?) = (R i).2.2.map some := by rfl)
    (hn : gs.Nodup := by decide) : bodyPost P fn (Rp B R) .ret a w :=
  ret1 hr c.fr hl (by have := c.out (R := R) i gs fs hg hf hn; rw [hv] at this; exact this)
inductive RV' (P : Program) (σ : List (Nat × Value)) (Γ : List HP) (Φ : List RF) (w : World) : List ResultVar → List Value → Prop
  | nil : RV' P σ Γ Φ w [] []
  | tmp {t : Tmp} {v : Value} {rs : List ResultVar} {vs : List Value} (r : RV' P σ Γ Φ w rs vs) (h : σ.lookup t = some v := by kernel_rfl) : RV' P σ Γ Φ w (.tmp t :: rs) (v :: vs)
  | cell {t : Tmp} {ty bt : TypeId} {α : Type} [Rep α] {b : Nat} {cs : List Value} {v : Value} {rs : List ResultVar} {vs : List Value} (hty : Ty P ty α) (hb : Ava Γ Φ w (FX b bt cs)) (r : RV' P σ Γ Φ w rs vs) (h : σ.lookup t = some (.pointer (some ⟨b, 0, none⟩)) := by kernel_rfl)
    (hl : cs.length = Rep.sz α := by rfl) (hv : Rep.val α cs = v := by rfl) : RV' P σ Γ Φ w (.cell t ty :: rs) (v :: vs)
theorem RV'.out {rs : List ResultVar} {vs : List Value} (h : RV' P σ Γ Φ w rs vs) (c : Cx B N σ Γ Φ a w) : Rets P σ w rs vs := by
  induction h with
  | nil => exact .nil
  | tmp r h ih => exact .tmp h ih
  | cell hty hb r h hl hv ih => exact .cell h hty (c.usebx hb) hl hv ih
theorem tup_eq : ∀ vs : List Value, (if h : vs.toArray.size = 1 then vs.toArray[0] else .tuple vs.toArray) = tup vs
  | [] => rfl
  | [_] => rfl
  | _ :: _ :: _ => rfl
theorem Rg {rs : List ResultVar} {vs : List Value} (c : Cx B N σ Γ Φ a w) (i : ι) (gs fs : List Nat) (hv : RV' P σ Γ Φ w rs vs) (hvs : vs = (R i).1 := by rfl) (hr : fn.results = rs.toArray := by rfl) (hg : gs.map (fun j => Γ[j]?) = (R i).2.1.map some := by rfl)
    (hf : fs.map (fun j => Φ[j]?) = (R i).2.2.map some := by rfl) (hn : gs.Nodup := by decide) : bodyPost P fn (Rp B R) .ret a w :=
  retG hr c.fr (hv.out c) (tup_eq vs) (by have := c.out (R := R) i gs fs hg hf hn; rw [← hvs] at this; exact this)
end

/-! calls -/
/-- what is not given away -/
def memN : List Nat → Nat → Bool
  | [], _ => false
  | x :: l, j => Nat.beq x j || memN l j
def restG (gs : List Nat) : Nat → List HP → List HP
  | _, [] => []
  | j, x :: l => cond (memN gs j) (restG gs (j + 1) l) (x :: restG gs (j + 1) l)
def rest (gs : List Nat) (Γ : List HP) : List HP := restG gs 0 Γ
theorem memN_eq (gs : List Nat) (j : Nat) : memN gs j = gs.contains j := by
  induction gs with
  | nil => rfl
  | cons x l ih =>
    unfold memN
    rw [ih, List.contains_cons]
    congr 1
    by_cases h : x = j
    · subst h; simp
    · have : (j == x) = false := by simpa using Ne.symm h
      rw [this]
      cases hb : Nat.beq x j with
      | false => rfl
      | true => exact absurd (Nat.eq_of_beq_eq_true hb) h
theorem rest_eq (gs : List Nat) (Γ : List HP) : rest gs Γ = ((List.range Γ.length).filter fun i => !gs.contains i).filterMap fun i => Γ[i]? := by
  have key : ∀ (l pre : List HP), restG gs pre.length l = ((List.range' pre.length l.length).filter fun i => !gs.contains i).filterMap fun i => (pre ++ l)[i]? := by
    intro l
    induction l with
    | nil => intro pre; rfl
    | cons x l ih =>
      intro pre
      have h := ih (pre ++ [x])
      simp only [List.length_append, List.length_singleton, List.append_assoc, List.singleton_append] at h
      unfold restG
      rw [memN_eq, List.length_cons, List.range'_succ, List.filter_cons]
      cases hc : gs.contains pre.length with
      | true => simp only [cond_true, Bool.not_true, Bool.false_eq_true, if_false]; exact h
      | false =>
        simp only [cond_false, Bool.not_false, if_true, List.filterMap_cons]
        rw [List.getElem?_append_right (Nat.le_refl _), Nat.sub_self, List.getElem?_cons_zero]
        simp only
        rw [h]
  have := key Γ []
  simpa [rest, List.range_eq_range'] using this
theorem Sep.part {Γ Γ1 : List HP} {w : World} {S : Nat → Prop} (gs : List Nat) (h : Sep Γ w S) (hg : gs.map (fun i => Γ[i]?) = Γ1.map some) (hn : gs.Nodup) : Sep (Γ1 ++ rest gs Γ) w S := by
  let is := gs ++ (List.range Γ.length).filter fun i => !gs.contains i
  have hd : is.Nodup := List.nodup_append.2 ⟨hn, (List.nodup_range).filter _, fun a ha b hb e => by
    subst e
    rw [List.mem_filter] at hb
    simp [ha] at hb⟩
  refine h.pick is hd ?_
  rw [List.map_append, List.map_append, hg]
  congr 1
  rw [rest_eq]
  have key : ∀ l : List Nat, (∀ i ∈ l, i < Γ.length) → l.map (fun i => Γ[i]?) = (l.filterMap fun i => Γ[i]?).map some := by
    intro l
    induction l with
    | nil => intro _; rfl
    | cons i l ih =>
      intro h
      have hi := h i List.mem_cons_self
      simp only [List.map_cons, List.filterMap_cons, List.getElem?_eq_getElem hi]
      rw [ih fun j hj => h j (List.mem_cons_of_mem _ hj)]
  exact key _ fun i hi => List.mem_range.1 (List.mem_filter.1 hi).1

section
variable {P : Program} {B : Bs} {N : Nat} {σ : List (Nat × Value)} {Γ Γ1 : List HP} {Φ Φ1 : List RF} {a : Act} {w : World} {Q : Exit → Act → World → Prop} {ι : Type} {R : ι → Res} {args caps : List Value} {f : FuncId}
  {ops : Array Oper} {k d : Nat} {ty : TypeId} {pos : String} {af : Array Edge} {x : Operand} {xs : Array Operand} {ts : Array TypeId}

/-- a call; what is not given away may be read by it -/
theorem Cx.calls (c : Cx B N σ Γ Φ a w) (gs : List Nat) (hcon : Con P f args Γ1 Φ1 R) (ro : AvaL (rest gs Γ) Φ w Φ1) (hg : gs.map (fun i => Γ[i]?) = Γ1.map some) (hn : gs.Nodup) :
    Calls P f args.toArray w fun e w' => ∃ i, e = .returned (tup (R i).1) ∧ ∀ a' σ', FrS N σ' a' → Cx B N σ' (rest gs Γ ++ (R i).2.1) Φ a' w' := by
  obtain ⟨_, S, F, hM, hs, hf⟩ := c
  obtain ⟨A, Rm, h1, h2, h3, h4, h5⟩ := (hs.part gs hg hn).split
  have hfd : ∀ k, A k → ¬ (F k ∨ Rm k) := fun k ha hf => hf.elim (hM.dj k (h4 k ha)) (h3 k ha)
  refine (hcon w A (fun k => F k ∨ Rm k) h1 (AvaL.all ro h2 hf) (fun k hk => hM.bd k (h4 k hk)) (fun k hk => hk.elim (hM.bdF k) fun hk => hM.bd k (h5 k hk)) hfd).mono ?_
  rintro e w' ⟨i, S', F', rfl, hM', hs', _⟩
  refine ⟨i, rfl, fun a' σ' hF => ⟨hF, fun k => S' k ∨ Rm k, F, ?_, ?_, ?_⟩⟩
  · have hrd : ∀ k, Rm k → ¬ A k := fun k hr ha => h3 k ha hr
    refine ⟨hM.chg.trans' hM'.chg fun k hk => hM.sub k (h4 k hk), fun k hk => hk.elim (fun hk => (hM'.sub k hk).elim (fun hk => hM.sub k (h4 k hk)) fun hk => .inr (Nat.le_trans hM.chg.size hk)) fun hk => hM.sub k (h5 k hk),
      fun k hk => hk.elim (hM'.bd k) fun hk => Nat.lt_of_lt_of_le (hM.bd k (h5 k hk)) hM'.chg.size, fun k hk => Nat.lt_of_lt_of_le (hM.bdF k hk) hM'.chg.size, fun k hk hf => hk.elim (fun hk => ?_) fun hk => hM.dj k (h5 k hk) hf, hM.dj0, hM.fz, hM.fsub⟩
    rcases hM'.sub k hk with ha | ha
    · exact hM.dj k (h4 k ha) hf
    · exact Nat.lt_irrefl _ (Nat.lt_of_lt_of_le (hM.bdF k hf) ha)
  · refine Sep.join (h2.keep hM'.chg fun k hr ha => h3 k ha hr) hs' (fun k _ hr ha => ?_) (fun k _ h => .inr h) fun k _ h => .inl h
    rcases hM'.sub k ha with h | h
    · exact h3 k h hr
    · exact Nat.lt_irrefl _ (Nat.lt_of_lt_of_le (hM.bd k (h5 k hr)) h)
  · exact hf.chg hM'.chg fun k hk ha => hM.dj k (h4 k ha) hk
/-- a call whose results may hold what it read -/
theorem Cx.callsF (c : Cx B N σ Γ Φ a w) (gs : List Nat) (hcon : Con P f args Γ1 Φ1 R) (ro : AvaL [] Φ w Φ1) (hg : gs.map (fun i => Γ[i]?) = Γ1.map some) (hn : gs.Nodup) :
    Calls P f args.toArray w fun e w' => ∃ i, e = .returned (tup (R i).1) ∧ ∀ a' σ', FrS N σ' a' → Cx B N σ' (rest gs Γ ++ (R i).2.1) (Φ ++ (R i).2.2) a' w' := by
  obtain ⟨_, S, F, hM, hs, hf⟩ := c
  obtain ⟨A, Rm, h1, h2, h3, h4, h5⟩ := (hs.part gs hg hn).split
  have hfd : ∀ k, A k → ¬ F k := fun k ha hf => hM.dj k (h4 k ha) hf
  refine (hcon w A F h1 ((AvaL.all ro (Sep.nil w Non) hf).sub fun _ _ h => h.elim id fun h => h.elim) (fun k hk => hM.bd k (h4 k hk)) hM.bdF hfd).mono ?_
  rintro e w' ⟨i, S', F', rfl, hM', hs', hf'⟩
  have hrn : ∀ k, Rm k → ¬ (A k ∨ w.heap.size ≤ k) := fun k hr h => h.elim (fun ha => h3 k ha hr) fun h => Nat.lt_irrefl _ (Nat.lt_of_lt_of_le (hM.bd k (h5 k hr)) h)
  refine ⟨i, rfl, fun a' σ' hF => ⟨hF, fun k => S' k ∨ Rm k, F', ?_, ?_, ?_⟩⟩
  · refine ⟨hM.chg.trans' hM'.chg fun k hk => hM.sub k (h4 k hk), fun k hk => hk.elim (fun hk => (hM'.sub k hk).elim (fun hk => hM.sub k (h4 k hk)) fun hk => .inr (Nat.le_trans hM.chg.size hk)) fun hk => hM.sub k (h5 k hk),
      fun k hk => hk.elim (hM'.bd k) fun hk => Nat.lt_of_lt_of_le (hM.bd k (h5 k hk)) hM'.chg.size, hM'.bdF, fun k hk hf => hk.elim (fun hk => hM'.dj k hk hf) fun hk => ?_, hM.dj0, fun k hk => hM'.fz k (hM.fz k hk), fun k hk => ?_⟩
    · rcases hM'.fsub k hf with h | h
      · exact hM.dj k (h5 k hk) h
      · exact hrn k hk h
    · rcases hM'.fsub k hk with h | h | h
      · exact hM.fsub k h
      · exact .inr (hM.sub k (h4 k h))
      · exact .inr (.inr (Nat.le_trans hM.chg.size h))
  · refine Sep.join (h2.keep hM'.chg fun k hr ha => h3 k ha hr) hs' (fun k _ hr ha => hrn k hr (hM'.sub k ha)) (fun k _ h => .inr h) fun k _ h => .inl h
  · exact ((hf.chg hM'.chg fun k hk ha => hM.dj k (h4 k ha) hk).sub fun k _ hk => hM'.fz k hk).join hf'

theorem Ca (gs : List Nat) (c : Cx B N σ Γ Φ a w) (hcon : Con P f args Γ1 Φ1 R) (ro : AvaL (rest gs Γ) Φ w Φ1) (hf : ∀ (args : Array Value) (w : World), (callFunc f args).run P w = .ok (.enter f args) w)
    (h : ∀ i fr w', Cx B N ((d, tup (R i).1) :: σ) (rest gs Γ ++ (R i).2.1) Φ fr w' → wpFrom P ops Q (k + 1) fr w')
    (ho : ops[k]? = some ⟨some d, .call ⟨.value (.func f), xs, ts⟩, ty, pos, af, none⟩ := by rfl) (hd : Nat.blt d N = true := by rfl) (hg : gs.map (fun i => Γ[i]?) = Γ1.map some := by rfl) (hn : gs.Nodup := by decide)
    (hargs : xs.toList.map (opd σ) = args.map some := by kernel_rfl) : wpFrom P ops Q k a w :=
  s_call args (R := fun v w' => ∃ i, v = tup (R i).1 ∧ ∀ a' σ', FrS N σ' a' → Cx B N σ' (rest gs Γ ++ (R i).2.1) Φ a' w') hf ho hd c.fr hargs ((c.calls gs hcon ro hg hn).mono fun e w' ⟨i, h1, h2⟩ => ⟨_, h1, i, rfl, h2⟩)
    fun v w' fr hR hF => by obtain ⟨i, rfl, hR⟩ := hR; exact h i fr w' (hR fr _ hF)
theorem Cf (gs : List Nat) (c : Cx B N σ Γ Φ a w) (hcon : Con P f args Γ1 Φ1 R) (ro : AvaL [] Φ w Φ1) (hf : ∀ (args : Array Value) (w : World), (callFunc f args).run P w = .ok (.enter f args) w)
    (h : ∀ i fr w', Cx B N ((d, tup (R i).1) :: σ) (rest gs Γ ++ (R i).2.1) (Φ ++ (R i).2.2) fr w' → wpFrom P ops Q (k + 1) fr w')
    (ho : ops[k]? = some ⟨some d, .call ⟨.value (.func f), xs, ts⟩, ty, pos, af, none⟩ := by rfl) (hd : Nat.blt d N = true := by rfl) (hg : gs.map (fun i => Γ[i]?) = Γ1.map some := by rfl) (hn : gs.Nodup := by decide)
    (hargs : xs.toList.map (opd σ) = args.map some := by kernel_rfl) : wpFrom P ops Q k a w :=
  s_call args (R := fun v w' => ∃ i, v = tup (R i).1 ∧ ∀ a' σ', FrS N σ' a' → Cx B N σ' (rest gs Γ ++ (R i).2.1) (Φ ++ (R i).2.2) a' w') hf ho hd c.fr hargs ((c.callsF gs hcon ro hg hn).mono fun e w' ⟨i, h1, h2⟩ => ⟨_, h1, i, rfl, h2⟩)
    fun v w' fr hR hF => by obtain ⟨i, rfl, hR⟩ := hR; exact h i fr w' (hR fr _ hF)
/-- one that is its own is only read from here on -/
theorem Cx.fz {α : Type} [Rep α] {E : TypeId} {v : Value} {l : List α} (i : Nat) (c : Cx B N σ Γ Φ a w) (hi : Γ[i]? = some (SL E v l) := by rfl) : Cx B N σ (rest [i] Γ) (Φ ++ [RO v l]) a w := by
  obtain ⟨h, S, F, h1, h2, h3⟩ := c
  have hp := h2.part [i] (Γ1 := [SL E v l]) (by simp [hi]) (by simp)
  obtain ⟨S', F', hM, hs, hr, hfz⟩ := Sep.freeze (L := rest [i] Γ) hp h1
  exact ⟨h, S', F', hM, hs, (h3.sub fun k _ hk => hfz k hk).add (SL.rv hr)⟩
theorem Cx.dp (gs : List Nat) (c : Cx B N σ Γ Φ a w) : Cx B N σ (rest gs Γ) Φ a w := by
  obtain ⟨h, S, F, h1, h2, h3⟩ := c
  refine ⟨h, S, F, h1, ?_, h3⟩
  rw [rest_eq]
  refine h2.pick ((List.range Γ.length).filter fun i => !gs.contains i) ((List.nodup_range).filter _) ?_
  have key : ∀ l : List Nat, (∀ i ∈ l, i < Γ.length) → l.map (fun i => Γ[i]?) = (l.filterMap fun i => Γ[i]?).map some := by
    intro l
    induction l with
    | nil => intro _; rfl
    | cons i l ih =>
      intro h
      have hi := h i List.mem_cons_self
      simp only [List.map_cons, List.filterMap_cons, List.getElem?_eq_getElem hi]
      rw [ih fun j hj => h j (List.mem_cons_of_mem _ hj)]
  exact key _ fun i hi => List.mem_range.1 (List.mem_filter.1 hi).1
theorem Cx.nil {α : Type} [Rep α] (E : TypeId) (c : Cx B N σ Γ Φ a w) : Cx B N σ (Γ ++ [SL E (.slice none 0 0) ([] : List α)]) Φ a w := c.gam fun S h => pick_append (Γ2 := [SL E (.slice none 0 0) ([] : List α)]) (h.cons_nil E)
end
end Go.GL
