/- Own library, part w: a field of an element of an own slice; own maps. -/
import Derived.Test.YtdkfoghhjkjjlaaGLs
namespace Go.GL
open Go.RowKit

section
variable {P : Program} {α : Type} [Flat α] {w : World} {E T : TypeId} {go : Option Nat} {G : Nat → Prop} {v : Value} {l : List α}

variable {ops : Array Oper} {Q : Exit → Act → World → Prop} {a : Act} {w0 : World} {S S0 F F0 : Nat → Prop} {N : Nat} {σ : List (Nat × Value)} {k d d2 : Nat} {t ty : TypeId} {x y : Operand} {pos : String} {af : Array Edge} {L : List HP}

end

/-! ### own maps -/
section
open Go.Maps
variable {P : Program} {k e t : TypeId} {κ β : Type} [Flat κ] [Flat β] [DecidableEq κ] (T : MapT P k e κ β)
variable {ops : Array Oper} {Q : Exit → Act → World → Prop} {a : Act} {w w0 : World} {S S0 F F0 : Nat → Prop} {N : Nat} {σ : List (Nat × Value)} {j d : Nat} {ty : TypeId} {x y z : Operand} {pos : String} {af : Array Edge} {L : List HP} {b : Nat} {m : List (κ × β)}

theorem q_makeMap (hs : Sep L w S) (hM : Mem w0 S0 F0 w S F) (hm : ∀ w, (Instr.makeMap t none).run P w = .ok (.map (some w.heap.size)) (w.alloc (.map #[] 0))) (hop : ops[j]? = some ⟨some d, .makeMap t none, ty, pos, af, none⟩) (hd : Nat.blt d N = true) (hF : FrS N σ a)
    (h : ∀ b w' S' fr, Sep (MP T b [] :: L) w' S' → Stp w S w' S' → FrS N ((d, .map (some b)) :: σ) fr → wpFrom P ops Q (j + 1) fr w') : wpFrom P ops Q j a w := by
  refine from_val hF hop rfl rfl (Nat.blt_eq.mp hd) (does_makeMap rfl (hm w)) fun v w' fr hv hF' => ?_
  obtain ⟨rfl, rfl⟩ := hv
  obtain ⟨S', hp, hs'⟩ := hs.new hM (Chg.alloc w (.map #[] 0)) (P := MP T w.heap.size []) ⟨OwnM.made T, Nat.le_refl _⟩
  exact h _ _ S' fr hs' hp hF'
theorem mget2?_fit {κ β : Type} [DecidableEq κ] {fit : κ → Bool} {z : β} {y : β × Bool} {m : List (κ × β)} {x : κ} (h : mget2? fit z m x = some y) : fit x = true := by
  unfold mget2? at h
  split at h
  · assumption
  · cases h
theorem mget2?_val {κ β : Type} [DecidableEq κ] {fit : κ → Bool} {z : β} {y : β × Bool} {m : List (κ × β)} {x : κ} (h : mget2? fit z m x = some y) : mget z m x = y.1 ∧ (m.lookup x).isSome = y.2 := by
  unfold mget2? at h
  split at h
  · rw [← Option.some.inj h]; exact ⟨rfl, rfl⟩
  · cases h
theorem mputE?_fit {κ β : Type} {fit : κ → Bool} {efit : β → Bool} {y : β} {m r : List (κ × β)} {x : κ} (h : mputE? fit efit m x y = some r) : fit x = true := by
  unfold mputE? at h
  split at h
  · rename_i h'; exact h'.1
  · cases h
theorem mputE?_efit {κ β : Type} {fit : κ → Bool} {efit : β → Bool} {y : β} {m r : List (κ × β)} {x : κ} (h : mputE? fit efit m x y = some r) : efit y = true := by
  unfold mputE? at h
  split at h
  · rename_i h'; exact h'.2.1
  · cases h
theorem mputE?_val {κ β : Type} {fit : κ → Bool} {efit : β → Bool} {y : β} {m r : List (κ × β)} {x : κ} (h : mputE? fit efit m x y = some r) : r = (x, y) :: m := by
  unfold mputE? at h
  split at h
  · exact (Option.some.inj h).symm
  · cases h
theorem mputE?_len {κ β : Type} {fit : κ → Bool} {efit : β → Bool} {y : β} {m r : List (κ × β)} {x : κ} (h : mputE? fit efit m x y = some r) : m.length < maxLen := by
  unfold mputE? at h
  split at h
  · rename_i h'
    have := h'.2.2
    unfold room at this
    simp only [maxLen]; omega
  · cases h
theorem q_mapPut (i : Nat) (hs : Sep L w S) (hM : Mem w0 S0 F0 w S F) (hL : L[i]? = some (MP T b m)) (ht : P.underlying t = some (.map k e)) (hop : ops[j]? = some ⟨none, .mapUpdate t x y z, ty, pos, af, none⟩) (hF : FrS N σ a) {u : κ} (hu : T.fit u = true) (q : β) (he : T.efit q = true) (hm : m.length < maxLen) (hx : opd σ x = some (.map (some b)))
    {vk : Value} (hy : opd σ y = some vk) (hk : Rep.val κ (Flat.enc u) = vk) {vr : Value} (hz : opd σ z = some vr) (hr : Rep.val β (Flat.enc q) = vr)
    (h : ∀ w' S', Sep (L.set i (MP T b ((u, q) :: m))) w' S' → Stp w S w' S' → FrS N σ a → wpFrom P ops Q (j + 1) a w') : wpFrom P ops Q j a w := by
  subst hr; subst hk
  obtain ⟨A, hok, hup⟩ := hs.upd i hL hM
  refine from_eff hF hop rfl rfl (does_mapPut T rfl hok.1 ht hu q he hm (opd_eval hF hx) (opd_eval hF hy) (opd_eval hF hz)) fun w' ⟨_, h1, h2⟩ hF' => ?_
  obtain ⟨S', hp, hs'⟩ := hup (P' := MP T b ((u, q) :: m)) (h2.mono fun k hk => by subst hk; exact hok.2) ⟨h1, .inl hok.2⟩
  exact h w' S' hs' hp hF'
theorem np_mapGet2 {draw : Bool} {ms : List Nat} {a0 : Act} {pds : List Pd} {dst : Option Tmp} {g : Option (Nat × Bool)} (i : Nat) (hs : Sep L w S) (hL : L[i]? = some (MP T b m)) (ht : P.underlying t = some (.map k e)) (hG : Good ops pds []) (hF : FrS N σ a0) (ho : ops[j]? = some ⟨dst, .lookup t x y true, ty, pos, af, g⟩)
    {u : κ} (hx : envP ops σ pds j x = some (.map (some b))) {vk : Value} (hy : envP ops σ pds j y = some vk) (hk : Rep.val κ (Flat.enc u) = vk) (hu : gc ops pds ops.size j → T.fit u = true)
    {r : β × Bool} (hr : gc ops pds ops.size j → mget T.zero m u = r.1 ∧ (m.lookup u).isSome = r.2) {vr : Value} (hvr : .tuple #[Rep.val β (Flat.enc r.1), .bool r.2] = vr) (hpd : pds.getD j .any = .eq vr) : NPB P draw ms ops pds a0 w Q j :=
  np_b _ ho hG hF fun a w' hC hg hv _ => (does_mapGet2 T rfl ((hs.ext hC).mp i hL) ht (hu hg) (hv x _ (by simp [Op.operands]) hx) (by rw [hv y _ (by simp [Op.operands]) hy, hk])).mono fun v w'' ⟨h1, h2⟩ => by
    subst h1; subst h2; rw [hpd, ← hvr, ← (hr hg).1, ← (hr hg).2]; exact ⟨rfl, Chg.refl _ _⟩
end
end Go.GL
