/- Own library, part E: parts of strings; variables of packages that are only read; an error against nil. -/
import Derived.Test.YtmmhbhhcloobnaaGreatDoorGLC
import Derived.Lib.Split
import Derived.Lib.SplitLaws
import Derived.Lib.SmallJoins
namespace Go.GL
open Go.RowKit
/-- a package-level variable holds these cells, and its block is of F -/
structure VI (P : Program) (name : String) (cs : Array Value) (w : World) (F : Nat → Prop) : Prop where
  var : w.var? P name = some cs
  blk : ∃ g, P.globalNamed name = some g ∧ F g
section
variable {P : Program} {name : String} {cs : Array Value} {w w' w0 : World} {S S0 S' F F0 F' : Nat → Prop}
theorem VI.lt (h : VI P name cs w F) {g : Nat} (hg : P.globalNamed name = some g) : g < w.heap.size := by
  have h1 := h.var
  unfold World.var? at h1
  rw [hg, Option.bind_some] at h1
  by_cases hlt : g < w.heap.size
  · exact hlt
  · rw [Array.getElem?_eq_none (by omega)] at h1; cases h1
theorem VI.chg (h : VI P name cs w F) (hc : Chg S w w') (hd : ∀ j, F j → ¬ S j) : VI P name cs w' F := by
  obtain ⟨g, hg, hF⟩ := h.blk
  refine ⟨?_, g, hg, hF⟩
  have h1 := h.var
  unfold World.var? at h1 ⊢
  rw [hg, Option.bind_some] at h1 ⊢
  rw [hc.block g (h.lt hg) (hd g hF)]
  exact h1
theorem VI.sub (h : VI P name cs w F) (hf : ∀ j, j < w.heap.size → F j → F' j) : VI P name cs w F' := by
  obtain ⟨g, hg, hF⟩ := h.blk
  exact ⟨h.var, g, hg, hf g (h.lt hg) hF⟩
theorem VI.cell {x : Value} (h : VI P name #[x] w F) {g : Nat} (hg : P.globalNamed name = some g) : w.cell? ⟨g, 0, none⟩ = some x := by
  have h1 := h.var
  unfold World.var? at h1
  rw [hg, Option.bind_some] at h1
  unfold World.cell?
  split at h1
  · rename_i heq
    obtain rfl := Option.some.inj h1
    simp [heq]
  · cases h1
theorem VI.of (h : w.var? P name = some cs) (hF : ∀ j, j < w.heap.size → F j) : VI P name cs w F := by
  have h1 := h
  unfold World.var? at h1
  cases hg : P.globalNamed name with
  | none => rw [hg] at h1; cases h1
  | some g =>
    have key : VI P name cs w (fun _ => True) := ⟨h, g, hg, trivial⟩
    exact ⟨h, g, hg, hF g (key.lt hg)⟩
end
/-- what strconv and strings read of packages' variables -/
structure TX (P : Program) (w : World) (F : Nat → Prop) : Prop where
  pow : VI P "internal/strconv.uint64pow10" (Lib.pow10Tab.map fun z => Value.int .u64 z).toArray w F
  max : ∃ m, VI P "internal/bytealg.MaxLen" #[.int .i64 m] w F
  syn : ∃ t p, VI P "strconv.ErrSyntax" #[.iface t p] w F
  rng : ∃ t p, VI P "strconv.ErrRange" #[.iface t p] w F
section
variable {P : Program} {w w' w0 : World} {S S0 S' F F0 F' : Nat → Prop}
theorem TX.chg (h : TX P w F) (hc : Chg S w w') (hd : ∀ j, F j → ¬ S j) : TX P w' F := by
  obtain ⟨h1, ⟨m, h2⟩, ⟨t, p, h3⟩, ⟨t', p', h4⟩⟩ := h
  exact ⟨h1.chg hc hd, ⟨m, h2.chg hc hd⟩, ⟨t, p, h3.chg hc hd⟩, ⟨t', p', h4.chg hc hd⟩⟩
theorem TX.sub (h : TX P w F) (hf : ∀ j, j < w.heap.size → F j → F' j) : TX P w F' := by
  obtain ⟨h1, ⟨m, h2⟩, ⟨t, p, h3⟩, ⟨t', p', h4⟩⟩ := h
  exact ⟨h1.sub hf, ⟨m, h2.sub hf⟩, ⟨t, p, h3.sub hf⟩, ⟨t', p', h4.sub hf⟩⟩
theorem TX.tab (h : TX P w F) : Lib.TabIs P w "internal/strconv.uint64pow10" .u64 Lib.pow10Tab := h.pow.var
theorem TX.ext (h : TX P w F) (hc : Chg Non w w') : TX P w' F := h.chg hc fun _ _ => id
theorem TX.stp (h : TX P w F) (hM : Mem w0 S0 F0 w S F) (hp : Stp w S w' S') : TX P w' F := h.chg hp.chg fun j hf hs => hM.dj j hs hf
theorem TX.big (h : TX P w F) (hf : ∀ j, F j → F' j) : TX P w F' := h.sub fun j _ => hf j
theorem TX.mem (h : TX P w0 F0) (hM : Mem w0 S0 F0 w S F) : TX P w F := (h.chg hM.chg fun j hf hs => hM.dj0 j hs hf).big hM.fz
end
section
variable {P : Program} {ops : Array Oper} {Q : Exit → Act → World → Prop} {a : Act} {w : World} {N : Nat} {σ : List (Nat × Value)} {k d : Nat} {t yt ty : TypeId} {x y : Operand} {pos : String} {af : Array Edge}
theorem s_scut {lo hi : Option Operand} {s r : Str} {m n : Int} (ht : P.underlying t = some .string) (ho : ops[k]? = some ⟨some d, .slice t x lo hi none, ty, pos, af, none⟩) (hd : Nat.blt d N = true) (hF : FrS N σ a)
    (hx : opd σ x = some s.val) (hlo : match lo with | none => m = 0 | some y => ∃ k, opd σ y = some (.int k m)) (hhi : match hi with | none => n = (s.bytes.length : Int) | some y => ∃ k, opd σ y = some (.int k n)) (hr : scut? s m n = some r)
    (h : ∀ fr, FrS N ((d, r.val) :: σ) fr → wpFrom P ops Q (k + 1) fr w) : wpFrom P ops Q k a w := by
  unfold scut? at hr
  split at hr
  · rename_i hb
    obtain ⟨h0, h1, h2⟩ := hb
    obtain rfl := Option.some.inj hr
    have hsz : (⟨s.bytes.toArray⟩ : ByteArray).size = s.bytes.length := by simp [ByteArray.size]
    have hex : (⟨s.bytes.toArray⟩ : ByteArray).extract m.toNat n.toNat = ⟨((s.bytes.take n.toNat).drop m.toNat).toArray⟩ := by
      apply ByteArray.ext
      simp [List.extract_toArray, List.drop_take, List.extract_eq_take_drop]
    refine from_val hF ho rfl rfl (Nat.blt_eq.mp hd) (R := fun v w' => v = Str.val ⟨(s.bytes.take n.toNat).drop m.toNat⟩ ∧ w' = w) (does_value ?_ ⟨rfl, rfl⟩) fun v w' fr hv hF' => by
      obtain ⟨rfl, rfl⟩ := hv
      exact h fr hF'
    have hn0 : 0 ≤ n := by omega
    cases lo with
    | none =>
      simp only at hlo; subst hlo
      cases hi with
      | none =>
        simp only at hhi; subst hhi
        simp only [Int.toNat_natCast] at hex
        simp [execOp, Instr.sliceAt, Instr.slice, Instr.sliceBounds, opd_eval hF hx, run_underlying ht, Str.val]
      | some y =>
        obtain ⟨kk, hy⟩ := hhi
        simp [execOp, Instr.sliceAt, Instr.slice, Instr.sliceBounds, Instr.sliceBound, asIntOf, opd_eval hF hx, opd_eval hF hy, run_underlying ht, Str.val, hsz, hn0, h2]
        simpa using hex
    | some z =>
      obtain ⟨kz, hz⟩ := hlo
      cases hi with
      | none =>
        simp only at hhi; subst hhi
        simp [execOp, Instr.sliceAt, Instr.slice, Instr.sliceBounds, Instr.sliceBound, asIntOf, opd_eval hF hx, opd_eval hF hz, run_underlying ht, Str.val, hsz, h0, h1]
        simpa using hex
      | some y =>
        obtain ⟨kk, hy⟩ := hhi
        have hm : m ≤ max n 0 := by omega
        simp [execOp, Instr.sliceAt, Instr.slice, Instr.sliceBounds, Instr.sliceBound, asIntOf, opd_eval hF hx, opd_eval hF hy, opd_eval hF hz, run_underlying ht, Str.val, hsz, h0, hm, h2, hn0]
        simpa using hex
  · cases hr
end
/-- an error is nil, or it is not -/
def IsErr (v : Value) (b : Bool) : Prop := (b = false ∧ v = .nilIface) ∨ (b = true ∧ ∃ t p, v = .iface t (.pointer (some p)))
section
variable {P : Program} {v : Value} {b : Bool}
theorem err_guard (h : IsErr v b) (op : BinOp) (t : TypeId) (x : Operand) (c : Value) (w : World) : (eqGuard op t x (.const c) v .nilIface).run P w = .ok () w := by
  rcases h with ⟨rfl, rfl⟩ | ⟨rfl, t', p, rfl⟩ <;> cases op <;> simp [eqGuard]
theorem err_eqd {ms : Array (String × TypeId)} {t : TypeId} (ht : P.underlying t = some (.interface ms)) (h : IsErr v b) (n : Nat) (w : World) : (Op.equalIn (n + 1) t v .nilIface).run P w = .ok (!b) w := by
  rcases h with ⟨rfl, rfl⟩ | ⟨rfl, t', p, rfl⟩ <;> unfold Op.equalIn <;> simp [run_underlying ht]
theorem err_neq {ms : Array (String × TypeId)} {t : TypeId} (ht : P.underlying t = some (.interface ms)) (h : IsErr v b) (w : World) : (binOp .neq t v .nilIface).run P w = .ok (.bool b) w := by
  have h := err_eqd ht h 9999 w
  simp only [binOp, Op.equal, Op.maxDepth, Sem.run_bind, Sem.run_pure]
  rw [h]; simp [Result.andThen]
/-- strings.Split -/
theorem calls_split {k : Nat} {E : TypeId} {s sep : Str} {w : World} (hl : s.bytes.length < 4294967281) (h1 : 1 ≤ sep.bytes.length)
    (h : Calls P k #[.string ⟨s.bytes.toArray⟩, .string ⟨sep.bytes.toArray⟩] w fun e w' =>
      e = .returned (.slice (some ⟨w.heap.size, 0, none⟩) (Lib.countB ⟨s.bytes.toArray⟩ ⟨sep.bytes.toArray⟩ + 1) (Lib.countB ⟨s.bytes.toArray⟩ ⟨sep.bytes.toArray⟩ + 1)) ∧
        w' = w.alloc (.cells ((Lib.splitB ⟨sep.bytes.toArray⟩ 0 (Lib.countB ⟨s.bytes.toArray⟩ ⟨sep.bytes.toArray⟩) ⟨s.bytes.toArray⟩).map Value.string).toArray E)) :
    Calls P k [s.val, sep.val].toArray w fun e w' => ∃ v, e = .returned v ∧ ∃ a1 c1, v = .slice a1 (List.length ((Lib.split s.bytes sep.bytes).map Str.mk)) c1 ∧ ∃ S', Stp w Non w' S' ∧ Sep [SL (α := Str) E (.slice a1 (List.length ((Lib.split s.bytes sep.bytes).map Str.mk)) c1) ((Lib.split s.bytes sep.bytes).map Str.mk)] w' S' := by
  refine h.mono ?_
  rintro e w' ⟨rfl, rfl⟩
  have hs : (⟨sep.bytes.toArray⟩ : ByteArray).size = sep.bytes.length := by simp [ByteArray.size]
  have hs2 : (⟨s.bytes.toArray⟩ : ByteArray).size = s.bytes.length := by simp [ByteArray.size]
  have hall := Lib.splitB_all ⟨sep.bytes.toArray⟩ (by omega) 0 _ ⟨s.bytes.toArray⟩ rfl
  have hdat := Lib.splitB_data ⟨sep.bytes.toArray⟩ 0 (Lib.countB ⟨s.bytes.toArray⟩ ⟨sep.bytes.toArray⟩) ⟨s.bytes.toArray⟩
  have hle := Lib.countB_le ⟨sep.bytes.toArray⟩ (by omega) _ ⟨s.bytes.toArray⟩ (Nat.le_refl _)
  have hsp : Lib.split s.bytes sep.bytes = (Lib.splitB ⟨sep.bytes.toArray⟩ 0 (Lib.countB ⟨s.bytes.toArray⟩ ⟨sep.bytes.toArray⟩) ⟨s.bytes.toArray⟩).map (·.data.toList) := hdat.symm
  have hlen : ((Lib.split s.bytes sep.bytes).map Str.mk).length = Lib.countB ⟨s.bytes.toArray⟩ ⟨sep.bytes.toArray⟩ + 1 := by rw [List.length_map, hsp, List.length_map, hall]
  have hcells : (Lib.splitB ⟨sep.bytes.toArray⟩ 0 (Lib.countB ⟨s.bytes.toArray⟩ ⟨sep.bytes.toArray⟩) ⟨s.bytes.toArray⟩).map Value.string = (((Lib.split s.bytes sep.bytes).map Str.mk).map Flat.enc).flatten := by
    rw [hsp]
    generalize Lib.splitB _ _ _ _ = l
    induction l with
    | nil => rfl
    | cons x l ih => simp only [List.map_cons, List.flatten_cons, ih]; rfl
  have hcss : Css w Non (((Lib.split s.bytes sep.bytes).map Str.mk).map Flat.enc) ((Lib.split s.bytes sep.bytes).map Str.mk) := css_flat _
  have hown := own_new (w := w) (E := E) (G := fun k => w.heap.size ≤ k) (FF := Non) hcss rfl (by rw [hlen]; show _ ≤ (_ : Nat); simp only [maxLen]; omega) (Nat.le_refl _) (fun _ _ h => h)
  rw [hcells]
  obtain ⟨S', hp, hs'⟩ := (Sep.nil w Non).new (Mem.start (S := Non) (F := Non) (fun _ h => h.elim) (fun _ h => h.elim) fun _ h => h.elim) (Chg.alloc w _) (P := SL E _ _) (.inl ⟨_, hown⟩)
  rw [hlen] at *
  exact ⟨_, rfl, _, _, rfl, S', hp, hs'⟩
end
end Go.GL
